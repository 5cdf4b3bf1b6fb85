/- made by a program (rowgen.py): ModelKnows: for every input the law returns true, and each argument reads behind the call as it read before. -/
import Derived.Test.YteebobbhhgmeiaaKMna

namespace Go.Proofs.Yteebobbhhgmeiaa
open Go.RowKit
section
variable {P:Program} {w:World}
theorem A9p (t u ty e:TypeId) (i:TypeInfo) (z:Value) {e':TypeId} (ht:P.underlying t=some (.slice e)) (hu:P.underlying u=some (.slice e')∨P.underlying u=some .string) (hi:P.info? e=some i) (hz:i.zero=some z)
  (b:Option Addr) (sLen sCap m:Nat) (x:Value) (olds news:List Value) (hold:(Builtin.firstCells i.size sLen (.slice b sLen sCap)).run P w.drew=.ok olds.toArray w.drew)
  (hlen:(Builtin.lenOf x).run P w=.ok m w) (hnew:(Builtin.firstCells i.size m x).run P w.drew=.ok news.toArray w.drew)
  (hg:sCap <sLen+m) (h63:((sLen+m:Nat):Int)≤9223372036854775807) (hfit:Builtin.nextslicecap (sLen+m) sCap*i.bytes≤281474976710656):
  (Builtin.append_ #[t,u] ty #[.slice b sLen sCap,x]).run P w=
   .ok (.slice (some ⟨w.heap.size,0,none⟩) (sLen+m) (grownCap w (sLen+m) sCap e))
    (w.drew.alloc (.cells (olds.toArray++news.toArray++Builtin.zeroCells z.cells (grownCap w (sLen+m) sCap e - (sLen+m))) e)):=by
 have h48':¬(281474976710656 <Builtin.nextslicecap (sLen+m) sCap*i.bytes):=by omega
 have hn:¬(sLen+m≤sCap):=by omega
 have hh':¬(9223372036854775807 <(sLen:Int)+(m:Int)):=by omega
 rcases hu with hu|hu<;>simp[Builtin.append_,run_underlying ht,run_underlying hu,sizeOf,typeInfo,zeroValue,hi,hz,hlen,hn,hh',h48',Question.forced,hold,hnew,newRow,grownCap]<;>rw[←List.append_toArray,Array.append_assoc]
theorem A9r (t u ty e:TypeId) (i:TypeInfo) {e':TypeId} (ht:P.underlying t=some (.slice e)) (hu:P.underlying u=some (.slice e')∨P.underlying u=some .string) (hi:P.info? e=some i)
  (g sLen sCap m:Nat) (x:Value) (cur:Array Value) (hg:w.heap[g]?=some (.cells cur e (0,0))) (news:List Value)
  (hlen:(Builtin.lenOf x).run P w=.ok m w) (hnew:(Builtin.firstCells i.size m x).run P w=.ok news.toArray w) (h1:∀u∈news,u.oneCell'=true)
  (hroom:sLen+m≤sCap) (hfit:sLen*i.size+news.length≤cur.size):
  (Builtin.append_ #[t,u] ty #[.slice (some ⟨g,0,none⟩) sLen sCap,x]).run P w=
   .ok (.slice (some ⟨g,0,none⟩) (sLen+m) sCap) (w.setRow g (cur.toList.take (sLen*i.size)++news++cur.toList.drop (sLen*i.size+news.length)).toArray):=by
 have hst:=run_storeCells_at (P:=P) g (sLen*i.size) e news 0 cur w hg (by simpa using hfit) h1
 simp only[Nat.add_zero] at hst
 have e0:({block:=g,off:=0}:Addr).add (sLen*i.size)=⟨g,sLen*i.size,none⟩:=by rw[Fj,Nat.zero_add]
 rcases hu with hu|hu<;>simp[Builtin.append_,run_underlying ht,run_underlying hu,sizeOf,typeInfo,hi,hlen,hroom,hnew,storeCells,e0,hst]
theorem A9q (t u ty e:TypeId) (i:TypeInfo) {e':TypeId} (ht:P.underlying t=some (.slice e)) (hu:P.underlying u=some (.slice e')∨P.underlying u=some .string) (hi:P.info? e=some i)
  (b:Option Addr) (x:Value) (hlen:(Builtin.lenOf x).run P w=.ok 0 w) (hnew:(Builtin.firstCells i.size 0 x).run P w=.ok #[] w):
  (Builtin.append_ #[t,u] ty #[.slice b 0 0,x]).run P w=.ok (.slice b 0 0) w:=by
 rcases hu with hu|hu<;>cases b<;>simp[Builtin.append_,run_underlying ht,run_underlying hu,sizeOf,typeInfo,hi,hlen,hnew,storeCells]
end
def RowHL (F:Nat→Prop) (N:Nm) (nx:Nat) (R:World) (els:Els) (size:Nat) (zs:List Value):Prop:=
 zs.length=els.n*size∧∀k,k <els.n→HL F N nx R (els.nth k) ((zs.drop (k*size)).take size)
section
variable {F F':Nat→Prop} {N N':Nm} {nx nx':Nat} {R R':World} {size:Nat}
theorem RowHL.step (st:Ext F N nx R F' N' nx' R') {els:Els} {zs:List Value} (h:RowHL F N nx R els size zs):RowHL F' N' nx' R' els size zs:=⟨h.1,fun k hk=>(h.2 k hk).step st⟩
theorem RowHL.cat {els e1 e2:Els} {zs us:List Value} (h1:RowHL F N nx R e1 size zs) (h2:RowHL F N nx R e2 size us) (hn:els.n=e1.n+e2.n) (ha:∀k,k <e1.n→els.nth k=e1.nth k) (hb:∀k,k <e2.n→els.nth (e1.n+k)=e2.nth k):RowHL F N nx R els size (zs++us):=by
 refine⟨by rw[List.length_append,h1.1,h2.1,hn,Nat.add_mul],fun k hk=>?_⟩
 by_cases hlt:k <e1.n
 ·rw[ha k hlt]
  have hle:k*size+size≤zs.length:=by rw[h1.1,←Nat.succ_mul];exact Nat.mul_le_mul_right _ hlt
  rw[List.drop_append_of_le_length (by omega),List.take_append_of_le_length (by rw[List.length_drop];omega)]
  exact h1.2 k hlt
 ·have hk2:k=e1.n+(k - e1.n):=by omega
  rw[hk2,hb (k - e1.n) (by omega)]
  have:(e1.n+(k - e1.n))*size=zs.length+(k - e1.n)*size:=by rw[Nat.add_mul,h1.1]
  rw[this,List.drop_append]
  rw[List.drop_eq_nil_of_le (by omega),List.nil_append,show zs.length+(k - e1.n)*size - zs.length=(k - e1.n)*size by omega]
  exact h2.2 (k - e1.n) (by omega)
theorem RowHL.ty {c:TC} {els:Els} {l:List (U c)} {ps:List Prop} {zs:List Value} (h:RowHL F N nx R els size zs) (he:US c els=some (l,ps)) (hp:∀p∈ps,p):RowHL F N nx R (.ty c l) size zs:=by
 obtain⟨h1,h2⟩:=K9 (F:=F) (N:=N) (nx:=nx) (R:=R) he hp
 have hn:(Els.ty c l).n=els.n:=h1
 exact⟨by rw[hn];exact h.1,fun k hk=>by rw[hn] at hk;exact h2 k hk _ (h.2 k hk)⟩
theorem RowHL.nil:RowHL F N nx R (.lst []) size []:=⟨by simp[Els.n],fun k hk=>by cases hk⟩
end
def A6c:Els→Els→Option (Els×List Prop)
 | .lst xs,.lst ys=>some (.lst (xs++ys),[])
 | .ty c l,b=>match US c b with
  |some (l',ps)=>some (.ty c (l++l'),ps)
  |none=>none
 | .lst xs,.ty c l=>match Bcj c xs with
  |some (l',ps)=>some (.ty c (l'++l),ps)
  |none=>none
def Els.norm (tc:Option TC) (els:Els):Els×List Prop:=match els with
 | .lst cs=>match tc with
  |some c=>match Bcj c cs with
   |some (l,ps)=>(.ty c l,ps)
   |none=>(els,[])
  |none=>(els,[])
 |_=>(els,[])
def Amv (lo n:Nat):Els→Els
 | .lst cs=> .lst ((cs.drop lo).take n)
 | .ty c l=> .ty c ((l.drop lo).take n)
def Uk (o:Objs):Els→Bool
 | .lst cs=>cs.all fun x=>Ox x&&UB o x
 | .ty _ _=>true
section
variable {F F':Nat→Prop} {N N':Nm} {nx nx':Nat} {R R':World} {size:Nat} {o:Objs}
theorem A7o {xs ys:List (List A)} {k:Nat} (hk:k <xs.length):Jz (xs++ys) k=Jz xs k:=by
 rw[EJ,EJ,List.getD_eq_getElem?_getD,List.getD_eq_getElem?_getD,List.getElem?_append_left hk]
theorem A1k {xs ys:List (List A)} {k:Nat}:Jz (xs++ys) (xs.length+k)=Jz ys k:=by
 rw[EJ,EJ,List.getD_eq_getElem?_getD,List.getD_eq_getElem?_getD,List.getElem?_append_right (by omega)]
 congr 2
 omega
theorem Aql {c:TC} {l l':List (U c)} {k:Nat} (hk:k <l.length):(Els.ty c (l++l')).nth k=(Els.ty c l).nth k:=by
 show enc c _=enc c _
 rw[List.getD_eq_getElem?_getD,List.getD_eq_getElem?_getD,List.getElem?_append_left hk]
theorem Ai7 {c:TC} {l l':List (U c)} {k:Nat}:(Els.ty c (l++l')).nth (l.length+k)=(Els.ty c l').nth k:=by
 show enc c _=enc c _
 rw[List.getD_eq_getElem?_getD,List.getD_eq_getElem?_getD,List.getElem?_append_right (by omega)]
 congr 3
 omega
theorem A3r {e1 e2 els:Els} {ps:List Prop} {zs us:List Value} (he:A6c e1 e2=some (els,ps)) (hp:∀p∈ps,p) (h1:RowHL F N nx R e1 size zs) (h2:RowHL F N nx R e2 size us):els.n=e1.n+e2.n∧RowHL F N nx R els size (zs++us):=by
 unfold A6c at he
 split at he
 ·rename_i xs ys
  cases he
  have hn:(Els.lst (xs++ys)).n=(Els.lst xs).n+(Els.lst ys).n:=by simp[Els.n]
  exact⟨hn,h1.cat h2 hn (fun k hk=>A7o hk) fun k _=>A1k⟩
 ·rename_i c l
  split at he<;>first|(cases he;done)|skip
  rename_i l' qs hl
  cases he
  have h3:=h2.ty hl hp
  have hn:(Els.ty c (l++l')).n=(Els.ty c l).n+(Els.ty c l').n:=by simp[Els.n]
  have he2:(Els.ty c l').n=e2.n:=(K9 (F:=F) (N:=N) (nx:=nx) (R:=R) hl hp).1
  exact⟨by rw[hn,he2],h1.cat h3 hn (fun k hk=>Aql hk) fun k _=>Ai7⟩
 ·rename_i xs c l
  split at he<;>first|(cases he;done)|skip
  rename_i l' qs hl
  cases he
  have h3:RowHL F N nx R (.ty c l') size zs:=h1.ty (els:=.lst xs) hl hp
  have hn:(Els.ty c (l'++l)).n=(Els.ty c l').n+(Els.ty c l).n:=by simp[Els.n]
  have he2:(Els.ty c l').n=(Els.lst xs).n:=(YH (F:=F) (N:=N) (nx:=nx) (R:=R) hl hp).1
  exact⟨by rw[hn,he2],h3.cat h2 hn (fun k hk=>Aql hk) fun k _=>Ai7⟩
theorem Bmq {tc:Option TC} {els els':Els} {ps:List Prop} {zs:List Value} (he:els.norm tc=(els',ps)) (hp:∀p∈ps,p) (h:RowHL F N nx R els size zs):els'.n=els.n∧RowHL F N nx R els' size zs:=by
 unfold Els.norm at he
 split at he
 ·split at he
  ·split at he
   ·rename_i l qs hl
    cases he
    exact⟨(YH (F:=F) (N:=N) (nx:=nx) (R:=R) hl hp).1,h.ty (els:=.lst _) hl hp⟩
   ·cases he;exact⟨rfl,h⟩
  ·cases he;exact⟨rfl,h⟩
 ·cases he;exact⟨rfl,h⟩
theorem A5d {lo n:Nat} {els:Els} (h:lo+n≤els.n):(Amv lo n els).n=n:=by
 cases els<;>simp only[Amv,Els.n,List.length_take,List.length_drop] at h⊢<;>omega
theorem Bxx {lo n k:Nat} {els:Els} (hk:k <n):(Amv lo n els).nth k=els.nth (lo+k):=by
 cases els with
 |lst cs=>
  show Jz _ k=Jz _ _
  rw[EJ,EJ,List.getD_eq_getElem?_getD,List.getD_eq_getElem?_getD,List.getElem?_take,if_pos hk,List.getElem?_drop]
 |ty c l=>
  show enc c _=enc c _
  rw[List.getD_eq_getElem?_getD,List.getD_eq_getElem?_getD,List.getElem?_take,if_pos hk,List.getElem?_drop]
theorem RowHL.sub {lo n:Nat} {els:Els} {zs:List Value} (h:RowHL F N nx R els size zs) (hle:lo+n≤els.n):RowHL F N nx R (Amv lo n els) size ((zs.drop (lo*size)).take (n*size)):=by
 have hz:(lo+n)*size≤zs.length:=by rw[h.1];exact Nat.mul_le_mul_right _ hle
 rw[Nat.add_mul] at hz
 refine⟨by rw[A5d hle,List.length_take,List.length_drop];omega,fun k hk=>?_⟩
 rw[A5d hle] at hk
 rw[Bxx hk]
 have:=h.2 (lo+k) (by omega)
 have hk2:k*size+size≤n*size:=by rw[←Nat.succ_mul];exact Nat.mul_le_mul_right _ hk
 rw[List.drop_take,List.take_take,List.drop_drop,←Nat.add_mul,Nat.min_eq_left (by omega)]
 exact this
theorem Bwc (o:Objs) (c:TC) (d:U c):Ox (enc c d)=true∧UB o (enc c d)=true:=by cases c<;>exact⟨rfl,rfl⟩
theorem Bii {els:Els} (h:Uk o els=true) {k:Nat} (hk:k <els.n):Ox (els.nth k)=true∧UB o (els.nth k)=true:=by
 cases els with
 | lst cs=>
  have hk':k <cs.length:=hk
  have hm:cs[k]∈cs:=List.getElem_mem hk'
  have:=(List.all_eq_true.1 h) _ hm
  have e:(Els.lst cs).nth k=cs[k]:=by
   show Jz cs k=_
   rw[EJ,List.getD_eq_getElem?_getD,List.getElem?_eq_getElem hk']
   rfl
  rw[e]
  simpa using this
 |ty c l=>exact Bwc o c _
theorem RowHL.one {els:Els} {zs:List Value} (hh:HRel F N nx o R) (h:RowHL F N nx R els size zs) (ho:Uk o els=true) (hs:0 <size):∀u∈zs,u.oneCell'=true:=fun u hu=>by
 obtain⟨m,hm,rfl⟩:=List.getElem_of_mem hu
 have hlt:m / size <els.n:=(Nat.div_lt_iff_lt_mul hs).2 (by rw[←h.1];exact hm)
 obtain⟨h1,h2⟩:=Bii ho hlt
 refine Axe hh h1 h2 (h.2 (m / size) hlt) _ ?_
 have e:((zs.drop (m / size*size)).take size)[m % size]?=some zs[m]:=by
  rw[List.getElem?_take,if_pos (Nat.mod_lt _ hs),List.getElem?_drop]
  have:m / size*size+m % size=m:=by rw[Nat.mul_comm];exact Nat.div_add_mod m size
  rw[this]
  exact List.getElem?_eq_getElem hm
 exact List.mem_of_getElem? e
end
structure Bbd (R:World) (v:Value) (size n:Nat) (zs:List Value):Prop where
 len:zs.length=n*size
 val:∃A c,v=.slice A n c∧n≤c
 cells:∀A m c,v=.slice A m c→0 <n→∃ad,A=some ad∧∀j u,zs[j]?=some u→R.cell? (ad.add j)=some u
def B1k (o:Objs) (sz:Nat):A→Option (Els×List Prop)
 | .sq j=>match Ao j o with
  |some (.arr _ size els)=>bif Nat.beq size sz then(bif Uk o els then some (els,[]) else none) else none
  |_=>none
 | .vw j z lo n _=>match Ao j o with
  |some (.arr _ size els)=>bif Nat.beq z sz then(bif Nat.beq size sz then(bif Uk o els then some (Amv lo n els,[lo+n≤els.n]) else none) else none) else none
  |_=>none
 | .sl c l=>bif Nat.beq (size c) sz then some (.ty c l,[]) else none
 | .nl=>some (.lst [],[])
 | .v x=>bif D5 x then some (.lst [],[]) else none
 |_=>none
section
variable {F:Nat→Prop} {N:Nm} {nx:Nat} {R:World} {o:Objs}
theorem Bcy {e:TypeId} {size n:Nat} {v:Value} {zs:List Value} (h:OwnR R e size v n zs):Bbd R v size n zs:=by
 obtain⟨a,c,h1,h2⟩:=h.form
 refine⟨h.1,⟨a,c,h1,h2⟩,fun A m c' e hn=>?_⟩
 obtain⟨g,c2,q1,_,_,_,q5⟩:=FL h hn
 rw[q1] at e
 cases e
 exact⟨_,rfl,fun j u hu=>by rw[Fj,Nat.zero_add];exact q5 j u hu⟩
theorem B1j {c:TC} {l:List (U c)} {y:Value} (h:Hv F N nx R (.sl c l) y):∃zs,Bbd R y (size c) l.length zs∧RowHL F N nx R (.ty c l) (size c) zs:=by
 obtain⟨a,cap,rfl,h1,h2⟩:=h.sl_inv
 by_cases hn:0 <l.length
 ·obtain⟨ad,rfl,_,h3⟩:=h2 hn
  have cell:∀m,m <l.length*size c→∃y,R.cell? (ad.add m)=some y:=fun m hm=>by
   have hs:0 <size c:=by
    rcases Nat.eq_zero_or_pos (size c) with h0|h0
    ·rw[h0] at hm;simp at hm
    ·exact h0
   have hlt:m / size c <l.length:=(Nat.div_lt_iff_lt_mul hs).2 hm
   have hj:m % size c <(enc c l[m / size c]).length:=by rw[Ab5];exact Nat.mod_lt _ hs
   obtain⟨y,hy,_⟩:=h3 _ _ (List.getElem?_eq_getElem hlt) (m % size c) _ (List.getElem?_eq_getElem hj)
   rw[D3] at hy
   have:m / size c*size c+m % size c=m:=by rw[Nat.mul_comm];exact Nat.div_add_mod m (size c)
   rw[this] at hy
   exact⟨y,hy⟩
  let zs:=(List.range (l.length*size c)).map fun m=>(R.cell? (ad.add m)).getD undef
  have hz:∀m u,zs[m]?=some u→R.cell? (ad.add m)=some u:=fun m u hu=>by
   have hm:m <l.length*size c:=by
    have:=(List.getElem?_eq_some_iff.1 hu).1
    simpa[zs] using this
   obtain⟨y,hy⟩:=cell m hm
   have e:zs[m]?=some ((R.cell? (ad.add m)).getD undef):=by simp[zs,hm]
   rw[e,hy] at hu
   rw[hy]
   exact hu
  have hlen:zs.length=l.length*size c:=by simp[zs]
  refine⟨zs,⟨hlen,⟨_,cap,rfl,h1⟩,fun A m c' e _=>?_⟩,hlen,fun k hk=>?_⟩
  ·cases e
   exact⟨ad,rfl,hz⟩
  ·have hk':k <l.length:=hk
   have hd:l[k]?=some (l.getD k (Ac c)):=by rw[List.getD_eq_getElem?_getD,List.getElem?_eq_getElem hk'];rfl
   have hle:k*size c+size c≤zs.length:=by rw[hlen,←Nat.succ_mul];exact Nat.mul_le_mul_right _ hk'
   have hl2:((zs.drop (k*size c)).take (size c)).length=(enc c (l.getD k (Ac c))).length:=by
    rw[Ab5,List.length_take,List.length_drop]
    omega
   refine HL.of hl2 fun j x v hx hv=>?_
   obtain⟨y,hy,hyv⟩:=h3 k _ hd j x hx
   have:=hz _ _ (OI hv)
   rw[D3] at hy
   rw[hy] at this
   cases this
   exact hyv
 ·have h0:l=[]:=List.eq_nil_of_length_eq_zero (by omega)
  subst h0
  exact⟨[],⟨by simp,⟨a,cap,rfl,Nat.zero_le _⟩,fun A m c' e hn=>absurd hn (Nat.lt_irrefl _)⟩,by simp[Els.n],fun k hk=>by cases hk⟩
theorem Bxt (hh:HRel F N nx o R) {sz:Nat} {x:A} {y:Value} {els:Els} {ps:List Prop} (he:B1k o sz x=some (els,ps)) (hp:∀p∈ps,p) (hx:Hv F N nx R x y) (hs:0 <sz):
  ∃zs,Bbd R y sz els.n zs∧RowHL F N nx R els sz zs∧∀u∈zs,u.oneCell'=true:=by
 unfold B1k at he
 split at he<;>first|(cases he;done)|skip
 ·rename_i j
  split at he<;>first|(cases he;done)|skip
  rename_i e size els' hl
  cases hb:Nat.beq size sz with
  |false=>rw[hb] at he;cases he
  | true=>
   cases ho:Uk o els' with
   |false=>rw[hb,ho] at he;cases he
   |true=>
    rw[hb,ho] at he
    cases he
    obtain rfl:=Nat.eq_of_beq_eq_true hb
    obtain⟨_,zs,g1,g2⟩:=hh.ob j _ hl
    have hr:RowHL F N nx R els size zs:=⟨g1.1,g2⟩
    rw[hx.sq_inv.2]
    exact⟨zs,Bcy g1,hr,hr.one hh ho hs⟩
 ·rename_i j z lo n f
  split at he<;>first|(cases he;done)|skip
  rename_i e size els' hl
  cases hb0:Nat.beq z sz with
  |false=>rw[hb0] at he;cases he
  |true=>
  cases hb:Nat.beq size sz with
  |false=>rw[hb0,hb] at he;cases he
  | true=>
   cases ho:Uk o els' with
   |false=>rw[hb0,hb,ho] at he;cases he
   | true=>
    rw[hb0,hb,ho] at he
    cases he
    obtain rfl:=Nat.eq_of_beq_eq_true hb
    obtain rfl:=Nat.eq_of_beq_eq_true hb0
    have hle:lo+n≤els'.n:=hp _ (List.mem_singleton.2 rfl)
    obtain⟨_,zs,g1,g2⟩:=hh.ob j _ hl
    have hr:RowHL F N nx R els' z zs:=⟨g1.1,g2⟩
    have hr2:=hr.sub hle
    refine⟨_,⟨hr2.1,?_,fun A m c e hn=>?_⟩,hr2,fun u hu=>hr.one hh ho hs u (List.mem_of_mem_drop (List.mem_of_mem_take hu))⟩
    ·obtain⟨_,a,c,e1,e2,_⟩:=hx.vw_inv
     rw[A5d hle]
     exact⟨a,c,e1,e2⟩
    ·rw[A5d hle] at hn
     obtain⟨_,a,c',e1,e2,_,e4⟩:=hx.vw_inv
     rw[e1] at e
     cases e
     refine⟨_,e4 hn,fun i u hu=>?_⟩
     obtain⟨g,c2,q1,_,q3,_,q5⟩:=FL g1 (by omega)
     rw[q3,Fj,Fj,Nat.zero_add]
     rw[List.getElem?_take] at hu
     split at hu<;>first|(cases hu;done)|skip
     rw[List.getElem?_drop] at hu
     exact q5 _ u hu
 ·rename_i c l
  cases hb:Nat.beq (size c) sz with
  |false=>rw[hb] at he;cases he
  |true=>
   rw[hb] at he
   cases he
   obtain rfl:=Nat.eq_of_beq_eq_true hb
   obtain⟨zs,g1,g2⟩:=B1j hx
   exact⟨zs,g1,g2,g2.one hh rfl hs⟩
 ·cases he
  obtain⟨a,rfl⟩:=hx.nl_inv
  exact⟨[],⟨by simp[Els.n],⟨a,0,rfl,Nat.le_refl _⟩,fun A m c e hn=>absurd hn (Nat.lt_irrefl _)⟩,.nil,fun u hu=>by cases hu⟩
 ·rename_i x
  cases hb:D5 x with
  |false=>rw[hb] at he;cases he
  |true=>
   rw[hb] at he
   cases he
   rw[hx.v_inv,Gr hb]
   exact⟨[],⟨by simp[Els.n],⟨none,0,rfl,Nat.le_refl _⟩,fun A m c e hn=>absurd hn (Nat.lt_irrefl _)⟩,.nil,fun u hu=>by cases hu⟩
end
end Go.Proofs.Yteebobbhhgmeiaa
namespace Go.Proofs.Yteebobbhhgmeiaa
open Go.RowKit
section canon
def Ke (P:Program) (K:Value→World→Prop):Result Next→Prop
 | .ok (.value v) w'=>K v w'
 | .ok .skip w'=>K undef w'
 | .ok (.enter f args) w'=>Calls P f args w' fun e w''=>∃v,e=.returned v∧K v w''
 |_=>False
theorem Aja {P:Program} {o:Oper} {a:Act} {w:World} {K:Act→World→Prop} {Q:Exit→Act→World→Prop} (h:Ke P (fun v w'=>K (a.put o.dst v) w') ((execOp a.eval o).run P w)):o.wp P a w K Q:=by
 unfold Oper.wp
 generalize (execOp a.eval o).run P w=r at*
 cases r with
 |halt x w=>exact h.elim
 |ok n w=>
  cases n<;>simp only[Ke] at h<;>simp only[Oper.upon]
  case value u=>exact h
  case skip=>exact h
  case enter f args=>exact h.mono fun e w'' ⟨v,he,hk⟩=>by subst he;exact hk
theorem DN {P:Program} {K K':Value→World→Prop} {r:Result Next} (h:Ke P K r) (hk:∀v w,K v w→K' v w):Ke P K' r:=by
 cases r with
 |halt x w=>exact h
 | ok n w=>
  cases n<;>first|exact h|(exact hk _ _ h)|skip
  case enter f args=>
   exact Calls.mono (P:=P) h fun e w'' hh=>by
    obtain⟨v,he,hv⟩:=hh
    exact⟨v,he,hk _ _ hv⟩
theorem Bu7 {P:Program} {o:Oper} {a:Act} {R:World} {v:Value} {K:Act→World→Prop} {Q:Exit→Act→World→Prop} (h:Oper.quietUpon P (fun R'=>Below R.heap.size R R') R v ((execOp a.eval o).run P R))
  (hk:∀R',Below R.heap.size R R'→K (a.put o.dst v) R'):o.wp P a R K Q:=by
 have hr:Below R.heap.size R R:=Below.refl _ _
 unfold Oper.wp
 generalize (execOp a.eval o).run P R=r at*
 cases r with
 |halt x w=>exact h.elim
 | ok n w=>
  cases n<;>simp only[Oper.quietUpon] at h<;>simp only[Oper.upon]
  case value u=>
   obtain⟨e1,e2⟩:=h
   rw[e1,e2]
   exact hk _ hr
  case skip=>
   obtain⟨e1,e2⟩:=h
   rw[e1,←e2]
   exact hk _ hr
  case enter f args=>
   obtain⟨e1,hc⟩:=h
   rw[e1]
   exact hc.mono fun e w'' ⟨he,hw''⟩=>by subst he;exact hk _ hw''
def Bh9 (seen:List Nat):List Edge→List Nat
 | []=>[]
 |e::r=>bif Region.binds .any e&&!(seen.any (Nat.beq e.on)) then e.on::Bh9 seen r else Bh9 seen r
def Azo (ops:Array Oper):Nat→List Nat→List Nat→List Nat
 |0,_,seen=>seen
 |_+1,[],seen=>seen
 |n+1,i::r,seen=>match ops[i]? with
  |some o=>Azo ops n (Bh9 seen o.after.toList++r) (Bh9 seen o.after.toList++seen)
  |none=>Azo ops n r seen
def Aeu (ops:Array Oper) (i j:Nat):Bool:=Region.waitsFor .any ops i j||(Azo ops (ops.size+2) [i] []).any (Nat.beq j)
theorem Awr {seen:List Nat} {k:Nat}:∀{l:List Edge},k∈Bh9 seen l→∃e∈l,Region.binds .any e=true∧e.on=k
 | [],h=>by cases h
 | e::r,h=>by
  unfold Bh9 at h
  cases hc:(Region.binds .any e&&!(seen.any (Nat.beq e.on))) with
  | true=>
   rw[hc] at h
   rcases List.mem_cons.1 h with rfl|h
   ·exact⟨e,List.mem_cons_self ..,(Bool.and_eq_true_iff.1 hc).1,rfl⟩
   ·obtain⟨e',h1,h2⟩:=Awr h
    exact⟨e',List.mem_cons_of_mem _ h1,h2⟩
  |false=>
   rw[hc] at h
   obtain⟨e',h1,h2⟩:=Awr h
   exact⟨e',List.mem_cons_of_mem _ h1,h2⟩
theorem RT {ops:Array Oper} {m:Nat} {listed:Array Bool} (hi:HeadInv .any ops m listed):∀(n:Nat) (fr seen:List Nat),
  (∀k∈fr,∀o,ops[k]?=some o→∀e∈o.after,Region.binds .any e=true→listed.getD e.on false=true)→(∀k∈seen,listed.getD k false=true)→∀k∈Azo ops n fr seen,listed.getD k false=true
 |0,_,_,_,h2,k,hk=>h2 k hk
 |_+1,[],_,_,h2,k,hk=>h2 k hk
 | n+1,i::r,seen,h1,h2,k,hk=>by
  unfold Azo at hk
  cases ho:ops[i]? with
  |none=>
   rw[ho] at hk
   exact RT hi n r seen (fun k hk=>h1 k (List.mem_cons_of_mem _ hk)) h2 k hk
  | some o=>
   rw[ho] at hk
   have hnew:∀k∈Bh9 seen o.after.toList,listed.getD k false=true:=fun k hk=>by
    obtain⟨e,he,hb,rfl⟩:=Awr hk
    exact h1 i (List.mem_cons_self ..) o ho e (Array.mem_toList_iff.1 he) hb
   refine RT hi n _ _ (fun k hk o' ho' e he hb=>?_) (fun k hk=>?_) k hk
   ·rcases List.mem_append.1 hk with hk|hk
    ·exact hi.closed k o' ho' (hnew k hk) e he hb
    ·exact h1 k (List.mem_cons_of_mem _ hk) o' ho' e he hb
   ·rcases List.mem_append.1 hk with hk|hk
    ·exact hnew k hk
    ·exact h2 k hk
theorem Abq {ops:Array Oper} {m:Nat} {listed:Array Bool} (hi:HeadInv .any ops m listed) {i j:Nat} {o:Oper} (h:Aeu ops i j=true) (ho:ops[i]?=some o) (hall:∀e∈o.after,Region.binds .any e=true→listed.getD e.on false=true):listed.getD j false=true:=by
 rcases Bool.or_eq_true_iff.1 h with h1|h1
 ·exact J6 h1 ho hall
 ·obtain⟨k,hk,hb⟩:=List.any_eq_true.1 h1
  rw[Nat.eq_of_beq_eq_true hb]
  refine RT hi _ [i] [] (fun k hk o' ho'=>?_) (fun k hk=>by cases hk) k hk
  obtain rfl:=List.mem_singleton.1 hk
  obtain rfl:=Option.some.inj (ho.symm.trans ho')
  exact hall
structure A3e (ops:Array Oper) (n:Nat) (ix:Nat→Nat) (M E:Nat→Bool):Prop where
 back:Bbq ops=true
 nosel:Region.noSelect ops=true
 lt:∀k,k <n→ix k <ops.size
 inj:∀j k,j <k→k <n→ix j≠ix k
 sur:∀i,i <ops.size→∃k,k <n∧ix k=i
 dst:∀j k o o' d,j <k→k <n→ops[ix j]?=some o→ops[ix k]?=some o'→o.dst=some d→o'.dst≠some d
 ord:∀j k o o' d,j <k→k <n→ops[ix j]?=some o→ops[ix k]?=some o'→(o.dst=some d∧d∈o'.looksAt ops∨o'.dst=some d∧d∈o.looksAt ops)→Region.waitsFor .any ops (ix k) (ix j)=true
 mop:∀j k,j <k→k <n→M j=true→E k=false→Aeu ops (ix k) (ix j)=true
 em:∀k,k <n→E k=true→M k=true
variable {P:Program} {ops:Array Oper} {n:Nat} {ix:Nat→Nat} {M E:Nat→Bool} {a0:Act}
def canA (ops:Array Oper) (ix:Nat→Nat) (a0:Act) (V:Nat→Value):Nat→Act
 |0=>a0
 |k+1=>(canA ops ix a0 V k).put ((ops[ix k]?).bind (·.dst)) (V k)
theorem ON {V V':Nat→Value}:∀{k},(∀j,j <k→V' j=V j)→canA ops ix a0 V' k=canA ops ix a0 V k
 |0,_=>rfl
 |k+1,h=>by
  unfold canA
  rw[ON fun j hj=>h j (by omega),h k (by omega)]
theorem OF {V:Nat→Value}:∀k,(canA ops ix a0 V k).tmps.size=a0.tmps.size
 |0=>rfl
 |k+1=>by unfold canA;rw[XJ,OF k]
theorem Am4 {V:Nat→Value}:∀k,(canA ops ix a0 V k).defers=a0.defers
 |0=>rfl
 |k+1=>by unfold canA;rw[QQ,Am4 k]
theorem Ajf {V:Nat→Value} {x:Tmp} {j:Nat}:∀m,(∀i,i <m→∀o,ops[ix (j+i)]?=some o→o.dst≠some x)→(canA ops ix a0 V (j+m)).tmps.getD x undef=(canA ops ix a0 V j).tmps.getD x undef
 |0,_=>rfl
 | m+1,h=>by
  rw[←Ajf m fun i hi=>h i (by omega)]
  show((canA ops ix a0 V (j+m)).put ((ops[ix (j+m)]?).bind (·.dst)) (V (j+m))).tmps.getD x undef=_
  cases ho:ops[ix (j+m)]? with
  |none=>rfl
  | some o=>
   have hd:=h m (by omega) o ho
   cases hdd:o.dst with
   |none=>simp[Act.put,hdd]
   |some d=>
    simp only[Option.bind_some,hdd]
    rw[Gb,if_neg]
    rintro⟨rfl,_⟩
    exact hd hdd
def NoWr (ops:Array Oper) (ix:Nat→Nat) (p k:Nat) (o:Oper):Prop:=∀j,p≤j→j <k→∀o' d,ops[ix j]?=some o'→o'.dst=some d→d∉o.looksAt ops
theorem NoWr.canA {V:Nat→Value} {p k:Nat} {o:Oper} (h:NoWr ops ix p k o) (hp:p≤k):∀t∈o.looksAt ops,(canA ops ix a0 V k).tmps.getD t undef=(canA ops ix a0 V p).tmps.getD t undef:=fun t ht=>by
 obtain⟨m,rfl⟩:=Nat.exists_eq_add_of_le hp
 exact Ajf m fun i hi o' ho' hd=>h (p+i) (by omega) (by omega) o' t ho' hd ht
theorem Auh (ok:A3e ops n ix M E) {V:Nat→Value} {t:Nat}:∀k,k≤n→
  (∀j o,j <k→ops[ix j]?=some o→o.dst=some t→t <a0.tmps.size→(canA ops ix a0 V k).tmps.getD t undef=V j)∧
  ((∀j o,j <k→ops[ix j]?=some o→o.dst≠some t)→(canA ops ix a0 V k).tmps.getD t undef=a0.tmps.getD t undef)
 |0,_=>⟨fun j _ hj=>by omega,fun _=>rfl⟩
 | k +1,hk=>by
  obtain⟨h1,h2⟩:=Auh ok (V:=V) (t:=t) k (by omega)
  obtain⟨ok',hok'⟩:∃o,ops[ix k]?=some o:=⟨_,Array.getElem?_eq_getElem (ok.lt k (by omega))⟩
  have hstep:canA ops ix a0 V (k+1)=(canA ops ix a0 V k).put ok'.dst (V k):=by
   show(canA ops ix a0 V k).put ((ops[ix k]?).bind (·.dst)) (V k)=_
   rw[hok'];rfl
  rw[hstep]
  refine⟨fun j o hj ho hd hlt=>?_,fun hno=>?_⟩
  ·by_cases hjk:j=k
   ·subst hjk
    have:o=ok':=Option.some.inj (ho.symm.trans hok')
    subst this
    rw[hd,Gb,if_pos ⟨rfl,by rw[OF];exact hlt⟩]
   ·have hne:=ok.dst j k o ok' t (by omega) (by omega) ho hok' hd
    rw[←h1 j o (by omega) ho hd hlt]
    cases hdk:ok'.dst with
    |none=>rfl
    |some d=>
     rw[Gb,if_neg]
     rintro⟨rfl,_⟩
     exact hne hdk
  ·rw[←h2 fun j o hj ho=>hno j o (by omega) ho]
   have hne:=hno k ok' (by omega) hok'
   cases hdk:ok'.dst with
   |none=>rfl
   |some d=>
    rw[Gb,if_neg]
    rintro⟨rfl,_⟩
    exact hne hdk
def Pend (P:Program) (ops:Array Oper) (ix:Nat→Nat) (a0:Act) (V:Nat→Value) (w:World) (k:Nat):Prop:=∀o,ops[ix k]?=some o→
 (Region.wanted o (yielded ops (canA ops ix a0 V k).tmps)=true∧∀w',Below w.heap.size w w'→Oper.quietUpon P (fun w''=>Below w'.heap.size w' w'') w' (V k) ((execOp (canA ops ix a0 V k).eval o).run P w'))∨
 (Region.wanted o (yielded ops (canA ops ix a0 V k).tmps)=false∧V k=undef)
theorem Pend.grow {V:Nat→Value} {w w1:World} {k:Nat} (h:Pend P ops ix a0 V w k) (hb:Below w.heap.size w w1):Pend P ops ix a0 V w1 k:=fun o ho=>by
 rcases h o ho with⟨h1,h2⟩|h1
 ·exact .inl ⟨h1,fun w' hw'=>h2 w' (hb.trans (hw'.mono hb.size))⟩
 ·exact .inr h1
theorem Pend.congr {V V':Nat→Value} {w:World} {k:Nat} (h:Pend P ops ix a0 V w k) (he:∀j,j≤k→V' j=V j):Pend P ops ix a0 V' w k:=by
 unfold Pend
 rw[ON fun j hj=>he j (by omega),he k (Nat.le_refl _)]
 exact h
abbrev Aside:=Nat→Option Value
def Aside.set (X:Aside) (k:Nat) (v:Value):Aside:=fun j=>if j=k then some v else X j
variable {S:Nat→Aside→Act→World→Prop}
variable (hq:∀k X A w,k <n→M k=false→S k X A w→∀o,ops[ix k]?=some o→∃v,S (k+1) X (A.put o.dst v) w∧
  ((Region.wanted o (yielded ops A.tmps)=true∧∀w',Below w.heap.size w w'→Oper.quietUpon P (fun w''=>Below w'.heap.size w' w'') w' v ((execOp A.eval o).run P w'))∨(Region.wanted o (yielded ops A.tmps)=false∧v=undef)))
 (hu:∀k X A w v,k <n→E k=true→X k=some v→S k X A w→∀o,ops[ix k]?=some o→S (k+1) X (A.put o.dst v) w)
include hq hu
theorem Ae4 (ok:A3e ops n ix M E) {w:World} {X:Aside} (L:Nat→Bool):∀(m p:Nat) (V:Nat→Value),n - p=m→p≤n→(∀k,p≤k→k <n→L k=true→E k=true∧X k=some (V k))→S p X (canA ops ix a0 V p) w→
  ∃p' V',p≤p'∧p'≤n∧(∀j,j <p→V' j=V j)∧(∀j,j <n→L j=true→V' j=V j)∧S p' X (canA ops ix a0 V' p') w∧(p'=n∨(p' <n∧M p'=true∧L p'=false))∧∀k,p≤k→k <p'→L k=false→Pend P ops ix a0 V' w k
 |0,p,V,hm,hp,_,hS=>⟨p,V,Nat.le_refl _,hp,fun _ _=>rfl,fun _ _ _=>rfl,hS,.inl (by omega),fun k h1 h2=>by omega⟩
 | m +1,p,V,hm,hp,hL,hS=>by
  have hpn:p <n:=by omega
  obtain⟨o,ho⟩:∃o,ops[ix p]?=some o:=⟨_,Array.getElem?_eq_getElem (ok.lt p hpn)⟩
  cases hl:L p with
  | true=>
   obtain⟨hE,hX⟩:=hL p (Nat.le_refl _) hpn hl
   have hS':=hu p X _ w _ hpn hE hX hS o ho
   have e4:canA ops ix a0 V (p+1)=(canA ops ix a0 V p).put o.dst (V p):=by
    show(canA ops ix a0 V p).put ((ops[ix p]?).bind (·.dst)) (V p)=_
    rw[ho];rfl
   obtain⟨p',V',h1,h2,h3,h3',h4,h5,h6⟩:=Ae4 ok L m (p+1) V (by omega) (by omega) (fun k hk=>hL k (by omega)) (by rw[e4];exact hS')
   refine⟨p',V',by omega,h2,fun j hj=>h3 j (by omega),h3',h4,h5,fun k hk1 hk2 hk3=>?_⟩
   by_cases hkp:k=p
   ·subst hkp;rw[hl] at hk3;cases hk3
   ·exact h6 k (by omega) hk2 hk3
  |false=>
  cases hM:M p with
  |true=>exact⟨p,V,Nat.le_refl _,hp,fun _ _=>rfl,fun _ _ _=>rfl,hS,.inr ⟨hpn,hM,hl⟩,fun k h1 h2=>by omega⟩
  | false=>
   obtain⟨v,hS',hv⟩:=hq p X _ w hpn hM hS o ho
   let V1:Nat→Value:=fun j=>if j=p then v else V j
   have e1:∀j,j≠p→V1 j=V j:=fun j hj=>if_neg hj
   have e2:V1 p=v:=if_pos rfl
   have e3:canA ops ix a0 V1 p=canA ops ix a0 V p:=ON fun j hj=>e1 j (by omega)
   have e4:canA ops ix a0 V1 (p+1)=(canA ops ix a0 V p).put o.dst v:=by
    show(canA ops ix a0 V1 p).put ((ops[ix p]?).bind (·.dst)) (V1 p)=_
    rw[e3,e2,ho];rfl
   obtain⟨p',V',h1,h2,h3,h3',h4,h5,h6⟩:=Ae4 ok L m (p+1) V1 (by omega) (by omega) (fun k hk hkn hkl=>by rw[e1 k (by omega)];exact hL k (by omega) hkn hkl) (by rw[e4];exact hS')
   refine⟨p',V',by omega,h2,fun j hj=>(h3 j (by omega)).trans (e1 j (by omega)),fun j hj hjl=>(h3' j hj hjl).trans (e1 j fun e=>by rw[e,hl] at hjl;cases hjl),h4,h5,fun k hk1 hk2 hk3=>?_⟩
   by_cases hkp:k=p
   ·subst hkp
    have hpd:Pend P ops ix a0 V1 w k:=fun o' ho'=>by
     have:o'=o:=Option.some.inj (ho'.symm.trans ho)
     subst this
     rw[e3,e2]
     exact hv
    exact hpd.congr fun j hj=>h3 j (by omega)
   ·exact h6 k (by omega) hk2 hk3
omit hq hu
structure CInv (P:Program) (ops:Array Oper) (n:Nat) (ix:Nat→Nat) (M E:Nat→Bool) (S:Nat→Aside→Act→World→Prop) (a0:Act) (listed:Array Bool) (a:Act) (w:World) (p:Nat) (V:Nat→Value) (X:Aside):Prop where
 inv:HeadInv .any ops ops.size listed
 le:p≤n
 st:S p X (canA ops ix a0 V p) w
 next:p=n∨(p <n∧M p=true∧listed.getD (ix p) false=false)
 pend:∀k,k <p→listed.getD (ix k) false=false→Pend P ops ix a0 V w k
 rest:∀k,p≤k→k <n→listed.getD (ix k) false=true→E k=true∧X k=some (V k)
 defers:a.defers=a0.defers
 size:a.tmps.size=a0.tmps.size
 s1:∀k o d,k <n→ops[ix k]?=some o→o.dst=some d→d <a0.tmps.size→listed.getD (ix k) false=true→a.tmps.getD d undef=V k
 s2:∀d,(∀k o,k <n→ops[ix k]?=some o→listed.getD (ix k) false=true→o.dst≠some d)→a.tmps.getD d undef=a0.tmps.getD d undef
variable {listed:Array Bool} {a:Act} {w:World} {p:Nat} {V:Nat→Value} {X:Aside}
theorem CInv.slot (ok:A3e ops n ix M E) (h:CInv P ops n ix M E S a0 listed a w p V X) {k:Nat} {o:Oper} (hk:k <n) (ho:ops[ix k]?=some o) (hun:listed.getD (ix k) false=false)
  (hall:∀e∈o.after,Region.binds .any e=true→listed.getD e.on false=true) {t:Nat} (ht:t∈o.looksAt ops):a.tmps.getD t undef=(canA ops ix a0 V k).tmps.getD t undef:=by
 obtain⟨l1,l2⟩:=Auh ok (V:=V) (a0:=a0) (t:=t) k (by omega)
 by_cases hw:∃j o',j <n∧ops[ix j]?=some o'∧o'.dst=some t
 ·obtain⟨j,o',hj,ho',hd⟩:=hw
  have huniq:∀j' o'',j' <n→ops[ix j']?=some o''→o''.dst=some t→j'=j:=by
   intro j' o'' hj' ho'' hd''
   rcases Nat.lt_trichotomy j' j with hlt|heq|hgt
   ·exact absurd hd (ok.dst j' j o'' o' t hlt hj ho'' ho' hd'')
   ·exact heq
   ·exact absurd hd'' (ok.dst j j' o' o'' t hgt hj' ho' ho'' hd)
  rcases Nat.lt_or_ge j k with hlt|hge
  ·have hl:=J6 (ok.ord j k o' o t hlt hk ho' ho (.inl ⟨hd,ht⟩)) ho hall
   by_cases hts:t <a0.tmps.size
   ·rw[h.s1 j o' t hj ho' hd hts hl,l1 j o' hlt ho' hd hts]
   ·have e1:a.tmps.getD t undef=undef:=by
     rw[Array.getD_eq_getD_getElem?,Array.getElem?_eq_none (by rw[h.size];exact Nat.le_of_not_lt hts)];rfl
    have e2:(canA ops ix a0 V k).tmps.getD t undef=undef:=by
     rw[Array.getD_eq_getD_getElem?,Array.getElem?_eq_none (by rw[OF];exact Nat.le_of_not_lt hts)];rfl
    rw[e1,e2]
  ·have hjl:listed.getD (ix j) false=false:=by
    by_cases hjk:j=k
    ·subst hjk;exact hun
    ·cases hjl:listed.getD (ix j) false with
     |false=>rfl
     |true=>
      have hwt:=ok.ord k j o o' t (by omega) hj ho ho' (.inr ⟨hd,ht⟩)
      have:=J6 hwt ho' (h.inv.closed (ix j) o' ho' hjl)
      rw[hun] at this
      cases this
   rw[h.s2 t fun j' o'' hj' ho'' hl' hd'=>by
    obtain rfl:=huniq j' o'' hj' ho'' hd'
    rw[hjl] at hl'
    cases hl']
   rw[l2 fun j' o'' hj' ho'' hd'=>by
    have:=huniq j' o'' (by omega) ho'' hd'
    omega]
 ·rw[h.s2 t fun j o' hj ho' _ hd=>hw ⟨j,o',hj,ho',hd⟩]
  rw[l2 fun j o' hj ho' hd=>hw ⟨j,o',by omega,ho',hd⟩]
theorem CInv.put (ok:A3e ops n ix M E) (h:CInv P ops n ix M E S a0 listed a w p V X) {k:Nat} {o:Oper} (hk:k <n) (ho:ops[ix k]?=some o) (hr:ix k∈Region.ready .any ops listed) {v:Value} {w':World} {p':Nat} {V':Nat→Value} {X':Aside}
  (hle:p'≤n) (hst:S p' X' (canA ops ix a0 V' p') w') (hV:∀j,j <n→j≠k→listed.getD (ix j) false=true→V' j=V j) (hv:V' k=v)
  (hnext:p'=n∨(p' <n∧M p'=true∧p'≠k∧listed.getD (ix p') false=false)) (hpend:∀j,j <p'→j≠k→listed.getD (ix j) false=false→Pend P ops ix a0 V' w' j)
  (hrest:∀j,p'≤j→j <n→j=k∨listed.getD (ix j) false=true→E j=true∧X' j=some (V' j)):
  CInv P ops n ix M E S a0 (listed.setIfInBounds (ix k) true) (a.put o.dst v) w' p' V' X':=by
 have hin:ix k <listed.size:=O9 (mem_ready.1 hr).1
 have hix:∀j,j <n→ix j=ix k→j=k:=fun j hj e=>by
  rcases Nat.lt_trichotomy j k with hlt|heq|hgt
  ·exact absurd e (ok.inj j k hlt hk)
  ·exact heq
  ·exact absurd e.symm (ok.inj k j hgt hj)
 refine⟨h.inv.set hr (ok.lt k hk),hle,hst,?_,?_,fun j h1 h2 hl=>?_,by rw[QQ,h.defers],by rw[XJ,h.size],?_,?_⟩
 ·rcases hnext with hn|⟨h1,h2,h3,h4⟩
  ·exact .inl hn
  ·exact .inr ⟨h1,h2,by rw[getD_set_ne false (fun e=>h3 (hix p' h1 e.symm))];exact h4⟩
 ·intro j hj hl
  have hjk:j≠k:=fun e=>by
   subst e
   rw[(Ge hin).2 (.inl rfl)] at hl
   cases hl
  refine hpend j hj hjk ?_
  cases hjl:listed.getD (ix j) false with
  |false=>rfl
  |true=>rw[(Ge hin).2 (.inr hjl)] at hl;cases hl
 ·rcases(Ge hin).1 hl with e|e
  ·exact hrest j h1 h2 (.inl (hix j h2 e))
  ·exact hrest j h1 h2 (.inr e)
 ·intro j oj d hj hoj hd hlt hl
  by_cases hjk:j=k
  ·subst hjk
   have:oj=o:=Option.some.inj (hoj.symm.trans ho)
   subst this
   rw[hd,Gb,if_pos ⟨rfl,by rw[h.size];exact hlt⟩,hv]
  ·have hl':=((Ge hin).1 hl).resolve_left fun e=>hjk (hix j hj e)
   have hne:o.dst≠some d:=by
    rcases Nat.lt_or_ge j k with hlt'|hge
    ·exact ok.dst j k oj o d hlt' hk hoj ho hd
    ·intro hdi
     exact ok.dst k j o oj d (by omega) hj ho hoj hdi hd
   have hx:(a.put o.dst v).tmps.getD d undef=a.tmps.getD d undef:=by
    cases hdi:o.dst with
    |none=>rfl
    |some e=>
     rw[Gb,if_neg]
     rintro⟨rfl,_⟩
     exact hne hdi
   rw[hx,h.s1 j oj d hj hoj hd hlt hl',hV j hj hjk hl']
 ·intro d hno
  have hne:o.dst≠some d:=hno k o hk ho ((Ge hin).2 (.inl rfl))
  have hx:(a.put o.dst v).tmps.getD d undef=a.tmps.getD d undef:=by
   cases hdi:o.dst with
   |none=>rfl
   |some e=>
    rw[Gb,if_neg]
    rintro⟨rfl,_⟩
    exact hne hdi
  rw[hx]
  exact h.s2 d fun j oj hj hoj hl=>hno j oj hj hoj ((Ge hin).2 (.inr hl))
theorem Bvq {a b:Act} (hd:a.defers=b.defers) (hz:a.tmps.size=b.tmps.size) (ht:∀t,a.tmps.getD t undef=b.tmps.getD t undef):a=b:=by
 have:a.tmps=b.tmps:=by
  apply Array.ext hz
  intro i h1 h2
  have:=ht i
  simp only[Array.getD_eq_getD_getElem?,Array.getElem?_eq_getElem h1,Array.getElem?_eq_getElem h2,Option.getD_some] at this
  exact this
 cases a;cases b
 simp only at this hd
 subst this hd
 rfl
theorem Bu6 {id:Nat} {a:Act} {w:World} {Q:Exit→Act→World→Prop} (hm:P.follows .mixedOrders=true) (ok:A3e ops n ix M E)
  (hq:∀k X A w,k <n→M k=false→S k X A w→∀o,ops[ix k]?=some o→∃v,S (k+1) X (A.put o.dst v) w∧
   ((Region.wanted o (yielded ops A.tmps)=true∧∀w',Below w.heap.size w w'→Oper.quietUpon P (fun w''=>Below w'.heap.size w' w'') w' v ((execOp A.eval o).run P w'))∨(Region.wanted o (yielded ops A.tmps)=false∧v=undef)))
  (hu:∀k X A w v,k <n→E k=true→X k=some v→S k X A w→∀o,ops[ix k]?=some o→S (k+1) X (A.put o.dst v) w)
  (heop:∀j k o o' d,j <k→k <n→E j=true→E k=true→ops[ix j]?=some o→ops[ix k]?=some o'→o.dst=some d→d∉o'.looksAt ops)
  (he:∀p k X A w,p≤k→k <n→E k=true→S p X A w→∀o,ops[ix k]?=some o→NoWr ops ix p k o→∀A':Act,(∀t∈o.looksAt ops,A'.tmps.getD t undef=A.tmps.getD t undef)→Region.wanted o (yielded ops A'.tmps)=true∧Ke P (fun v w'=>Below w.heap.size w w'∧S p (X.set k v) A w') ((execOp A'.eval o).run P w))
  (hmop:∀k X A w,k <n→M k=true→E k=false→S k X A w→∀o,ops[ix k]?=some o→(Region.wanted o (yielded ops A.tmps)=true∧Ke P (fun v w'=>(Below w.heap.size w w'∨∀j,j <k→Aeu ops (ix k) (ix j)=true∨∀V,canA ops ix a V k=A→Pend P ops ix a V w j→Pend P ops ix a V w' j)∧S (k+1) X (A.put o.dst v) w') ((execOp A.eval o).run P w))∨
   (Region.wanted o (yielded ops A.tmps)=false∧S (k+1) X (A.put o.dst undef) w))
  (hg:∀k X A w w',S k X A w→Below w.heap.size w w'→S k X A w')
  (h0:S 0 (fun _=>none) a w) (hF:∀X A w',S n X A w'→Q .normal A w'):(Code.region id ops true).wp P Q a w:=by
 have hsel:=Region.noSelect_spec ok.nosel
 refine A3d (Inv:=fun listed a' w'=>∃p V X,CInv P ops n ix M E S a listed a' w' p V X) hm ?_ ?_ ?_
 ·have h0':S 0 (fun _=>none) (canA ops ix a (fun _=>undef) 0) {w with drawn:=w.drawn+1}:=hg _ _ _ _ _ h0 ⟨rfl,rfl,rfl,Nat.le_refl _,fun _ _=>rfl⟩
  obtain⟨p,V,_,h2,_,_,h4,h5,h6⟩:=Ae4 hq hu ok (fun _=>false) n 0 (fun _=>undef) rfl (Nat.zero_le _) (fun k _ _ hl=>by cases hl) h0'
  refine⟨p,V,_,⟨⟨by simp,fun j oj _ hl=>(by rw[getD_replicate_false] at hl;cases hl),fun t _ ht=>getD_in (by simpa using ht) (getD_replicate_false _ _)⟩,h2,h4,?_,fun k hk _=>h6 k (Nat.zero_le _) hk rfl,fun k _ _ hl=>(by rw[getD_replicate_false] at hl;cases hl),rfl,rfl,?_,fun _ _=>rfl⟩⟩
  ·rcases h5 with h|⟨h,h',_⟩
   ·exact .inl h
   ·exact .inr ⟨h,h',getD_replicate_false _ _⟩
  ·intro k o d _ _ _ _ hl
   rw[getD_replicate_false] at hl
   cases hl
 ·intro listed a' w' i hz hinv hr
  obtain⟨p,V,X,h⟩:=hinv
  obtain⟨hun,o,ho,hall⟩:=mem_ready.1 hr
  have hi:i <ops.size:=(Array.getElem?_eq_some_iff.1 ho).1
  obtain⟨k,hk,rfl⟩:=ok.sur i hi
  have hunk:=getD_both hun
  have hslots:∀t∈o.looksAt ops,a'.tmps.getD t undef=(canA ops ix a V k).tmps.getD t undef:=fun t ht=>h.slot ok hk ho hunk hall ht
  have hex:execOp a'.eval o=execOp (canA ops ix a V k).eval o:=TS o (fun cs b=>hsel (ix k) o cs b ho) hslots
  have hwn:=Bac (ops:=ops) o (by rw[h.size,OF]:a'.tmps.size=(canA ops ix a V k).tmps.size) hslots
  unfold wpOp
  simp only[ho]
  -- what is left when the next one comes up
  have onward:∀v X' w'',(∀j,j <n→X' j=X j∨j=k)→k=p→((∀j,j <k→listed.getD (ix j) false=false→∀V1,canA ops ix a V1 k=canA ops ix a V k→Pend P ops ix a V1 w' j→Pend P ops ix a V1 w'' j))→S (k+1) X' ((canA ops ix a V k).put o.dst v) w''→∃p' V' X',CInv P ops n ix M E S a (listed.setIfInBounds (ix k) true) (a'.put o.dst v) w'' p' V' X':=fun v X' w'' hX' hkp hb hS=>by
   let V1:Nat→Value:=fun j=>if j=k then v else V j
   have e1:∀j,j≠k→V1 j=V j:=fun j hj=>if_neg hj
   have e2:V1 k=v:=if_pos rfl
   have e3:canA ops ix a V1 k=canA ops ix a V k:=ON fun j hj=>e1 j (by omega)
   have e4:canA ops ix a V1 (k+1)=(canA ops ix a V k).put o.dst v:=by
    show(canA ops ix a V1 k).put ((ops[ix k]?).bind (·.dst)) (V1 k)=_
    rw[e3,e2,ho];rfl
   have hL:∀j,k+1≤j→j <n→listed.getD (ix j) false=true→E j=true∧X' j=some (V1 j):=fun j h1 h2 h3=>by
    obtain⟨q1,q2⟩:=h.rest j (by omega) h2 h3
    rcases hX' j h2 with q|q
    ·exact⟨q1,by rw[q,e1 j (by omega)];exact q2⟩
    ·omega
   obtain⟨p',V',g1,g2,g3,g3',g4,g5,g6⟩:=Ae4 hq hu ok (fun j=>listed.getD (ix j) false) (n - (k+1)) (k+1) V1 rfl (by omega) hL (by rw[e4];exact hS)
   refine⟨p',V',X',h.put ok hk ho hr g2 g4 (fun j hj hne hl=>(g3' j hj hl).trans (e1 j hne)) ((g3 k (by omega)).trans e2) ?_ (fun j hj hne hl=>?_) (fun j h1 h2 h3=>?_)⟩
   ·rcases g5 with h1|⟨h1,h2,h3⟩
    ·exact .inl h1
    ·exact .inr ⟨h1,h2,by omega,h3⟩
   ·rcases Nat.lt_or_ge j k with hlt|hge
    ·exact(hb j hlt hl V rfl (h.pend j (by omega) hl)).congr fun j' hj'=>(g3 j' (by omega)).trans (e1 j' (by omega))
    ·exact g6 j (by omega) hj hl
   ·rcases h3 with h3|h3
    ·omega
    ·obtain⟨q1,q2⟩:=hL j (by omega) h2 h3
     exact⟨q1,by rw[g3' j h2 h3];exact q2⟩
  rcases Nat.lt_trichotomy k p with hlt|heq|hgt
  ·have hdone:∀w'',Below w'.heap.size w' w''→∃p' V' X',CInv P ops n ix M E S a (listed.setIfInBounds (ix k) true) (a'.put o.dst (V k)) w'' p' V' X':=fun w'' hb=>
    ⟨p,V,X,h.put ok hk ho hr h.le (hg _ _ _ _ _ h.st hb) (fun _ _ _ _=>rfl) rfl (by
     rcases h.next with h1|⟨h1,h2,h3⟩
     ·exact .inl h1
     ·exact .inr ⟨h1,h2,by omega,h3⟩) (fun j hj hne hl=>(h.pend j hj hl).grow hb) fun j h1 h2 h3=>h.rest j h1 h2 (h3.resolve_left (by omega))⟩
   rcases h.pend k hlt hunk o ho with⟨h1,h2⟩|⟨h1,h2⟩
   ·rw[if_pos (hwn.trans h1)]
    left
    refine Bu7 (v:=V k) ?_ hdone
    rw[hex]
    exact h2 w' (Below.refl _ _)
   ·rw[if_neg (by rw[hwn,h1];exact Bool.false_ne_true)]
    have:=hdone w' (Below.refl _ _)
    rw[h2] at this
    exact this
  ·subst heq
   have hMk:M k=true:=by
    rcases h.next with h1|⟨_,h2,_⟩
    ·omega
    ·exact h2
   cases hEk:E k with
   | false=>
    have main:∀v w'',(Below w'.heap.size w' w''∨∀j,j <k→Aeu ops (ix k) (ix j)=true∨∀V1,canA ops ix a V1 k=canA ops ix a V k→Pend P ops ix a V1 w' j→Pend P ops ix a V1 w'' j)→S (k+1) X ((canA ops ix a V k).put o.dst v) w''→∃p' V' X',CInv P ops n ix M E S a (listed.setIfInBounds (ix k) true) (a'.put o.dst v) w'' p' V' X':=fun v w'' hb hS=>
     onward v X w'' (fun _ _=> .inl rfl) rfl (fun j hj hl V1 hV1 hpd=>by
      rcases hb with hb|hb
      ·exact hpd.grow hb
      ·rcases hb j hj with hb|hb
       ·have:=Abq h.inv hb ho hall
        rw[hl] at this
        cases this
       ·exact hb V1 hV1 hpd) hS
    rcases hmop k X _ w' hk hMk hEk h.st o ho with⟨h1,h2⟩|⟨h1,h2⟩
    ·rw[if_pos (hwn.trans h1)]
     left
     refine Aja ?_
     rw[hex]
     exact DN h2 fun v w'' ⟨hb,hS⟩=>main v w'' hb hS
    ·rw[if_neg (by rw[hwn,h1];exact Bool.false_ne_true)]
     exact main undef w' (.inl (Below.refl _ _)) h2
   |true=>
    obtain⟨h1,h2⟩:=he k k X _ w' (Nat.le_refl _) hk hEk h.st o ho (fun j q1 q2=>absurd q2 (by omega)) a' hslots
    rw[if_pos h1]
    left
    refine Aja (DN h2 fun v w'' ⟨hb,hS⟩=>onward v (X.set k v) w'' (fun j _=>?_) rfl (fun j _ _ V1 _ hpd=>hpd.grow hb) (hu k (X.set k v) _ w'' v hk hEk (if_pos rfl) hS o ho))
    by_cases e:j=k
    ·exact .inr e
    ·exact .inl (if_neg e)
  ·have hnext:p <n∧M p=true∧listed.getD (ix p) false=false:=by
    rcases h.next with h1|h1
    ·omega
    ·exact h1
   cases hEk:E k with
   |false=>
    exfalso
    have:=Abq h.inv (ok.mop p k hgt hk hnext.2.1 hEk) ho hall
    rw[hnext.2.2] at this
    cases this
   | true=>
    have hnw:NoWr ops ix p k o:=fun j q1 q2 o' d ho' hd hm=>by
     have hl:=J6 (ok.ord j k o' o d q2 hk ho' ho (.inl ⟨hd,hm⟩)) ho hall
     exact heop j k o' o d q2 hk (h.rest j q1 (by omega) hl).1 hEk ho' ho hd hm
    obtain⟨h1,h2⟩:=he p k X _ w' (Nat.le_of_lt hgt) hk hEk h.st o ho hnw a' (fun t ht=>(hslots t ht).trans (hnw.canA (Nat.le_of_lt hgt) t ht))
    rw[if_pos h1]
    left
    refine Aja (DN h2 fun v w'' ⟨hb,hS⟩=>?_)
    let V1:Nat→Value:=fun j=>if j=k then v else V j
    have e1:∀j,j≠k→V1 j=V j:=fun j hj=>if_neg hj
    have e2:V1 k=v:=if_pos rfl
    have e3:canA ops ix a V1 p=canA ops ix a V p:=ON fun j hj=>e1 j (by omega)
    refine⟨p,V1,X.set k v,h.put ok hk ho hr h.le (by rw[e3];exact hS) (fun j _ hne _=>e1 j hne) e2 (.inr ⟨hnext.1,hnext.2.1,by omega,hnext.2.2⟩) (fun j hj hne hl=>((h.pend j hj hl).grow hb).congr fun j' hj'=>e1 j' (by omega)) fun j h1 h2 h3=>?_⟩
    by_cases e:j=k
    ·subst e
     exact⟨hEk,by rw[e2];exact if_pos rfl⟩
    ·obtain⟨q1,q2⟩:=h.rest j h1 h2 (h3.resolve_left e)
     exact⟨q1,by rw[e1 j e];exact(if_neg e).trans q2⟩
 ·intro listed a' w' hz hinv hr
  obtain⟨p,V,X,h⟩:=hinv
  have hall:=Bgv ok.back hz hr
  have hpn:p=n:=by
   rcases h.next with h1|⟨h1,h2,h3⟩
   ·exact h1
   ·rw[hall (ix p) (ok.lt p h1)] at h3;cases h3
  subst hpn
  have:a'=canA ops ix a V p:=Bvq (by rw[h.defers,Am4]) (by rw[h.size,OF]) fun t=>by
   obtain⟨l1,l2⟩:=Auh ok (V:=V) (a0:=a) (t:=t) p (Nat.le_refl _)
   by_cases hw:∃j o',j <p∧ops[ix j]?=some o'∧o'.dst=some t
   ·obtain⟨j,o',hj,ho',hd⟩:=hw
    by_cases hts:t <a.tmps.size
    ·rw[h.s1 j o' t hj ho' hd hts (hall _ (ok.lt j hj)),l1 j o' hj ho' hd hts]
    ·have e1:a'.tmps.getD t undef=undef:=by
      rw[Array.getD_eq_getD_getElem?,Array.getElem?_eq_none (by rw[h.size];exact Nat.le_of_not_lt hts)];rfl
     have e2:(canA ops ix a V p).tmps.getD t undef=undef:=by
      rw[Array.getD_eq_getD_getElem?,Array.getElem?_eq_none (by rw[OF];exact Nat.le_of_not_lt hts)];rfl
     rw[e1,e2]
   ·rw[h.s2 t fun j o' hj ho' _ hd=>hw ⟨j,o',hj,ho',hd⟩,l2 fun j o' hj ho' hd=>hw ⟨j,o',hj,ho',hd⟩]
  rw[this]
  exact hF _ _ _ h.st
end canon
def A6b (ops:Array Oper) (order:List Nat) (kinds:List Nat) (ea:Nat→Bool) (cm:Nat→Nat→Bool):Bool:=
 Bbq ops&&Region.noSelect ops&&Nat.beq order.length ops.size&&(List.range ops.size).all (fun i=>order.contains i)&&order.all (fun i=>Nat.blt i ops.size)&&
 (List.range order.length).all (fun k=>!(ea k)||Nat.blt 0 (kinds.getD k 0))&&
 (List.range order.length).all fun k=>(List.range k).all fun j=>!(Nat.beq (order.getD j 0) (order.getD k 0))&&
  (!Nat.blt 0 (kinds.getD j 0)||(ea k||Aeu ops (order.getD k 0) (order.getD j 0)))&&(!Nat.blt 1 (kinds.getD k 0)||(Aeu ops (order.getD k 0) (order.getD j 0)||cm j k))&&
  match ops[order.getD j 0]?,ops[order.getD k 0]? with
  |some o,some o'=>(match o.dst with|some d=>o'.dst !=some d|none=>true)&&(!Bty ops o o'||Region.waitsFor .any ops (order.getD k 0) (order.getD j 0))
  |_,_=>true
def B0v (ops:Array Oper) (order:List Nat) (ea:Nat→Bool):Bool:=(List.range order.length).all fun k=>!(ea k)||(List.range k).all fun j=>!(ea j)||match ops[order.getD j 0]?,ops[order.getD k 0]? with
 |some o,some o'=>(match o.dst with|some d=>!((o'.looksAt ops).contains d)|none=>true)
 |_,_=>true
theorem Bwf {ops:Array Oper} {order:List Nat} {ea:Nat→Bool} (h:B0v ops order ea=true):∀j k o o' d,j <k→k <order.length→ea j=true→ea k=true→ops[order.getD j 0]?=some o→ops[order.getD k 0]?=some o'→o.dst=some d→d∉o'.looksAt ops:=fun j k o o' d hjk hk hj he ho ho' hd hm=>by
 have h1:=List.all_eq_true.1 h k (List.mem_range.2 hk)
 rw[he,Bool.not_true,Bool.false_or] at h1
 have h2:=List.all_eq_true.1 h1 j (List.mem_range.2 hjk)
 rw[hj,Bool.not_true,Bool.false_or,ho,ho'] at h2
 simp only[hd] at h2
 have h3:(o'.looksAt ops).contains d=true:=by simpa using hm
 rw[h3] at h2
 cases h2
theorem Bns {ops:Array Oper} {order kinds:List Nat} {ea:Nat→Bool} {cm:Nat→Nat→Bool} (h:A6b ops order kinds ea cm=true):A3e ops order.length (fun k=>order.getD k 0) (fun k=>Nat.blt 0 (kinds.getD k 0)) ea∧
  order.length=ops.size∧∀k,k <order.length→Nat.blt 1 (kinds.getD k 0)=true→∀j,j <k→Aeu ops (order.getD k 0) (order.getD j 0)=true∨cm j k=true:=by
 simp only[A6b,Bool.and_eq_true] at h
 obtain⟨⟨⟨⟨⟨⟨h1,h2⟩,h3⟩,h4⟩,h5⟩,h55⟩,h6⟩:=h
 have hp:∀j k,j <k→k <order.length→_:=fun j k hjk hk=>List.all_eq_true.1 (List.all_eq_true.1 h6 k (List.mem_range.2 hk)) j (List.mem_range.2 hjk)
 refine⟨⟨h1,h2,fun k hk=>?_,fun j k hjk hk e=>?_,fun i hi=>?_,fun j k o o' d hjk hk ho ho' hd=>?_,fun j k o o' d hjk hk ho ho' hc=>?_,fun j k hjk hk hm he=>?_,fun k hk he=>?_⟩,Nat.eq_of_beq_eq_true h3,fun k hk hs j hjk=>?_⟩
 ·have:=List.all_eq_true.1 h5 (order.getD k 0) (by rw[List.getD_eq_getElem?_getD,List.getElem?_eq_getElem hk];exact List.getElem_mem hk)
  exact Nat.le_of_ble_eq_true this
 ·have:=hp j k hjk hk
  simp only[Bool.and_eq_true] at this
  have h7:=this.1.1.1
  have e':order.getD j 0=order.getD k 0:=e
  rw[e'] at h7
  simp at h7
 ·have:=List.all_eq_true.1 h4 i (List.mem_range.2 hi)
  have hm:i∈order:=by simpa using this
  obtain⟨k,hk,he⟩:=List.getElem_of_mem hm
  exact⟨k,hk,by rw[List.getD_eq_getElem?_getD,List.getElem?_eq_getElem hk];exact he⟩
 ·have:=hp j k hjk hk
  simp only[Bool.and_eq_true,ho,ho'] at this
  have h7:=this.2.1
  simpa[hd] using h7
 ·have:=hp j k hjk hk
  simp only[Bool.and_eq_true,ho,ho'] at this
  have h7:=this.2.2
  have hs:Bty ops o o'=true:=by
   unfold Bty
   rcases hc with⟨hd,hm⟩|⟨hd,hm⟩
   ·simp[hd,hm]
   ·simp[hd,hm]
  simpa[hs] using h7
 ·have:=hp j k hjk hk
  simp only[Bool.and_eq_true] at this
  have h7:=this.1.1.2
  have hm':Nat.blt 0 (kinds.getD j 0)=true:=hm
  rw[hm',he] at h7
  exact h7
 ·have h7:=List.all_eq_true.1 h55 k (List.mem_range.2 hk)
  rw[he] at h7
  exact h7
 ·have:=hp j k hjk hk
  simp only[Bool.and_eq_true] at this
  have h7:=this.1.2
  rw[hs] at h7
  simpa using h7
end Go.Proofs.Yteebobbhhgmeiaa
namespace Go.Proofs.Yteebobbhhgmeiaa
open Go.RowKit
structure Eff where
 x:A
 nx:Nat
 o:Objs
 k:Nat
 ps:List Prop
def EK (F:Nat→Prop) (N:Nm) (nx:Nat) (o:Objs) (R:World) (f:Eff) (v:Value) (R':World):Prop:=
 ∃F' N',HRel F' N' f.nx f.o R'∧Step F N nx o R F' N' f.nx f.o R'∧Hv F' N' f.nx R' f.x v∧(f.k≤1→Below R.heap.size R R')
section
variable {F:Nat→Prop} {N:Nm} {nx:Nat} {o:Objs} {R R':World}
theorem Qg (ob:Obj):Below R.heap.size R (R.alloc ob):=(Below.refl _ _).alloc (Nat.le_refl _) _
theorem HL.up {N':Nm} {nx':Nat} {xs:List A} {vs:List Value} (st:Ext F N nx R F N' nx' R') (h:HL F N nx R xs vs):HL F N' nx' R' xs vs:=h.step st
theorem Bhj (h:HRel F N nx o R) {ob:Ob} {B:Obj} {k:Nat} {ps:List Prop} {x:A} {v:Value} (hfoot:∀N' g,foot N' nx ob g→g=N'.b nx)
  (hob:Ext F N nx R F (N.setB nx R.heap.size) (nx+1) (R.alloc B)→(R.alloc B).heap[(N.setB nx R.heap.size).b nx]?=some B→ObR F (N.setB nx R.heap.size) (nx+1) (R.alloc B) nx ob)
  (hx:Hv F (N.setB nx R.heap.size) (nx+1) (R.alloc B) x v):
  EK F N nx o R ⟨x,nx+1,(nx,some ob)::o,k,ps⟩ v (R.alloc B):=by
 have hb:(R.alloc B).heap[(N.setB nx R.heap.size).b nx]?=some B:=by
  show(R.alloc B).heap[Ko N.b nx R.heap.size nx]?=_
  rw[BU]
  exact heap_alloc_new R _
 have hne:∀i,i <nx→(N.setB nx R.heap.size).b i=N.b i:=fun i hi=>EH _ _ (by omega)
 obtain⟨h1,h2⟩:=h.upd (R':=R.alloc B) (N':=N.setB nx R.heap.size) (nx':=nx+1) (o':=(nx,some ob)::o) (i0:=nx) (ob0:=ob) (T:=fun _=>False) rfl rfl rfl (by simp)
  (fun g hg=>hg.elim) (fun g hg _=>Below.heap_alloc R _ g hg) (by omega) hne (fun _ _=>rfl)
  (fun i ob' hi hl=>by rw[Bd,if_neg hi] at hl;exact⟨hl,fun _ _ hf=>hf.elim⟩)
  (fun ob' hl=>by rw[Bd,if_pos rfl] at hl;exact(Option.some.inj hl).symm) (by omega) (fun st=>hob st hb)
  (fun g hg=> .inl (by rw[hfoot _ g hg];show R.heap.size≤Ko N.b nx R.heap.size nx;rw[BU];exact Nat.le_refl _))
 exact⟨F,N.setB nx R.heap.size,h1,h2,hx,fun _=>Qg _⟩
theorem Bhl (h:HRel F N nx o R) {i:Nat} {ob ob':Ob} {B B0:Obj} {ps:List Prop} {x:A} {v:Value} (hl:Ao i o=some ob) (hf:foot N i ob (N.b i)) (hf':∀g,foot N i ob' g→g=N.b i) (hb:R.heap[N.b i]?=some B0)
  (hob:{R with heap:=R.heap.setIfInBounds (N.b i) B}.heap[N.b i]?=some B→ObR F N nx {R with heap:=R.heap.setIfInBounds (N.b i) B} i ob') (hx:Hv F N nx {R with heap:=R.heap.setIfInBounds (N.b i) B} x v):
  EK F N nx o R ⟨x,nx,(i,some ob')::o,2,ps⟩ v {R with heap:=R.heap.setIfInBounds (N.b i) B}:=by
 have hi:=(h.ob i _ hl).1
 have hlt:=HW hb
 have hset:{R with heap:=R.heap.setIfInBounds (N.b i) B}.heap[N.b i]?=some B:=by simp[hlt]
 obtain⟨h1,h2⟩:=h.upd (R':={R with heap:=R.heap.setIfInBounds (N.b i) B}) (N':=N) (nx':=nx) (o':=(i,some ob')::o) (i0:=i) (ob0:=ob') (T:=fun g=>g=N.b i) rfl rfl rfl (by simp)
  (fun g hg=>⟨i,_,hl,by rw[show g=N.b i from hg];exact hf⟩) (fun g _ hg=>by have hne:¬N.b i=g:=fun e=>hg e.symm;simp[hne]) (Nat.le_refl _) (fun _ _=>rfl) (fun _ _=>rfl)
  (fun j ob2 hj hl'=>by
   rw[Bd,if_neg hj] at hl'
   refine⟨hl',fun g hg e=>hj ?_⟩
   have e':g=N.b i:=e
   subst e'
   exact h.sep j i ob2 _ _ hl' hl hg hf)
  (fun ob2 hl'=>by rw[Bd,if_pos rfl] at hl';exact(Option.some.inj hl').symm) hi
  (fun _=>hob hset) (fun g hg=> .inr (hf' g hg))
 exact⟨F,N,h1,h2,hx,fun hk=>by cases hk with|step hk=>cases hk⟩
theorem Bru (h:HRel F N nx o R) {cs:List A} {vs:List Value} (hc:HL F N nx R cs vs) (e:TypeId) (k:Nat) (ps:List Prop):
  EK F N nx o R ⟨.own nx 0,nx+1,(nx,some (.box e cs))::o,k,ps⟩ (.pointer (some ⟨R.heap.size,0,none⟩)) (R.alloc (.cells vs.toArray e (0,0))):=by
 refine Bhj h (fun N' g hg=>hg) (fun st hb=>⟨vs,hc.step st,hb⟩) ?_
 have:(⟨R.heap.size,0,none⟩:Addr)=⟨(N.setB nx R.heap.size).b nx,0,none⟩:=by
  show _=(⟨Ko N.b nx R.heap.size nx,0,none⟩:Addr)
  rw[BU]
 rw[this]
 exact .own (by omega)
def Ajo (o:Objs):Option Nat→Objs
 |none=>o
 |some i=>(i,none)::o
theorem Bdq {d:Option Nat} {i:Nat} {ob:Ob} (h:Ao i (Ajo o d)=some ob):Ao i o=some ob∧d≠some i:=by
 cases d with
 |none=>exact⟨h,fun e=>by cases e⟩
 |some j=>
  have h':Ao i ((j,none)::o)=some ob:=h
  rw[Bd] at h'
  by_cases e:i=j
  ·rw[if_pos e] at h';cases h'
  ·rw[if_neg e] at h';exact⟨h',fun e'=>e (Option.some.inj e').symm⟩
theorem A6q (h:HRel F N nx o R) {d:Option Nat} {e:TypeId} {size:Nat} {els:Els} {zs:List Value} {v:Value} {k:Nat} {ps:List Prop}
  (hos:R'.os=R.os) (htape:R'.tape=R.tape) (hout:R'.output=R.output) (hsz:R.heap.size≤R'.heap.size)
  (hd:∀i,d=some i→∃e' s' els',Ao i o=some (.arr e' s' els'))
  (keep:∀g,g <R.heap.size→(∀i,d=some i→CR (N.q i)≠some g)→R'.heap[g]?=R.heap[g]?)
  (hown:OwnR R' e size v els.n zs) (hels:RowHL F N nx R els size zs) (hnew:∀g,CR v=some g→R.heap.size≤g∨∃i,d=some i∧CR (N.q i)=some g) (hk:k≤1→d=none):
  EK F N nx o R ⟨.sq nx,nx+1,(nx,some (.arr e size els))::Ajo o d,k,ps⟩ v R':=by
 let T:Nat→Prop:=fun g=>∃i,d=some i∧CR (N.q i)=some g
 have hq:(N.setQ nx v).q nx=v:=BU _ _ _
 have hne:∀i,i <nx→(N.setQ nx v).q i=N.q i:=fun i hi=>EH _ _ (by omega)
 have keep':∀g,g <R.heap.size→¬T g→R'.heap[g]?=R.heap[g]?:=fun g hg ht=>keep g hg fun i hi hb=>ht ⟨i,hi,hb⟩
 obtain⟨h1,h2⟩:=h.upd (R':=R') (N':=N.setQ nx v) (nx':=nx+1) (o':=(nx,some (.arr e size els))::Ajo o d) (i0:=nx) (ob0:=.arr e size els) (T:=T) hos htape hout hsz
  (fun g ⟨i,hi,hg⟩=>by obtain⟨e',s',els',hl⟩:=hd i hi;exact⟨i,_,hl,hg⟩) keep' (by omega) (fun _ _=>rfl) hne
  (fun i ob' hi hl=>by
   rw[Bd,if_neg hi] at hl
   obtain⟨g1,g2⟩:=Bdq hl
   refine⟨g1,fun g hg ⟨j,hj,hb⟩=>?_⟩
   obtain⟨e',s',els',hl'⟩:=hd j hj
   have:=h.sep i j ob' _ g g1 hl' hg hb
   subst this
   exact g2 hj)
  (fun ob' hl=>by rw[Bd,if_pos rfl] at hl;exact(Option.some.inj hl).symm) (by omega)
  (fun st=>⟨zs,by rw[hq];exact hown,(hels.step st).2⟩)
  (fun g hg=>by
   have hg':CR ((N.setQ nx v).q nx)=some g:=hg
   rw[hq] at hg'
   exact hnew g hg')
 refine⟨F,N.setQ nx v,h1,h2,?_,fun hk'=>⟨hos,htape,hout,hsz,fun g hg=>keep' g hg fun⟨i,hi,_⟩=>by rw[hk hk'] at hi;cases hi⟩⟩
 have:=Hv.sq (F:=F) (N:=N.setQ nx v) (nx:=nx+1) (R:=R') (i:=nx) (by omega)
 rwa[hq] at this
theorem Brv (h:HRel F N nx o R) {i:Nat} {e:TypeId} {cs cs':List A} {vs vs':List Value} {ps:List Prop} (hl:Ao i o=some (.box e cs)) (hc':HL F N nx R cs' vs') (hb:R.heap[N.b i]?=some (.cells vs.toArray e (0,0))):
  EK F N nx o R ⟨.v undef,nx,(i,some (.box e cs'))::o,2,ps⟩ undef (R.setRow (N.b i) vs'.toArray):=by
 have hi:=(h.ob i _ hl).1
 obtain⟨h1,h2⟩:=h.upd (R':=R.setRow (N.b i) vs'.toArray) (N':=N) (nx':=nx) (o':=(i,some (.box e cs'))::o) (i0:=i) (ob0:=.box e cs') (T:=fun g=>g=N.b i) rfl rfl rfl (by simp)
  (fun g hg=>⟨i,_,hl,hg⟩) (fun g _ hg=>setRow_other R _ g _ (fun e=>hg e)) (Nat.le_refl _) (fun _ _=>rfl) (fun _ _=>rfl)
  (fun j ob' hj hl'=>by
   rw[Bd,if_neg hj] at hl'
   refine⟨hl',fun g hg e=>hj ?_⟩
   subst e
   exact h.sep j i ob' _ _ hl' hl hg rfl)
  (fun ob' hl'=>by rw[Bd,if_pos rfl] at hl';exact(Option.some.inj hl').symm) hi
  (fun st=>⟨vs',hc'.step st,setRow_heap R _ _ _ e _ hb⟩) (fun g hg=> .inr hg)
 exact⟨F,N,h1,h2,.v _,fun hk=>by cases hk with|step hk=>cases hk⟩
theorem Bhk (h:HRel F N nx o R) {i:Nat} {e:TypeId} {size:Nat} {els els':Els} {zs':List Value} {ps:List Prop} (hl:Ao i o=some (.arr e size els))
  (hos:R'.os=R.os) (htape:R'.tape=R.tape) (hout:R'.output=R.output) (hsz:R.heap.size≤R'.heap.size)
  (keep:∀g,g <R.heap.size→CR (N.q i)≠some g→R'.heap[g]?=R.heap[g]?) (hown:OwnR R' e size (N.q i) els'.n zs') (hels:RowHL F N nx R els' size zs') {v:Value} {x:A} (hx:∀F' N',Hv F' N' nx R' x v):
  EK F N nx o R ⟨x,nx,(i,some (.arr e size els'))::o,2,ps⟩ v R':=by
 have hi:=(h.ob i _ hl).1
 obtain⟨h1,h2⟩:=h.upd (R':=R') (N':=N) (nx':=nx) (o':=(i,some (.arr e size els'))::o) (i0:=i) (ob0:=.arr e size els') (T:=fun g=>CR (N.q i)=some g) hos htape hout hsz
  (fun g hg=>⟨i,_,hl,hg⟩) keep (Nat.le_refl _) (fun _ _=>rfl) (fun _ _=>rfl)
  (fun j ob' hj hl'=>by
   rw[Bd,if_neg hj] at hl'
   exact⟨hl',fun g hg e=>hj (h.sep j i ob' _ g hl' hl hg e)⟩)
  (fun ob' hl'=>by rw[Bd,if_pos rfl] at hl';exact(Option.some.inj hl').symm) hi
  (fun st=>⟨zs',hown,(hels.step st).2⟩) (fun g hg=> .inr hg)
 exact⟨F,N,h1,h2,hx F N,fun hk=>by cases hk with|step hk=>cases hk⟩
theorem Bwa (h:HRel F N nx o R) {i k col:Nat} {e e':TypeId} {c c':TC} {l:List (U c)} {l' l2:List (U c')} {us:List Value} {ps:List Prop} (hl:Ao i o=some (.deep e c l)) (hk:k <l.length) (hc:ZG c=some (col,c')) (hi:Avg c (l.getD k (Ac c))=some ⟨c',l'⟩)
  (hos:R'.os=R.os) (htape:R'.tape=R.tape) (hout:R'.output=R.output) (hsz:R.heap.size≤R'.heap.size)
  (keep:∀g,g <R.heap.size→CR (Nr (N.q i) (k+1))≠some g→R'.heap[g]?=R.heap[g]?) (hown:OwnR R' e' (size c') (Nr (N.q i) (k+1)) l2.length us) (hels:RowHL F N nx R (.ty c' l2) (size c') us) {v:Value} {x:A} (hx:∀F' N',Hv F' N' nx R' x v):
  EK F N nx o R ⟨x,nx,(i,some (.deep e c (l.set k (Zx c c' (l.getD k (Ac c)) l2))))::o,2,ps⟩ v R':=by
 obtain⟨hin,col',c1,zs,h2,h3,h4,h5,h6⟩:=h.ob i _ hl
 rw[hc] at h2
 cases h2
 obtain⟨h1,h2⟩:=h.upd (R':=R') (N':=N) (nx':=nx) (o':=(i,some (.deep e c (l.set k (Zx c c' (l.getD k (Ac c)) l2))))::o) (i0:=i) (ob0:=.deep e c (l.set k (Zx c c' (l.getD k (Ac c)) l2))) (T:=fun g=>foot N i (.deep e c l) g) hos htape hout hsz
  (fun g hg=>⟨i,_,hl,hg⟩) (fun g hg hn=>keep g hg fun e=>hn ⟨k+1,by omega,e⟩) (Nat.le_refl _) (fun _ _=>rfl) (fun _ _=>rfl)
  (fun j ob' hj hl'=>by
   rw[Bd,if_neg hj] at hl'
   exact⟨hl',fun g hg e=>hj (h.sep j i ob' _ g hl' hl hg e)⟩)
  (fun ob' hl'=>by rw[Bd,if_pos rfl] at hl';exact(Option.some.inj hl').symm) hin
  (fun st=>by
   have h33:=h3.keep fun g hg=>keep g (h3.lt hg) fun hg'=>(by have:=h6 0 (k+1) g (by omega) (by omega) hg hg';omega)
   refine⟨col,c',zs,hc,(by rw[List.length_set];exact h33),fun k2 d hd=>?_,fun k2 d hd=>?_,(by rw[List.length_set];exact h6)⟩
   ·by_cases hkk:k2=k
    ·subst hkk
     rw[List.getElem?_set_self hk] at hd
     cases hd
     obtain⟨l1,_,_,q1,_⟩:=h5 k2 _ (getD_some hk)
     rw[Aiv hc,Auz q1]
     exact(h4 k2 _ (getD_some hk)).step st
    ·rw[List.getElem?_set_ne (fun e=>hkk e.symm)] at hd
     exact(h4 k2 d hd).step st
   ·by_cases hkk:k2=k
    ·subst hkk
     rw[List.getElem?_set_self hk] at hd
     cases hd
     obtain⟨l1,_,_,q1,_⟩:=h5 k2 _ (getD_some hk)
     exact⟨l2,e',us,by rw[Aiv hc,List.getElem?_set_self (List.getElem?_eq_some_iff.1 q1).1],hown,fun j hj=>((hels.2 j hj).step st)⟩
    ·rw[List.getElem?_set_ne (fun e=>hkk e.symm)] at hd
     obtain⟨l1,e1,us1,q1,q2,q3⟩:=h5 k2 d hd
     have hk2:=(List.getElem?_eq_some_iff.1 hd).1
     exact⟨l1,e1,us1,q1,q2.keep fun g hg=>keep g (q2.lt hg) fun hg'=>(by have:=h6 (k2+1) (k+1) g (by omega) (by omega) hg hg';omega),fun j hj=>(q3 j hj).step st⟩)
  (fun g ⟨k2,hk2,hg⟩=> .inr ⟨k2,by rw[List.length_set] at hk2;exact hk2,hg⟩)
 exact⟨F,N,h1,h2,hx F N,fun hk=>by cases hk with|step hk=>cases hk⟩
theorem HL.set2:∀{xs:List A} {vs:List Value} {j:Nat} {x:A} {v:Value},HL F N nx R xs vs→Hv F N nx R x v→HL F N nx R (xs.set j x) (vs.set j v)
 | [],_,_,_,_,h,_=>by rw[h.inv0];exact HL.nil
 |y::r,_,0,_,_,h,hx=>by obtain⟨w,ws,rfl,_,h2⟩:=h.inv;exact HL.cons hx h2
 |y::r,_,j+1,_,_,h,hx=>by obtain⟨w,ws,rfl,h1,h2⟩:=h.inv;exact HL.cons h1 (HL.set2 h2 hx)
theorem A3x {i k:Nat}:∀{cs:List A},(∀(p:Nat) (c:TC) (l:List (U c)),cs[p]?≠some (.sl c l))→Nq i k cs=cs
 | [],_=>rfl
 |x::r,h=>by
  have hr:=A3x (i:=i) (k:=k) (cs:=r) fun p c l=>h (p+1) c l
  cases x<;>first|exact absurd rfl (h 0 _ _)|(unfold Nq;rw[hr])
theorem HL.own {i k:Nat} {y:Value} (hi:i <nx) (hy:y=Nr (N.q i) (k+1)):∀{cs:List A} {vs:List Value} {col:Nat},(∀(p:Nat) (c:TC) (l:List (U c)),cs[p]?=some (.sl c l)→p=col)→(∃(c:TC) (l:List (U c)),cs[col]?=some (.sl c l))→HL F N nx R cs vs→HL F N nx R (Nq i k cs) (vs.set col y)
 | [],_,col,_,⟨c,l,h⟩,_=>by cases col<;>cases h
 |x::r,_,0,h1,⟨c,l,h2⟩,h=>by
  obtain⟨w,ws,rfl,_,h4⟩:=h.inv
  cases h2
  have:Nq i k r=r:=A3x fun p c l hp=>by have:=h1 (p+1) c l hp;omega
  show HL F N nx R (.iv i k::Nq i k r) (y::ws)
  rw[this,hy]
  exact HL.cons (.iv hi) h4
 |x::r,_,col+1,h1,⟨c,l,h2⟩,h=>by
  obtain⟨w,ws,rfl,h3,h4⟩:=h.inv
  have ih:=HL.own hi hy (cs:=r) (col:=col) (fun p c l hp=>by have:=h1 (p+1) c l hp;omega) ⟨c,l,h2⟩ h4
  cases x<;>first|(have:=h1 0 _ _ rfl;omega)|(unfold Nq;exact HL.cons h3 ih)
theorem HL.moved {N':Nm} {nx' i i' k:Nat} (st:Ext F N nx R F N' nx' R') (hi':i' <nx') (hf:Nr (N'.q i') (k+1)=Nr (N.q i) (k+1)):∀{cs:List A} {vs:List Value},HL F N nx R (Nq i k cs) vs→HL F N' nx' R' (Nq i' k cs) vs
 | [],_,h=>by rw[h.inv0];exact HL.nil
 | x::r,vs,h=>by
  cases x
  case sl c l=>
   obtain⟨w,ws,rfl,h1,h2⟩:=h.inv
   rw[h1.iv_inv.2,←hf]
   exact HL.cons (.iv hi') (HL.moved st hi' hf h2)
  all_goals
   obtain⟨w,ws,rfl,h1,h2⟩:=h.inv
   exact HL.cons (h1.step st) (HL.moved st hi' hf h2)
theorem Ab4 {c c':TC} {col:Nat} (h:ZG c=some (col,c')) (d:U c) (p:Nat) (c2:TC) (l2:List (U c2)) (hp:(enc c d)[p]?=some (.sl c2 l2)):p=col:=by
 cases c<;>cases h<;>(rcases p with _|_|_|_|_|_|_|_|_|_|_|p)<;>first|rfl|(cases hp;done)
def Brp (o:Objs) (c:TC) (cs:List A):Option (Nat×U c×List Prop):=match ZG c with
 | some (col,c')=>match cs[col]? with
  | some (.sq j)=>match Ao j o with
   | some (.arr _ sz els)=>bif Nat.beq sz (size c') then(match US c' els with
    |some (l',ps)=>match YG c (cs.set col (.sl c' [])) with
     |some (d0,qs)=>some (j,Zx c c' d0 l',ps++qs)
     |none=>none
    |none=>none) else none
   |_=>none
  |_=>none
 |none=>none
theorem Bv9 (h:HRel F N nx o R) {i j:Nat} {e:TypeId} {c:TC} {l:List (U c)} {cs:List A} {d:U c} {qs ps:List Prop} {zs us:List Value} {v:Value} (hl:Ao i o=some (.deep e c l)) (hd:Brp o c cs=some (j,d,qs)) (hqs:∀p∈qs,p) (hu:HL F N nx R cs us) (hus:us.length=size c)
  (hz:OwnR R e (size c) (Nr (N.q i) 0) l.length zs) (hzs:∀k,k <l.length→HL F N nx R (Nq i k (enc c (l.getD k (Ac c)))) ((zs.drop (k*size c)).take (size c)))
  (hos:R'.os=R.os) (htape:R'.tape=R.tape) (hout:R'.output=R.output) (hsz:R.heap.size≤R'.heap.size)
  (keep:∀g,g <R.heap.size→CR (Nr (N.q i) 0)≠some g→R'.heap[g]?=R.heap[g]?) (hown:OwnR R' e (size c) v (l.length+1) (zs++us)) (hnew:∀g,CR v=some g→R.heap.size≤g∨CR (Nr (N.q i) 0)=some g):
  EK F N nx o R ⟨.dq nx,nx+1,(nx,some (.deep e c (l++[d])))::(j,none)::(i,none)::o,2,ps⟩ v R':=by
 obtain⟨hin,col,c',zs0,hcol,_,_,h5,h6⟩:=h.ob i _ hl
 unfold Brp at hd
 rw[hcol] at hd
 simp only at hd
 split at hd<;>first|(cases hd;done)|skip
 rename_i j' hj'
 split at hd<;>first|(cases hd;done)|skip
 rename_i e1 sz1 els hlj
 cases hb:Nat.beq sz1 (size c') with
 |false=>rw[hb] at hd;cases hd
 |true=>
 rw[hb] at hd
 simp only[cond_true] at hd
 split at hd<;>first|(cases hd;done)|skip
 rename_i l' ps1 hel
 split at hd<;>first|(cases hd;done)|skip
 rename_i d0 qs1 hdec
 cases hd
 obtain rfl:=Nat.eq_of_beq_eq_true hb
 have hp1:∀p∈ps1,p:=fun p hm=>hqs p (List.mem_append.2 (.inl hm))
 have hp2:∀p∈qs1,p:=fun p hm=>hqs p (List.mem_append.2 (.inr hm))
 obtain⟨hjn,ws,w1,w2⟩:=h.ob j _ hlj
 have hrow:RowHL F N nx R (.ty c' l') (size c') ws:=(show RowHL F N nx R els (size c') ws from⟨w1.1,w2⟩).ty hel hp1
 have hln:l'.length=els.n:=(K9 (F:=F) (N:=N) (nx:=nx) (R:=R) hel hp1).1
 have hij:i≠j:=fun e=>by subst e;rw[hl] at hlj;cases hlj
 have hsep:∀g,(∃k,k <l.length+1∧CR (Nr (N.q i) k)=some g)→CR (N.q j)=some g→False:=fun g hg hg'=>hij (h.sep i j _ _ g hl hlj hg hg')
 let W:List Value:=v::((List.range l.length).map (fun k=>Nr (N.q i) (k+1))++[N.q j])
 have hq:(N.setQ nx (.agg W.toArray)).q nx=.agg W.toArray:=BU _ _ _
 have hne:∀m,m <nx→(N.setQ nx (.agg W.toArray)).q m=N.q m:=fun m hm=>EH _ _ (by omega)
 have famW:∀k,Nr ((N.setQ nx (.agg W.toArray)).q nx) k=W.getD k undef:=fun k=>by
  rw[hq]
  show W.toArray.getD k undef=_
  simp
 have f0:Nr ((N.setQ nx (.agg W.toArray)).q nx) 0=v:=by rw[famW];rfl
 have fk:∀k,k <l.length→Nr ((N.setQ nx (.agg W.toArray)).q nx) (k+1)=Nr (N.q i) (k+1):=fun k hk=>by
  rw[famW]
  show((List.range l.length).map (fun k=>Nr (N.q i) (k+1))++[N.q j]).getD k undef=_
  rw[List.getD_eq_getElem?_getD,List.getElem?_append_left (by simpa using hk),List.getElem?_map,List.getElem?_range hk]
  rfl
 have fl:Nr ((N.setQ nx (.agg W.toArray)).q nx) (l.length+1)=N.q j:=by
  rw[famW]
  show((List.range l.length).map (fun k=>Nr (N.q i) (k+1))++[N.q j]).getD l.length undef=_
  rw[List.getD_eq_getElem?_getD,List.getElem?_append_right (by simp)]
  simp
 have hlen:(l++[Zx c c' d0 l']).length=l.length+1:=by simp
 have cls:∀k g,k <l.length+2→CR (Nr ((N.setQ nx (.agg W.toArray)).q nx) k)=some g→(k=0∧(R.heap.size≤g∨CR (Nr (N.q i) 0)=some g))∨(1≤k∧k <l.length+1∧CR (Nr (N.q i) k)=some g)∨(k=l.length+1∧CR (N.q j)=some g):=fun k g hk hg=>by
  cases k with
  |zero=>rw[f0] at hg;exact .inl ⟨rfl,hnew g hg⟩
  | succ k=>
   by_cases hkl:k <l.length
   ·rw[fk k hkl] at hg;exact .inr (.inl ⟨by omega,by omega,hg⟩)
   ·obtain rfl:k=l.length:=by omega
    rw[fl] at hg;exact .inr (.inr ⟨rfl,hg⟩)
 have inlt:∀k g,k <l.length+1→CR (Nr (N.q i) k)=some g→g <R.heap.size:=fun k g hk hg=>(h.ob i _ hl).2.lt (g:=g) ⟨k,hk,hg⟩
 have jlt:∀g,CR (N.q j)=some g→g <R.heap.size:=fun g hg=>w1.lt hg
 have keepI:∀k,1≤k→k <l.length+1→∀g,CR (Nr (N.q i) k)=some g→R'.heap[g]?=R.heap[g]?:=fun k hk1 hk g hg=>keep g (inlt k g hk hg) fun hg'=>(by have:=h6 0 k g (by omega) hk hg' hg;omega)
 obtain ⟨h1,h2⟩:=h.upd (R':=R') (N':=N.setQ nx (.agg W.toArray)) (nx':=nx+1) (o':=(nx,some (.deep e c (l++[Zx c c' d0 l'])))::(j,none)::(i,none)::o) (i0:=nx) (ob0:=.deep e c (l++[Zx c c' d0 l'])) (T:=fun g=>foot N i (.deep e c l) g∨CR (N.q j)=some g) hos htape hout hsz
  (fun g hg=>by
   rcases hg with hg|hg
   ·exact⟨i,_,hl,hg⟩
   ·exact⟨j,_,hlj,hg⟩)
  (fun g hg hn=>keep g hg fun e=>hn (.inl ⟨0,by omega,e⟩)) (by omega) (fun _ _=>rfl) hne
  (fun m ob' hm hl'=>by
   rw[Bd,if_neg hm,Bd] at hl'
   split at hl'<;>first|(cases hl';done)|skip
   rename_i hmj
   rw[Bd] at hl'
   split at hl'<;>first|(cases hl';done)|skip
   rename_i hmi
   refine⟨hl',fun g hg ht=>?_⟩
   rcases ht with ht|ht
   ·exact hmi (h.sep m i ob' _ g hl' hl hg ht)
   ·exact hmj (h.sep m j ob' _ g hl' hlj hg ht))
  (fun ob' hl'=>by rw[Bd,if_pos rfl] at hl';exact(Option.some.inj hl').symm) (by omega)
  (fun st=>by
   refine⟨col,c',zs++us,hcol,by rw[f0,hlen];exact hown,fun k d1 hd1=>?_,fun k d1 hd1=>?_,fun k k' g hk hk' hg hg'=>?_⟩
   ·by_cases hkl:k <l.length
    ·rw[List.getElem?_append_left hkl] at hd1
     have e0:l.getD k (Ac c)=d1:=by rw[List.getD_eq_getElem?_getD,hd1];rfl
     have hle:k*size c+size c≤zs.length:=by rw[hz.1,←Nat.succ_mul];exact Nat.mul_le_mul_right _ hkl
     have e2:((zs++us).drop (k*size c)).take (size c)=(zs.drop (k*size c)).take (size c):=by
      rw[List.drop_append_of_le_length (by omega),List.take_append_of_le_length (by rw[List.length_drop];omega)]
     rw[e2]
     have:=hzs k hkl
     rw[e0] at this
     exact this.moved st (by omega) (fk k hkl)
    ·have hkn:k=l.length:=by
      have:=(List.getElem?_eq_some_iff.1 hd1).1
      simp at this
      omega
     subst hkn
     have e1:d1=Zx c c' d0 l':=by
      rw[List.getElem?_append_right (Nat.le_refl _)] at hd1
      simp at hd1
      exact hd1.symm
     subst e1
     have e2:((zs++us).drop (l.length*size c)).take (size c)=us:=by
      rw[←hz.1,List.drop_left,←hus,List.take_length]
     rw[e2]
     obtain⟨l0,hl0⟩:=A3t hcol d0
     rw[Aiv hcol,Auz hl0]
     have hnil:HL F N nx R (cs.set col (.sl c' [])) (us.set col (.slice none 0 0)):=hu.set2 (Hv.sl_nil rfl)
     have h7:HL F N nx R (enc c d0) (us.set col (.slice none 0 0)):=A6o hdec hp2 _ hnil
     obtain⟨y,hy1,hy2⟩:=hu.get hj'
     have h8:=HL.own (F:=F) (N:=N.setQ nx (.agg W.toArray)) (nx:=nx+1) (R:=R') (i:=nx) (k:=l.length) (y:=y) (by omega) (by rw[fl];exact hy2.sq_inv.2) (fun p c2 l2 hp=>Ab4 hcol d0 p c2 l2 hp) ⟨_,_,hl0⟩ (h7.step st)
     rw[List.set_set] at h8
     have e3:us.set col y=us:=by
      apply List.ext_getElem?
      intro p
      rw[List.getElem?_set]
      split
      ·rename_i hpc
       subst hpc
       split
       ·rw[hy1]
       ·rename_i hh
        have:=(List.getElem?_eq_some_iff.1 hy1).1
        omega
      ·rfl
     rw[e3] at h8
     exact h8
   ·by_cases hkl:k <l.length
    ·rw[List.getElem?_append_left hkl] at hd1
     obtain⟨l1,e2,us1,q1,q2,q3⟩:=h5 k d1 hd1
     exact⟨l1,e2,us1,q1,by rw[fk k hkl];exact q2.keep (keepI (k+1) (by omega) (by omega)),fun m hm=>(q3 m hm).step st⟩
    ·have hkn:k=l.length:=by
      have:=(List.getElem?_eq_some_iff.1 hd1).1
      simp at this
      omega
     subst hkn
     have e1:d1=Zx c c' d0 l':=by
      rw[List.getElem?_append_right (Nat.le_refl _)] at hd1
      simp at hd1
      exact hd1.symm
     subst e1
     obtain⟨l0,hl0⟩:=A3t hcol d0
     refine⟨l',e1,ws,by rw[Aiv hcol,List.getElem?_set_self (List.getElem?_eq_some_iff.1 hl0).1],?_,fun m hm=>(hrow.2 m hm).step st⟩
     rw[fl,hln]
     exact w1.keep fun g hg=>keep g (jlt g hg) fun hg'=>hsep g ⟨0,by omega,hg'⟩ hg
   ·rw[hlen] at hk hk'
    rcases cls k g (by omega) hg with⟨q1,q2⟩|⟨q1,q2,q3⟩|⟨q1,q2⟩<;>rcases cls k' g (by omega) hg' with⟨r1,r2⟩|⟨r1,r2,r3⟩|⟨r1,r2⟩
    ·omega
    ·rcases q2 with q2|q2
     ·have:=inlt k' g r2 r3;omega
     ·have:=h6 0 k' g (by omega) r2 q2 r3;omega
    ·rcases q2 with q2|q2
     ·have:=jlt g r2;omega
     ·exact(hsep g ⟨0,by omega,q2⟩ r2).elim
    ·rcases r2 with r2|r2
     ·have:=inlt k g q2 q3;omega
     ·have:=h6 0 k g (by omega) q2 r2 q3;omega
    ·exact h6 k k' g q2 r2 q3 r3
    ·exact(hsep g ⟨k,q2,q3⟩ r2).elim
    ·rcases r2 with r2|r2
     ·have:=jlt g q2;omega
     ·exact(hsep g ⟨0,by omega,r2⟩ q2).elim
    ·exact(hsep g ⟨k',r2,r3⟩ q2).elim
    ·omega)
  (fun g ⟨k,hk,hg⟩=>by
   rw[hlen] at hk
   rcases cls k g (by omega) hg with⟨_,q2|q2⟩|⟨q1,q2,q3⟩|⟨_,q2⟩
   ·exact .inl q2
   ·exact .inr (.inl ⟨0,by omega,q2⟩)
   ·exact .inr (.inl ⟨k,q2,q3⟩)
   ·exact .inr (.inr q2))
 refine⟨F,N.setQ nx (.agg W.toArray),h1,h2,?_,fun hk=>by cases hk with|step hk=>cases hk⟩
 have:=Hv.dq (F:=F) (N:=N.setQ nx (.agg W.toArray)) (nx:=nx+1) (R:=R') (i:=nx) (by omega)
 rwa[f0] at this
theorem Bn2 (h:HRel F N nx o R) (hb:Below R.heap.size R R') {x:A} {v:Value} {k:Nat} {ps:List Prop} (hlt:R.heap.size <R'.heap.size)
  (hx:Hv (fun g=>F g∨g=R.heap.size) N nx R' x v):EK F N nx o R ⟨x,nx,o,k,ps⟩ v R':=by
 have st:Step F N nx o R (fun g=>F g∨g=R.heap.size) N nx o R':=
  ⟨Nat.le_refl _,fun _ _=>rfl,fun _ _=>rfl,fun _ h=> .inl h,fun g hg=>by
   rcases hg with hg|hg
   ·exact .inl hg
   ·exact .inr (.inr (by omega)),fun _ h=> .inl h,hb.os,hb.tape,hb.output,hb.size,fun g hg _=>hb.block g hg⟩
 have hx2:=st.ext h
 refine⟨_,N,⟨fun g hg=>?_,fun i ob hi=>⟨(h.ob i ob hi).1,(h.ob i ob hi).2.step hx2 (h.ob i ob hi).1 fun g hg=>hb.block g ((h.ob i ob hi).2.lt hg)⟩,fun i ob g hi hg hf=>?_,h.sep⟩,st,hx,fun _=>hb⟩
 ·rcases hg with hg|hg
  ·exact Nat.lt_of_lt_of_le (h.flt g hg) hb.size
  ·omega
 ·rcases hf with hf|hf
  ·exact h.ff i ob g hi hg hf
  ·have:=(h.ob i ob hi).2.lt hg;omega
end
end Go.Proofs.Yteebobbhhgmeiaa
namespace Go.Proofs.Yteebobbhhgmeiaa
open Go.RowKit
theorem Bol {zs vs:List Value} {k size off:Nat} (h1:off+vs.length≤size) (h2:k*size+size≤zs.length) (j:Nat):
  ((zs.take (k*size+off)++vs++zs.drop (k*size+off+vs.length)).drop (j*size)).take size=
   if j=k then((zs.drop (k*size)).take size).take off++vs++((zs.drop (k*size)).take size).drop (off+vs.length) else(zs.drop (j*size)).take size:=by
 have get:∀m,(zs.take (k*size+off)++vs++zs.drop (k*size+off+vs.length))[m]?=if m <k*size+off then zs[m]? else if m <k*size+off+vs.length then vs[m - (k*size+off)]? else zs[m]?:=fun m=>by
  rw[List.append_assoc,List.getElem?_append,List.length_take,Nat.min_eq_left (by omega)]
  by_cases c1:m <k*size+off
  ·rw[if_pos c1,if_pos c1,List.getElem?_take,if_pos c1]
  ·rw[if_neg c1,if_neg c1,List.getElem?_append]
   by_cases c2:m <k*size+off+vs.length
   ·rw[if_pos (by omega),if_pos c2]
   ·rw[if_neg (by omega),if_neg c2,List.getElem?_drop]
    congr 1
    omega
 apply List.ext_getElem?
 intro m
 rw[List.getElem?_take,List.getElem?_drop]
 by_cases hm:m <size
 ·rw [if_pos hm,get]
  by_cases hj:j=k
  ·subst hj
   rw[if_pos rfl,List.append_assoc,List.getElem?_append,List.length_take,List.length_take,List.length_drop]
   have hlen:min off (min size (zs.length - j*size))=off:=by omega
   rw[hlen]
   by_cases c1:m <off
   ·rw[if_pos (by omega),if_pos c1,List.getElem?_take,if_pos c1,List.getElem?_take,if_pos hm,List.getElem?_drop]
   ·rw[if_neg (by omega),if_neg c1,List.getElem?_append]
    by_cases c2:m <off+vs.length
    ·rw[if_pos (by omega),if_pos (by omega)]
     congr 1
     omega
    ·rw[if_neg (by omega),if_neg (by omega),List.getElem?_drop,List.getElem?_take,if_pos (by omega),List.getElem?_drop]
     congr 1
     omega
  ·rw[if_neg hj,List.getElem?_take,if_pos hm,List.getElem?_drop]
   rcases Nat.lt_or_gt_of_ne hj with hlt|hgt
   ·have:j*size+size≤k*size:=by rw[←Nat.succ_mul];exact Nat.mul_le_mul_right _ hlt
    rw[if_pos (by omega)]
   ·have:k*size+size≤j*size:=by rw[←Nat.succ_mul];exact Nat.mul_le_mul_right _ hgt
    rw[if_neg (by omega),if_neg (by omega)]
 ·rw[if_neg hm]
  symm
  rw[List.getElem?_eq_none]
  by_cases hj:j=k
  ·rw[if_pos hj]
   simp only[List.length_append,List.length_take,List.length_drop]
   omega
  ·rw[if_neg hj,List.length_take]
   omega
def A0b (k off:Nat) (us:List A):Els→Option (Els×List Prop)
 | .lst cs=>some (.lst (cs.set k (Bik off us (Jz cs k))),[])
 | .ty c l=>match YG c (Bik off us (enc c (l.getD k (Ac c)))) with
  |some (d,ps)=>some (.ty c (l.set k d),ps)
  |none=>none
section
variable {F:Nat→Prop} {N:Nm} {nx:Nat} {R:World} {size:Nat}
theorem A45 {k off:Nat} {us:List A} {vs:List Value} {els els':Els} {ps:List Prop} {zs:List Value} (he:A0b k off us els=some (els',ps)) (hp:∀p∈ps,p) (hr:RowHL F N nx R els size zs) (hu:HL F N nx R us vs)
  (hk:k <els.n) (ho:off+vs.length≤size):els'.n=els.n∧RowHL F N nx R els' size (zs.take (k*size+off)++vs++zs.drop (k*size+off+vs.length)):=by
 have hle:k*size+size≤zs.length:=by rw[hr.1,←Nat.succ_mul];exact Nat.mul_le_mul_right _ hk
 have hlen:(zs.take (k*size+off)++vs++zs.drop (k*size+off+vs.length)).length=zs.length:=by
  simp only[List.length_append,List.length_take,List.length_drop]
  omega
 have hput:=HL.put (off:=off) hu (hr.2 k hk)
 have main:els'.n=els.n→(∀j,j <els.n→j≠k→els'.nth j=els.nth j)→HL F N nx R (els'.nth k) (((zs.drop (k*size)).take size).take off++vs++((zs.drop (k*size)).take size).drop (off+vs.length))→
   els'.n=els.n∧RowHL F N nx R els' size (zs.take (k*size+off)++vs++zs.drop (k*size+off+vs.length)):=fun hn hj hkk=>by
  refine⟨hn,by rw[hlen,hr.1,hn],fun j hjn=>?_⟩
  rw[hn] at hjn
  rw[Bol ho hle]
  by_cases e:j=k
  ·subst e
   rw[if_pos rfl]
   exact hkk
  ·rw[if_neg e,hj j hjn e]
   exact hr.2 j hjn
 unfold A0b at he
 split at he
 ·rename_i cs
  cases he
  refine main (by simp[Els.n]) (fun j hj e=>?_) ?_
  ·show Jz _ j=Jz _ j
   simp only[EJ,List.getD_eq_getElem?_getD]
   rw[List.getElem?_set_ne (fun e'=>e e'.symm)]
  ·show HL F N nx R (Jz _ k) _
   have hk':k <cs.length:=hk
   rw[EJ,List.getD_eq_getElem?_getD,List.getElem?_set_self hk']
   exact hput
 ·rename_i c l
  split at he<;>first|(cases he;done)|skip
  rename_i d qs hd
  cases he
  refine main (by simp[Els.n]) (fun j hj e=>?_) ?_
  ·show enc c _=enc c _
   rw[List.getD_eq_getElem?_getD,List.getD_eq_getElem?_getD,List.getElem?_set_ne (fun e'=>e e'.symm)]
  ·show HL F N nx R (enc c _) _
   have hk':k <l.length:=hk
   rw[List.getD_eq_getElem?_getD,List.getElem?_set_self hk']
   exact A6o hd hp _ hput
end
section
variable {P:Program} {w:World}
theorem A8a {e:TypeId} {size n:Nat} {v:Value} {zs:List Value} (h:OwnR w e size v n zs) (hn:0 <n):∃g cap cur,v=.slice (some ⟨g,0,none⟩) n (cap+1)∧w.heap[g]?=some (.cells cur e (0,0))∧n≤cap+1∧cap+1≤maxLen∧cur.size=(cap+1)*size∧cur.toList.take (n*size)=zs:=by
 rcases h.2 with⟨_,_,h0⟩|h2
 ·omega
 ·exact h2
theorem A8b {e:TypeId} {size n g cap o:Nat} {cur:Array Value} {zs vs:List Value} (hz:zs.length=n*size) (hg:w.heap[g]?=some (.cells cur e (0,0))) (hn:n≤cap+1) (hm:cap+1≤maxLen) (hs:cur.size=(cap+1)*size) (ht:cur.toList.take (n*size)=zs) (ho:o+vs.length≤n*size):
  OwnR (w.setRow g (cur.toList.take o++vs++cur.toList.drop (o+vs.length)).toArray) e size (.slice (some ⟨g,0,none⟩) n (cap+1)) n (zs.take o++vs++zs.drop (o+vs.length)):=by
 have hle:n*size≤cur.toList.length:=by rw[Array.length_toList,hs];exact Nat.mul_le_mul_right _ hn
 refine⟨?_,.inr ⟨g,cap,_,rfl,setRow_heap w g cur _ e _ hg,hn,hm,?_,?_⟩⟩
 ·simp only[List.length_append,List.length_take,List.length_drop]
  omega
 ·simp only[List.size_toArray,List.length_append,List.length_take,List.length_drop,Array.length_toList]
  rw[Array.length_toList] at hle
  omega
 ·show List.take (n*size) (cur.toList.take o++vs++cur.toList.drop (o+vs.length))=_
  rw[←ht,List.append_assoc,List.append_assoc,List.take_append,List.take_take,List.length_take,Nat.min_eq_left (by omega:o≤cur.toList.length),Nat.min_eq_right (by omega:o≤n*size)]
  rw[List.take_append,List.take_of_length_le (by omega:vs.length≤n*size - o),List.take_take,Nat.min_eq_left (by omega:o≤n*size)]
  congr 2
  rw[List.take_drop,List.drop_take]
  congr 1
  rw[List.drop_take]
  congr 1
  omega
theorem A2z {dT sT ty e:TypeId} {i:TypeInfo} (hu:P.underlying dT=some (.slice e)) (hi:P.info? e=some i) {g o dLen dCap m:Nat} {x:Value} {cur:Array Value} {t:TypeId} {cs:List Value}
  (hlen:(Builtin.lenOf x).run P w=.ok m w) (hnew:(Builtin.firstCells i.size (Nat.min m dLen) x).run P w=.ok cs.toArray w) (hg:w.heap[g]?=some (.cells cur t (0,0)))
  (hfit:o+cs.length≤cur.size) (h1:∀v∈cs,v.oneCell'=true):
  (Builtin.copy_ #[dT,sT] ty #[.slice (some ⟨g,o,none⟩) dLen dCap,x]).run P w=.ok (goInt (Nat.min m dLen)) (w.setRow g (cur.toList.take o++cs++cur.toList.drop (o+cs.length)).toArray):=by
 have hst:=run_storeCells_at (P:=P) g o t cs 0 cur w hg (by simpa using hfit) h1
 simp only[Nat.add_zero] at hst
 have hst':∀A:Array Value,A=cs.toArray→(storeCells ⟨g,o,none⟩ A.toList).run P w=.ok () (w.setRow g (cur.toList.take o++cs++cur.toList.drop (o+cs.length)).toArray):=fun A hA=>by
  subst hA
  simpa[storeCells] using hst
 simp[Builtin.copy_,run_underlying hu,hlen,sizeOf,typeInfo,hi,hnew,hst' _ rfl]
theorem A20 {dT sT ty e:TypeId} {i:TypeInfo} (hu:P.underlying dT=some (.slice e)) (hi:P.info? e=some i) {d:Option Addr} {dLen dCap m:Nat} {x:Value}
  (hlen:(Builtin.lenOf x).run P w=.ok m w) (h0:Nat.min m dLen=0) (hnew:(Builtin.firstCells i.size 0 x).run P w=.ok #[] w):
  (Builtin.copy_ #[dT,sT] ty #[.slice d dLen dCap,x]).run P w=.ok (goInt 0) w:=by
 cases d<;>simp[Builtin.copy_,run_underlying hu,hlen,sizeOf,typeInfo,hi,h0,hnew,storeCells]
theorem A0d {y:Value} {size m:Nat} {us:List Value} (h:Bbd w y size m us) {w':World} (hc:∀ad v,w.cell? ad=some v→w'.cell? ad=some v):(Builtin.lenOf y).run P w'=.ok m w'∧∀k,k≤m→(Builtin.firstCells size k y).run P w'=.ok (us.take (k*size)).toArray w':=by
 obtain⟨A,c,rfl,h1⟩:=h.val
 refine⟨rfl,fun k hk=>?_⟩
 have hl:=h.len
 cases A with
 | none=>
  have hm:m=0∨0 <m:=by omega
  rcases hm with hm|hm
  ·subst hm
   have:us=[]:=List.eq_nil_of_length_eq_zero (by simpa using hl)
   subst this
   simp[Builtin.firstCells]
  ·obtain⟨ad,e,_⟩:=h.cells _ _ _ rfl hm
   cases e
 | some ad=>
  have hle:k*size≤us.length:=by rw[hl];exact Nat.mul_le_mul_right _ hk
  have hread:=run_loadCells_list (P:=P) w' ad (us.take (k*size)) (fun j u hj=>by
   have hm:0 <m:=by
    rcases Nat.eq_zero_or_pos m with h0|h0
    ·subst h0
     have:us=[]:=List.eq_nil_of_length_eq_zero (by simpa using hl)
     subst this
     rw[List.take_nil] at hj
     cases j<;>cases hj
    ·exact h0
   obtain⟨ad',e,hcell⟩:=h.cells _ _ _ rfl hm
   cases e
   rw[List.getElem?_take] at hj
   split at hj<;>first|(cases hj;done)|skip
   exact hc _ _ (hcell j u hj))
  rw[List.length_take,Nat.min_eq_left hle] at hread
  simp[Builtin.firstCells,hread]
end
theorem OG:∀{l:List A} {j:Nat} {x:A},freeL l=true→l[j]?=some x→x.free=true
 | [],j,x,_,h=>by cases j<;>cases h
 |y::r,0,x,hf,h=>by cases h;unfold freeL at hf;rw[Bool.and_eq_true] at hf;exact hf.1
 |y::r,j+1,x,hf,h=>by unfold freeL at hf;rw[Bool.and_eq_true] at hf;exact OG (l:=r) hf.2 h
theorem Bco (c:TC) (d:U c):∀x∈enc c d,x.free=true:=fun x hx=>by
 have:=Sk c d x hx
 cases x<;>first|(unfold A.free;rfl)|exact this.elim
section
variable {F:Nat→Prop} {N N':Nm} {nx nx':Nat} {R:World}
theorem Hv.free {x:A} {y:Value} (h:Hv F N nx R x y):x.free=true→Hv F N' nx' R x y:=by
 induction h with
 |v x=>intro _;exact .v x
 | @sl c l a cap ad h1 h2 h3 h4 ih=>intro _;exact .sl ad h1 h2 h3 fun i d j x y hd hx hy=>ih i d j x y hd hx hy (Bco c d x (List.mem_of_getElem? hx))
 | @ref l ad h1 h2 h3 ih=>intro hf;unfold A.free at hf;exact .ref ad h1 h2 fun j x y hx hy=>ih j x y hx hy (OG hf hx)
 |own h=>intro hf;unfold A.free at hf;cases hf
 |ownx h=>intro hf;unfold A.free at hf;cases hf
 |sq h=>intro hf;unfold A.free at hf;cases hf
 |dq h=>intro hf;unfold A.free at hf;cases hf
 |iv h=>intro hf;unfold A.free at hf;cases hf
 |de h=>intro hf;unfold A.free at hf;cases hf
 |ie h=>intro hf;unfold A.free at hf;cases hf
 |vw h=>intro hf;unfold A.free at hf;cases hf
 |el h=>intro hf;unfold A.free at hf;cases hf
 |mp h=>intro hf;unfold A.free at hf;cases hf
 |nl a=>intro _;exact .nl a
 |it q vs y h=>intro hf;unfold A.free at hf;cases hf
 |fn vs us h1 _ h3 _ ih2 ih4=>intro hf;unfold A.free at hf;rw[Bool.and_eq_true] at hf;exact .fn vs us h1 (fun j x v hx hv=>ih2 j x v hx hv (OG hf.1 hx)) h3 fun j x v hx hv=>ih4 j x v hx hv (OG hf.2 hx)
 |agg vs h1 _ ih=>intro hf;unfold A.free at hf;exact .agg vs h1 fun j x v hx hv=>ih j x v hx hv (OG hf hx)
 |tup vs h1 _ ih=>intro hf;unfold A.free at hf;exact .tup vs h1 fun j x v hx hv=>ih j x v hx hv (OG hf hx)
 |dead y=>intro hf;unfold A.free at hf;cases hf
theorem HL.free:∀{xs:List A} {vs:List Value},freeL xs=true→HL F N nx R xs vs→HL F N' nx' R xs vs
 | [],_,_,h=>h
 |x::r,_,hf,⟨v,vs,h1,h2,h3⟩=>by unfold freeL at hf;rw[Bool.and_eq_true] at hf;exact⟨v,vs,h1,h2.free hf.1,HL.free hf.2 h3⟩
theorem HRel.noObj {o:Objs} (h:HRel F N nx o R):HRel F N' nx' [] R:=⟨h.flt,(fun i ob hi=>by cases hi),(fun i ob g hi=>by cases hi),fun i j x y g hi=>by cases hi⟩
end
theorem HRel.widen {F F':Nat→Prop} {N N':Nm} {nx:Nat} {o:Objs} {R R':World} (h:HRel F N nx o R) (hp:HRel F' N' 0 [] R') (st:Step F N 0 [] R F' N' 0 [] R'):HRel F' N nx o R'∧Step F N nx o R F' N nx o R':=
 h.frame (o1:=[]) (o1':=[]) (fun i ob hi=>by cases hi) ⟨Nat.le_refl _,fun _ _=>rfl,fun _ _=>rfl,st.f,st.fnew,fun g ⟨i,ob,hi,_⟩=>(by cases hi),st.os,st.tape,st.output,st.size,st.keep⟩ hp.noObj fun i ob hi=> .inr ⟨hi,rfl⟩
end Go.Proofs.Yteebobbhhgmeiaa
namespace Go.Proofs.Yteebobbhhgmeiaa
open Go.RowKit
def I4 (size:Nat):Nat→List A→List (List A)
 |0,_=>[]
 |n+1,l=>l.take size::I4 size n (l.drop size)
theorem MK (size:Nat):∀(n:Nat) (l:List A),(I4 size n l).length=n
 |0,_=>rfl
 |n+1,l=>by unfold I4;rw[List.length_cons,MK size n]
theorem Ab3 (size:Nat):∀(n:Nat) (l:List A) (k:Nat),k <n→Jz (I4 size n l) k=(l.drop (k*size)).take size
 |0,_,_,h=>by cases h
 |n+1,l,0,_=>by unfold I4;simp[Jz]
 |n+1,l,k+1,h=>by
  unfold I4
  show Jz (I4 size n (l.drop size)) k=_
  rw[Ab3 size n _ k (by omega),List.drop_drop,Nat.succ_mul,Nat.add_comm]
def Aqe (P:Program) (e:TypeId) (sz:Nat):Bool:=match P.info? e with
 |some i=>match i.zero with
  |some z=>Nat.beq i.size sz&&(Nat.beq z.cells.size sz&&(Nat.ble 1 sz&&Nat.ble i.bytes 256))
  |none=>false
 |none=>false
theorem A0c {P:Program} {e:TypeId} {sz:Nat} (h:Aqe P e sz=true):∃i z,P.info? e=some i∧i.zero=some z∧i.size=sz∧z.cells.size=sz∧0 <sz∧i.bytes≤256:=by
 unfold Aqe at h
 split at h<;>first|(cases h;done)|skip
 rename_i i hi
 split at h<;>first|(cases h;done)|skip
 rename_i z hz
 simp only[Bool.and_eq_true] at h
 obtain⟨h1,h2,h3,h4⟩:=h
 exact⟨i,z,hi,hz,Nat.eq_of_beq_eq_true h1,Nat.eq_of_beq_eq_true h2,Nat.le_of_ble_eq_true h3,Nat.le_of_ble_eq_true h4⟩
def cellsOf (s:St) (G:Guards) (v:Operand):Option (List A):=match s.ev G v with
 |some x=>match Ajk x with
  |some us=>bif UB s.o us then(bif Ox us then some us else none) else none
  |none=>none
 |none=>none
def Ag (n:Nat):Prop:=n≤549755813888
instance (n:Nat):Decidable (Ag n):=inferInstanceAs (Decidable (n≤549755813888))
def At6 (E:Env) (s:St) (e:TypeId):Option Eff:=match(E.P.info? e).bind (·.zero) with
 |some z=>some ⟨.own s.nx 0,s.nx+1,(s.nx,some (.box e (toL z.cells.toList)))::s.o,1,[]⟩
 |none=>none
def Brg (s:St) (G:Guards) (e:TypeId) (v:Operand):Option Eff:=match s.ev G v with
 |some x=>match Ajk x with
  |some us=>bif UB s.o us then some ⟨.own s.nx 0,s.nx+1,(s.nx,some (.box e us))::s.o,1,[]⟩ else none
  |none=>none
 |none=>none
def Bf5 (E:Env) (s:St) (G:Guards) (t:TypeId) (x v:Operand):Option Eff:=
 match cellsOf s G v with
 | some us=>match J7 E.P t with
  | some n=>bif Nat.beq n us.length then(match s.ev G x with
   |some (.own i off)=>match Ao i s.o with
    |some (.box e cs)=>bif Nat.ble (off+n) cs.length then some ⟨.v undef,s.nx,(i,some (.box e (Bik off us cs)))::s.o,2,[]⟩ else none
    |_=>none
   | some (.ownx i base len k)=>match Ao i s.o with
    |some (.box e cs)=>match us with
     | [u]=>bif Nat.ble (base+len) cs.length then some ⟨.v undef,s.nx,(i,some (.box e (Bik base (Bo5 k u 0 ((cs.drop base).take len)) cs)))::s.o,2,[k <len]⟩ else none
     |_=>none
    |_=>none
   | some (.el i k sz off)=>match Ao i s.o with
    |some (.arr e size els)=>bif Nat.beq size sz then(bif Nat.ble (off+n) size then(match A0b k off us els with
     |some (els',ps)=>some ⟨.v undef,s.nx,(i,some (.arr e size els'))::s.o,2,(k <els.n)::ps⟩
     |none=>none) else none) else none
    |_=>none
   | some (.ie i k j sz off)=>match Ao i s.o with
    | some (.deep e c l)=>match Avg c (l.getD k (Ac c)) with
     |some ⟨c',l'⟩=>bif Nat.beq (size c') sz then(bif Nat.ble (off+n) sz then(match A0b j off us (.ty c' l') with
      |some (.ty c2 l2,ps)=>some ⟨.v undef,s.nx,(i,some (.deep e c (l.set k (Zx c c2 (l.getD k (Ac c)) l2))))::s.o,2,(k <l.length)::(j <l'.length)::ps⟩
      |_=>none) else none) else none
     |none=>none
    |_=>none
   |_=>none) else none
  |none=>none
 |none=>none
def Bow (z:List A):Nat→List A
 |0=>[]
 |n+1=>z++Bow z n
def Sb (E:Env) (s:St) (G:Guards) (t:TypeId) (len:Nat) (parts:List (Nat×Operand)):Option Eff:=
 match E.P.underlying t with
 | some (.slice e)=>match E.P.info? e with
  | some i=>match i.zero with
   |some z=>match Axj s G parts with
    | some ps=>bif Nat.ble (len*i.size) 16777216 then(bif Nat.beq z.cells.size i.size then(bif Nat.ble 1 i.size then
      (match Bcs (fun k=>some (k*i.size,i.size)) (Bow (toL z.cells.toList) len) ps with
      |some cs=>bif Uk s.o (.lst (I4 i.size len cs)) then(bif Nat.beq len 0 then some ⟨.nl,s.nx,s.o,1,[]⟩ else some ⟨.sq s.nx,s.nx+1,(s.nx,some (.arr e i.size (.lst (I4 i.size len cs))))::s.o,1,[]⟩) else none
      |none=>none) else none) else none) else none
    |none=>none
   |none=>none
  |none=>none
 |_=>none
def Atk (E:Env) (s:St) (G:Guards) (t:TypeId) (len cap:Operand):Option Eff:=
 match E.P.underlying t with
 | some (.slice e)=>match E.tc e with
  |some c=>match s.raw G len,s.raw G cap with
   | some (.int _ l),some (.int _ m)=>bif Aqe E.P e (size c) then
     some ⟨.sq s.nx,s.nx+1,(s.nx,some (.arr e (size c) (.ty c (List.replicate l.toNat (Ac c)))))::s.o,1,[0≤l∧l≤m∧m≤549755813888]⟩ else none
   |_,_=>none
  |none=>none
 |_=>none
def Brr (o:Objs) (e:TypeId) (sz:Nat):A→Option (Option Nat×Els)
 | .sq i=>match Ao i o with
  |some (.arr e' size els)=>bif Nat.beq e' e then(bif Nat.beq size sz then some (some i,els) else none) else none
  |_=>none
 | .nl=>some (none,.lst [])
 | .v x=>bif D5 x then some (none,.lst []) else none
 |_=>none
def Bsk (d:Option TypeDesc):Bool:=match d with
 |some .string=>true
 |_=>false
def B02 (d:Option TypeDesc):Bool:=match d with
 |some (.slice _)=>true
 |_=>false
def Bmm (E:Env) (s:St) (G:Guards) (u:TypeId) (sz:Nat) (y:Operand):Option (Els×List Prop):=
 bif Bsk (E.P.underlying u) then(match s.raw G y with
  |some (.string b)=>bif Nat.beq sz 1 then some (.ty .u8 b.data.toList,[]) else none
  |_=>none)
 else bif B02 (E.P.underlying u) then(match s.ev G y with
  |some y'=>B1k s.o sz y'
  |none=>none) else none
def Bvt (E:Env) (s:St) (G:Guards) (t u:TypeId) (x y:Operand):Option Eff:=
 match E.P.underlying t with
 | some (.slice e)=>match J7 E.P e with
  | some sz=>bif Aqe E.P e sz then(match Bmm E s G u sz y with
   | some (b,ps)=>match s.ev G x with
    | some (.vw i z lo n true)=>match Ao i s.o with
     | some (.arr _ size els)=>bif Nat.beq z sz then(bif Nat.beq size sz then(match A6c (Amv lo n els) b with
      |some (r,qs)=>match r.norm (E.tc e) with
       |(r',rs)=>some ⟨.sq s.nx,s.nx+1,(s.nx,some (.arr e sz r'))::s.o,1,(lo+n≤els.n∧0 <b.n∧Ag (n+b.n))::(ps++(qs++rs))⟩
      |none=>none) else none) else none
     |_=>none
    | some (.dq i)=>match Ao i s.o,b with
     |some (.deep e' c l),.lst [cs]=>bif Nat.beq e' e then(bif Nat.beq (size c) sz then(match Brp s.o c cs with
      |some (j,d,qs)=>some ⟨.dq s.nx,s.nx+1,(s.nx,some (.deep e c (l++[d])))::(j,none)::(i,none)::s.o,2,Ag (l.length+1)::(ps++qs)⟩
      |none=>none) else none) else none
     |_,_=>none
    | some x'=>match Brr s.o e sz x' with
     | some (d,a)=>match A6c a b with
      |some (r,qs)=>match r.norm (E.tc e) with
       |(r',rs)=>some ⟨.sq s.nx,s.nx+1,(s.nx,some (.arr e sz r'))::Ajo s.o d,bif d.isSome then 2 else 1,Ag (a.n+b.n)::(ps++(qs++rs))⟩
      |none=>none
     |none=>none
    |none=>none
   |none=>none) else none
  |none=>none
 |_=>none
def Bsz (lo n:Nat) (els b:Els):Option (Els×List Prop):=match els with
 | .ty c l=>match US c b with
  |some (m,ps)=>some (.ty c (l.take lo++(m.take n++l.drop (lo+Nat.min n m.length))),ps)
  |none=>none
 | .lst _=>none
def Bl2 (E:Env) (s:St) (G:Guards) (t u:TypeId) (x y:Operand):Option Eff:=
 match E.P.underlying t with
 | some (.slice e)=>match J7 E.P e with
  | some sz=>bif Aqe E.P e sz then(match Bmm E s G u sz y with
   | some (b,ps)=>match s.ev G x with
    | some (.sq i)=>match Ao i s.o with
     |some (.arr e' size els)=>bif Nat.beq size sz then(match Bsz 0 els.n els b with
      |some (r,qs)=>some ⟨.v (.int .i64 (Nat.min b.n els.n:Nat)),s.nx,(i,some (.arr e' size r))::s.o,2,ps++qs⟩
      |none=>none) else none
     |_=>none
    | some (.vw i z lo n _)=>match Ao i s.o with
     |some (.arr e' size els)=>bif Nat.beq z sz then(bif Nat.beq size sz then(match Bsz lo n els b with
      |some (r,qs)=>some ⟨.v (.int .i64 (Nat.min b.n n:Nat)),s.nx,(i,some (.arr e' size r))::s.o,2,(lo+n≤els.n)::(ps++qs)⟩
      |none=>none) else none) else none
     |_=>none
    |_=>none
   |none=>none) else none
  |none=>none
 |_=>none
def Y2 (E:Env) (s:St) (G:Guards) (src dst:TypeId) (x:Operand):Option Eff:=
 match E.P.underlying src,E.P.underlying dst with
 |some .string,some (.slice e)=>match E.P.underlying e,s.raw G x with
  |some (.int .u8),some (.string b)=>some ⟨.sl .u8 b.data.toList,s.nx,s.o,1,[]⟩
  |_,_=>none
 |_,_=>none
def YD (E:Env) (s:St) (G:Guards) (f:Operand) (args:List Operand):Option Eff:=match Qm E f args with
 |some (_,x)=>some ⟨x,s.nx,s.o,1,[]⟩
 |none=>match Bbz E s G f args with
  |some (k,x,nx',o',ps)=>some ⟨x,nx',o',bif Nat.ble k 1 then 1 else 2,ps⟩
  |none=>none
def A9a (E:Env) (s:St) (G:Guards) (t:TypeId) (x:Operand):Option Eff:=match E.P.underlying t,s.raw G x with
 |some .string,some (.string b)=>some ⟨.own s.nx 0,s.nx+1,(s.nx,some (.sit b 0))::s.o,1,[]⟩
 |_,_=>none
def Bmo (s:St) (G:Guards) (it:Operand):Option Eff:=match s.ev G it with
 |some (.own i off)=>bif Nat.beq off 0 then(match Ao i s.o with
  |some (.sit b pos)=>some ⟨.it (decide (pos <b.size)) [.int .i64 (pos:Nat),.int .i32 ((Utf8.decode b pos).1:Nat)],s.nx,(i,some (.sit b (bif decide (pos <b.size) then pos+(Utf8.decode b pos).2 else pos)))::s.o,2,[]⟩
  |_=>none) else none
 |_=>none
def A7w (E:Env) (s:St) (t:TypeId):Option Eff:=bif Bdb E t then some ⟨.mp s.nx,s.nx+1,(s.nx,some (.map .str .i64 []))::s.o,1,[]⟩ else none
def A7p (E:Env) (s:St) (G:Guards) (t:TypeId) (m k x:Operand):Option Eff:=match s.ev G m,s.raw G k,s.raw G x with
 |some y,some (.string b),some (.int .i64 n)=>match Bwt s.o y with
  |some (i,l)=>bif Bdb E t then some ⟨.v undef,s.nx,(i,some (.map .str .i64 (Zy l b n)))::s.o,2,[]⟩ else none
  |none=>none
 |_,_,_=>none
def Bn1 (E:Env) (s:St) (G:Guards) (o:Oper):Option Eff:=
 match o.op with
 | .alloc e=>At6 E s e
 | .box e v=>Brg s G e v
 | .store t x v=>Bf5 E s G t x v
 | .buildSlice t len parts=>Sb E s G t len parts.toList
 | .makeSlice t len cap=>Atk E s G t len cap
 | .convert src dst x=>Y2 E s G src dst x
 | .call {callee:=.builtin .append,args,argTypes}=>match args.toList,argTypes.toList with
  | [x,y],[t,u]=>Bvt E s G t u x y
  |_,_=>none
 | .call {callee:=.builtin .copy,args,argTypes}=>match args.toList,argTypes.toList with
  | [x,y],[t,u]=>Bl2 E s G t u x y
  |_,_=>none
 | .call {callee:=.value f,args, .. }=>YD E s G f args.toList
 | .range t x=>A9a E s G t x
 | .next it true=>Bmo s G it
 | .makeMap t none=>A7w E s t
 | .mapUpdate t m k x=>A7p E s G t m k x
 |_=>none
def Av7:Op→Bool
 | .alloc _=>true
 | .box _ _=>true
 | .store _ _ _=>true
 | .buildSlice _ _ _=>true
 | .makeSlice _ _ _=>true
 | .call {callee:=.builtin .append, .. }=>true
 | .call {callee:=.builtin .copy, .. }=>true
 | .range _ _=>true
 | .next _ _=>true
 | .makeMap _ _=>true
 | .mapUpdate _ _ _ _=>true
 |_=>false
def opE (E:Env) (s:St) (G:Guards) (o:Oper):Option Eff:=
 bif Av7 o.op then Bn1 E s G o else match Bx7 E s G o with
  |some (x,ps)=>some ⟨x,s.nx,s.o,0,ps⟩
  |none=>Bn1 E s G o
section
variable {E:Env} {Z:Base} {F:Nat→Prop} {N:Nm} {s:St} {a:Act} {R:World} {G:Guards}
theorem Auo (h:Rel Z F N s a R) (hG:OJ (Bl a) G) {v:Operand} {us:List A} (he:cellsOf s G v=some us):HL F N s.nx R us (a.eval v).cells.toList∧∀c∈(a.eval v).cells.toList,c.oneCell'=true:=by
 unfold cellsOf at he
 split at he<;>first|(cases he;done)|skip
 rename_i x hx
 split at he<;>first|(cases he;done)|skip
 rename_i us' hc
 cases h1:UB s.o us' with
 |false=>rw[h1] at he;cases he
 | true=>
  cases h2:Ox us' with
  |false=>rw[h1,h2] at he;cases he
  |true=>
   rw[h1,h2] at he
   cases he
   have:=YE h.hp hc h1 (Br h hG hx).2
   exact⟨this,Axe h.hp h2 h1 this⟩
theorem B1h (h:Rel Z F N s a R) (hG:OJ (Bl a) G) {t:TypeId} {x v:Operand} {f:Eff} (he:Bf5 E s G t x v=some f) (hp:∀p∈f.ps,p):
  ∃R',(Instr.storeAt t (a.eval x) (a.eval v)).run E.P R=.ok () R'∧EK F N s.nx s.o R f undef R':=by
 unfold Bf5 at he
 split at he<;>first|(cases he;done)|skip
 rename_i us hus
 obtain⟨hu,h1⟩:=Auo h hG hus
 have hlen:=hu.length
 split at he<;>first|(cases he;done)|skip
 rename_i n hn
 cases hb:Nat.beq n us.length with
 |false=>rw[hb] at he;cases he
 | true=>
  rw[hb] at he
  obtain rfl:=Nat.eq_of_beq_eq_true hb
  simp only[cond_true] at he
  rw[←hlen] at hn
  split at he<;>first|(cases he;done)|skip
  ·rename_i i off hx
   have hx':=(Br h hG hx).2.own_inv
   split at he<;>first|(cases he;done)|skip
   rename_i e cs hl
   cases hb2:Nat.ble (off+us.length) cs.length with
   |false=>rw[hb2] at he;cases he
   |true=>
    rw[hb2] at he
    cases he
    have hle:=Nat.le_of_ble_eq_true hb2
    obtain⟨_,vs,g1,g2⟩:=h.hp.ob i _ hl
    have hvl:=g1.length
    refine⟨_,Nn hx'.2 g2 hn (by omega) h1,Brv h.hp hl (HL.put hu g1) g2⟩
  ·rename_i i base len k hx
   have hx':=(Br h hG hx).2.ownx_inv
   split at he<;>first|(cases he;done)|skip
   rename_i e cs hl
   split at he<;>first|(cases he;done)|skip
   rename_i u
   cases hb2:Nat.ble (base+len) cs.length with
   |false=>rw[hb2] at he;cases he
   | true=>
    rw[hb2] at he
    cases he
    have hle:=Nat.le_of_ble_eq_true hb2
    have hk:k <len:=hp _ (List.mem_singleton.2 rfl)
    obtain⟨_,vs,g1,g2⟩:=h.hp.ob i _ hl
    have hvl:=g1.length
    obtain⟨y,ys,hy,hu1,hu2⟩:=hu.inv
    have hys:=hu2.inv0
    subst hys
    have hsel:=Bm4 hu1 ((g1.drop base).take len) (Nat.zero_le k) (by rw[List.length_take,List.length_drop];omega)
    have hput:=HL.put (off:=base) hsel g1
    rw[Nat.sub_zero] at hput
    have hl2:(((vs.drop base).take len).take k++[y]++((vs.drop base).take len).drop (k+1)).length=len:=by
     simp only[List.length_append,List.length_take,List.length_drop,List.length_cons,List.length_nil]
     omega
    rw[hl2] at hput
    have hrun:=Nn (P:=E.P) hx'.2 g2 hn (by rw[hy];simp;omega) h1
    rw[hy] at hrun
    have e1:vs.take (base+k)++[y]++vs.drop (base+k+[y].length)=vs.take base++(((vs.drop base).take len).take k++[y]++((vs.drop base).take len).drop (k+1))++vs.drop (base+len):=by
     rw[List.take_take,Nat.min_eq_left (by omega),List.drop_take,List.drop_drop]
     have e2:vs.take (base+k)=vs.take base++(vs.drop base).take k:=by rw[List.take_add]
     have e3:vs.drop (base+(k+1))=(vs.drop (base+(k+1))).take (len - (k+1))++vs.drop (base+len):=by
      have:=(List.take_append_drop (len - (k+1)) (vs.drop (base+(k+1)))).symm
      rwa[List.drop_drop,show base+(k+1)+(len - (k+1))=base+len by omega] at this
     rw[e2,show base+k+[y].length=base+(k+1) by simp;omega]
     conv=>lhs;rw[e3]
     simp[List.append_assoc]
    rw[e1] at hrun
    exact⟨_,hrun,Brv h.hp hl hput g2⟩
  ·rename_i i k sz off hx
   have hx':=(Br h hG hx).2.el_inv
   split at he<;>first|(cases he;done)|skip
   rename_i e size els hl
   cases hb2:Nat.beq size sz with
   |false=>rw[hb2] at he;cases he
   |true=>
   cases hb3:Nat.ble (off+us.length) size with
   |false=>rw[hb2,hb3] at he;cases he
   | true=>
    rw[hb2,hb3] at he
    simp only[cond_true] at he
    split at he<;>first|(cases he;done)|skip
    rename_i els' qs hels
    cases he
    obtain rfl:=Nat.eq_of_beq_eq_true hb2
    have hle:=Nat.le_of_ble_eq_true hb3
    have hk:k <els.n:=hp _ (List.mem_cons_self ..)
    obtain⟨_,zs,g1,g2⟩:=h.hp.ob i _ hl
    have hr:RowHL F N s.nx R els size zs:=⟨g1.1,g2⟩
    obtain⟨r1,r2⟩:=A45 hels (fun p hm=>hp p (List.mem_cons_of_mem _ hm)) hr hu hk (by omega)
    obtain⟨g,cap,cur,q1,q2,q3,q4,q5,q6⟩:=A8a g1 (by omega)
    have hkk:k*size+size≤els.n*size:=by rw[←Nat.succ_mul];exact Nat.mul_le_mul_right _ hk
    have hown:=A8b (w:=R) (o:=k*size+off) (vs:=(a.eval v).cells.toList) g1.1 q2 q3 q4 q5 q6 (by omega)
    rw[←q1,←r1] at hown
    have hcur:els.n*size≤cur.toList.length:=by rw[Array.length_toList,q5];exact Nat.mul_le_mul_right _ q3
    have hpl:a.eval x=.pointer (some ⟨g,k*size+off,none⟩):=by
     rw[hx'.2]
     show Value.pointer (some ((FD (N.q i)).add _))=_
     rw[q1]
     show Value.pointer (some ((⟨g,0,none⟩:Addr).add _))=_
     rw[Fj,Nat.zero_add]
    have hrun:=Nn (P:=E.P) (R:=R) (cs:=cur.toList) hpl (by simpa using q2) hn (by omega) h1
    refine⟨_,hrun,Bhk (R':=R.setRow g (cur.toList.take (k*size+off)++(a.eval v).cells.toList++cur.toList.drop (k*size+off+(a.eval v).cells.toList.length)).toArray) h.hp hl rfl rfl rfl (by simp) (fun g' _ hg'=>setRow_other R _ g' _ (fun e=>?_)) hown r2 fun _ _=> .v _⟩
    subst e
    rw[q1] at hg'
    exact hg' rfl
  ·rename_i i k j sz off hx
   have hx':=(Br h hG hx).2.ie_inv
   split at he<;>first|(cases he;done)|skip
   rename_i e c l hl
   split at he<;>first|(cases he;done)|skip
   rename_i c' l' hin
   cases hb2:Nat.beq (size c') sz with
   |false=>rw[hb2] at he;cases he
   |true=>
   cases hb3:Nat.ble (off+us.length) sz with
   |false=>rw[hb2,hb3] at he;cases he
   | true=>
    rw[hb2,hb3] at he
    simp only[cond_true] at he
    split at he<;>first|(cases he;done)|skip
    rename_i c2 l2 qs hels
    cases he
    obtain rfl:=Nat.eq_of_beq_eq_true hb2
    have hle:=Nat.le_of_ble_eq_true hb3
    have hk:k <l.length:=hp _ (List.mem_cons_self ..)
    have hj:j <l'.length:=hp _ (List.mem_cons_of_mem _ (List.mem_cons_self ..))
    obtain⟨e',zs,g1,g2⟩:=Afi h.hp hl hk hin
    have hc2:∃l3:List (U c'),(Els.ty c2 l2)=.ty c' l3:=by
     unfold A0b at hels
     split at hels<;>first|(rename_i hh;cases hh;done)|skip
     rename_i hh
     cases hh
     split at hels<;>first|(cases hels;done)|skip
     injection hels with hels
     injection hels with h8 _
     exact⟨_,h8.symm⟩
    obtain⟨l3,h8⟩:=hc2
    cases h8
    have hr:RowHL F N s.nx R (.ty c' l') (size c') zs:=⟨g1.1,g2⟩
    obtain⟨r1,r2⟩:=A45 hels (fun p hm=>hp p (List.mem_cons_of_mem _ (List.mem_cons_of_mem _ hm))) hr hu hj (by omega)
    have r1':_=l'.length:=r1
    obtain⟨g,cap,cur,q1,q2,q3,q4,q5,q6⟩:=A8a g1 (by omega)
    have hkk:j*size c'+size c'≤l'.length*size c':=by rw[←Nat.succ_mul];exact Nat.mul_le_mul_right _ hj
    have hown:=A8b (w:=R) (o:=j*size c'+off) (vs:=(a.eval v).cells.toList) g1.1 q2 q3 q4 q5 q6 (by omega)
    rw[←q1,←r1'] at hown
    have hcur:l'.length*size c'≤cur.toList.length:=by rw[show cur.toList.length=cur.size from Array.length_toList,q5];exact Nat.mul_le_mul_right _ q3
    have hpl:a.eval x=.pointer (some ⟨g,j*size c'+off,none⟩):=by
     rw[hx'.2]
     show Value.pointer (some ((FD (Nr (N.q i) (k+1))).add _))=_
     rw[q1]
     show Value.pointer (some ((⟨g,0,none⟩:Addr).add _))=_
     rw[Fj,Nat.zero_add]
    have hrun:=Nn (P:=E.P) (R:=R) (cs:=cur.toList) hpl (by simpa using q2) hn (by omega) h1
    obtain⟨_,col,c1,_,hcol,_,_,hel,_⟩:=h.hp.ob i _ hl
    have hcc:c1=c':=by
     obtain⟨l4,_,_,w1,_⟩:=hel k _ (getD_some hk)
     unfold Avg at hin
     rw[hcol] at hin
     simp only at hin
     rw[w1] at hin
     cases hin
     rfl
    subst hcc
    refine⟨_,hrun,Bwa (R':=R.setRow g (cur.toList.take (j*size c1+off)++(a.eval v).cells.toList++cur.toList.drop (j*size c1+off+(a.eval v).cells.toList.length)).toArray) h.hp hl hk hcol hin rfl rfl rfl (by simp) (fun g' _ hg'=>setRow_other R _ g' _ (fun e=>?_)) hown r2 fun _ _=> .v _⟩
    subst e
    rw[q1] at hg'
    exact hg' rfl
theorem A9d {F:Nat→Prop} {N:Nm} {nx:Nat} {R:World} {z:List A} {zs:List Value} (h:HL F N nx R z zs):∀n,HL F N nx R (Bow z n) ((List.replicate n zs).flatten)
 |0=>HL.nil
 |n+1=>by
  unfold Bow
  rw[List.replicate_succ,List.flatten_cons]
  exact h.append (A9d h n)
theorem Rq (z:Array Value):∀n,(madeCells z (n*z.size)).toList=(List.replicate n z.toList).flatten:=fun n=>by
 apply List.ext_getElem?
 intro m
 by_cases hm:m <n*z.size
 ·have hz:0 <z.size:=by
   rcases Nat.eq_zero_or_pos z.size with h0|h0
   ·rw[h0] at hm;simp at hm
   ·exact h0
  have hmod:=Nat.mod_lt m hz
  have e1:(madeCells z (n*z.size)).toList[m]?=some z[m % z.size]:=by
   have:(madeCells z (n*z.size))[m]?=some (z[m % z.size]!):=by simp[madeCells,hm]
   rw[Array.getElem?_toList,this]
   simp[hmod]
  rw[e1]
  have key:∀(k i:Nat),i <k*z.size→((List.replicate k z.toList).flatten)[i]?=some (z[i % z.size]'(Nat.mod_lt _ hz)):=by
   intro k
   induction k with
   |zero=>intro i hi;simp at hi
   | succ k ih=>
    intro i hi
    rw[List.replicate_succ,List.flatten_cons,List.getElem?_append]
    by_cases hlt:i <z.toList.length
    ·rw[if_pos hlt]
     have hlt':i <z.size:=by simpa using hlt
     simp[hlt',Nat.mod_eq_of_lt hlt']
    ·rw[if_neg hlt]
     have hge:z.size≤i:=by simpa using hlt
     rw[Nat.succ_mul] at hi
     rw[show z.toList.length=z.size by simp,ih (i - z.size) (by omega)]
     congr 1
     have:(i - z.size) % z.size=i % z.size:=by
      conv=>rhs;rw[show i=(i - z.size)+z.size by omega,Nat.add_mod_right]
     simp only[this]
  exact(key n m hm).symm
 ·rw[List.getElem?_eq_none (by rw[Array.length_toList,size_madeCells];omega),List.getElem?_eq_none]
  simp only[List.length_flatten,List.map_replicate,Array.length_toList,List.sum_replicate_nat]
  omega
theorem Aqd {P:Program} {t e:TypeId} {i:TypeInfo} {z:Value} {len:Nat} {parts:List (Nat×Value)} (hu:P.underlying t=some (.slice e)) (hi:P.info? e=some i) (hz:i.zero=some z) (hs:len*i.size≤16777216)
  {arr:Array Value} (hf:Instr.fill (fun k=>some (k*i.size,i.size)) (madeCells z.cells (len*i.size)) parts=some arr) (R:World):
  (Instr.buildSlice t len parts.toArray).run P R=.ok (.slice (some ⟨R.heap.size,0,none⟩) len len) (R.alloc (.cells arr e (0,0))):=by
 have g1:¬len*i.size >2^24:=by omega
 have hf':Instr.fill (fun k=>some (k*i.size,i.size)) (Array.map (fun k=>z.cells[k % z.cells.size]!) (Array.range (len*i.size))) parts=some arr:=hf
 by_cases g2:len*i.size=0
 ·have hz0:∀f:Nat→Value,Array.map f (Array.range 0)=#[]:=fun f=>Array.eq_empty_of_size_eq_zero (by simp)
  rw[g2,hz0] at hf'
  simp[Instr.buildSlice,run_underlying hu,sizeOf,typeInfo,hi,g2,hz0,hf',newRow]
 ·simp only[Instr.buildSlice,Sem.run_bind,run_underlying hu,Result.andThen_ok,sizeOf,typeInfo,run_program,hi,Sem.run_pure,g1,g2,if_false,zeroValue,hz,hf']
  simp[newRow]
theorem Ahi (h:Rel Z F N s a R) (hG:OJ (Bl a) G) {u:TypeId} {sz:Nat} {y:Operand} {b:Els} {ps:List Prop} (he:Bmm E s G u sz y=some (b,ps)) (hp:∀p∈ps,p) (hs:0 <sz):
  (∃e',E.P.underlying u=some (.slice e')∨E.P.underlying u=some .string)∧∃us,RowHL F N s.nx R b sz us∧(∀v∈us,v.oneCell'=true)∧
   ∀R',(∀ad v,R.cell? ad=some v→R'.cell? ad=some v)→(Builtin.lenOf (a.eval y)).run E.P R'=.ok b.n R'∧∀k,k≤b.n→(Builtin.firstCells sz k (a.eval y)).run E.P R'=.ok (us.take (k*sz)).toArray R':=by
 unfold Bmm at he
 cases h1:Bsk (E.P.underlying u) with
 | true=>
  rw[h1] at he
  simp only[cond_true] at he
  split at he<;>first|(cases he;done)|skip
  rename_i bs hb
  cases hb1:Nat.beq sz 1 with
  |false=>rw[hb1] at he;cases he
  | true=>
   rw[hb1] at he
   cases he
   obtain rfl:=Nat.eq_of_beq_eq_true hb1
   have hu:E.P.underlying u=some .string:=by
    unfold Bsk at h1
    split at h1<;>first|(cases h1;done)|skip
    rename_i hh
    exact hh
   refine⟨⟨0,.inr hu⟩,bs.data.toList.map Bp,⟨by simp[Els.n],fun k hk=>?_⟩,fun v hv=>?_,fun R' _=>?_⟩
   ·have hk':k <bs.data.toList.length:=hk
    show HL F N s.nx R (enc .u8 (bs.data.toList.getD k 0)) _
    rw[Nat.mul_one]
    have e1:((bs.data.toList.map Bp).drop k).take 1=[Bp (bs.data.toList.getD k 0)]:=by
     rw[List.drop_eq_getElem_cons (by simpa using hk'),List.take_succ_cons,List.take_zero,List.getElem_map,List.getD_eq_getElem?_getD,List.getElem?_eq_getElem hk']
     rfl
    rw[e1]
    exact HL.cons (.v _) HL.nil
   ·obtain⟨b,_,rfl⟩:=List.mem_map.1 hv
    rfl
   ·rw[D7 h hG hb]
    refine⟨by simp only[Builtin.lenOf,Sem.run_pure];rfl,fun k hk=>?_⟩
    have hk':k≤bs.data.toList.length:=hk
    simp only[Builtin.firstCells,Sem.run_pure]
    congr 1
    apply Array.ext'
    rw[Nat.mul_one,Array.toList_map]
    have:(bs.extract 0 k).data.toList=bs.data.toList.take k:=by
     rw[ByteArray.data_extract,Array.toList_extract,List.extract_eq_take_drop]
     simp
    rw[this,List.map_take]
    rfl
 | false=>
  rw[h1] at he
  simp only[cond_false] at he
  cases h2:B02 (E.P.underlying u) with
  |false=>rw[h2] at he;cases he
  | true=>
   rw[h2] at he
   simp only[cond_true] at he
   split at he<;>first|(cases he;done)|skip
   rename_i y' hy
   have hu:∃e',E.P.underlying u=some (.slice e'):=by
    unfold B02 at h2
    split at h2<;>first|(cases h2;done)|skip
    rename_i e' hh
    exact⟨e',hh⟩
   obtain⟨e',hu⟩:=hu
   obtain⟨us,g1,g2,g3⟩:=Bxt h.hp he hp (Br h hG hy).2 hs
   exact⟨⟨e',.inl hu⟩,us,g2,g3,fun R' hc=>A0d g1 hc⟩
end
end Go.Proofs.Yteebobbhhgmeiaa
namespace Go.Proofs.Yteebobbhhgmeiaa
open Go.RowKit
section
variable {E:Env} {Z:Base} {F:Nat→Prop} {N:Nm} {s:St} {a:Act} {R:World} {G:Guards}
theorem Xv {w:World} {e:TypeId} {sz n cap:Nat} {cur:Array Value} {zs:List Value} (hz:zs.length=n*sz) (hc:cur.size=cap*sz) (hm:cap≤maxLen) (hn:n≤cap) (ht:cur.toList.take (n*sz)=zs) {g:Nat} (hg:w.heap[g]?=some (.cells cur e (0,0))):
  OwnR w e sz (.slice (some ⟨g,0,none⟩) n cap) n zs:=by
 cases cap with
 |zero=>
  have:n=0:=by omega
  subst this
  exact⟨hz,.inl ⟨_,rfl,rfl⟩⟩
 |succ c=>exact⟨hz,.inr ⟨g,c,cur,rfl,hg,hn,hm,hc,ht⟩⟩
theorem Bbl {t u ty e e':TypeId} {i:TypeInfo} {z:Value} (ht:E.P.underlying t=some (.slice e)) (hu:E.P.underlying u=some (.slice e')∨E.P.underlying u=some .string) (hi:E.P.info? e=some i) (hz:i.zero=some z) (hzs:z.cells.size=i.size) (hby:i.bytes≤256)
  {b:Option Addr} {n cap m:Nat} {x:Value} {zs us:List Value} (hzl:zs.length=n*i.size) (hul:us.length=m*i.size) (hold:(Builtin.firstCells i.size n (.slice b n cap)).run E.P R.drew=.ok zs.toArray R.drew)
  (hlen:(Builtin.lenOf x).run E.P R=.ok m R) (hnew:(Builtin.firstCells i.size m x).run E.P R.drew=.ok us.toArray R.drew) (hg:cap <n+m) (hbd:Ag (n+m)):
  ∃v' R',(Builtin.append_ #[t,u] ty #[.slice b n cap,x]).run E.P R=.ok v' R'∧OwnR R' e i.size v' (n+m) (zs++us)∧Below R.heap.size R R'∧∀g,CR v'=some g→R.heap.size≤g:=by
 have hbd':n+m≤549755813888:=hbd
 have hb2:(n+m)*i.bytes≤140737488355328:=Nat.le_trans (Nat.mul_le_mul hbd' hby) (by decide)
 have hrun:=A9p (P:=E.P) (w:=R) t u ty e i z ht hu hi hz b n cap m x zs us hold hlen hnew hg (by omega) (growslice_fits hg hb2)
 refine⟨_,_,hrun,?_,((Below.refl _ R).drew).trans ⟨rfl,rfl,rfl,by simp,fun k hk=>Below.heap_alloc R.drew _ k hk⟩,fun g hg=>?_⟩
 ·have hge:=grownCap_ge R (n+m) cap e
  have hmx:maxLen=9223372036854775807:=rfl
  have hcm:grownCap R (n+m) cap e≤maxLen:=grownCap_le_maxLen R (n+m) cap e (by omega)
  refine Xv (cur:=zs.toArray++us.toArray++Builtin.zeroCells z.cells (grownCap R (n+m) cap e - (n+m))) ?_ ?_ hcm hge ?_ (heap_alloc_new R.drew _)
  ·rw[List.length_append,hzl,hul,Nat.add_mul]
  ·simp only[Array.size_append,List.size_toArray,size_zeroCells,hzs,hzl,hul,←Nat.add_mul]
   congr 1
   omega
  ·simp only[Array.toList_append]
   have:(n+m)*i.size=(zs++us).length:=by rw[List.length_append,hzl,hul,Nat.add_mul]
   rw[this]
   exact List.take_left
 ·generalize grownCap R (n+m) cap e=c at hg
  cases c with
  |zero=>cases hg
  |succ c=>cases hg;exact Nat.le_refl _
theorem YI {ad:Addr} {v:Value} (h:R.cell? ad=some v):R.drew.cell? ad=some v:=h
def Bpr (E:Env) (R:World) (t u ty e:TypeId) (sz:Nat) (v0 x:Value) (k:Nat) (zs:List Value):Prop:=∃v' R',(Builtin.append_ #[t,u] ty #[v0,x]).run E.P R=.ok v' R'∧OwnR R' e sz v' k zs∧R'.os=R.os∧R'.tape=R.tape∧R'.output=R.output∧R.heap.size≤R'.heap.size∧
   (∀g,g <R.heap.size→CR v0≠some g→R'.heap[g]?=R.heap[g]?)∧∀g,CR v'=some g→R.heap.size≤g∨CR v0=some g
theorem Blu {t u ty e e':TypeId} {i:TypeInfo} {z:Value} (ht:E.P.underlying t=some (.slice e)) (hu:E.P.underlying u=some (.slice e')∨E.P.underlying u=some .string) (hi:E.P.info? e=some i) (hz:i.zero=some z) (hzs:z.cells.size=i.size) (hby:i.bytes≤256)
  {v0:Value} {n m:Nat} {x:Value} {zs us:List Value} (h0:OwnR R e i.size v0 n zs) (hul:us.length=m*i.size) (h1:∀v∈us,v.oneCell'=true)
  (hx:∀R',(∀ad v,R.cell? ad=some v→R'.cell? ad=some v)→(Builtin.lenOf x).run E.P R'=.ok m R'∧∀k,k≤m→(Builtin.firstCells i.size k x).run E.P R'=.ok (us.take (k*i.size)).toArray R') (hbd:Ag (n+m)):
  Bpr E R t u ty e i.size v0 x (n+m) (zs++us):=by
 obtain⟨hl1,hf1⟩:=hx R fun _ _ h=>h
 obtain⟨_,hf2⟩:=hx R.drew fun _ _ h=>YI h
 have hfull:us.take (m*i.size)=us:=by rw[←hul];exact List.take_length
 have hf1':=hf1 m (Nat.le_refl _)
 have hf2':=hf2 m (Nat.le_refl _)
 rw[hfull] at hf1' hf2'
 have grow:∀b cap,v0=.slice b n cap→(Builtin.firstCells i.size n (.slice b n cap)).run E.P R.drew=.ok zs.toArray R.drew→cap <n+m→Bpr E R t u ty e i.size v0 x (n+m) (zs++us):=fun b cap e0 hold hlt=>by
  obtain⟨v',R',g1,g2,g3,g4⟩:=Bbl (R:=R) (E:=E) (ty:=ty) ht hu hi hz hzs hby h0.1 hul hold hl1 hf2' hlt hbd
  rw[←e0] at g1
  exact⟨v',R',g1,g2,g3.os,g3.tape,g3.output,g3.size,fun g hg _=>g3.block g hg,fun g hg=> .inl (g4 g hg)⟩
 have hrd:=(A0d (P:=E.P) (Bcy h0) (w':=R.drew) fun _ _ h=>YI h).2 n (Nat.le_refl _)
 have hzfull:zs.take (n*i.size)=zs:=by rw[←h0.1];exact List.take_length
 rw[hzfull] at hrd
 rcases h0.2 with⟨b,e0,n0⟩|⟨g,cap,cur,e0,q2,q3,q4,q5,q6⟩
 ·subst n0
  by_cases hm:m=0
  ·subst hm
   have hus:us=[]:=List.eq_nil_of_length_eq_zero (by simpa using hul)
   subst hus
   have:=A9q (P:=E.P) (w:=R) t u ty e i ht hu hi b x hl1 (by simpa using hf1 0 (Nat.le_refl _))
   rw[←e0] at this
   exact⟨v0,R,this,by simpa using h0,rfl,rfl,rfl,Nat.le_refl _,fun _ _ _=>rfl,fun g hg=> .inr hg⟩
  ·rw[e0] at hrd
   exact grow b 0 e0 hrd (by omega)
 ·by_cases hroom:n+m≤cap+1
  ·have hfit:n*i.size+us.length≤cur.size:=by rw[hul,q5,←Nat.add_mul];exact Nat.mul_le_mul_right _ hroom
   have hrun:=A9r (P:=E.P) (w:=R) t u ty e i ht hu hi g n (cap+1) m x cur q2 us hl1 hf1' h1 hroom hfit
   rw[←e0] at hrun
   refine⟨_,_,hrun,?_,rfl,rfl,rfl,by simp,fun g' _ hg'=>setRow_other R _ g' _ (fun e=>hg' (by subst e;rw[e0];rfl)),fun g' hg'=> .inr (by rw[e0];exact hg')⟩
   refine Xv (by rw[List.length_append,h0.1,hul,Nat.add_mul]) ?_ q4 hroom ?_ (setRow_heap R g cur _ e _ q2)
   ·simp only[List.size_toArray,List.length_append,List.length_take,List.length_drop,Array.length_toList]
    omega
   ·show List.take ((n+m)*i.size) (cur.toList.take (n*i.size)++us++cur.toList.drop (n*i.size+us.length))=_
    rw[q6]
    have:(n+m)*i.size=(zs++us).length:=by rw[List.length_append,h0.1,hul,Nat.add_mul]
    rw[this]
    exact List.take_left
  ·rw[e0] at hrd
   exact grow _ _ e0 hrd (by omega)
theorem Bv8 (h:HRel F N s.nx s.o R) {e:TypeId} {sz:Nat} {x:A} {v:Value} {d:Option Nat} {els:Els} (he:Brr s.o e sz x=some (d,els)) (hx:Hv F N s.nx R x v):
  ∃zs,OwnR R e sz v els.n zs∧RowHL F N s.nx R els sz zs∧(∀i,d=some i→(∃e' s' els',Ao i s.o=some (.arr e' s' els'))∧v=N.q i)∧(d=none→CR v=none):=by
 unfold Brr at he
 split at he<;>first|(cases he;done)|skip
 ·rename_i i
  split at he<;>first|(cases he;done)|skip
  rename_i e' size els' hl
  cases hb:Nat.beq e' e with
  |false=>rw[hb] at he;cases he
  | true=>
   cases hb2:Nat.beq size sz with
   |false=>rw[hb,hb2] at he;cases he
   |true=>
    rw[hb,hb2] at he
    cases he
    obtain rfl:=Nat.eq_of_beq_eq_true hb
    obtain rfl:=Nat.eq_of_beq_eq_true hb2
    obtain⟨_,zs,g1,g2⟩:=h.ob i _ hl
    rw[hx.sq_inv.2]
    exact⟨zs,g1,⟨g1.1,g2⟩,(fun j hj=>by cases hj;exact⟨⟨_,_,_,hl⟩,rfl⟩),fun e=>by cases e⟩
 ·cases he
  obtain⟨b,rfl⟩:=hx.nl_inv
  exact⟨[],⟨by simp[Els.n],.inl ⟨b,rfl,rfl⟩⟩,.nil,(fun j hj=>by cases hj),fun _=>by cases b<;>rfl⟩
 ·rename_i x
  cases hb:D5 x with
  |false=>rw[hb] at he;cases he
  |true=>
   rw[hb] at he
   cases he
   rw[hx.v_inv,Gr hb]
   exact⟨[],⟨by simp[Els.n],.inl ⟨none,rfl,rfl⟩⟩,.nil,(fun j hj=>by cases hj),fun _=>rfl⟩
theorem B0m (h:Rel Z F N s a R) (hG:OJ (Bl a) G) {t u ty:TypeId} {x y:Operand} {f:Eff} (he:Bvt E s G t u x y=some f) (hp:∀p∈f.ps,p):
  ∃v R',(Builtin.append_ #[t,u] ty #[a.eval x,a.eval y]).run E.P R=.ok v R'∧EK F N s.nx s.o R f v R':=by
 unfold Bvt at he
 split at he<;>first|(cases he;done)|skip
 rename_i e ht
 split at he<;>first|(cases he;done)|skip
 rename_i sz hsz
 cases hsd:Aqe E.P e sz with
 |false=>rw[hsd] at he;cases he
 | true=>
  rw[hsd] at he
  simp only[cond_true] at he
  obtain⟨i,z,hi,hz,rfl,hzs,hpos,hby⟩:=A0c hsd
  split at he<;>first|(cases he;done)|skip
  rename_i b ps hb
  split at he
  ·rename_i j z' lo n hx
   obtain⟨_,aa,cap,q1,q2,q3,q4⟩:=(Br h hG hx).2.vw_inv
   split at he<;>first|(cases he;done)|skip
   rename_i e0 size els hl
   cases hb0:Nat.beq z' i.size with
   |false=>rw[hb0] at he;cases he
   |true=>
   cases hb1:Nat.beq size i.size with
   |false=>rw[hb0,hb1] at he;cases he
   | true=>
    rw[hb0,hb1] at he
    simp only[cond_true] at he
    split at he<;>first|(cases he;done)|skip
    rename_i r qs hcat
    cases he
    generalize hnorm:r.norm (E.tc e)=nn at*
    obtain⟨r',rs⟩:=nn
    obtain rfl:=Nat.eq_of_beq_eq_true hb0
    obtain rfl:=Nat.eq_of_beq_eq_true hb1
    obtain⟨hle,hm0,hbd⟩:=hp _ (List.mem_cons_self ..)
    have hp1:∀p∈ps,p:=fun p hm=>hp p (List.mem_cons_of_mem _ (List.mem_append.2 (.inl hm)))
    have hp2:∀p∈qs,p:=fun p hm=>hp p (List.mem_cons_of_mem _ (List.mem_append.2 (.inr (List.mem_append.2 (.inl hm)))))
    have hp3:∀p∈rs,p:=fun p hm=>hp p (List.mem_cons_of_mem _ (List.mem_append.2 (.inr (List.mem_append.2 (.inr hm)))))
    obtain⟨⟨e',hu⟩,us,g1,g2,g3⟩:=Ahi h hG hb hp1 hpos
    obtain⟨_,zs,r1,r2⟩:=h.hp.ob j _ hl
    have hr:RowHL F N s.nx R els i.size zs:=⟨r1.1,r2⟩
    have hsub:=hr.sub hle
    obtain⟨c1,c2⟩:=A3r hcat hp2 hsub g1
    obtain⟨d1,d2⟩:=Bmq hnorm hp3 c2
    rw[A5d hle] at c1
    obtain⟨hl1,_⟩:=g3 R fun _ _ h=>h
    obtain⟨_,hf2⟩:=g3 R.drew fun _ _ h=>YI h
    have hful:us.take (b.n*i.size)=us:=by rw[←g1.1];exact List.take_length
    have hf2':=hf2 b.n (Nat.le_refl _)
    rw[hful] at hf2'
    have hflat:Bbd R (.slice aa n cap) i.size n ((zs.drop (lo*i.size)).take (n*i.size)):=⟨by rw[hsub.1,A5d hle],⟨aa,cap,rfl,q2⟩,fun A m c e hn=>by
     cases e
     refine⟨_,q4 hn,fun k v hv=>?_⟩
     obtain⟨g,c2,p1,_,p3,_,p5⟩:=FL r1 (by omega)
     rw[p3,Fj,Fj,Nat.zero_add]
     rw[List.getElem?_take] at hv
     split at hv<;>first|(cases hv;done)|skip
     rw[List.getElem?_drop] at hv
     exact p5 _ v hv⟩
    have hrd:=(A0d (P:=E.P) hflat (w':=R.drew) fun _ _ h=>YI h).2 n (Nat.le_refl _)
    rw[List.take_take,Nat.min_self] at hrd
    have hcap:cap=n:=q3 rfl
    obtain⟨v',R',k1,k2,k3,k4⟩:=Bbl (R:=R) (E:=E) (ty:=ty) ht hu hi hz hzs hby hflat.len g1.1 hrd hl1 hf2' (by omega) hbd
    rw[q1]
    refine⟨v',R',k1,?_⟩
    have hrow:=A6q (k:=1) (ps:=(lo+n≤els.n∧0 <b.n∧Ag (n+b.n))::(ps++(qs++rs))) (d:=none) (e:=e) (els:=r') (v:=v') h.hp k3.os k3.tape k3.output k3.size (fun _ e=>by cases e) (fun g hg _=>k3.block g hg) (by rw[d1,c1];exact k2) d2 (fun g hg=> .inl (k4 g hg)) (fun _=>rfl)
    exact hrow
  ·rename_i j hx
   split at he<;>first|(cases he;done)|skip
   rename_i e1 c l cs hl
   cases hb1:Nat.beq e1 e with
   |false=>rw[hb1] at he;cases he
   |true=>
   cases hb2:Nat.beq (size c) i.size with
   |false=>rw[hb1,hb2] at he;cases he
   | true=>
    rw[hb1,hb2] at he
    simp only[cond_true] at he
    split at he<;>first|(cases he;done)|skip
    rename_i q d qs hd
    cases he
    obtain rfl:=Nat.eq_of_beq_eq_true hb1
    have hsz2:=Nat.eq_of_beq_eq_true hb2
    have hbd:Ag (l.length+1):=hp _ (List.mem_cons_self ..)
    have hp1:∀p∈ps,p:=fun p hm=>hp p (List.mem_cons_of_mem _ (List.mem_append.2 (.inl hm)))
    have hp2:∀p∈qs,p:=fun p hm=>hp p (List.mem_cons_of_mem _ (List.mem_append.2 (.inr hm)))
    obtain⟨⟨e',hu⟩,us,g1,g2,g3⟩:=Ahi h hG hb hp1 hpos
    obtain⟨hjn,zs,r1,r2⟩:=Afj h.hp hl
    rw[hsz2] at r1
    have hul:us.length=1*i.size:=g1.1
    obtain⟨v',R',k1,k2,k3,k4,k5,k6,k7,k8⟩:=Blu (E:=E) (ty:=ty) ht hu hi hz hzs hby r1 hul g2 g3 hbd
    rw[(Br h hG hx).2.dq_inv.2]
    have hus:HL F N s.nx R cs us:=by
     have:=g1.2 0 (Nat.succ_pos 0)
     have e1:(us.drop (0*i.size)).take i.size=us:=by rw[Nat.zero_mul,List.drop_zero];exact List.take_of_length_le (by omega)
     rw[e1] at this
     exact this
    rw[←hsz2] at r1 k2
    exact⟨v',R',k1,Bv9 h.hp hl hd hp2 hus (by rw[hul,hsz2,Nat.one_mul]) r1 r2 k3 k4 k5 k6 k7 k2 k8⟩
  ·rename_i x' hnv hndq hx
   split at he<;>first|(cases he;done)|skip
   rename_i d els hd
   split at he<;>first|(cases he;done)|skip
   rename_i r qs hcat
   cases he
   generalize hnorm:r.norm (E.tc e)=nn at*
   obtain⟨r',rs⟩:=nn
   have hbd:Ag (els.n+b.n):=hp _ (List.mem_cons_self ..)
   have hp1:∀p∈ps,p:=fun p hm=>hp p (List.mem_cons_of_mem _ (List.mem_append.2 (.inl hm)))
   have hp2:∀p∈qs,p:=fun p hm=>hp p (List.mem_cons_of_mem _ (List.mem_append.2 (.inr (List.mem_append.2 (.inl hm)))))
   have hp3:∀p∈rs,p:=fun p hm=>hp p (List.mem_cons_of_mem _ (List.mem_append.2 (.inr (List.mem_append.2 (.inr hm)))))
   obtain⟨⟨e',hu⟩,us,g1,g2,g3⟩:=Ahi h hG hb hp1 hpos
   obtain⟨zs,r1,r2,r3,r4⟩:=Bv8 h.hp hd (Br h hG hx).2
   obtain⟨c1,c2⟩:=A3r hcat hp2 r2 g1
   obtain⟨d1,d2⟩:=Bmq hnorm hp3 c2
   obtain⟨v',R',k1,k2,k3,k4,k5,k6,k7,k8⟩:=Blu (E:=E) (ty:=ty) ht hu hi hz hzs hby r1 g1.1 g2 g3 hbd
   refine⟨v',R',k1,A6q h.hp k3 k4 k5 k6 (fun j hj=>(r3 j hj).1) (fun g hg hn=>k7 g hg fun e=>?_) (by rw[d1,c1];exact k2) d2 (fun g hg=>?_) (fun hk=>?_)⟩
   ·cases d with
    |none=>rw[r4 rfl] at e;cases e
    |some j=>
     rw[(r3 j rfl).2] at e
     exact hn j rfl e
   ·rcases k8 g hg with h1|h1
    ·exact .inl h1
    ·cases d with
     |none=>rw[r4 rfl] at h1;cases h1
     |some j=>exact .inr ⟨j,rfl,by rw[←(r3 j rfl).2];exact h1⟩
   ·cases d with
    |none=>rfl
    |some j=>cases hk with|step hk=>cases hk
  ·cases he
theorem Aju:∀{ps:List (Nat×Value)} {A0 arr:Array Value} {pl:Nat→Option (Nat×Nat)},Instr.fill pl A0 ps=some arr→arr.size=A0.size
 | [],A0,arr,pl,hf=>by simp only[Instr.fill] at hf;cases hf;rfl
 | (k,v)::r,A0,arr,pl,hf=>by
  unfold Instr.fill at hf
  split at hf<;>first|(cases hf;done)|skip
  split at hf
  ·cases hf
  ·rw[Aju hf]
   have key:∀(l:List (Value×Nat)) (off:Nat) (c:Array Value),(l.foldl (fun(c:Array Value) (p:Value×Nat)=>c.setIfInBounds (off+p.2) p.1) c).size=c.size:=by
    intro l
    induction l with
    |nil=>intro off c;rfl
    |cons p r ih=>intro off c;rw[List.foldl_cons,ih];simp
   rw[←Array.foldl_toList]
   exact key _ _ _
theorem Bg8 (h:Rel Z F N s a R) (hG:OJ (Bl a) G) {t:TypeId} {len:Nat} {parts:Array (Nat×Operand)} {f:Eff} (he:Sb E s G t len parts.toList=some f):
  ∃v R',(Instr.buildSlice t len (parts.map fun(i,x)=>(i,a.eval x))).run E.P R=.ok v R'∧EK F N s.nx s.o R f v R':=by
 unfold Sb at he
 split at he<;>first|(cases he;done)|skip
 rename_i e hu
 split at he<;>first|(cases he;done)|skip
 rename_i i hi
 split at he<;>first|(cases he;done)|skip
 rename_i z hz
 split at he<;>first|(cases he;done)|skip
 rename_i ps hps
 cases h1:Nat.ble (len*i.size) 16777216 with
 |false=>rw[h1] at he;cases he
 |true=>
 cases h2:Nat.beq z.cells.size i.size with
 |false=>rw[h1,h2] at he;cases he
 |true=>
 cases h3:Nat.ble 1 i.size with
 |false=>rw[h1,h2,h3] at he;cases he
 | true=>
  rw[h1,h2,h3] at he
  simp only[cond_true] at he
  split at he<;>first|(cases he;done)|skip
  rename_i cs hcs
  cases h4:Uk s.o (.lst (I4 i.size len cs)) with
  |false=>rw[h4] at he;cases he
  | true=>
   rw[h4] at he
   simp only[cond_true] at he
   have g1:=Nat.le_of_ble_eq_true h1
   have g2:=Nat.eq_of_beq_eq_true h2
   have g3:0 <i.size:=Nat.le_of_ble_eq_true h3
   have hparts:=YZ h hG hps
   have hz0:HL F N s.nx R (Bow (toL z.cells.toList) len) (madeCells z.cells (len*i.size)).toList:=by
    rw[←g2,Rq]
    exact A9d (HL.toL _) len
   obtain⟨arr,q1,q2⟩:=Wd hcs hparts hz0
   have hl:(parts.map fun(i,x)=>(i,a.eval x))=(parts.toList.map fun(i,x)=>(i,a.eval x)).toArray:=by rw[←Array.toList_map,Array.toArray_toList]
   have hrun:=Aqd hu hi hz g1 q1 R
   rw[←hl] at hrun
   refine⟨_,_,hrun,?_⟩
   cases h5:Nat.beq len 0 with
   |true=>
    rw[h5] at he
    cases he
    obtain rfl:=Nat.eq_of_beq_eq_true h5
    have hb:Below R.heap.size R (R.alloc (.cells arr e (0,0))):=Qg _
    exact⟨F,N,(h.hp.grow hb).1,Step.of_below hb,.nl _,fun _=>hb⟩
   |false=>
   rw[h5] at he
   cases he
   have hasz:arr.size=len*i.size:=by rw[Aju q1,size_madeCells]
   have hrow:RowHL F N s.nx R (.lst (I4 i.size len cs)) i.size arr.toList:=by
    have hn:(Els.lst (I4 i.size len cs)).n=len:=MK _ _ _
    refine⟨by rw[hn,Array.length_toList,hasz],fun k hk=>?_⟩
    rw[hn] at hk
    show HL F N s.nx R (Jz (I4 i.size len cs) k) _
    rw[Ab3 _ _ _ _ hk]
    exact(q2.drop _).take _
   have hn:(Els.lst (I4 i.size len cs)).n=len:=MK _ _ _
   have hmx:len≤maxLen:=by
    have h5:len≤len*i.size:=Nat.le_mul_of_pos_right _ g3
    have hmx:maxLen=9223372036854775807:=rfl
    omega
   refine A6q (d:=none) (v:=.slice (some ⟨R.heap.size,0,none⟩) len len) h.hp rfl rfl rfl (by simp) (fun _ e=>by cases e) (fun g hg _=>Below.heap_alloc R _ g hg) ?_ hrow (fun g hg=> .inl ?_) (fun _=>rfl)
   ·rw[hn]
    exact Xv (by rw[Array.length_toList,hasz]) hasz hmx (Nat.le_refl _) (List.take_of_length_le (by rw[Array.length_toList,hasz];exact Nat.le_refl _)) (heap_alloc_new R _)
   ·cases len with
    |zero=>cases hg
    |succ n=>cases hg;exact Nat.le_refl _
theorem Bod (ok:EnvOk E) (h:Rel Z F N s a R) (hG:OJ (Bl a) G) {t:TypeId} {len cap:Operand} {f:Eff} (he:Atk E s G t len cap=some f) (hp:∀p∈f.ps,p):
  ∃v R',(Instr.makeSlice t (a.eval len) (a.eval cap)).run E.P R=.ok v R'∧EK F N s.nx s.o R f v R':=by
 unfold Atk at he
 split at he<;>first|(cases he;done)|skip
 rename_i e hu
 split at he<;>first|(cases he;done)|skip
 rename_i c hc
 split at he<;>first|(cases he;done)|skip
 rename_i k1 l k2 m hl hm
 cases hsd:Aqe E.P e (size c) with
 |false=>rw[hsd] at he;cases he
 | true=>
  rw[hsd] at he
  cases he
  obtain⟨i,z,hi,hz,hs1,hzs,hpos,hby⟩:=A0c hsd
  obtain⟨i',hi',_,_,z',hz',hzc⟩:=ok.tc e c hc
  rw[hi] at hi'
  cases hi'
  rw[hz] at hz'
  cases hz'
  obtain⟨h0,h1,h2⟩:=hp _ (List.mem_singleton.2 rfl)
  have hbm:(i.bytes:Int)*m≤281474976710656:=by
   have a1:(i.bytes:Int)*m≤256*m:=Int.mul_le_mul_of_nonneg_right (by omega) (by omega)
   omega
  have hrun:=run_make (P:=E.P) R t e i z hu hi hz k1 k2 l m h0 h1 hbm (by omega)
  rw[D7 h hG hl,D7 h hG hm]
  refine⟨_,_,hrun,?_⟩
  have hn:(Els.ty c (List.replicate l.toNat (Ac c))).n=l.toNat:=by simp[Els.n]
  have hzl:z.cells.toList.length=size c:=by rw[Array.length_toList,hzs]
  have hmade:∀n,(madeCells z.cells (n*i.size)).toList=(List.replicate n z.cells.toList).flatten:=fun n=>by
   rw[hs1,←hzs]
   exact Rq _ _
  have hflen:∀n,((List.replicate n z.cells.toList).flatten).length=n*size c:=fun n=>by
   simp only[List.length_flatten,List.map_replicate,hzl,List.sum_replicate_nat]
  have htake:∀(k n:Nat),k≤n→((List.replicate n z.cells.toList).flatten).take (k*size c)=(List.replicate k z.cells.toList).flatten:=fun k n hkn=>by
   have:List.replicate n z.cells.toList=List.replicate k z.cells.toList++List.replicate (n - k) z.cells.toList:=by rw[List.replicate_append_replicate];congr 1;omega
   rw[this,List.flatten_append]
   have e1:k*size c=((List.replicate k z.cells.toList).flatten).length:=(hflen k).symm
   rw[e1]
   exact List.take_left
  have hdrop:∀(k n:Nat),k≤n→((List.replicate n z.cells.toList).flatten).drop (k*size c)=(List.replicate (n - k) z.cells.toList).flatten:=fun k n hkn=>by
   have:List.replicate n z.cells.toList=List.replicate k z.cells.toList++List.replicate (n - k) z.cells.toList:=by rw[List.replicate_append_replicate];congr 1;omega
   rw[this,List.flatten_append]
   have e1:k*size c=((List.replicate k z.cells.toList).flatten).length:=(hflen k).symm
   rw[e1]
   exact List.drop_left
  have hrow:RowHL F N s.nx R (.ty c (List.replicate l.toNat (Ac c))) (size c) ((List.replicate l.toNat z.cells.toList).flatten):=by
   refine⟨by rw[hn,hflen],fun k hk=>?_⟩
   rw[hn] at hk
   rw[hdrop k _ (by omega),show l.toNat - k=(l.toNat - k - 1)+1 by omega,List.replicate_succ,List.flatten_cons,show size c=z.cells.toList.length from hzl.symm,List.take_left]
   show HL F N s.nx R (enc c _) _
   rw[List.getD_eq_getElem?_getD,List.getElem?_replicate,if_pos hk]
   exact hzc F N s.nx R
  refine A6q (d:=none) (v:=.slice (some ⟨R.heap.size,0,none⟩) l.toNat m.toNat) h.hp rfl rfl rfl (by simp) (fun _ e=>by cases e) (fun g hg _=>Below.heap_alloc R _ g hg) ?_ hrow (fun g hg=> .inl ?_) (fun _=>rfl)
  ·rw[hn]
   have hmx:maxLen=9223372036854775807:=rfl
   refine Xv (cur:=madeCells z.cells (m.toNat*i.size)) (hflen _) (by rw[size_madeCells,hs1]) (by omega) (by omega) ?_ (heap_alloc_new R _)
   rw[hmade]
   exact htake _ _ (by omega)
  ·generalize m.toNat=c at hg
   cases c with
   |zero=>cases hg
   |succ n=>cases hg;exact Nat.le_refl _
end
end Go.Proofs.Yteebobbhhgmeiaa
namespace Go.Proofs.Yteebobbhhgmeiaa
open Go.RowKit Go.MapKept
section
variable {F:Nat→Prop} {N:Nm} {nx:Nat} {R:World} {size:Nat}
theorem B1m {c:TC} {l m:List (U c)} {lo n:Nat} (hlo:lo+Nat.min n m.length≤l.length):
  (Els.ty c (l.take lo++(m.take n++l.drop (lo+Nat.min n m.length)))).n=l.length∧
  ∀j,j <l.length→(Els.ty c (l.take lo++(m.take n++l.drop (lo+Nat.min n m.length)))).nth j=if lo≤j∧j <lo+Nat.min n m.length then(Els.ty c m).nth (j - lo) else(Els.ty c l).nth j:=by
 have hmin:Nat.min n m.length=min n m.length:=rfl
 refine⟨?_,fun j hj=>?_⟩
 ·show(l.take lo++(m.take n++l.drop _)).length=_
  rw[List.length_append,List.length_append,List.length_take,List.length_take,List.length_drop]
  omega
 ·show enc c ((l.take lo++(m.take n++l.drop _)).getD j (Ac c))=_
  rw[List.getD_eq_getElem?_getD,List.getElem?_append,List.length_take]
  by_cases c1:j <lo
  ·rw[if_pos (by omega),if_neg (by omega),List.getElem?_take,if_pos c1]
   show _=enc c (l.getD j _)
   rw[List.getD_eq_getElem?_getD]
  ·rw[if_neg (by omega),List.getElem?_append,List.length_take]
   by_cases c2:j <lo+Nat.min n m.length
   ·rw[if_pos (by omega),if_pos ⟨by omega,c2⟩,List.getElem?_take,if_pos (by omega)]
    show _=enc c (m.getD (j - lo) _)
    rw[List.getD_eq_getElem?_getD]
    congr 3
    omega
   ·rw[if_neg (by omega),if_neg (by omega),List.getElem?_drop]
    show _=enc c (l.getD j _)
    rw[List.getD_eq_getElem?_getD]
    congr 3
    omega
theorem B08 {lo n:Nat} {els b r:Els} {ps:List Prop} {zs us:List Value} (he:Bsz lo n els b=some (r,ps)) (hp:∀p∈ps,p) (h1:RowHL F N nx R els size zs) (h2:RowHL F N nx R b size us) (hle:lo+n≤els.n):
  r.n=els.n∧RowHL F N nx R r size (zs.take (lo*size)++us.take (Nat.min b.n n*size)++zs.drop (lo*size+(us.take (Nat.min b.n n*size)).length)):=by
 unfold Bsz at he
 split at he<;>first|(cases he;done)|skip
 rename_i c l
 split at he<;>first|(cases he;done)|skip
 rename_i m qs hm
 cases he
 have h3:=h2.ty hm hp
 have hbn:m.length=b.n:=(K9 (F:=F) (N:=N) (nx:=nx) (R:=R) hm hp).1
 have hmin:Nat.min b.n n=min b.n n:=rfl
 have hmin2:Nat.min n m.length=min n m.length:=rfl
 have hle':lo+n≤l.length:=hle
 obtain⟨k1,k2⟩:=B1m (m:=m) (l:=l) (lo:=lo) (n:=n) (by omega)
 have hz:zs.length=l.length*size:=h1.1
 have hu:us.length=m.length*size:=h3.1
 have hul:(us.take (Nat.min b.n n*size)).length=Nat.min b.n n*size:=by
  rw[List.length_take,hu,hbn]
  exact Nat.min_eq_left (Nat.mul_le_mul_right _ (by omega))
 have hlm:lo*size+Nat.min b.n n*size≤zs.length:=by rw[hz,←Nat.add_mul];exact Nat.mul_le_mul_right _ (by omega)
 refine⟨k1,?_,fun j hj=>?_⟩
 ·rw[k1,List.length_append,List.length_append,hul,List.length_take,List.length_drop,←hz]
  omega
 ·rw [k1] at hj
  rw[k2 j hj]
  have hjs:j*size+size≤zs.length:=by rw[hz,←Nat.succ_mul];exact Nat.mul_le_mul_right _ hj
  by_cases c1:j <lo
  ·rw[if_neg (by omega)]
   have:j*size+size≤lo*size:=by rw[←Nat.succ_mul];exact Nat.mul_le_mul_right _ c1
   rw[List.append_assoc,List.drop_append_of_le_length (by rw[List.length_take];omega),List.take_append_of_le_length (by rw[List.length_drop,List.length_take];omega),List.drop_take,List.take_take,Nat.min_eq_left (by omega)]
   exact h1.2 j hj
  ·by_cases c2:j <lo+Nat.min n m.length
   ·rw[if_pos ⟨by omega,c2⟩]
    have hk:j - lo <b.n:=by omega
    have e1:j*size=lo*size+(j - lo)*size:=by rw[←Nat.add_mul];congr 1;omega
    have hks:(j - lo)*size+size≤Nat.min b.n n*size:=by rw[←Nat.succ_mul];exact Nat.mul_le_mul_right _ (by omega)
    rw[List.append_assoc,List.drop_append,List.drop_eq_nil_of_le (by rw[List.length_take];omega),List.nil_append,List.length_take,Nat.min_eq_left (by omega),e1,Nat.add_sub_cancel_left,
     List.drop_append_of_le_length (by omega),List.take_append_of_le_length (by rw[List.length_drop];omega),List.drop_take,List.take_take,Nat.min_eq_left (by omega)]
    exact h3.2 (j - lo) (by rw[show(Els.ty c m).n=m.length from rfl,hbn];exact hk)
   ·rw[if_neg (by omega)]
    have:lo*size+Nat.min b.n n*size≤j*size:=by rw[←Nat.add_mul];exact Nat.mul_le_mul_right _ (by omega)
    rw[List.drop_append,List.drop_eq_nil_of_le (by rw[List.length_append,List.length_take,hul];omega),List.nil_append,List.length_append,List.length_take,hul,List.drop_drop]
    have e2:lo*size+Nat.min b.n n*size+(j*size - (min (lo*size) zs.length+Nat.min b.n n*size))=j*size:=by omega
    rw[e2]
    exact h1.2 j hj
end
section
variable {E:Env} {Z:Base} {F:Nat→Prop} {N:Nm} {s:St} {a:Act} {R:World} {G:Guards}
theorem Bv7 (h:Rel Z F N s a R) (hG:OJ (Bl a) G) {t u ty:TypeId} {x y:Operand} {f:Eff} (he:Bl2 E s G t u x y=some f) (hp:∀p∈f.ps,p):
  ∃v R',(Builtin.copy_ #[t,u] ty #[a.eval x,a.eval y]).run E.P R=.ok v R'∧EK F N s.nx s.o R f v R':=by
 unfold Bl2 at he
 split at he<;>first|(cases he;done)|skip
 rename_i e ht
 split at he<;>first|(cases he;done)|skip
 rename_i sz hsz
 cases hsd:Aqe E.P e sz with
 |false=>rw[hsd] at he;cases he
 | true=>
  rw[hsd] at he
  simp only[cond_true] at he
  obtain⟨i,z,hi,hz,rfl,hzs,hpos,hby⟩:=A0c hsd
  split at he<;>first|(cases he;done)|skip
  rename_i b ps hb
  have main:∀(j lo n:Nat) (e':TypeId) (els r:Els) (qs:List Prop) (aa:Option Addr) (cap:Nat) (k0:List Prop),Ao j s.o=some (.arr e' i.size els)→Bsz lo n els b=some (r,qs)→(∀p∈ps,p)→(∀p∈qs,p)→lo+n≤els.n→
    a.eval x=.slice aa n cap→(0 <n→aa=some ((FD (N.q j)).add (lo*i.size)))→
    ∃v R',(Builtin.copy_ #[t,u] ty #[a.eval x,a.eval y]).run E.P R=.ok v R'∧EK F N s.nx s.o R ⟨.v (.int .i64 (Nat.min b.n n:Nat)),s.nx,(j,some (.arr e' i.size r))::s.o,2,k0⟩ v R':=by
   intro j lo n e' els r qs aa cap k0 hl hmid hp1 hp2 hle hxv haa
   obtain⟨_,us,g1,g2,g3⟩:=Ahi h hG hb hp1 hpos
   obtain⟨_,zs,r1,r2⟩:=h.hp.ob j _ hl
   obtain⟨d1,d2⟩:=B08 hmid hp2 ⟨r1.1,r2⟩ g1 hle
   obtain⟨hl1,hf1⟩:=g3 R fun _ _ h=>h
   have hmin:Nat.min b.n n=min b.n n:=rfl
   have hlen:(us.take (Nat.min b.n n*i.size)).length=Nat.min b.n n*i.size:=by
    rw[List.length_take,g1.1]
    exact Nat.min_eq_left (Nat.mul_le_mul_right _ (by omega))
   by_cases hn:0 <n
   ·obtain⟨g,c,cur,q1,q2,q3,q4,q5,q6⟩:=A8a r1 (by omega)
    have hpl:aa=some ⟨g,lo*i.size,none⟩:=by
     rw[haa hn,q1]
     show some ((⟨g,0,none⟩:Addr).add _)=_
     rw[Fj,Nat.zero_add]
    have hfit:lo*i.size+(us.take (Nat.min b.n n*i.size)).length≤els.n*i.size:=by
     rw[hlen,←Nat.add_mul]
     exact Nat.mul_le_mul_right _ (by omega)
    have hcur:els.n*i.size≤cur.size:=by rw[q5];exact Nat.mul_le_mul_right _ q3
    have hrun:=A2z (P:=E.P) (w:=R) (ty:=ty) (sT:=u) ht hi (g:=g) (o:=lo*i.size) (dLen:=n) (dCap:=cap) hl1 (hf1 (Nat.min b.n n) (by omega)) q2 (by omega) (fun v hv=>g2 v (List.mem_of_mem_take hv))
    rw[hxv,hpl]
    refine⟨_,_,hrun,?_⟩
    have hown:=A8b (w:=R) (o:=lo*i.size) (vs:=us.take (Nat.min b.n n*i.size)) r1.1 q2 q3 q4 q5 q6 hfit
    rw[←q1,←d1] at hown
    refine Bhk (R':=R.setRow g (cur.toList.take (lo*i.size)++us.take (Nat.min b.n n*i.size)++cur.toList.drop (lo*i.size+(us.take (Nat.min b.n n*i.size)).length)).toArray) h.hp hl rfl rfl rfl (by simp) (fun g' _ hg'=>setRow_other R _ g' _ (fun e=>?_)) hown d2 fun _ _=> .v _
    subst e
    rw[q1] at hg'
    exact hg' rfl
   ·have h0:Nat.min b.n n=0:=by omega
    have hrun:=A20 (P:=E.P) (w:=R) (ty:=ty) (sT:=u) ht hi (d:=aa) (dLen:=n) (dCap:=cap) hl1 h0 (by simpa using hf1 0 (Nat.zero_le _))
    rw[hxv]
    refine⟨_,_,hrun,?_⟩
    rw[h0,Nat.zero_mul] at d2
    rw[h0]
    have d2':RowHL F N s.nx R r i.size zs:=by simpa using d2
    exact Bhk (R':=R) h.hp hl rfl rfl rfl (Nat.le_refl _) (fun _ _ _=>rfl) (by rw[d1];exact r1) d2' fun _ _=> .v _
  split at he<;>first|(cases he;done)|skip
  ·rename_i j hx
   split at he<;>first|(cases he;done)|skip
   rename_i e' size els hl
   cases hb1:Nat.beq size i.size with
   |false=>rw[hb1] at he;cases he
   |true=>
    rw[hb1] at he
    simp only[cond_true] at he
    split at he<;>first|(cases he;done)|skip
    rename_i r qs hmid
    cases he
    obtain rfl:=Nat.eq_of_beq_eq_true hb1
    obtain⟨_,zs,r1,_⟩:=h.hp.ob j _ hl
    obtain⟨aa,cap,e1,_⟩:=r1.form
    refine main j 0 els.n e' els r qs aa cap _ hl hmid (fun p hm=>hp p (List.mem_append.2 (.inl hm))) (fun p hm=>hp p (List.mem_append.2 (.inr hm))) (by omega) (by rw[(Br h hG hx).2.sq_inv.2,e1]) fun hn=>?_
    obtain⟨g,c,q1,_,q3,_,_⟩:=FL r1 hn
    rw[q1] at e1
    cases e1
    rw[q3,Nat.zero_mul,add_zero]
  ·rename_i j z' lo n f hx
   split at he<;>first|(cases he;done)|skip
   rename_i e' size els hl
   cases hb0:Nat.beq z' i.size with
   |false=>rw[hb0] at he;cases he
   |true=>
   cases hb1:Nat.beq size i.size with
   |false=>rw[hb0,hb1] at he;cases he
   |true=>
    rw[hb0,hb1] at he
    simp only[cond_true] at he
    split at he<;>first|(cases he;done)|skip
    rename_i r qs hmid
    cases he
    obtain rfl:=Nat.eq_of_beq_eq_true hb0
    obtain rfl:=Nat.eq_of_beq_eq_true hb1
    obtain⟨_,aa,cap,e1,_,_,e4⟩:=(Br h hG hx).2.vw_inv
    exact main j lo n e' els r qs aa cap _ hl hmid (fun p hm=>hp p (List.mem_cons_of_mem _ (List.mem_append.2 (.inl hm)))) (fun p hm=>hp p (List.mem_cons_of_mem _ (List.mem_append.2 (.inr hm)))) (hp _ (List.mem_cons_self ..)) e1 e4
theorem Bgd (h:Rel Z F N s a R) (hG:OJ (Bl a) G) {src dst:TypeId} {x:Operand} {f:Eff} (he:Y2 E s G src dst x=some f):
  ∃v R',(convert src dst (a.eval x)).run E.P R=.ok v R'∧EK F N s.nx s.o R f v R':=by
 unfold Y2 at he
 split at he<;>first|(cases he;done)|skip
 rename_i e hs hd
 split at he<;>first|(cases he;done)|skip
 rename_i b hu hx
 cases he
 have hrun:=run_bytes_of_string (P:=E.P) R src dst e b hs hd hu
 rw[D7 h hG hx]
 refine⟨_,_,hrun,Bn2 (R':=R.drew.alloc _) h.hp (((Below.refl _ R).drew).trans ⟨rfl,rfl,rfl,by simp,fun k hk=>Below.heap_alloc R.drew _ k hk⟩) (by simp) ?_⟩
 have hlen:b.data.toList.length=b.size:=by simp
 have hge:=grownCap_ge R b.size 0 e
 have main:Hv (fun g=>F g∨g=R.heap.size) N s.nx (R.drew.alloc (.cells (bytesRow b (grownCap R b.size 0 e)) e ((bytesRow b (grownCap R b.size 0 e)).size,(bytesRow b (grownCap R b.size 0 e)).size+1))) (.sl .u8 b.data.toList) (.slice (some ⟨R.heap.size,0,none⟩) b.data.toList.length (grownCap R b.size 0 e)):=by
  refine Hv.of_sl (by rw[hlen];exact hge) fun hn=>⟨_,rfl,.inr rfl,fun k d hd=>?_⟩
  refine HC.cons.2 ⟨⟨Bp d,?_,.v _⟩,HC.nil⟩
  rw[Fj,show size .u8=1 from rfl,Nat.mul_one,Nat.zero_add]
  have hk:k <b.data.toList.length:=(List.getElem?_eq_some_iff.1 hd).1
  have hblk:(R.drew.alloc (.cells (bytesRow b (grownCap R b.size 0 e)) e ((bytesRow b (grownCap R b.size 0 e)).size,(bytesRow b (grownCap R b.size 0 e)).size+1))).heap[R.heap.size]?=some (.cells (bytesRow b (grownCap R b.size 0 e)) e ((bytesRow b (grownCap R b.size 0 e)).size,(bytesRow b (grownCap R b.size 0 e)).size+1)):=heap_alloc_new R.drew _
  unfold World.cell?
  simp only[hblk]
  have e1:(bytesRow b (grownCap R b.size 0 e))[k]?=some (Bp d):=by
   unfold bytesRow
   rw[Array.getElem?_append_left (by rw[hlen] at hk;simpa using hk),Array.getElem?_map]
   have:b.data[k]?=some d:=by rw[←Array.getElem?_toList];exact hd
   rw[this]
   rfl
  simpa using e1
 rw[hlen] at main
 exact main
theorem OY {f:Operand} {args:List Operand} {g:FuncId} {x:A} (h:Qm E f args=some (g,x)):f=.func g∧args=[]∧Au8 E.P g=true∧x.free=true∧∃k,k≤1∧E.C g [] 0 []=some (k,x,0,[],[]):=by
 unfold Qm at h
 split at h<;>first|(cases h;done)|skip
 split at h<;>first|(cases h;done)|skip
 rename_i g' k x' hg hc
 cases hb:Nat.ble k 1&&x'.free with
 |false=>rw[hb] at h;cases h
 |true=>
  rw[hb] at h
  cases h
  rw[Bool.and_eq_true] at hb
  exact⟨rfl,rfl,hg,hb.2,k,Nat.le_of_ble_eq_true hb.1,hc⟩
theorem Auw {o:Oper} {g:FuncId} {args:Array Operand} {ts:Array TypeId} (ho:o.op=.call {callee:=.value (.func g),args,argTypes:=ts}) (ha:args.toList=[]) (hg:Au8 E.P g=true) (A':Act) (R':World):(execOp A'.eval o).run E.P R'=.ok (.enter g #[]) R':=by
 obtain rfl:args=#[]:=by
  apply Array.ext'
  exact ha
 obtain⟨dst,op,type,pos,after,guard⟩:=o
 simp only at ho
 subst ho
 show(do let d ←resolve A'.eval _ type;invoke d.target d.args:Sem Next).run E.P R'=_
 have hr:(resolve A'.eval {callee:=.value (.func g),args:=#[],argTypes:=ts} type)=pure {target:=.fn (.func g) #[],args:=#[]}:=by
  simp[resolve,Deferred.ofValue,Act.eval]
 rw[hr]
 simp only[Sem.run_bind,Sem.run_pure,Result.andThen_ok,invoke]
 exact Bf1 hg _ R'
theorem Bhb (ok:EnvOk E) (h:Rel Z F N s a R) (hG:OJ (Bl a) G) {o:Oper} {g:Operand} {args:Array Operand} {ts:Array TypeId} (ho:o.op=.call {callee:=.value g,args,argTypes:=ts}) {f:Eff} (he:YD E s G g args.toList=some f) (hp:∀p∈f.ps,p):
  Ke E.P (fun v R'=>EK F N s.nx s.o R f v R') ((execOp a.eval o).run E.P R):=by
 unfold YD at he
 split at he
 ·rename_i g' x hc
  cases he
  obtain⟨rfl,ha,hg,hf,k,hk,hC⟩:=OY hc
  rw[Auw ho ha hg a R]
  refine(ok.C _ _ _ _ _ _ _ _ _ hC (fun p hm=>by cases hm) F N R [] h.hp.noObj HL.nil).mono fun e R' ⟨y,F',N',e1,e2,e3,e4,e5⟩=>?_
  obtain⟨q1,q2⟩:=h.hp.widen e2 e3
  exact⟨y,e1,F',N,q1,q2,e4.free hf,fun _=>e5 hk⟩
 split at he<;>first|(cases he;done)|skip
 rename_i k x nx' o' ps hr
 cases he
 obtain⟨fn,xs,vs,h1,h2,h3⟩:=Bb0 h hG ho hr
 rw[h3 R]
 refine(ok.C fn xs s.nx s.o _ _ _ _ _ h1 hp F N R vs h.hp h2).mono fun e R' ⟨y,F',N',e1,e2,e3,e4,e5⟩=>⟨y,e1,F',N',e2,e3,e4,fun hk=>e5 ?_⟩
 cases hb:Nat.ble k 1 with
 |true=>exact Nat.le_of_ble_eq_true hb
 |false=>
  have hk':(bif Nat.ble k 1 then 1 else 2)≤1:=hk
  rw[hb] at hk'
  cases hk' with|step hk'=>cases hk'
theorem Ip {α:Type} {P:Program} {R R':World} {m:Sem α} {f:α→Next} {x:α} (h:m.run P R=.ok x R'):((do pure (f (←m)):Sem Next)).run P R=.ok (f x) R':=by
 simp[h]
theorem M3 {P:Program} {K:Value→World→Prop} {v:Value} {R':World} {r:Result Next} (h:r=.ok (.value v) R') (hk:K v R'):Ke P K r:=by
 rw[h]
 exact hk
theorem Btt (h:Rel Z F N s a R) (hG:OJ (Bl a) G) {t:TypeId} {x:Operand} {f:Eff} (he:A9a E s G t x=some f):
  ∃v R',(Instr.range t (a.eval x)).run E.P R=.ok v R'∧EK F N s.nx s.o R f v R':=by
 unfold A9a at he
 split at he<;>first|(cases he;done)|skip
 rename_i b hu hx
 cases he
 have e:=D7 h hG hx
 refine⟨.pointer (some ⟨R.heap.size,0,none⟩),R.alloc (.stringIter b 0),?_,?_⟩
 ·rw[e]
  simp[Instr.range,run_underlying hu]
 ·refine Bhj h.hp (fun N' g hg=>hg) (fun _ hb=>hb) ?_
  have:(⟨R.heap.size,0,none⟩:Addr)=⟨(N.setB s.nx R.heap.size).b s.nx,0,none⟩:=by
   show _=(⟨Ko N.b s.nx R.heap.size s.nx,0,none⟩:Addr)
   rw[BU]
  rw[this]
  exact .own (by omega)
theorem Bwy (h:Rel Z F N s a R) (hG:OJ (Bl a) G) {it:Operand} {ty:TypeId} {f:Eff} (he:Bmo s G it=some f):
  ∃v R',(Instr.next (a.eval it) true ty).run E.P R=.ok v R'∧EK F N s.nx s.o R f v R':=by
 unfold Bmo at he
 split at he<;>first|(cases he;done)|skip
 rename_i i off hx
 have hx':=(Br h hG hx).2.own_inv
 cases h0:Nat.beq off 0 with
 |false=>rw[h0] at he;cases he
 | true=>
  rw[h0] at he
  simp only[cond_true] at he
  obtain rfl:=Nat.eq_of_beq_eq_true h0
  split at he<;>first|(cases he;done)|skip
  rename_i b pos hl
  cases he
  have hb:R.heap[N.b i]?=some (.stringIter b pos):=(h.hp.ob _ _ hl).2
  by_cases hp:pos <b.size
  ·refine⟨.tuple #[.bool true,.int .i64 (pos:Nat),.int .i32 ((Utf8.decode b pos).1:Nat)],{R with heap:=R.heap.setIfInBounds (N.b i) (.stringIter b (pos+(Utf8.decode b pos).2))},?_,?_⟩
   ·rw[hx'.2]
    simp[Instr.next,getObj,setObj,Sem.run,hb,hp,goInt]
   ·rw[decide_eq_true hp]
    exact Bhl h.hp hl rfl (fun g hg=>hg) hb (fun hs=>hs) (.it true _ _ rfl)
  ·refine⟨.tuple #[.bool false],{R with heap:=R.heap.setIfInBounds (N.b i) (.stringIter b pos)},?_,?_⟩
   ·have hsame:R.heap.setIfInBounds (N.b i) (.stringIter b pos)=R.heap:=by
     have hlt:=HW hb
     have hv:R.heap[N.b i]=.stringIter b pos:=(Array.getElem?_eq_some_iff.1 hb).2
     apply Array.ext_getElem?
     intro j
     by_cases hj:N.b i=j
     ·subst hj;simp[hlt,hv]
     ·simp[hj]
    rw[hx'.2,hsame]
    simp[Instr.next,getObj,Sem.run,hb,hp]
   ·rw[decide_eq_false hp]
    exact Bhl h.hp hl rfl (fun g hg=>hg) hb (fun hs=>hs) (.it false _ _ rfl)
theorem Bs0 (h:Rel Z F N s a R) {t:TypeId} {f:Eff} (he:A7w E s t=some f):∃v R',(Instr.makeMap t none).run E.P R=.ok v R'∧EK F N s.nx s.o R f v R':=by
 unfold A7w at he
 cases hk:Bdb E t with
 |false=>rw[hk] at he;cases he
 | true=>
  rw[hk] at he
  cases he
  refine⟨.map (some R.heap.size),R.alloc (.map #[] 0),by simp[Instr.makeMap],?_⟩
  refine Bhj h.hp (fun N' g hg=>hg) (fun _ hb=>⟨[],0,hb,rfl,fun j p e hp=>by cases hp⟩) ?_
  have:(some R.heap.size:Option Nat)=some ((N.setB s.nx R.heap.size).b s.nx):=by
   show _=some (Ko N.b s.nx R.heap.size s.nx)
   rw[BU]
  rw[this]
  exact .mp (by omega)
theorem Bsu (h:Rel Z F N s a R) (hG:OJ (Bl a) G) {t:TypeId} {m k x:Operand} {f:Eff} (he:A7p E s G t m k x=some f):
  ∃R',(Instr.mapUpdate t (a.eval m) (a.eval k) (a.eval x)).run E.P R=.ok () R'∧EK F N s.nx s.o R f undef R':=by
 unfold A7p at he
 split at he<;>first|(cases he;done)|skip
 rename_i y b n hm hk hx
 split at he<;>first|(cases he;done)|skip
 rename_i i l hi
 cases hq:Bdb E t with
 |false=>rw[hq] at he;cases he
 | true=>
  rw[hq] at he
  cases he
  obtain⟨e1,hl,es,clock,e2,e3⟩:=Bmg h.hp hi (Br h hG hm).2
  obtain⟨kt,vt,q1,q2,q3⟩:=Bmb hq
  have hkk:IsKey .string (.string b):=trivial
  rw[e1,D7 h hG hk,D7 h hG hx]
  have mk:∀{es':List MapEntry} {c:Nat},A53 (Zy l b n) es'→EK F N s.nx s.o R ⟨.v undef,s.nx,(i,some (.map .str .i64 (Zy l b n)))::s.o,2,[]⟩ undef {R with heap:=R.heap.setIfInBounds (N.b i) (.map es'.toArray c)}:=fun {es' c} hr=>
   Bhl h.hp hl rfl (fun g hg=>hg) e2 (fun hs=>by
    obtain⟨g1,g2⟩:=Bmi (F:=F) (N:=N) (R:={R with heap:=R.heap.setIfInBounds (N.b i) (.map es'.toArray c)}) (nx:=s.nx) hr
    exact⟨es',c,hs,g1,g2⟩) (.v _)
  rcases Aku b 0 e3 with⟨g1,_,g3⟩|⟨j,e,g1,g2,g3,g4⟩
  ·refine⟨_,?_,mk (g3 n clock) (c:=clock+1)⟩
   simp[Instr.mapUpdate,run_underlying q1,MapKept.run_getObj_map e2,run_checkKey q2 hkk,run_findKey q2 g1,run_setObj_map _ e2]
  ·refine⟨_,?_,mk (g4 n) (c:=clock)⟩
   have hj:es[0+j]?=some e:=by rw[Nat.zero_add];exact g2
   simp[Instr.mapUpdate,run_underlying q1,MapKept.run_getObj_map e2,run_checkKey q2 hkk,run_findKey q2 g1,g2,g3,run_keyThatStays hkk,run_setObj_map _ e2]
theorem Brt (ok:EnvOk E) (h:Rel Z F N s a R) (hG:OJ (Bl a) G) {o:Oper} {f:Eff} (he:Bn1 E s G o=some f) (hp:∀p∈f.ps,p):
  Ke E.P (fun v R'=>EK F N s.nx s.o R f v R') ((execOp a.eval o).run E.P R):=by
 have hcall:=fun {g args ts} (ho:o.op=.call {callee:=.value g,args,argTypes:=ts})=>Bhb (f:=f) ok h hG ho
 obtain⟨dst,op,type,pos,after,guard⟩:=o
 unfold Bn1 at he
 simp only at he
 split at he
 ·rename_i e
  unfold At6 at he
  split at he<;>first|(cases he;done)|skip
  rename_i z hz
  cases he
  exact M3 (Ip (Aqc hz)) (Bru h.hp (HL.toL _) e 1 [])
 ·rename_i e v
  unfold Brg at he
  split at he<;>first|(cases he;done)|skip
  rename_i x hx
  split at he<;>first|(cases he;done)|skip
  rename_i us hus
  cases hs:UB s.o us with
  |false=>rw[hs] at he;cases he
  |true=>
   rw[hs] at he
   cases he
   exact M3 (Ip A42) (Bru h.hp (YE h.hp hus hs (Br h hG hx).2) e 1 [])
 ·rename_i t x v
  obtain⟨R',h1,h2⟩:=B1h h hG he hp
  have:(execOp a.eval {dst,op:=.store t x v,type,pos,after,guard}).run E.P R=.ok .skip R':=by
   show(do Instr.storeAt t (a.eval x) (a.eval v);pure Next.skip:Sem Next).run E.P R=_
   simp[h1]
  rw[this]
  exact h2
 ·rename_i t len parts
  obtain⟨v,R',h1,h2⟩:=Bg8 h hG he
  exact M3 (Ip h1) h2
 ·rename_i t len cap
  obtain⟨v,R',h1,h2⟩:=Bod ok h hG he hp
  exact M3 (Ip h1) h2
 ·rename_i src dst' x
  obtain⟨v,R',h1,h2⟩:=Bgd h hG he
  exact M3 (Ip h1) h2
 ·rename_i args ts
  split at he<;>first|(cases he;done)|skip
  rename_i x y t u ha ht
  have ha':args=#[x,y]:=by rw[←Array.toArray_toList (xs:=args),ha]
  have ht':ts=#[t,u]:=by rw[←Array.toArray_toList (xs:=ts),ht]
  subst ha' ht'
  obtain⟨v,R',h1,h2⟩:=B0m (ty:=type) h hG he hp
  refine M3 ?_ h2
  show(do let d ←resolve a.eval _ type;invoke d.target d.args:Sem Next).run E.P R=_
  simp[resolve,invoke,builtin,h1]
 ·rename_i args ts
  split at he<;>first|(cases he;done)|skip
  rename_i x y t u ha ht
  have ha':args=#[x,y]:=by rw[←Array.toArray_toList (xs:=args),ha]
  have ht':ts=#[t,u]:=by rw[←Array.toArray_toList (xs:=ts),ht]
  subst ha' ht'
  obtain⟨v,R',h1,h2⟩:=Bv7 (ty:=type) h hG he hp
  refine M3 ?_ h2
  show(do let d ←resolve a.eval _ type;invoke d.target d.args:Sem Next).run E.P R=_
  simp[resolve,invoke,builtin,h1]
 ·rename_i g args ts
  exact hcall rfl he hp
 ·rename_i t x
  obtain⟨v,R',h1,h2⟩:=Btt h hG he
  exact M3 (Ip h1) h2
 ·rename_i it
  obtain⟨v,R',h1,h2⟩:=Bwy (E:=E) (ty:=type) h hG he
  exact M3 (Ip h1) h2
 ·rename_i t
  obtain⟨v,R',h1,h2⟩:=Bs0 h he
  exact M3 (Ip h1) h2
 ·rename_i t m k x
  obtain⟨R',h1,h2⟩:=Bsu h hG he
  have:(execOp a.eval {dst,op:=.mapUpdate t m k x,type,pos,after,guard}).run E.P R=.ok .skip R':=by
   show(do Instr.mapUpdate t (a.eval m) (a.eval k) (a.eval x);pure Next.skip:Sem Next).run E.P R=_
   simp[h1]
  rw[this]
  exact h2
 ·cases he
theorem B2y (ok:EnvOk E) (h:Rel Z F N s a R) (hG:OJ (Bl a) G) {o:Oper} {f:Eff} (he:opE E s G o=some f) (hp:∀p∈f.ps,p):
  Ke E.P (fun v R'=>EK F N s.nx s.o R f v R') ((execOp a.eval o).run E.P R):=by
 unfold opE at he
 cases hl:Av7 o.op with
 |true=>rw[hl] at he;exact Brt ok h hG he hp
 | false=>
  rw[hl] at he
  simp only[cond_false] at he
  split at he
  ·rename_i x ps hv
   cases he
   obtain⟨v,h1,h2⟩:=Bj3 ok h hG hv hp
   have h3:=h2 R (Below.refl _ _)
   have O0:∀R',Below R.heap.size R R'→EK F N s.nx s.o R ⟨x,s.nx,s.o,0,ps⟩ v R':=fun R' hb=>by
    obtain⟨g1,g2⟩:=h.hp.grow hb
    exact⟨F,N,g1,Step.of_below hb,h1.step g2,fun _=>hb⟩
   generalize (execOp a.eval o).run E.P R=r at*
   cases r with
   |halt x w=>exact h3.elim
   | ok n w=>
    cases n<;>simp only[Oper.quietUpon] at h3<;>simp only[Ke]
    case value u=>
     obtain⟨e1,e2⟩:=h3
     rw[e1,e2]
     exact O0 R (Below.refl _ _)
    case skip=>
     obtain⟨e1,e2⟩:=h3
     rw[e1,←e2]
     exact O0 R (Below.refl _ _)
    case enter f args=>
     obtain⟨e1,hc⟩:=h3
     rw[e1]
     exact hc.mono fun e w'' ⟨he,hw''⟩=>⟨v,he,O0 _ hw''⟩
  ·exact Brt ok h hG he hp
end
end Go.Proofs.Yteebobbhhgmeiaa
namespace Go.Proofs.Yteebobbhhgmeiaa
open Go.RowKit
def ivA (c:TC) (l:List (U c)) (k:Nat):A:=match Avg c (l.getD k (Ac c)) with
 |some ⟨c',l'⟩=> .sl c' l'
 |none=> .dead
mutual
def Mk (i:Nat) (dp:Bool) (c:TC) (l:List (U c)):A→A
 | .sq j=>bif Nat.beq j i then(bif dp then .dead else .sl c l) else .sq j
 | .vw j sz lo n f=>bif Nat.beq j i then(bif dp then .dead else bif Nat.beq sz (size c) then .sl c ((l.drop lo).take n) else .dead) else .vw j sz lo n f
 | .dq j=>bif Nat.beq j i then(bif dp then .sl c l else .dead) else .dq j
 | .iv j k=>bif Nat.beq j i then(bif dp then ivA c l k else .dead) else .iv j k
 | .de j k sz off=>bif Nat.beq j i then .dead else .de j k sz off
 | .ie j k m sz off=>bif Nat.beq j i then .dead else .ie j k m sz off
 | .el j k sz off=>bif Nat.beq j i then .dead else .el j k sz off
 | .fn f xs ys=> .fn f (fzL i dp c l xs) (fzL i dp c l ys)
 | .agg xs=> .agg (fzL i dp c l xs)
 | .tup xs=> .tup (fzL i dp c l xs)
 | .ref xs=> .ref (fzL i dp c l xs)
 | .opt u b x=> .opt u b (Mk i dp c l x)
 | .v x=> .v x
 | .sl c' l'=> .sl c' l'
 | .own j o=> .own j o
 | .ownx j b n k=> .ownx j b n k
 | .mp j=> .mp j
 | .nl=> .nl
 | .it q vs=> .it q vs
 | .dead=> .dead
def fzL (i:Nat) (dp:Bool) (c:TC) (l:List (U c)):List A→List A
 | []=>[]
 |x::r=>Mk i dp c l x::fzL i dp c l r
end
mutual
def inA (i n:Nat):A→List Prop
 | .vw j _ lo m _=>bif Nat.beq j i then[lo+m≤n] else[]
 | .iv j k=>bif Nat.beq j i then[k <n] else[]
 | .fn _ xs ys=>inL i n xs++inL i n ys
 | .agg xs=>inL i n xs
 | .tup xs=>inL i n xs
 | .ref xs=>inL i n xs
 | .opt _ _ x=>inA i n x
 |_=>[]
def inL (i n:Nat):List A→List Prop
 | []=>[]
 |x::r=>inA i n x++inL i n r
end
theorem TV {i:Nat} {dp:Bool} {c:TC} {l:List (U c)}:∀{xs:List A} {j:Nat} {x:A},(fzL i dp c l xs)[j]?=some x→∃y,xs[j]?=some y∧x=Mk i dp c l y
 | [],j,x,h=>by unfold fzL at h;cases j<;>cases h
 |y::r,0,x,h=>by unfold fzL at h;cases h;exact⟨y,rfl,rfl⟩
 |y::r,j+1,x,h=>by unfold fzL at h;exact TV (xs:=r) h
theorem O8 {i:Nat} {dp:Bool} {c:TC} {l:List (U c)}:∀xs:List A,(fzL i dp c l xs).length=xs.length
 | []=>by unfold fzL;rfl
 |y::r=>by unfold fzL;rw[List.length_cons,List.length_cons,O8 r]
theorem YO {i n:Nat}:∀{xs:List A} {j:Nat} {x:A},xs[j]?=some x→∀p∈inA i n x,p∈inL i n xs
 | [],j,x,h=>by cases j<;>cases h
 |y::r,0,x,h=>by cases h;intro p hp;unfold inL;exact List.mem_append.2 (.inl hp)
 |y::r,j+1,x,h=>by intro p hp;unfold inL;exact List.mem_append.2 (.inr (YO (xs:=r) h p hp))
theorem B0s {i:Nat} {dp:Bool} {c:TC} {l:List (U c)} (c':TC) (d:U c'):∀x∈enc c' d,Mk i dp c l x=x:=fun x hx=>by
 have:=Sk c' d x hx
 cases x<;>first|(unfold Mk;rfl)|exact this.elim
theorem B0t {i n:Nat} (c':TC) (d:U c'):∀x∈enc c' d,inA i n x=[]:=fun x hx=>by
 have:=Sk c' d x hx
 cases x<;>first|(unfold inA;rfl)|exact this.elim
section
variable {F F':Nat→Prop} {N:Nm} {nx:Nat} {R:World}
theorem Ext.wide (h:∀g,F g→F' g):Ext F N nx R F' N nx R:=⟨Nat.le_refl _,fun _ _=>rfl,fun _ _=>rfl,h,fun _ _=>rfl⟩
theorem Bhp {i:Nat} {dp:Bool} {c:TC} {l:List (U c)} (hrow:dp=false→Hv F' N nx R (.sl c l) (N.q i)) (hpl:dp=false→0 <l.length→∃ad,ad=FD (N.q i)∧F' ad.block∧∀(k:Nat) (d:U c),l[k]?=some d→HC F' N nx R (enc c d) (ad.add (k*size c)))
  (hdq:dp=true→Hv F' N nx R (.sl c l) (Nr (N.q i) 0)) (hiv:dp=true→∀k,k <l.length→Hv F' N nx R (ivA c l k) (Nr (N.q i) (k+1))) (hF:∀g,F g→F' g) {x:A} {y:Value} (h:Hv F N nx R x y):(∀p∈inA i l.length x,p)→Hv F' N nx R (Mk i dp c l x) y:=by
 induction h with
 |v x=>intro _;unfold Mk;exact .v x
 | @sl c' l' a cap ad h1 h2 h3 h4 ih=>
  intro _
  unfold Mk
  refine .sl ad h1 (fun hn=>⟨(h2 hn).1,hF _ (h2 hn).2⟩) h3 (fun k d j x y hd hx hy=>?_)
  have hm:=List.mem_of_getElem? hx
  have:=ih k d j x y hd hx hy (fun p hp=>by rw[B0t c' d x hm] at hp;cases hp)
  rwa[B0s c' d x hm] at this
 | @ref xs ad h1 h2 h3 ih=>
  intro hp
  unfold Mk
  unfold inA at hp
  refine .ref ad (hF _ h1) (fun j x hx=>?_) (fun j x y hx hy=>?_)
  ·obtain⟨z,hz,rfl⟩:=TV hx;exact h2 j z hz
  ·obtain⟨z,hz,rfl⟩:=TV hx;exact ih j z y hz hy fun p hm=>hp p (YO hz p hm)
 |own h=>intro _;unfold Mk;exact .own h
 |ownx h=>intro _;unfold Mk;exact .ownx h
 | @sq j h=>
  intro _
  unfold Mk
  cases hb:Nat.beq j i with
  |true=>
   obtain rfl:=Nat.eq_of_beq_eq_true hb
   cases dp with
   |true=>exact .dead _
   |false=>exact hrow rfl
  |false=>exact .sq h
 | @vw j sz lo n f a cap h h1 h2 h3=>
  intro hp
  unfold Mk
  cases hb:Nat.beq j i with
  |false=>exact .vw h h1 h2 h3
  | true=>
   obtain rfl:=Nat.eq_of_beq_eq_true hb
   cases dp with
   |true=>exact .dead _
   |false=>
   cases hb2:Nat.beq sz (size c) with
   |false=>exact .dead _
   | true=>
    obtain rfl:=Nat.eq_of_beq_eq_true hb2
    unfold inA at hp
    rw[hb] at hp
    have hle:lo+n≤l.length:=hp _ (List.mem_singleton.2 rfl)
    have hlen:((l.drop lo).take n).length=n:=by rw[List.length_take,List.length_drop];omega
    have main:Hv F' N nx R (.sl c ((l.drop lo).take n)) (.slice a ((l.drop lo).take n).length cap):=by
     refine Hv.of_sl (by omega) fun hn=>?_
     rw[hlen] at hn
     obtain⟨ad,e1,e2,e3⟩:=hpl rfl (by omega)
     refine⟨ad.add (lo*size c),by rw[h3 hn,e1],by rw[IX];exact e2,fun k d hd=>?_⟩
     rw[D3,←Nat.add_mul]
     refine e3 (lo+k) d ?_
     rw[List.getElem?_take] at hd
     split at hd<;>first|(cases hd;done)|skip
     rwa[List.getElem?_drop] at hd
    rw[hlen] at main
    exact main
 | @el j k sz off h=>
  intro _
  unfold Mk
  cases hb:Nat.beq j i with
  |false=>exact .el h
  |true=>exact .dead _
 | @dq j h=>
  intro _
  unfold Mk
  cases hb:Nat.beq j i with
  |false=>exact .dq h
  |true=>
   obtain rfl:=Nat.eq_of_beq_eq_true hb
   cases dp with
   |true=>exact hdq rfl
   |false=>exact .dead _
 | @iv j k h=>
  intro hp
  unfold Mk
  cases hb:Nat.beq j i with
  |false=>exact .iv h
  | true=>
   obtain rfl:=Nat.eq_of_beq_eq_true hb
   cases dp with
   |true=>
    unfold inA at hp
    rw[hb] at hp
    exact hiv rfl k (hp _ (List.mem_singleton.2 rfl))
   |false=>exact .dead _
 | @de j k sz off h=>
  intro _
  unfold Mk
  cases hb:Nat.beq j i with
  |false=>exact .de h
  |true=>exact .dead _
 | @ie j k m sz off h=>
  intro _
  unfold Mk
  cases hb:Nat.beq j i with
  |false=>exact .ie h
  |true=>exact .dead _
 |mp h=>intro _;unfold Mk;exact .mp h
 |nl a=>intro _;unfold Mk;exact .nl a
 |it q vs y h=>intro _;unfold Mk;exact .it q vs y h
 | fn vs us h1 _ h3 _ ih2 ih4=>
  intro hp
  unfold Mk
  unfold inA at hp
  exact .fn vs us (by rw[O8];exact h1) (fun j x v hx hv=>by obtain⟨z,hz,rfl⟩:=TV hx;exact ih2 j z v hz hv fun p hm=>hp p (List.mem_append.2 (.inl (YO hz p hm)))) (by rw[O8];exact h3)
   (fun j x v hx hv=>by obtain⟨z,hz,rfl⟩:=TV hx;exact ih4 j z v hz hv fun p hm=>hp p (List.mem_append.2 (.inr (YO hz p hm))))
 |agg vs h1 _ ih=>
  intro hp
  unfold Mk
  unfold inA at hp
  exact .agg vs (by rw[O8];exact h1) (fun j x v hx hv=>by obtain⟨z,hz,rfl⟩:=TV hx;exact ih j z v hz hv fun p hm=>hp p (YO hz p hm))
 |tup vs h1 _ ih=>
  intro hp
  unfold Mk
  unfold inA at hp
  exact .tup vs (by rw[O8];exact h1) (fun j x v hx hv=>by obtain⟨z,hz,rfl⟩:=TV hx;exact ih j z v hz hv fun p hm=>hp p (YO hz p hm))
 |dead y=>intro _;unfold Mk;exact .dead y
theorem Bhq {i:Nat} {dp:Bool} {c:TC} {l:List (U c)} {n:Nat} (hf:∀{x:A} {y:Value},Hv F N nx R x y→(∀p∈inA i n x,p)→Hv F' N nx R (Mk i dp c l x) y):∀{xs:List A} {vs:List Value},HL F N nx R xs vs→(∀p∈inL i n xs,p)→HL F' N nx R (fzL i dp c l xs) vs
 | [],_,h,_=>by unfold fzL;exact h
 |x::r,_,⟨v,vs,h1,h2,h3⟩,hp=>by
  unfold fzL
  unfold inL at hp
  exact⟨v,vs,h1,hf h2 fun p hm=>hp p (List.mem_append.2 (.inl hm)),Bhq hf h3 fun p hm=>hp p (List.mem_append.2 (.inr hm))⟩
end
section
variable {F F':Nat→Prop} {N:Nm} {nx:Nat} {R:World} {tm:Nat→Value}
theorem Br6 {i:Nat} {dp:Bool} {c:TC} {l:List (U c)} {n:Nat} (fz:∀{x:A} {y:Value},Hv F N nx R x y→(∀p∈inA i n x,p)→Hv F' N nx R (Mk i dp c l x) y):∀{x:A} {y:Value},HS F N nx R tm x y→(∀p∈inA i n x,p)→HS F' N nx R tm (Mk i dp c l x) y
 | .opt u b x,_,h,hp=>by
  unfold inA at hp
  unfold Mk
  simp only[HS] at h⊢
  exact⟨fun hb=>Br6 fz (h.1 hb) hp,h.2⟩
 | .sq j,_,h,hp=>(Ab (by unfold Mk;cases Nat.beq j i<;>cases dp<;>rfl)).2 (fz ((Ab rfl).1 h) hp)
 | .vw j z _ _ _,_,h,hp=>(Ab (by unfold Mk;cases Nat.beq j i<;>cases dp<;>first|rfl|(cases Nat.beq z (size c)<;>rfl))).2 (fz ((Ab rfl).1 h) hp)
 | .el j _ _ _,_,h,hp=>(Ab (by unfold Mk;cases Nat.beq j i<;>rfl)).2 (fz ((Ab rfl).1 h) hp)
 | .dq j,_,h,hp=>(Ab (by unfold Mk;cases Nat.beq j i<;>cases dp<;>rfl)).2 (fz ((Ab rfl).1 h) hp)
 | .iv j k,_,h,hp=>(Ab (by unfold Mk;cases Nat.beq j i<;>cases dp<;>first|rfl|(unfold ivA;split<;>rfl))).2 (fz ((Ab rfl).1 h) hp)
 | .de j _ _ _,_,h,hp=>(Ab (by unfold Mk;cases Nat.beq j i<;>rfl)).2 (fz ((Ab rfl).1 h) hp)
 | .ie j _ _ _ _,_,h,hp=>(Ab (by unfold Mk;cases Nat.beq j i<;>rfl)).2 (fz ((Ab rfl).1 h) hp)
 | .v _,_,h,hp=>(Ab (by unfold Mk;rfl)).2 (fz ((Ab rfl).1 h) hp)
 | .sl _ _,_,h,hp=>(Ab (by unfold Mk;rfl)).2 (fz ((Ab rfl).1 h) hp)
 | .ref _,_,h,hp=>(Ab (by unfold Mk;rfl)).2 (fz ((Ab rfl).1 h) hp)
 | .own _ _,_,h,hp=>(Ab (by unfold Mk;rfl)).2 (fz ((Ab rfl).1 h) hp)
 | .ownx _ _ _ _,_,h,hp=>(Ab (by unfold Mk;rfl)).2 (fz ((Ab rfl).1 h) hp)
 | .mp _,_,h,hp=>(Ab (by unfold Mk;rfl)).2 (fz ((Ab rfl).1 h) hp)
 | .nl,_,h,hp=>(Ab (by unfold Mk;rfl)).2 (fz ((Ab rfl).1 h) hp)
 | .it _ _,_,h,hp=>(Ab (by unfold Mk;rfl)).2 (fz ((Ab rfl).1 h) hp)
 | .fn _ _ _,_,h,hp=>(Ab (by unfold Mk;rfl)).2 (fz ((Ab rfl).1 h) hp)
 | .agg _,_,h,hp=>(Ab (by unfold Mk;rfl)).2 (fz ((Ab rfl).1 h) hp)
 | .tup _,_,h,hp=>(Ab (by unfold Mk;rfl)).2 (fz ((Ab rfl).1 h) hp)
 | .dead,_,h,hp=>(Ab (by unfold Mk;rfl)).2 (fz ((Ab rfl).1 h) hp)
end
def fzT (i:Nat) (dp:Bool) (c:TC) (l:List (U c)):HV→HV
 | []=>[]
 |(k,x)::r=>(k,Mk i dp c l x)::fzT i dp c l r
def inT (i n:Nat):HV→List Prop
 | []=>[]
 |(_,x)::r=>inA i n x++inT i n r
def A08 (i:Nat) (dp:Bool) (c:TC) (l:List (U c)):List (List A)→List (List A)
 | []=>[]
 |x::r=>fzL i dp c l x::A08 i dp c l r
def Bsd (i n:Nat):List (List A)→List Prop
 | []=>[]
 |x::r=>inL i n x++Bsd i n r
def Br5 (i:Nat) (dp:Bool) (c:TC) (l:List (U c)):Ob→Ob
 | .box e cs=> .box e (fzL i dp c l cs)
 | .arr e sz (.lst cs)=> .arr e sz (.lst (A08 i dp c l cs))
 | .arr e sz (.ty c' l')=> .arr e sz (.ty c' l')
 | .map k v m=> .map k v m
 | .sit s p=> .sit s p
 | .deep e c' l'=> .deep e c' l'
def Bse (i n:Nat):Ob→List Prop
 | .box _ cs=>inL i n cs
 | .arr _ _ (.lst cs)=>Bsd i n cs
 |_=>[]
def fzO (i:Nat) (dp:Bool) (c:TC) (l:List (U c)):Objs→Objs
 | []=>[]
 |(k,x)::r=>(k,bif Nat.beq k i then none else(match x with
  |some ob=>some (Br5 i dp c l ob)
  |none=>none))::fzO i dp c l r
def inO (i n:Nat):Objs→List Prop
 | []=>[]
 |(_,some ob)::r=>Bse i n ob++inO i n r
 |(_,none)::r=>inO i n r
def Kh:Objs→List Nat
 | []=>[]
 |(k,_)::r=>k::Kh r
theorem Jw {i:Nat}:∀{A B:Objs},i∉Kh A→Ao i (A++B)=Ao i B
 | [],_,_=>rfl
 |(k,x)::r,B,h=>by
  have hk:Nat.beq k i=false:=Aub fun e=>h (by rw[e];exact List.mem_cons_self ..)
  show(bif Nat.beq k i then x else Ao i (r++B))=Ao i B
  rw[hk]
  exact Jw fun hm=>h (List.mem_cons_of_mem _ hm)
theorem WV {i:Nat}:∀{A B:Objs},i∈Kh A→Ao i (A++B)=Ao i A
 | [],_,h=>by cases h
 | (k,x)::r,B,h=>by
  show(bif Nat.beq k i then x else Ao i (r++B))=(bif Nat.beq k i then x else Ao i r)
  cases hb:Nat.beq k i with
  |true=>rfl
  |false=>
   rcases List.mem_cons.1 h with rfl|h
   ·simp at hb
   ·exact WV h
theorem Avl {i:Nat} {dp:Bool} {c:TC} {l:List (U c)}:∀{o:Objs},Kh (fzO i dp c l o)=Kh o
 | []=>rfl
 |(k,x)::r=>by
  show k::Kh (fzO i dp c l r)=k::Kh r
  rw[Avl]
def YK (E:Env) (i:Nat) (s:St):Option (St×List Prop):=match Ao i s.o with
 | some (.arr e sz els)=>match E.tc e with
  |some c=>bif Nat.beq sz (size c) then(match US c els with
   |some (l,ps)=>some ({s with t:=fzT i false c l s.t,o:=fzO i false c l s.o++s.o},ps++(inT i l.length s.t++inO i l.length s.o))
   |none=>none) else none
  |none=>none
 |some (.deep _ c l)=>some ({s with t:=fzT i true c l s.t,o:=fzO i true c l s.o++s.o},inT i l.length s.t++inO i l.length s.o)
 |_=>none
theorem Bdr {i:Nat} {dp:Bool} {c:TC} {l:List (U c)} {u:Nat} {x:A}:∀{t:HV},D6 u (fzT i dp c l t)=some x→∃y,D6 u t=some y∧x=Mk i dp c l y∧∀n,∀p∈inA i n y,p∈inT i n t
 | [],h=>by cases h
 | (k,y)::r,h=>by
  have h':(bif Nat.beq k u then some (Mk i dp c l y) else D6 u (fzT i dp c l r))=some x:=h
  show ∃z,(bif Nat.beq k u then some y else D6 u r)=some z∧_∧∀n,∀p∈inA i n z,p∈inA i n y++inT i n r
  cases hb:Nat.beq k u with
  |true=>rw[hb] at h';cases h';exact⟨y,rfl,rfl,fun n p hp=>List.mem_append.2 (.inl hp)⟩
  |false=>
   rw[hb] at h'
   obtain⟨z,h1,h2,h3⟩:=Bdr h'
   exact⟨z,h1,h2,fun n p hp=>List.mem_append.2 (.inr (h3 n p hp))⟩
theorem A38 {i:Nat} {dp:Bool} {c:TC} {l:List (U c)} {j:Nat} {ob:Ob}:∀{o:Objs},Ao j (fzO i dp c l o)=some ob→∃ob',Ao j o=some ob'∧ob=Br5 i dp c l ob'∧j≠i∧∀n,∀p∈Bse i n ob',p∈inO i n o
 | [],h=>by cases h
 | (k,x)::r,h=>by
  have h':(bif Nat.beq k j then(bif Nat.beq k i then none else(match x with|some ob=>some (Br5 i dp c l ob)|none=>none)) else Ao j (fzO i dp c l r))=some ob:=h
  show ∃ob',(bif Nat.beq k j then x else Ao j r)=some ob'∧_∧_∧_
  cases hb:Nat.beq k j with
  | true=>
   rw[hb] at h'
   cases hi:Nat.beq k i with
   |true=>rw[hi] at h';cases h'
   | false=>
    rw[hi] at h'
    obtain rfl:=Nat.eq_of_beq_eq_true hb
    cases x with
    |none=>cases h'
    |some ob'=>
     cases h'
     exact⟨ob',rfl,rfl,fun e=>by subst e;simp at hi,fun n p hp=>by show p∈Bse i n ob'++inO i n r;exact List.mem_append.2 (.inl hp)⟩
  |false=>
   rw[hb] at h'
   obtain⟨ob',h1,h2,h3,h4⟩:=A38 h'
   refine⟨ob',h1,h2,h3,fun n p hp=>?_⟩
   cases x with
   |none=>exact h4 n p hp
   |some y=>exact List.mem_append.2 (.inr (h4 n p hp))
theorem SZ {i:Nat} {dp:Bool} {c:TC} {l:List (U c)} {j:Nat} {ob:Ob} {o:Objs} (h:Ao j (fzO i dp c l o++o)=some ob):∃ob',Ao j o=some ob'∧ob=Br5 i dp c l ob'∧j≠i∧∀n,∀p∈Bse i n ob',p∈inO i n o:=by
 by_cases hk:j∈Kh o
 ·rw[WV (by rw[Avl];exact hk)] at h
  exact A38 h
 ·rw[Jw (by rw[Avl];exact hk)] at h
  have:=Jw (A:=o) (B:=[]) hk
  rw[List.append_nil] at this
  rw[this] at h
  cases h
theorem Bc0 {i:Nat} {dp:Bool} {c:TC} {l:List (U c)}:∀(cs:List (List A)) (k:Nat),Jz (A08 i dp c l cs) k=fzL i dp c l (Jz cs k)
 | [],k=>by unfold A08;cases k<;>(unfold Jz;unfold fzL;rfl)
 |x::r,0=>by unfold A08;rfl
 |x::r,k+1=>by unfold A08;exact Bc0 r k
theorem Wj {i:Nat} {dp:Bool} {c:TC} {l:List (U c)}:∀(cs:List (List A)),(A08 i dp c l cs).length=cs.length
 | []=>by unfold A08;rfl
 |x::r=>by unfold A08;rw[List.length_cons,List.length_cons,Wj r]
theorem Bc6 {i n:Nat}:∀(cs:List (List A)) (k:Nat),∀p∈inL i n (Jz cs k),p∈Bsd i n cs
 | [],k,p,hp=>by cases k<;>(unfold Jz at hp;unfold inL at hp;cases hp)
 |x::r,0,p,hp=>by unfold Bsd;exact List.mem_append.2 (.inl hp)
 |x::r,k+1,p,hp=>by unfold Bsd;exact List.mem_append.2 (.inr (Bc6 r k p hp))
section
variable {E:Env} {Z:Base} {F:Nat→Prop} {N:Nm} {s s':St} {a:Act} {R:World}
theorem Ab7 {i:Nat} {ps:List Prop} (he:YK E i s=some (s',ps)):s'.n=s.n∧∃d,s'.o=d++s.o:=by
 unfold YK at he
 split at he<;>first|(cases he;done)|skip
 ·split at he<;>first|(cases he;done)|skip
  rename_i e sz els hl _ c hc
  cases hb:Nat.beq sz (size c) with
  |false=>rw[hb] at he;cases he
  |true=>
   rw[hb] at he
   simp only[cond_true] at he
   split at he<;>first|(cases he;done)|skip
   cases he
   exact⟨rfl,_,rfl⟩
 ·cases he
  exact⟨rfl,_,rfl⟩
theorem Anl (h:Rel Z F N s a R) {i:Nat} {ob:Ob} (hl:Ao i s.o=some ob) {dp:Bool} {c:TC} {l:List (U c)} (fz:∀{x:A} {y:Value},Hv F N s.nx R x y→(∀p∈inA i l.length x,p)→Hv (fun g=>F g∨foot N i ob g) N s.nx R (Mk i dp c l x) y)
  (hp2:∀p∈inT i l.length s.t,p) (hp3:∀p∈inO i l.length s.o,p):Rel Z (fun g=>F g∨foot N i ob g) N {s with t:=fzT i dp c l s.t,o:=fzO i dp c l s.o++s.o} a R:=by
 have hF:∀g,F g→(F g∨foot N i ob g):=fun g hg=> .inl hg
 have hw:Ext F N s.nx R (fun g=>F g∨foot N i ob g) N s.nx R:=Ext.wide hF
 have fzS:∀{x:A} {y:Value},HS F N s.nx R (Bl a) x y→(∀p∈inA i l.length x,p)→HS (fun g=>F g∨foot N i ob g) N s.nx R (Bl a) (Mk i dp c l x) y:=fun hx hpp=>Br6 fz hx hpp
 have hfoot:∀{j ob' g},Ao j s.o=some ob'→foot N j (Br5 i dp c l ob') g→foot N j ob' g:=fun {j ob' g} _ hg=>by
  cases ob' with
  |arr e' s' els'=>cases els'<;>exact hg
  |_=>exact hg
 have hst:Step F N s.nx s.o R (fun g=>F g∨foot N i ob g) N s.nx (fzO i dp c l s.o++s.o) R:=⟨Nat.le_refl _,fun _ _=>rfl,fun _ _=>rfl,hF,fun g hg=>by
  rcases hg with hg|hg
  ·exact .inl hg
  ·exact .inr (.inl ⟨i,_,hl,hg⟩),fun g ⟨j,ob,h1,h2⟩=>by
  obtain⟨ob',h3,rfl,_,_⟩:=SZ h1
  exact .inl ⟨j,ob',h3,hfoot h3 h2⟩,rfl,rfl,rfl,Nat.le_refl _,fun _ _ _=>rfl⟩
 refine⟨h.defers,h.size,fun u x hu=>?_,⟨fun g hg=>?_,fun j ob1 hj=>?_,fun j ob1 g hj hg hf=>?_,fun j k x y g hj hk hx hy=>?_⟩,h.st.trans hst,h.tm⟩
 ·obtain⟨y,h1,rfl,h3⟩:=Bdr hu
  exact fzS (h.slots u y h1) fun p hm=>hp2 p (h3 _ p hm)
 ·rcases hg with hg|hg
  ·exact h.hp.flt g hg
  ·exact(h.hp.ob i ob hl).2.lt hg
 ·obtain⟨ob',h1,rfl,h3,h4⟩:=SZ hj
  obtain⟨k1,k2⟩:=h.hp.ob j ob' h1
  refine⟨k1,?_⟩
  have hin:∀p∈Bse i l.length ob',p:=fun p hm=>hp3 p (h4 _ p hm)
  cases ob' with
  |box e' cs=>
   obtain⟨vs,q1,q2⟩:=k2
   exact⟨vs,Bhq (fun hx hpp=>fz hx hpp) q1 hin,q2⟩
  | arr e' s' els'=>
   cases els' with
   |ty c' l'=>exact k2.step hw k1 fun _ _=>rfl
   |lst cs=>
    obtain⟨zs',q1,q2⟩:=k2
    refine⟨zs',by simpa[Els.n,Wj] using q1,fun k hk=>?_⟩
    have hk':k <cs.length:=by simpa[Els.n,Wj] using hk
    show HL _ N s.nx R (Jz (A08 i dp c l cs) k) _
    rw[Bc0]
    exact Bhq (fun hx hpp=>fz hx hpp) (q2 k hk') fun p hm=>hin p (Bc6 cs k p hm)
  |map k v m=>exact k2.step hw k1 fun _ _=>rfl
  |sit st pos=>exact k2
  |deep e' c' l'=>exact k2.step hw k1 fun _ _=>rfl
 ·obtain⟨ob',h1,rfl,h3,_⟩:=SZ hj
  have hg':=hfoot h1 hg
  rcases hf with hf|hf
  ·exact h.hp.ff j ob' g h1 hg' hf
  ·exact h3 (h.hp.sep j i ob' _ g h1 hl hg' hf)
 ·obtain⟨x',h1,rfl,_,_⟩:=SZ hj
  obtain⟨y',h2,rfl,_,_⟩:=SZ hk
  exact h.hp.sep j k x' y' g h1 h2 (hfoot h1 hx) (hfoot h2 hy)
theorem OH {F':Nat→Prop} {nx:Nat} {e:TypeId} {c:TC} {l:List (U c)} {v:Value} {zs:List Value} (g1:OwnR R e (size c) v l.length zs) (hr:∀k,k <l.length→HL F' N nx R (enc c (l.getD k (Ac c))) ((zs.drop (k*size c)).take (size c))) (hF:∀g,CR v=some g→F' g):
  Hv F' N nx R (.sl c l) v∧(0 <l.length→∃ad,ad=FD v∧F' ad.block∧∀(k:Nat) (d:U c),l[k]?=some d→HC F' N nx R (enc c d) (ad.add (k*size c))):=by
 have hpl:0 <l.length→∃ad,ad=FD v∧F' ad.block∧∀(k:Nat) (d:U c),l[k]?=some d→HC F' N nx R (enc c d) (ad.add (k*size c)):=fun hpos=>by
  obtain⟨g,cap,q1,_,q3,q4,q5⟩:=FL g1 hpos
  refine⟨_,rfl,by rw[q3];exact hF _ q4,fun k d hd=>?_⟩
  rw[q3,Fj,Nat.zero_add]
  intro j x hx
  have hk:k <l.length:=(List.getElem?_eq_some_iff.1 hd).1
  have hgd:l.getD k (Ac c)=d:=by rw[List.getD_eq_getElem?_getD,hd];rfl
  have h3:=hr k hk
  rw[hgd] at h3
  obtain⟨v,hv,hx2⟩:=h3.get hx
  exact⟨v,by rw[Fj];exact q5 _ v (OI hv),hx2⟩
 refine⟨?_,hpl⟩
 obtain⟨aa,cap,e1,e2⟩:=g1.form
 rw[e1]
 refine Hv.of_sl e2 fun hpos=>?_
 obtain⟨ad,q1,q2,q3⟩:=hpl hpos
 obtain⟨g,cap',r1,_,r3,_,_⟩:=FL g1 hpos
 refine⟨ad,?_,q2,q3⟩
 rw[e1] at r1
 cases r1
 rw[q1,e1]
 rfl
theorem A3z (h:Rel Z F N s a R) {i:Nat} {ps:List Prop} (he:YK E i s=some (s',ps)) (hp:∀p∈ps,p):∃F',Rel Z F' N s' a R:=by
 unfold YK at he
 split at he<;>first|(cases he;done)|skip
 ·rename_i e sz els hl
  split at he<;>first|(cases he;done)|skip
  rename_i c hc
  cases hb:Nat.beq sz (size c) with
  |false=>rw[hb] at he;cases he
  |true=>
   rw[hb] at he
   simp only[cond_true] at he
   split at he<;>first|(cases he;done)|skip
   rename_i l qs hty
   cases he
   obtain rfl:=Nat.eq_of_beq_eq_true hb
   have hp1:∀p∈qs,p:=fun p hm=>hp p (List.mem_append.2 (.inl hm))
   obtain⟨hi,zs,g1,g2⟩:=h.hp.ob i _ hl
   have hr:RowHL F N s.nx R (.ty c l) (size c) zs:=(show RowHL F N s.nx R els (size c) zs from⟨g1.1,g2⟩).ty hty hp1
   have hn:l.length=els.n:=(K9 (F:=F) (N:=N) (nx:=s.nx) (R:=R) hty hp1).1
   have hF:∀g,F g→(F g∨foot N i (.arr e (size c) els) g):=fun g hg=> .inl hg
   rw[←hn] at g1
   obtain⟨q1,q2⟩:=OH (F':=fun g=>F g∨foot N i (.arr e (size c) els) g) (N:=N) (nx:=s.nx) g1 (fun k hk=>(hr.2 k hk).step (Ext.wide hF)) (fun g hg=> .inr hg)
   exact⟨_,Anl h hl (fun hx=>Bhp (fun _=>q1) (fun _=>q2) (fun e=>by cases e) (fun e=>by cases e) hF hx) (fun p hm=>hp p (List.mem_append.2 (.inr (List.mem_append.2 (.inl hm))))) fun p hm=>hp p (List.mem_append.2 (.inr (List.mem_append.2 (.inr hm))))⟩
 ·rename_i e c l hl
  cases he
  obtain⟨hi,col,c',zs,h1,h2,h3,h4,h5⟩:=h.hp.ob i _ hl
  have hF:∀g,F g→(F g∨foot N i (.deep e c l) g):=fun g hg=> .inl hg
  have hw:Ext F N s.nx R (fun g=>F g∨foot N i (.deep e c l) g) N s.nx R:=Ext.wide hF
  have hin:∀k,k <l.length→∃l':List (U c'),(enc c (l.getD k (Ac c)))[col]?=some (.sl c' l')∧Hv (fun g=>F g∨foot N i (.deep e c l) g) N s.nx R (.sl c' l') (Nr (N.q i) (k+1)):=fun k hk=>by
   obtain⟨l',e',us,k1,k2,k3⟩:=h4 k _ (getD_some hk)
   exact⟨l',k1,(OH k2 (fun j hj=>(k3 j hj).step hw) (fun g hg=> .inr ⟨k+1,by omega,hg⟩)).1⟩
  have hel:∀k,k <l.length→HL (fun g=>F g∨foot N i (.deep e c l) g) N s.nx R (enc c (l.getD k (Ac c))) ((zs.drop (k*size c)).take (size c)):=fun k hk=>by
   obtain⟨l',k1,k2⟩:=hin k hk
   have hk3:=(h3 k (l.getD k (Ac c)) (getD_some hk)).step hw
   have go:∀(cs:List A) (vs:List Value),(∀(p:Nat) (c2:TC) (l2:List (U c2)),cs[p]?=some (.sl c2 l2)→Hv (fun g=>F g∨foot N i (.deep e c l) g) N s.nx R (.sl c2 l2) (Nr (N.q i) (k+1)))→HL (fun g=>F g∨foot N i (.deep e c l) g) N s.nx R (Nq i k cs) vs→HL (fun g=>F g∨foot N i (.deep e c l) g) N s.nx R cs vs:=fun cs=>by
    induction cs with
    |nil=>intro vs _ hh;rw[hh.inv0];exact HL.nil
    | cons x r ih=>
     intro vs hc hh
     cases x
     case sl c2 l2=>
      obtain⟨w,ws,rfl,w1,w2⟩:=hh.inv
      rw[w1.iv_inv.2]
      exact HL.cons (hc 0 c2 l2 rfl) (ih ws (fun p c3 l3 hp=>hc (p+1) c3 l3 hp) w2)
     all_goals
      obtain⟨w,ws,rfl,w1,w2⟩:=hh.inv
      exact HL.cons w1 (ih ws (fun p c3 l3 hp=>hc (p+1) c3 l3 hp) w2)
   refine go _ _ (fun p c2 l2 hp=>?_) hk3
   obtain rfl:=Ab4 h1 _ p c2 l2 hp
   rw[k1] at hp
   cases hp
   exact k2
  have hrow:=(OH h2 hel (fun g hg=> .inr ⟨0,by omega,hg⟩)).1
  refine⟨_,Anl h hl (fun hx=>Bhp (fun e=>by cases e) (fun e=>by cases e) (fun _=>hrow) (fun _ k hk=>?_) hF hx) (fun p hm=>hp p (List.mem_append.2 (.inl hm))) fun p hm=>hp p (List.mem_append.2 (.inr hm))⟩
  obtain⟨l',k1,k2⟩:=hin k hk
  unfold ivA Avg
  rw[h1]
  simp only
  rw[k1]
  exact k2
end
end Go.Proofs.Yteebobbhhgmeiaa
namespace Go.Proofs.Yteebobbhhgmeiaa
open Go.RowKit
def VH (s:St):Nat→Nat→Bool→Guards
 |0,u,b=>[(u,b)]
 |n+1,u,b=>(u,b)::match s.get u with
  |some (.opt v c _)=>VH s n v c
  |_=>[]
def TX (s:St) (G:Guards):Guards→List Prop
 | []=>[]
 | (u,b)::r=>match s.get u with
  |some x=>match x.strip G with
   |some (.v (.bool g))=>(g=b)::TX s G r
   |_=>TX s G r
  |none=>TX s G r
def B00:List Prop→Prop→Prop
 | [],p=>p
 |q::r,p=>q→B00 r p
def Wm (qs:List Prop):List Prop→List Prop
 | []=>[]
 |p::r=>B00 qs p::Wm qs r
theorem Bl6:∀{qs:List Prop} {p:Prop},B00 qs p→(∀q∈qs,q)→p
 | [],_,h,_=>h
 |q::r,_,h,hq=>Bl6 (h (hq q (by simp))) fun q' h'=>hq q' (by simp[h'])
theorem Na {qs:List Prop}:∀{ps:List Prop},(∀p∈Wm qs ps,p)→(∀q∈qs,q)→∀p∈ps,p
 | [],_,_,_,h=>by cases h
 |p::r,hp,hq,p',hm=>by
  rcases List.mem_cons.1 hm with rfl|hm
  ·exact Bl6 (hp _ (List.mem_cons_self ..)) hq
  ·exact Na (ps:=r) (fun p h=>hp p (List.mem_cons_of_mem _ h)) hq p' hm
section
variable {Z:Base} {F:Nat→Prop} {N:Nm} {s:St} {a:Act} {R:World}
theorem Bc5 {u v:Nat} {b c:Bool} {G:Guards} (h:inG u b ((v,c)::G)=true):(u=v∧b=c)∨inG u b G=true:=by
 unfold inG at h
 cases hk:Nat.beq v u with
 |false=>rw[hk] at h;exact .inr h
 |true=>
  rw[hk] at h
  simp only[cond_true] at h
  cases hb:A0z c b with
  |false=>rw[hb] at h;exact .inr h
  |true=>exact .inl ⟨(Nat.eq_of_beq_eq_true hk).symm,(YB hb).symm⟩
theorem Bd6 (h:Rel Z F N s a R) {u v:Nat} {b c:Bool} {x:A} (hg:s.get u=some (.opt v c x)) (hu:Bl a u=.bool b):Bl a v=.bool c:=by
 have hh:=h.slots u _ hg
 simp only[HS] at hh
 by_cases hc:Bl a v=.bool c
 ·exact hc
 ·have:=hh.2 hc
  rw[hu] at this
  cases this
theorem YN (h:Rel Z F N s a R):∀(n u:Nat) (b:Bool),Bl a u=.bool b→OJ (Bl a) (VH s n u b)
 |0,u,b,hu,v,c,hv=>by
  rcases Bc5 hv with⟨rfl,rfl⟩|h'
  ·exact hu
  ·cases h'
 | n+1,u,b,hu,v,c,hv=>by
  unfold VH at hv
  rcases Bc5 hv with⟨rfl,rfl⟩|h'
  ·exact hu
  ·split at h'
   ·rename_i v' c' x hg
    exact YN h n v' c' (Bd6 h hg hu) v c h'
   ·cases h'
theorem SA (h:Rel Z F N s a R) {G:Guards} (hG:OJ (Bl a) G):∀{l:Guards},(∀e∈l,Bl a e.1=.bool e.2)→∀q∈TX s G l,q
 | [],_,_,hq=>by cases hq
 | (u,b)::r,hl,q,hq=>by
  have hr:∀e∈r,Bl a e.1=.bool e.2:=fun e he=>hl e (List.mem_cons_of_mem _ he)
  unfold TX at hq
  split at hq
  ·rename_i x hx
   split at hq
   ·rename_i g hg
    rcases List.mem_cons.1 hq with rfl|hq
    ·obtain⟨_,h2⟩:=A0l hG hg (h.slots u x hx)
     have h3:=hl (u,b) (List.mem_cons_self ..)
     rw[h2.v_inv] at h3
     injection h3
    ·exact SA h hG hr q hq
   ·exact SA h hG hr q hq
  ·exact SA h hG hr q hq
theorem Avd (h:Rel Z F N s a R):∀(n u:Nat) (b:Bool),Bl a u=.bool b→∀e∈VH s n u b,Bl a e.1=.bool e.2
 |0,u,b,hu,e,he=>by
  obtain rfl:=List.mem_singleton.1 he
  exact hu
 | n+1,u,b,hu,e,he=>by
  unfold VH at he
  rcases List.mem_cons.1 he with rfl|he
  ·exact hu
  ·split at he
   ·rename_i v' c' x hg
    exact Avd h n v' c' (Bd6 h hg hu) e he
   ·cases he
end
structure Mv where
 l:Option Nat
 r:Option Nat
 m:Nat
 d:Bool
abbrev Mvs:=List Mv
def isO (i:Nat):Option Nat→Bool
 |some j=>Nat.beq j i
 |none=>false
theorem A6y {i:Nat} {o:Option Nat} (h:isO i o=true):o=some i:=by
 cases o with
 |none=>cases h
 |some j=>rw[Nat.eq_of_beq_eq_true h]
def Buy (i:Nat):Mvs→Bool
 | []=>false
 |e::r=>bif isO i e.l then true else Buy i r
def Buz (i:Nat):Mvs→Bool
 | []=>false
 |e::r=>bif isO i e.r then true else Buz i r
def isNone:Option Nat→Bool
 |none=>true
 |_=>false
def Bcu (i j:Nat):Mvs→Option Nat
 | []=>none
 |e::r=>bif isO i e.l&&isO j e.r then some e.m else Bcu i j r
def Bcv (d:Bool) (j:Nat):Mvs→Option Nat
 | []=>none
 |e::r=>bif isNone e.l&&(isO j e.r&&A0z e.d d) then some e.m else Bcv d j r
def Bct (d:Bool) (i:Nat):Mvs→Option Nat
 | []=>none
 |e::r=>bif isO i e.l&&(isNone e.r&&A0z e.d d) then some e.m else Bct d i r
def Bma (d:Bool) (o:Objs) (i:Nat):Bool:=match Ao i o with
 |some (.arr _ _ _)=>!d
 |some (.deep _ _ _)=>d
 |_=>false
abbrev Y7:=Mvs×Nat
def B18 (d:Bool) (o1 o2:Objs) (i j:Nat) (c:Y7):Y7:=bif Nat.beq i j then c else
 bif Buy i c.1||Buz j c.1 then c else bif Bma d o1 i&&Bma d o2 j then(⟨some i,some j,c.2,d⟩::c.1,c.2+1) else c
def B2a (d:Bool) (o2:Objs) (j:Nat) (c:Y7):Y7:=bif Buz j c.1 then c else bif Bma d o2 j then(⟨none,some j,c.2,d⟩::c.1,c.2+1) else c
def B17 (d:Bool) (o1:Objs) (i:Nat) (c:Y7):Y7:=bif Buy i c.1 then c else bif Bma d o1 i then(⟨some i,none,c.2,d⟩::c.1,c.2+1) else c
def Rk (f:A→A→Y7→Y7):List A→List A→Y7→Y7
 |x::xs,y::ys,c=>Rk f xs ys (f x y c)
 |_,_,c=>c
def ZH (o1 o2:Objs):Nat→A→A→Y7→Y7
 |0,_,_,c=>c
 |d+1,x,y,c=>match x,y with
  | .sq i,.sq j=>B18 false o1 o2 i j c
  | .v x,.sq j=>bif D5 x then B2a false o2 j c else c
  | .sq i,.v y=>bif D5 y then B17 false o1 i c else c
  | .dq i,.dq j=>B18 true o1 o2 i j c
  | .v x,.dq j=>bif D5 x then B2a true o2 j c else c
  | .dq i,.v y=>bif D5 y then B17 true o1 i c else c
  | .agg xs,.agg ys=>Rk (ZH o1 o2 d) xs ys c
  | .tup xs,.tup ys=>Rk (ZH o1 o2 d) xs ys c
  | .fn _ xs us,.fn _ ys ws=>Rk (ZH o1 o2 d) us ws (Rk (ZH o1 o2 d) xs ys c)
  | .v (.agg xs),.agg ys=>Rk (ZH o1 o2 d) (toL xs.toList) ys c
  | .agg xs,.v (.agg ys)=>Rk (ZH o1 o2 d) xs (toL ys.toList) c
  | .v (.tuple xs),.tup ys=>Rk (ZH o1 o2 d) (toL xs.toList) ys c
  | .tup xs,.v (.tuple ys)=>Rk (ZH o1 o2 d) xs (toL ys.toList) c
  |_,_=>c
def Rr (M:Mvs):Nat→Bool→A→A→A
 |0,_,_,_=> .dead
 | d+1,g,x,y=>match(bif Af0 x y then RU x else x),(bif Af0 x y then RU y else y) with
  | .sq i,.sq j=>bif Nat.beq i j then .sq i else match Bcu i j M with
   |some m=> .sq m
   |none=> .dead
  | .v x,.sq j=>bif D5 x then(match Bcv false j M with
   |some m=> .sq m
   |none=> .dead) else .dead
  | .sq i,.v y=>bif D5 y then(match Bct false i M with
   |some m=> .sq m
   |none=> .dead) else .dead
  | .dq i,.dq j=>bif Nat.beq i j then .dq i else match Bcu i j M with
   |some m=> .dq m
   |none=> .dead
  | .v x,.dq j=>bif D5 x then(match Bcv true j M with
   |some m=> .dq m
   |none=> .dead) else .dead
  | .dq i,.v y=>bif D5 y then(match Bct true i M with
   |some m=> .dq m
   |none=> .dead) else .dead
  | .agg xs,.agg ys=>VS (DE (Rr M d g) g xs ys)
  | .tup xs,.tup ys=> .tup (DE (Rr M d g) g xs ys)
  | .fn f xs us,.fn h ys ws=>bif Nat.beq f h then .fn f (DE (Rr M d g) g xs ys) (DE (Rr M d g) g us ws) else .dead
  | .vw i sz lo n _,.vw j sz' lo' n' _=>bif Nat.beq i j then(bif Nat.beq sz sz' then .vw i sz (bif g then lo else lo') (bif g then n else n') false else .dead) else .dead
  | .el i k sz off,.el j k' sz' off'=>bif Nat.beq i j then(bif Nat.beq sz sz' then(bif Nat.beq off off' then .el i (bif g then k else k') sz off else .dead) else .dead) else .dead
  |x,y=>Mt 4 g x y
def Ub (M:Mvs) (g:Bool) (x y:A):A:=Rr M 5 g x y
def Boe (d:Bool):Value:=bif d then .agg #[.slice none 0 0] else .slice none 0 0
def Bgr (N:Nm) (nx:Nat) (sel:Mv→Option Nat) (M:Mvs):Prop:=∀e∈M,e.m <nx∧(∀i,sel e=some i→i <nx∧N.q e.m=N.q i)∧(sel e=none→N.q e.m=Boe e.d)
def Bo6 (g:Bool):Mv→Option Nat:=bif g then Mv.l else Mv.r
section
variable {F:Nat→Prop} {N:Nm} {nx:Nat} {R:World} {g:Bool} {M:Mvs}
theorem Ajw {i j m:Nat}:∀{M:Mvs},Bcu i j M=some m→∃e∈M,e.l=some i∧e.r=some j∧e.m=m
 | [],h=>by cases h
 | e::r,h=>by
  unfold Bcu at h
  cases hb:(isO i e.l&&isO j e.r) with
  |true=>
   rw[hb] at h
   cases h
   rw[Bool.and_eq_true] at hb
   exact⟨e,List.mem_cons_self ..,A6y hb.1,A6y hb.2,rfl⟩
  |false=>
   rw[hb] at h
   obtain⟨e',h1,h2⟩:=Ajw (M:=r) h
   exact⟨e',List.mem_cons_of_mem _ h1,h2⟩
theorem A33 {o:Option Nat} (h:isNone o=true):o=none:=by cases o<;>first|rfl|cases h
theorem Ajx {d:Bool} {j m:Nat}:∀{M:Mvs},Bcv d j M=some m→∃e∈M,e.l=none∧e.r=some j∧e.m=m∧e.d=d
 | [],h=>by cases h
 | e::r,h=>by
  unfold Bcv at h
  cases hb:(isNone e.l&&(isO j e.r&&A0z e.d d)) with
  |true=>
   rw[hb] at h
   cases h
   rw[Bool.and_eq_true,Bool.and_eq_true] at hb
   exact⟨e,List.mem_cons_self ..,A33 hb.1,A6y hb.2.1,rfl,YB hb.2.2⟩
  |false=>
   rw[hb] at h
   obtain⟨e',h1,h2⟩:=Ajx (M:=r) h
   exact⟨e',List.mem_cons_of_mem _ h1,h2⟩
theorem Ajv {d:Bool} {j m:Nat}:∀{M:Mvs},Bct d j M=some m→∃e∈M,e.l=some j∧e.r=none∧e.m=m∧e.d=d
 | [],h=>by cases h
 | e::r,h=>by
  unfold Bct at h
  cases hb:(isO j e.l&&(isNone e.r&&A0z e.d d)) with
  |true=>
   rw[hb] at h
   cases h
   rw[Bool.and_eq_true,Bool.and_eq_true] at hb
   exact⟨e,List.mem_cons_self ..,A6y hb.1,A33 hb.2.1,rfl,YB hb.2.2⟩
  |false=>
   rw[hb] at h
   obtain⟨e',h1,h2⟩:=Ajv (M:=r) h
   exact⟨e',List.mem_cons_of_mem _ h1,h2⟩
theorem Hv.sq_as {i m:Nat} {v:Value} (h:Hv F N nx R (.sq i) v) (hm:m <nx) (e:N.q m=N.q i):Hv F N nx R (.sq m) v:=by
 rw[h.sq_inv.2,←e]
 exact .sq hm
theorem Hv.dq_as {i m:Nat} {v:Value} (h:Hv F N nx R (.dq i) v) (hm:m <nx) (e:N.q m=N.q i):Hv F N nx R (.dq m) v:=by
 rw[h.dq_inv.2,←e]
 exact .dq hm
theorem A4b (hM:Bgr N nx (Bo6 g) M):∀(d:Nat) {x y:A} {v:Value},Hv F N nx R (bif g then x else y) v→Hv F N nx R (Rr M d g x y) v
 |0,_,_,_,_=> .dead _
 | d +1,x,y,v,h=>by
  have ih:∀{x y v},Hv F N nx R (bif g then x else y) v→Hv F N nx R (Rr M d g x y) v:=fun h=>A4b hM d h
  have h':Hv F N nx R (bif g then(bif Af0 x y then RU x else x) else(bif Af0 x y then RU y else y)) v:=by
   cases Af0 x y with
   |false=>exact h
   |true=>cases g<;>exact A47 h
  unfold Rr
  generalize (bif Af0 x y then RU x else x)=x' at*
  generalize (bif Af0 x y then RU y else y)=y' at*
  clear h
  have h:=h'
  clear h'
  split
  ·rename_i i j
   cases h1:Nat.beq i j with
   |true=>
    obtain rfl:=Nat.eq_of_beq_eq_true h1
    cases g<;>exact h
   | false=>
    simp only[cond_false]
    split
    ·rename_i m hm
     obtain⟨e,h2,h3,h4,rfl⟩:=Ajw hm
     obtain⟨k1,k2,_⟩:=hM e h2
     cases g with
     |true=>exact Hv.sq_as h k1 (k2 i h3).2
     |false=>exact Hv.sq_as h k1 (k2 j h4).2
    ·exact .dead _
  ·rename_i x j
   cases hx:D5 x with
   |false=>exact .dead _
   | true=>
    obtain rfl:=Gr hx
    simp only[cond_true]
    split
    ·rename_i m hm
     obtain⟨e,h2,h3,h4,rfl,h9⟩:=Ajx hm
     obtain⟨k1,k2,k3⟩:=hM e h2
     cases g with
     |true=>
      have k4:=k3 h3
      rw[h9] at k4
      rw[h.v_inv,show Value.slice none 0 0=N.q e.m from k4.symm]
      exact .sq k1
     |false=>exact Hv.sq_as h k1 (k2 j h4).2
    ·exact .dead _
  ·rename_i i y
   cases hx:D5 y with
   |false=>exact .dead _
   | true=>
    obtain rfl:=Gr hx
    simp only[cond_true]
    split
    ·rename_i m hm
     obtain⟨e,h2,h3,h4,rfl,h9⟩:=Ajv hm
     obtain⟨k1,k2,k3⟩:=hM e h2
     cases g with
     |true=>exact Hv.sq_as h k1 (k2 i h3).2
     |false=>
      have k4:=k3 h4
      rw[h9] at k4
      rw[h.v_inv,show Value.slice none 0 0=N.q e.m from k4.symm]
      exact .sq k1
    ·exact .dead _
  ·rename_i i j
   cases h1:Nat.beq i j with
   |true=>
    obtain rfl:=Nat.eq_of_beq_eq_true h1
    cases g<;>exact h
   | false=>
    simp only[cond_false]
    split
    ·rename_i m hm
     obtain⟨e,h2,h3,h4,rfl⟩:=Ajw hm
     obtain⟨k1,k2,_⟩:=hM e h2
     cases g with
     |true=>exact Hv.dq_as h k1 (k2 i h3).2
     |false=>exact Hv.dq_as h k1 (k2 j h4).2
    ·exact .dead _
  ·rename_i x j
   cases hx:D5 x with
   |false=>exact .dead _
   | true=>
    obtain rfl:=Gr hx
    simp only[cond_true]
    split
    ·rename_i m hm
     obtain⟨e,h2,h3,h4,rfl,h9⟩:=Ajx hm
     obtain⟨k1,k2,k3⟩:=hM e h2
     cases g with
     |true=>
      have k4:=k3 h3
      rw[h9] at k4
      have hdq:Hv F N nx R (.dq e.m) (Nr (N.q e.m) 0):=.dq k1
      have hf:Nr (N.q e.m) 0=.slice none 0 0:=by rw[k4];rfl
      rw[hf] at hdq
      rw[h.v_inv]
      exact hdq
     |false=>exact Hv.dq_as h k1 (k2 j h4).2
    ·exact .dead _
  ·rename_i i y
   cases hx:D5 y with
   |false=>exact .dead _
   | true=>
    obtain rfl:=Gr hx
    simp only[cond_true]
    split
    ·rename_i m hm
     obtain⟨e,h2,h3,h4,rfl,h9⟩:=Ajv hm
     obtain⟨k1,k2,k3⟩:=hM e h2
     cases g with
     |true=>exact Hv.dq_as h k1 (k2 i h3).2
     |false=>
      have k4:=k3 h4
      rw[h9] at k4
      have hdq:Hv F N nx R (.dq e.m) (Nr (N.q e.m) 0):=.dq k1
      have hf:Nr (N.q e.m) 0=.slice none 0 0:=by rw[k4];rfl
      rw[hf] at hdq
      rw[h.v_inv]
      exact hdq
    ·exact .dead _
  ·rename_i xs ys
   have h':Hv F N nx R (.agg (bif g then xs else ys)) v:=by cases g<;>exact h
   obtain⟨vs,rfl,h2⟩:=h'.agg_inv
   exact YA (GV ih h2)
  ·rename_i xs ys
   have h':Hv F N nx R (.tup (bif g then xs else ys)) v:=by cases g<;>exact h
   obtain⟨vs,rfl,h2⟩:=h'.tup_inv
   exact Hv.of_tup (GV ih h2)
  ·rename_i f xs us h0 ys ws
   cases h1:Nat.beq f h0 with
   |false=>exact .dead _
   |true=>
    obtain rfl:=Nat.eq_of_beq_eq_true h1
    have h':Hv F N nx R (.fn f (bif g then xs else ys) (bif g then us else ws)) v:=by cases g<;>exact h
    obtain⟨vs,ks,rfl,h2,h3⟩:=h'.fn_inv
    exact Hv.of_fn (GV ih h2) (GV ih h3)
  ·rename_i i sz lo n f j sz' lo' n' f'
   cases h1:Nat.beq i j with
   |false=>exact .dead _
   | true=>
    cases h2:Nat.beq sz sz' with
    |false=>exact .dead _
    | true=>
     obtain rfl:=Nat.eq_of_beq_eq_true h1
     obtain rfl:=Nat.eq_of_beq_eq_true h2
     cases g with
     |true=>
      obtain⟨k1,a,c,rfl,k2,_,k4⟩:=h.vw_inv
      exact .vw k1 k2 (fun e=>by cases e) k4
     |false=>
      obtain⟨k1,a,c,rfl,k2,_,k4⟩:=h.vw_inv
      exact .vw k1 k2 (fun e=>by cases e) k4
  ·rename_i i k sz off j k' sz' off'
   cases h1:Nat.beq i j with
   |false=>exact .dead _
   | true=>
    cases h2:Nat.beq sz sz' with
    |false=>exact .dead _
    | true=>
     cases h3:Nat.beq off off' with
     |false=>exact .dead _
     |true=>
      obtain rfl:=Nat.eq_of_beq_eq_true h1
      obtain rfl:=Nat.eq_of_beq_eq_true h2
      obtain rfl:=Nat.eq_of_beq_eq_true h3
      cases g<;>exact h
  ·exact YS 4 h
theorem Akx (hM:Bgr N nx (Bo6 g) M) {x y:A} {v:Value} (h:Hv F N nx R (bif g then x else y) v):Hv F N nx R (Ub M g x y) v:=by
 exact A4b hM 5 h
end
def Awd (M:Mvs) (g:Bool):Els→Els→Option Els
 | .ty c l,.ty c' l'=>match TC.same c' c with
  |some h=>some (.ty c (bif g then l else Am5 h.down l'))
  |none=>none
 | .lst cs,.ty c l=>match Bcj c cs with
  |some (l',[])=>some (.ty c (bif g then l' else l))
  |_=>none
 | .ty c l,.lst cs=>match Bcj c cs with
  |some (l',[])=>some (.ty c (bif g then l else l'))
  |_=>none
 | .lst xs,.lst ys=>bif Nat.beq xs.length ys.length then some (.lst ((xs.zip ys).map fun p=>DE (Ub M g) g p.1 p.2)) else none
def A7s (M:Mvs) (g:Bool):Ob→Ob→Option Ob
 | .box e cs,.box e' cs'=>bif Nat.beq e e' then some (.box e (DE (Ub M g) g cs cs')) else none
 | .arr e sz els,.arr e' sz' els'=>bif Nat.beq e e' then(bif Nat.beq sz sz' then(match Awd M g els els' with
  |some r=>some (.arr e sz r)
  |none=>none) else none) else none
 | .map k v l,.map k' v' l'=>match TC.same k' k,TC.same v' v with
  |some h,some h'=>some (.map k v (bif g then l else(h.down▸h'.down▸l':List (U k×U v))))
  |_,_=>none
 | .sit b p,.sit b' p'=>some (.sit (bif g then b else b') (bif g then p else p'))
 | .deep e c l,.deep e' c' l'=>match TC.same c' c with
  |some h=>bif Nat.beq e e' then some (.deep e c (bif g then l else Am5 h.down l')) else none
  |none=>none
 |_,_=>none
section
variable {F:Nat→Prop} {N:Nm} {nx:Nat} {R:World} {g:Bool} {M:Mvs} {size:Nat}
theorem Bdu (hM:Bgr N nx (Bo6 g) M) {x y r:Els} {zs:List Value} (he:Awd M g x y=some r) (h:RowHL F N nx R (bif g then x else y) size zs):r.n=(bif g then x else y).n∧RowHL F N nx R r size zs:=by
 unfold Awd at he
 split at he
 ·rename_i c l c' l'
  split at he<;>first|(cases he;done)|skip
  rename_i h1 _
  obtain⟨h1⟩:=h1
  subst h1
  cases he
  cases g<;>exact⟨rfl,h⟩
 ·rename_i cs c l
  split at he<;>first|(cases he;done)|skip
  rename_i l' hl
  cases he
  cases g with
  |false=>exact⟨rfl,h⟩
  |true=>exact⟨(YH (F:=F) (N:=N) (nx:=nx) (R:=R) hl (fun p hp=>by cases hp)).1,RowHL.ty (els:=.lst cs) h hl (fun p hp=>by cases hp)⟩
 ·rename_i c l cs
  split at he<;>first|(cases he;done)|skip
  rename_i l' hl
  cases he
  cases g with
  |true=>exact⟨rfl,h⟩
  |false=>exact⟨(YH (F:=F) (N:=N) (nx:=nx) (R:=R) hl (fun p hp=>by cases hp)).1,RowHL.ty (els:=.lst cs) h hl (fun p hp=>by cases hp)⟩
 ·rename_i xs ys
  cases hb:Nat.beq xs.length ys.length with
  |false=>rw[hb] at he;cases he
  | true=>
   rw[hb] at he
   cases he
   have hlen:=Nat.eq_of_beq_eq_true hb
   have hz:((xs.zip ys).map fun p=>DE (Ub M g) g p.1 p.2).length=xs.length:=by rw[List.length_map,List.length_zip];omega
   have hn:(Els.lst ((xs.zip ys).map fun p=>DE (Ub M g) g p.1 p.2)).n=(bif g then Els.lst xs else Els.lst ys).n:=by
    show List.length _=_
    rw[hz]
    cases g with
    |true=>rfl
    |false=>exact hlen
   refine⟨hn,by rw[hn];exact h.1,fun k hk=>?_⟩
   rw[hn] at hk
   have h2:=h.2 k hk
   have hkx:k <xs.length:=by cases g with
    |true=>exact hk
    |false=>have:k <ys.length:=hk;omega
   have hky:k <ys.length:=by omega
   show HL F N nx R (Jz _ k) _
   rw[EJ,List.getD_eq_getElem?_getD,List.getElem?_map]
   have e1:(xs.zip ys)[k]?=some (xs[k],ys[k]):=by
    rw[List.getElem?_zip_eq_some]
    exact⟨List.getElem?_eq_getElem hkx,List.getElem?_eq_getElem hky⟩
   rw[e1]
   show HL F N nx R (DE (Ub M g) g xs[k] ys[k]) _
   refine GV (fun hh=>Akx hM hh) ?_
   have e2:(bif g then Els.lst xs else Els.lst ys).nth k=bif g then xs[k] else ys[k]:=by
    cases g with
    |true=>show Jz xs k=xs[k];rw[EJ,List.getD_eq_getElem?_getD,List.getElem?_eq_getElem hkx];rfl
    |false=>show Jz ys k=ys[k];rw[EJ,List.getD_eq_getElem?_getD,List.getElem?_eq_getElem hky];rfl
   rw[e2] at h2
   exact h2
theorem Bh5 (hM:Bgr N nx (Bo6 g) M) {i:Nat} {x y r:Ob} (he:A7s M g x y=some r):(ObR F N nx R i (bif g then x else y)→ObR F N nx R i r)∧∀gg,foot N i r gg↔foot N i (bif g then x else y) gg:=by
 unfold A7s at he
 split at he<;>first|(cases he;done)|skip
 ·rename_i e cs e' cs'
  cases hb:Nat.beq e e' with
  |false=>rw[hb] at he;cases he
  |true=>
   rw[hb] at he
   cases he
   obtain rfl:=Nat.eq_of_beq_eq_true hb
   refine⟨fun h=>?_,fun gg=>by cases g<;>exact Iff.rfl⟩
   have h':ObR F N nx R i (.box e (bif g then cs else cs')):=by cases g<;>exact h
   obtain⟨vs,h1,h2⟩:=h'
   exact⟨vs,GV (fun hh=>Akx hM hh) h1,h2⟩
 ·rename_i e sz els e' sz' els'
  cases hb:Nat.beq e e' with
  |false=>rw[hb] at he;cases he
  | true=>
   cases hb2:Nat.beq sz sz' with
   |false=>rw[hb,hb2] at he;cases he
   |true=>
    rw[hb,hb2] at he
    simp only[cond_true] at he
    split at he<;>first|(cases he;done)|skip
    rename_i r' hr
    cases he
    obtain rfl:=Nat.eq_of_beq_eq_true hb
    obtain rfl:=Nat.eq_of_beq_eq_true hb2
    refine⟨fun h=>?_,fun gg=>by cases g<;>exact Iff.rfl⟩
    have h':ObR F N nx R i (.arr e sz (bif g then els else els')):=by cases g<;>exact h
    obtain⟨zs,h1,h2⟩:=h'
    obtain⟨k1,k2⟩:=Bdu hM hr ⟨h1.1,h2⟩
    exact⟨zs,by rw[k1];exact h1,k2.2⟩
 ·rename_i k v l k' v' l'
  split at he<;>first|(cases he;done)|skip
  rename_i h1 h2 _ _
  obtain⟨h1⟩:=h1
  obtain⟨h2⟩:=h2
  subst h1 h2
  cases he
  exact⟨fun h=>by cases g<;>exact h,fun gg=>by cases g<;>exact Iff.rfl⟩
 ·cases he
  exact⟨fun h=>by cases g<;>exact h,fun gg=>by cases g<;>exact Iff.rfl⟩
 ·rename_i e c l e' c' l'
  split at he<;>first|(cases he;done)|skip
  rename_i h1 _
  obtain⟨h1⟩:=h1
  subst h1
  cases hb:Nat.beq e e' with
  |false=>rw[hb] at he;cases he
  |true=>
   rw[hb] at he
   cases he
   obtain rfl:=Nat.eq_of_beq_eq_true hb
   exact⟨fun h=>by cases g<;>exact h,fun gg=>by cases g<;>exact Iff.rfl⟩
end
def mvS (sel oth:Mv→Option Nat) (oo:Objs):Mvs→Nat→Objs→Option (Nat×Objs)
 | [],nx,o=>some (nx,o)
 | e ::r,nx,o=>match mvS sel oth oo r nx o with
  | some (nx',o')=>bif Nat.ble nx' e.m then(match sel e with
   |some i=>match Ao i o' with
    |some (.arr t sz els)=>bif Nat.blt i nx' then some (e.m+1,(i,none)::(e.m,some (.arr t sz els))::o') else none
    |some (.deep t c l)=>bif Nat.blt i nx' then some (e.m+1,(i,none)::(e.m,some (.deep t c l))::o') else none
    |_=>none
   | none=>match oth e with
    | some j=>match Ao j oo with
     |some (.arr t sz _)=>bif e.d then none else some (e.m+1,(e.m,some (.arr t sz (.lst [])))::o')
     |some (.deep t c _)=>match ZG c with
      |some _=>bif e.d then some (e.m+1,(e.m,some (.deep t c []))::o') else none
      |none=>none
     |_=>none
    |none=>none) else none
  |none=>none
section
variable {F:Nat→Prop} {N:Nm} {nx:Nat} {o:Objs} {R:World}
theorem HRel.move (h:HRel F N nx o R) {i m:Nat} {ob0:Ob} (hl:Ao i o=some ob0) (hm:nx≤m) (hob:Ext F N nx R F (N.setQ m (N.q i)) (m+1) R→(N.setQ m (N.q i)).q m=N.q i→ObR F N nx R i ob0→ObR F (N.setQ m (N.q i)) (m+1) R m ob0) (fm0:(N.setQ m (N.q i)).q m=N.q i→∀g,foot (N.setQ m (N.q i)) m ob0 g→foot N i ob0 g):
  HRel F (N.setQ m (N.q i)) (m+1) ((i,none)::(m,some ob0)::o) R∧Step F N nx o R F (N.setQ m (N.q i)) (m+1) ((i,none)::(m,some ob0)::o) R:=by
 have hq:∀k,k <nx→(N.setQ m (N.q i)).q k=N.q k:=fun k hk=>EH N.q _ (by omega)
 have hqm:(N.setQ m (N.q i)).q m=N.q i:=BU N.q m _
 have st:Ext F N nx R F (N.setQ m (N.q i)) (m+1) R:=⟨by omega,fun _ _=>rfl,hq,fun _ h=>h,fun _ _=>rfl⟩
 have cases_:∀k ob,Ao k ((i,none)::(m,some ob0)::o)=some ob→(k=m∧k≠i∧ob=ob0)∨(k≠m∧k≠i∧Ao k o=some ob):=fun k ob hk=>by
  rw[Bd] at hk
  by_cases hki:k=i
  ·rw[if_pos hki] at hk;cases hk
  ·rw[if_neg hki,Bd] at hk
   by_cases hkm:k=m
   ·rw[if_pos hkm] at hk;cases hk;exact .inl ⟨hkm,hki,rfl⟩
   ·rw[if_neg hkm] at hk;exact .inr ⟨hkm,hki,hk⟩
 have fm:=fm0 hqm
 have fo:∀k ob g,Ao k o=some ob→foot (N.setQ m (N.q i)) k ob g→foot N k ob g:=fun k ob g hk hg=>(EM st (h.ob k ob hk).1).1 hg
 refine⟨⟨h.flt,fun k ob hk=>?_,fun k ob g hk hg=>?_,fun j k x y g hj hk hx hy=>?_⟩,by omega,fun _ _=>rfl,hq,fun _ h=>h,fun _ h=> .inl h,fun g ⟨k,ob,hk,hg⟩=>?_,rfl,rfl,rfl,Nat.le_refl _,fun _ _ _=>rfl⟩
 ·rcases cases_ k ob hk with⟨rfl,_,rfl⟩|⟨_,_,hk'⟩
  ·exact⟨Nat.lt_succ_self _,hob st hqm (h.ob i _ hl).2⟩
  ·obtain⟨h1,h2⟩:=h.ob k ob hk'
   exact⟨by omega,h2.step st h1 fun _ _=>rfl⟩
 ·rcases cases_ k ob hk with⟨rfl,_,rfl⟩|⟨_,_,hk'⟩
  ·exact h.ff i _ g hl (fm g hg)
  ·exact h.ff k ob g hk' (fo k ob g hk' hg)
 ·rcases cases_ j x hj with⟨rfl,hji,rfl⟩|⟨hjm,hji,hj'⟩
  ·rcases cases_ k y hk with⟨rfl,_,_⟩|⟨hkm,hki,hk'⟩
   ·rfl
   ·exact absurd (h.sep i k _ y g hl hk' (fm g hx) (fo k y g hk' hy)).symm hki
  ·rcases cases_ k y hk with⟨rfl,hki,rfl⟩|⟨hkm,hki,hk'⟩
   ·exact absurd (h.sep j i x _ g hj' hl (fo j x g hj' hx) (fm g hy)) hji
   ·exact h.sep j k x y g hj' hk' (fo j x g hj' hx) (fo k y g hk' hy)
 ·rcases cases_ k ob hk with⟨rfl,_,rfl⟩|⟨_,_,hk'⟩
  ·exact .inl ⟨i,_,hl,fm g hg⟩
  ·exact .inl ⟨k,ob,hk',fo k ob g hk' hg⟩
theorem HRel.moveR (h:HRel F N nx o R) {i m:Nat} {t:TypeId} {sz:Nat} {els:Els} (hl:Ao i o=some (.arr t sz els)) (hm:nx≤m):
  HRel F (N.setQ m (N.q i)) (m+1) ((i,none)::(m,some (.arr t sz els))::o) R∧Step F N nx o R F (N.setQ m (N.q i)) (m+1) ((i,none)::(m,some (.arr t sz els))::o) R:=
 h.move hl hm (fun st hqm ⟨zs,h1,h2⟩=>⟨zs,by rw[hqm];exact h1,fun j hj=>(h2 j hj).step st⟩) fun hqm g hg=>by
  have hg':CR ((N.setQ m (N.q i)).q m)=some g:=hg
  rw[hqm] at hg'
  exact hg'
theorem HRel.moveD (h:HRel F N nx o R) {i m:Nat} {t:TypeId} {c:TC} {l:List (U c)} (hl:Ao i o=some (.deep t c l)) (hm:nx≤m):
  HRel F (N.setQ m (N.q i)) (m+1) ((i,none)::(m,some (.deep t c l))::o) R∧Step F N nx o R F (N.setQ m (N.q i)) (m+1) ((i,none)::(m,some (.deep t c l))::o) R:=
 h.move hl hm (fun st hqm ⟨col,c',zs,h1,h2,h3,h4,h5⟩=>⟨col,c',zs,h1,by rw[hqm];exact h2,fun k d hd=>(h3 k d hd).moved st (Nat.lt_succ_self _) (by rw[hqm]),fun k d hd=>by
   obtain⟨l',e',us,k1,k2,k3⟩:=h4 k d hd
   exact⟨l',e',us,k1,by rw[hqm];exact k2,fun j hj=>(k3 j hj).step st⟩,by rw[hqm];exact h5⟩) fun hqm g ⟨k,hk,hg⟩=>⟨k,hk,by rw[hqm] at hg;exact hg⟩
theorem HRel.nilG (h:HRel F N nx o R) {m:Nat} {ob0:Ob} (v:Value) (hm:nx≤m) (hob:(N.setQ m v).q m=v→ObR F (N.setQ m v) (m+1) R m ob0) (fm0:(N.setQ m v).q m=v→∀g,¬foot (N.setQ m v) m ob0 g):
  HRel F (N.setQ m v) (m+1) ((m,some ob0)::o) R∧Step F N nx o R F (N.setQ m v) (m+1) ((m,some ob0)::o) R:=by
 have hq:∀k,k <nx→(N.setQ m v).q k=N.q k:=fun k hk=>EH N.q _ (by omega)
 have hqm:(N.setQ m v).q m=v:=BU N.q m _
 have st:Ext F N nx R F (N.setQ m v) (m+1) R:=⟨by omega,fun _ _=>rfl,hq,fun _ h=>h,fun _ _=>rfl⟩
 have cases_:∀k ob,Ao k ((m,some ob0)::o)=some ob→(k=m∧ob=ob0)∨(k≠m∧Ao k o=some ob):=fun k ob hk=>by
  rw[Bd] at hk
  by_cases hkm:k=m
  ·rw[if_pos hkm] at hk;cases hk;exact .inl ⟨hkm,rfl⟩
  ·rw[if_neg hkm] at hk;exact .inr ⟨hkm,hk⟩
 have fm:=fm0 hqm
 have fo:∀k ob g,Ao k o=some ob→foot (N.setQ m v) k ob g→foot N k ob g:=fun k ob g hk hg=>(EM st (h.ob k ob hk).1).1 hg
 refine⟨⟨h.flt,fun k ob hk=>?_,fun k ob g hk hg=>?_,fun j k x y g hj hk hx hy=>?_⟩,by omega,fun _ _=>rfl,hq,fun _ h=>h,fun _ h=> .inl h,fun g ⟨k,ob,hk,hg⟩=>?_,rfl,rfl,rfl,Nat.le_refl _,fun _ _ _=>rfl⟩
 ·rcases cases_ k ob hk with⟨rfl,rfl⟩|⟨_,hk'⟩
  ·exact⟨Nat.lt_succ_self _,hob hqm⟩
  ·obtain⟨h1,h2⟩:=h.ob k ob hk'
   exact⟨by omega,h2.step st h1 fun _ _=>rfl⟩
 ·rcases cases_ k ob hk with⟨rfl,rfl⟩|⟨_,hk'⟩
  ·exact absurd hg (fm g)
  ·exact h.ff k ob g hk' (fo k ob g hk' hg)
 ·rcases cases_ j x hj with⟨rfl,rfl⟩|⟨hjm,hj'⟩
  ·exact absurd hx (fm g)
  ·rcases cases_ k y hk with⟨rfl,rfl⟩|⟨hkm,hk'⟩
   ·exact absurd hy (fm g)
   ·exact h.sep j k x y g hj' hk' (fo j x g hj' hx) (fo k y g hk' hy)
 ·rcases cases_ k ob hk with⟨rfl,rfl⟩|⟨_,hk'⟩
  ·exact absurd hg (fm g)
  ·exact .inl ⟨k,ob,hk',fo k ob g hk' hg⟩
theorem HRel.nilRow (h:HRel F N nx o R) {m:Nat} (t:TypeId) (sz:Nat) {els:Els} (he:els.n=0) (hm:nx≤m):
  HRel F (N.setQ m (.slice none 0 0)) (m+1) ((m,some (.arr t sz els))::o) R∧Step F N nx o R F (N.setQ m (.slice none 0 0)) (m+1) ((m,some (.arr t sz els))::o) R:=
 h.nilG _ hm (fun hqm=>⟨[],by rw[hqm];exact⟨by rw[he];simp,.inl ⟨none,rfl,he⟩⟩,fun j hj=>absurd hj (by omega)⟩) fun hqm g hg=>by
  have hg':CR ((N.setQ m (.slice none 0 0)).q m)=some g:=hg
  rw[hqm] at hg'
  cases hg'
theorem HRel.nilD (h:HRel F N nx o R) {m:Nat} (t:TypeId) {c:TC} {cc:Nat×TC} (hc:ZG c=some cc) (hm:nx≤m):
  HRel F (N.setQ m (Boe true)) (m+1) ((m,some (.deep t c []))::o) R∧Step F N nx o R F (N.setQ m (Boe true)) (m+1) ((m,some (.deep t c []))::o) R:=
 h.nilG _ hm (fun hqm=>⟨cc.1,cc.2,[],hc,by rw[hqm];exact⟨by simp,.inl ⟨none,rfl,rfl⟩⟩,(fun k d hd=>by cases k<;>cases hd),(fun k d hd=>by cases k<;>cases hd),fun k k' g hk hk' _ _=>by simp at hk hk';omega⟩) fun hqm g ⟨k,hk,hg⟩=>by
  rw[hqm] at hg
  obtain rfl:k=0:=by simp at hk;omega
  cases hg
theorem Bh7 (h:HRel F N nx o R) {sel oth:Mv→Option Nat} {oo:Objs}:∀{M:Mvs} {nx':Nat} {o':Objs},mvS sel oth oo M nx o=some (nx',o')→
  ∃N',HRel F N' nx' o' R∧Step F N nx o R F N' nx' o' R∧Bgr N' nx' sel M∧∃d,o'=d++o
 | [],nx',o',he=>by cases he;exact⟨N,h,.refl,(fun e he=>by cases he),[],rfl⟩
 | e :: r,nx',o',he=>by
  unfold mvS at he
  split at he<;>first|(cases he;done)|skip
  rename_i nx1 o1 h1
  obtain⟨N1,k1,k2,k3,d,k4⟩:=Bh7 h h1
  cases hb:Nat.ble nx1 e.m with
  |false=>rw[hb] at he;cases he
  | true=>
   rw[hb] at he
   simp only[cond_true] at he
   have hm:=Nat.le_of_ble_eq_true hb
   split at he
   ·rename_i i hi
    split at he<;>first|(cases he;done)|skip
    ·rename_i t sz els hl
     cases hlt:Nat.blt i nx1 with
     |false=>rw[hlt] at he;cases he
     | true=>
      rw[hlt] at he
      cases he
      have hin:i <nx1:=Nat.le_of_ble_eq_true hlt
      obtain⟨q1,q2⟩:=k1.moveR hl hm
      refine⟨_,q1,k2.trans q2,fun e' he'=>?_,(i,none)::(e.m,some (.arr t sz els))::d,by rw[k4];rfl⟩
      rcases List.mem_cons.1 he' with rfl|he'
      ·refine⟨Nat.lt_succ_self _,fun i' hi'=>?_,fun hn=>?_⟩
       ·rw[hi] at hi'
        cases hi'
        refine⟨by omega,?_⟩
        show Ko N1.q e'.m (N1.q i) e'.m=Ko N1.q e'.m (N1.q i) i
        rw[BU,EH N1.q _ (by omega)]
       ·rw[hi] at hn;cases hn
      ·obtain⟨g1,g2,g3⟩:=k3 e' he'
       refine⟨by omega,fun i' hi'=>?_,fun hn=>?_⟩
       ·obtain⟨g4,g5⟩:=g2 i' hi'
        refine⟨by omega,?_⟩
        show Ko N1.q e.m (N1.q i) e'.m=Ko N1.q e.m (N1.q i) i'
        rw[EH N1.q _ (by omega:e'.m≠e.m),EH N1.q _ (by omega:i'≠e.m)]
        exact g5
       ·show Ko N1.q e.m (N1.q i) e'.m=_
        rw[EH N1.q _ (by omega:e'.m≠e.m)];exact g3 hn
    ·rename_i t c l hl
     cases hlt:Nat.blt i nx1 with
     |false=>rw[hlt] at he;cases he
     | true=>
      rw[hlt] at he
      cases he
      have hin:i <nx1:=Nat.le_of_ble_eq_true hlt
      obtain⟨q1,q2⟩:=k1.moveD hl hm
      refine⟨_,q1,k2.trans q2,fun e' he'=>?_,(i,none)::(e.m,some (.deep t c l))::d,by rw[k4];rfl⟩
      rcases List.mem_cons.1 he' with rfl|he'
      ·refine⟨Nat.lt_succ_self _,fun i' hi'=>?_,fun hn=>?_⟩
       ·rw[hi] at hi'
        cases hi'
        refine⟨by omega,?_⟩
        show Ko N1.q e'.m (N1.q i) e'.m=Ko N1.q e'.m (N1.q i) i
        rw[BU,EH N1.q _ (by omega)]
       ·rw[hi] at hn;cases hn
      ·obtain⟨g1,g2,g3⟩:=k3 e' he'
       refine⟨by omega,fun i' hi'=>?_,fun hn=>?_⟩
       ·obtain⟨g4,g5⟩:=g2 i' hi'
        refine⟨by omega,?_⟩
        show Ko N1.q e.m (N1.q i) e'.m=Ko N1.q e.m (N1.q i) i'
        rw[EH N1.q _ (by omega:e'.m≠e.m),EH N1.q _ (by omega:i'≠e.m)]
        exact g5
       ·show Ko N1.q e.m (N1.q i) e'.m=_
        rw[EH N1.q _ (by omega:e'.m≠e.m)];exact g3 hn
   ·rename_i hi
    split at he<;>first|(cases he;done)|skip
    rename_i j hj
    split at he<;>first|(cases he;done)|skip
    ·rename_i t sz els hl
     cases hed:e.d with
     |true=>rw[hed] at he;cases he
     | false=>
      rw[hed] at he
      cases he
      obtain⟨q1,q2⟩:=k1.nilRow t sz (els:=.lst []) rfl hm
      refine⟨_,q1,k2.trans q2,fun e' he'=>?_,(e.m,some (.arr t sz (.lst [])))::d,by rw[k4];rfl⟩
      rcases List.mem_cons.1 he' with rfl|he'
      ·refine⟨Nat.lt_succ_self _,fun i' hi'=>?_,fun hn=>?_⟩
       ·rw[hi] at hi';cases hi'
       ·rw[hed];exact BU N1.q _ _
      ·obtain⟨g1,g2,g3⟩:=k3 e' he'
       refine⟨by omega,fun i' hi'=>?_,fun hn=>?_⟩
       ·obtain⟨g4,g5⟩:=g2 i' hi'
        refine⟨by omega,?_⟩
        show Ko N1.q e.m _ e'.m=Ko N1.q e.m _ i'
        rw[EH N1.q _ (by omega:e'.m≠e.m),EH N1.q _ (by omega:i'≠e.m)]
        exact g5
       ·show Ko N1.q e.m _ e'.m=_
        rw[EH N1.q _ (by omega:e'.m≠e.m)];exact g3 hn
    ·rename_i t c l hl
     split at he<;>first|(cases he;done)|skip
     rename_i cc hcc
     cases hed:e.d with
     |false=>rw[hed] at he;cases he
     | true=>
      rw[hed] at he
      cases he
      obtain⟨q1,q2⟩:=k1.nilD t hcc hm
      refine⟨_,q1,k2.trans q2,fun e' he'=>?_,(e.m,some (.deep t c []))::d,by rw[k4];rfl⟩
      rcases List.mem_cons.1 he' with rfl|he'
      ·refine⟨Nat.lt_succ_self _,fun i' hi'=>?_,fun hn=>?_⟩
       ·rw[hi] at hi';cases hi'
       ·rw[hed];exact BU N1.q _ _
      ·obtain⟨g1,g2,g3⟩:=k3 e' he'
       refine⟨by omega,fun i' hi'=>?_,fun hn=>?_⟩
       ·obtain⟨g4,g5⟩:=g2 i' hi'
        refine⟨by omega,?_⟩
        show Ko N1.q e.m _ e'.m=Ko N1.q e.m _ i'
        rw[EH N1.q _ (by omega:e'.m≠e.m),EH N1.q _ (by omega:i'≠e.m)]
        exact g5
       ·show Ko N1.q e.m _ e'.m=_
        rw[EH N1.q _ (by omega:e'.m≠e.m)];exact g3 hn
end
def Qc (u:Nat):List Nat→Bool
 | []=>false
 |k::r=>bif Nat.beq k u then true else Qc u r
def Bny (W:List Nat):A→Bool
 | .opt k _ x=>bif Qc k W then true else Bny W x
 |_=>false
def Wx (W:List Nat):HV→HV
 | []=>[]
 |(k,x)::r=>(bif Bny W x then(k,.dead) else(k,x))::Wx W r
def Awc (M:Mvs) (g:Bool):Option A→Option A→A
 |some x,some y=>Ub M g x y
 |_,_=> .dead
def A7u (M:Mvs) (g:Bool) (t1 t2:HV):List Nat→HV
 | []=>[]
 |u::r=>(u,Awc M g (D6 u t1) (D6 u t2))::A7u M g t1 t2 r
def Atm (M:Mvs) (g:Bool):Option Ob→Option Ob→Option Ob
 |some x,some y=>A7s M g x y
 |_,_=>none
def YT (M:Mvs) (g:Bool) (o1 o2:Objs):List Nat→Objs
 | []=>[]
 |i::r=>(i,Atm M g (Ao i o1) (Ao i o2))::YT M g o1 o2 r
def Bl1 (o1 o2:Objs) (t1 t2:HV):List Nat→Y7→Y7
 | [],c=>c
 |u::r,c=>match D6 u t1,D6 u t2 with
  |some x,some y=>Bl1 o1 o2 t1 t2 r (ZH o1 o2 5 x y c)
  |_,_=>Bl1 o1 o2 t1 t2 r c
def Bl0 (o1 o2:Objs):List Nat→Y7→Y7
 | [],c=>c
 |i::r,c=>match Ao i o1,Ao i o2 with
  |some (.box _ cs),some (.box _ cs')=>Bl0 o1 o2 r (Rk (ZH o1 o2 5) cs cs' c)
  |_,_=>Bl0 o1 o2 r c
def Aws (o:Objs) (k:Nat):List Nat:=Kh (o.take (o.length - k))
def A7t (g:Bool) (W:List Nat) (s0 s1 s2:St) (nx:Nat) (M:Mvs):St:=
 match mvS Mv.l Mv.r s2.o M nx s1.o,mvS Mv.r Mv.l s1.o M nx s2.o with
 |some (n1,o1),some (n2,o2)=>⟨s0.n,Nat.max n1 n2,A7u M g s1.t s2.t W++Wx W s0.t,YT M g o1 o2 (Aws o1 s0.o.length++Aws o2 s0.o.length)++s0.o⟩
 |_,_=>⟨s0.n,nx,[],(s0.o.map fun e=>(e.1,none))++s0.o⟩
def Jy (g:Bool) (W:List Nat) (s0 s1 s2:St):St:=
 A7t g W s0 s1 s2 (Nat.max s1.nx s2.nx) (Bl0 s1.o s2.o (Aws s1.o s0.o.length) (Bl1 s1.o s2.o s1.t s2.t W ([],Nat.max s1.nx s2.nx))).1
structure Sub (s s':St):Prop where
 n:s'.n=s.n
 seq:∃d,s'.o=d++s.o
theorem Sub.refl (s:St):Sub s s:=⟨rfl,[],rfl⟩
theorem Sub.trans {s s1 s2:St} (h:Sub s s1) (k:Sub s1 s2):Sub s s2:=by
 obtain⟨d,hd⟩:=h.seq
 obtain⟨e,he⟩:=k.seq
 exact⟨k.n.trans h.n,e++d,by rw[he,hd,List.append_assoc]⟩
section
variable {F F0:Nat→Prop} {N N0:Nm} {nx nx':Nat} {o o':Objs} {R R0:World}
theorem HRel.nxup (h:HRel F N nx o R) (hn:nx≤nx'):HRel F N nx' o R∧Step F N nx o R F N nx' o R:=by
 have st:Ext F N nx R F N nx' R:=⟨hn,fun _ _=>rfl,fun _ _=>rfl,fun _ h=>h,fun _ _=>rfl⟩
 exact⟨⟨h.flt,fun i ob hi=>⟨Nat.lt_of_lt_of_le (h.ob i ob hi).1 hn,(h.ob i ob hi).2.step st (h.ob i ob hi).1 fun _ _=>rfl⟩,h.ff,h.sep⟩,hn,fun _ _=>rfl,fun _ _=>rfl,fun _ h=>h,fun _ h=> .inl h,fun _ h=> .inl h,rfl,rfl,rfl,Nat.le_refl _,fun _ _ _=>rfl⟩
theorem HRel.less (h:HRel F N nx o R) (ho:∀i ob,Ao i o'=some ob→∃ob0,Ao i o=some ob0∧(ObR F N nx R i ob0→ObR F N nx R i ob)∧∀g,foot N i ob g↔foot N i ob0 g):HRel F N nx o' R∧Step F N nx o R F N nx o' R:=by
 refine⟨⟨h.flt,fun i ob hi=>?_,fun i ob g hi hg=>?_,fun i j x y g hi hj hx hy=>?_⟩,Nat.le_refl _,fun _ _=>rfl,fun _ _=>rfl,fun _ h=>h,fun _ h=> .inl h,fun g ⟨i,ob,hi,hg⟩=>?_,rfl,rfl,rfl,Nat.le_refl _,fun _ _ _=>rfl⟩
 ·obtain⟨ob0,h1,h2,h3⟩:=ho i ob hi
  exact⟨(h.ob i ob0 h1).1,h2 (h.ob i ob0 h1).2⟩
 ·obtain⟨ob0,h1,h2,h3⟩:=ho i ob hi
  exact h.ff i ob0 g h1 ((h3 g).1 hg)
 ·obtain⟨x0,h1,h2,h3⟩:=ho i x hi
  obtain⟨y0,k1,k2,k3⟩:=ho j y hj
  exact h.sep i j x0 y0 g h1 k1 ((h3 g).1 hx) ((k3 g).1 hy)
 ·obtain⟨ob0,h1,h2,h3⟩:=ho i ob hi
  exact .inl ⟨i,ob0,h1,(h3 g).1 hg⟩
theorem HS.congrW {tm tm':Nat→Value} {W:List Nat} (ht:∀k,Qc k W=false→tm' k=tm k):∀{x:A} {y:Value},Bny W x=false→HS F N nx R tm x y→HS F N nx R tm' x y
 | .opt k b x,y,hd,h=>by
  unfold Bny at hd
  cases hk:Qc k W with
  |true=>rw[hk] at hd;cases hd
  |false=>
   rw[hk] at hd
   simp only[HS] at h⊢
   rw[ht k hk]
   exact⟨fun hb=>HS.congrW ht hd (h.1 hb),h.2⟩
 | .v _,_,_,h=>(Ab rfl).2 ((Ab rfl).1 h)
 | .sl _ _,_,_,h=>(Ab rfl).2 ((Ab rfl).1 h)
 | .own _ _,_,_,h=>(Ab rfl).2 ((Ab rfl).1 h)
 | .ownx _ _ _ _,_,_,h=>(Ab rfl).2 ((Ab rfl).1 h)
 | .sq _,_,_,h=>(Ab rfl).2 ((Ab rfl).1 h)
 | .dq _,_,_,h=>(Ab rfl).2 ((Ab rfl).1 h)
 | .iv _ _,_,_,h=>(Ab rfl).2 ((Ab rfl).1 h)
 | .de _ _ _ _,_,_,h=>(Ab rfl).2 ((Ab rfl).1 h)
 | .ie _ _ _ _ _,_,_,h=>(Ab rfl).2 ((Ab rfl).1 h)
 | .vw _ _ _ _ _,_,_,h=>(Ab rfl).2 ((Ab rfl).1 h)
 | .el _ _ _ _,_,_,h=>(Ab rfl).2 ((Ab rfl).1 h)
 | .ref _,_,_,h=>(Ab rfl).2 ((Ab rfl).1 h)
 | .mp _,_,_,h=>(Ab rfl).2 ((Ab rfl).1 h)
 | .nl,_,_,h=>(Ab rfl).2 ((Ab rfl).1 h)
 | .it _ _,_,_,h=>(Ab rfl).2 ((Ab rfl).1 h)
 | .fn _ _ _,_,_,h=>(Ab rfl).2 ((Ab rfl).1 h)
 | .agg _,_,_,h=>(Ab rfl).2 ((Ab rfl).1 h)
 | .tup _,_,_,h=>(Ab rfl).2 ((Ab rfl).1 h)
 | .dead,_,_,h=>(Ab rfl).2 ((Ab rfl).1 h)
theorem QH (u:Nat):∀(A B:HV),D6 u (A++B)=match D6 u A with|some x=>some x|none=>D6 u B
 | [],B=>rfl
 |(k,x)::r,B=>by
  show(bif Nat.beq k u then some x else D6 u (r++B))=match(bif Nat.beq k u then some x else D6 u r) with|some x=>some x|none=>D6 u B
  cases Nat.beq k u with
  |true=>rfl
  |false=>exact QH u r B
theorem An6 {M:Mvs} {g:Bool} {t1 t2:HV} {u:Nat}:∀{W:List Nat},D6 u (A7u M g t1 t2 W)=bif Qc u W then some (Awc M g (D6 u t1) (D6 u t2)) else none
 | []=>rfl
 |k::r=>by
  show(bif Nat.beq k u then some (Awc M g (D6 k t1) (D6 k t2)) else D6 u (A7u M g t1 t2 r))=bif(bif Nat.beq k u then true else Qc u r) then _ else _
  cases hb:Nat.beq k u with
  |true=>rw[Nat.eq_of_beq_eq_true hb];rfl
  |false=>exact An6
theorem T9 {W:List Nat} {u:Nat} {x:A}:∀{t:HV},D6 u (Wx W t)=some x→x=.dead∨(D6 u t=some x∧Bny W x=false)
 | [],h=>by cases h
 | (j,y)::r,h=>by
  unfold Wx at h
  show x=.dead∨((bif Nat.beq j u then some y else D6 u r)=some x∧_)
  cases hd:Bny W y with
  |true=>
   rw[hd] at h
   have h':(bif Nat.beq j u then some A.dead else D6 u (Wx W r))=some x:=h
   cases hj:Nat.beq j u with
   |true=>rw[hj] at h';cases h';exact .inl rfl
   |false=>rw[hj] at h';exact T9 h'
  |false=>
   rw[hd] at h
   have h':(bif Nat.beq j u then some y else D6 u (Wx W r))=some x:=h
   cases hj:Nat.beq j u with
   |true=>rw[hj] at h';obtain rfl:y=x:=Option.some.inj h';exact .inr ⟨rfl,hd⟩
   |false=>rw[hj] at h';exact T9 h'
theorem Wv (M:Mvs) (g:Bool) (o1 o2:Objs):∀l,Kh (YT M g o1 o2 l)=l
 | []=>rfl
 |i::r=>by
  show i::Kh (YT M g o1 o2 r)=i::r
  rw[Wv M g o1 o2 r]
theorem ZT {M:Mvs} {g:Bool} {o1 o2:Objs} {i:Nat}:∀{l:List Nat},i∈l→Ao i (YT M g o1 o2 l)=Atm M g (Ao i o1) (Ao i o2)
 | [],h=>by cases h
 | k::r,h=>by
  show(bif Nat.beq k i then Atm M g (Ao k o1) (Ao k o2) else Ao i (YT M g o1 o2 r))=_
  cases hb:Nat.beq k i with
  |true=>rw[Nat.eq_of_beq_eq_true hb];rfl
  |false=>
   rcases List.mem_cons.1 h with rfl|h
   ·simp at hb
   ·exact ZT h
theorem WU {i:Nat}:∀{o:Objs},Ao i (o.map fun e=>(e.1,none))=none
 | []=>rfl
 |(k,x)::r=>by
  show(bif Nat.beq k i then none else Ao i (r.map fun e=>(e.1,none)))=none
  cases Nat.beq k i with
  |true=>rfl
  |false=>exact WU
theorem Aka:∀{o:Objs},Kh (o.map fun e=>(e.1,none))=Kh o
 | []=>rfl
 |(k,x)::r=>by
  show k::Kh (r.map fun e=>(e.1,none))=k::Kh r
  rw[Aka]
theorem Bh1 {i:Nat} {o:Objs}:Ao i ((o.map fun e=>(e.1,none))++o)=none:=by
 by_cases h:i∈Kh o
 ·rw[WV (by rw[Aka];exact h),WU]
 ·rw[Jw (by rw[Aka];exact h)]
  have:=Jw (A:=o) (B:=[]) h
  rw[List.append_nil] at this
  exact this
theorem A73 {sel oth:Mv→Option Nat} {oo:Objs} {nx:Nat} {o:Objs}:∀{M:Mvs} {nx':Nat} {o':Objs},mvS sel oth oo M nx o=some (nx',o')→∃d,o'=d++o
 | [],nx',o',he=>by cases he;exact⟨[],rfl⟩
 | e ::r,nx',o',he=>by
  unfold mvS at he
  split at he<;>first|(cases he;done)|skip
  rename_i nx1 o1 h1
  obtain⟨d,hd⟩:=A73 h1
  cases hb:Nat.ble nx1 e.m with
  |false=>rw[hb] at he;cases he
  | true=>
   rw[hb] at he
   simp only[cond_true] at he
   split at he
   ·rename_i i hi
    split at he<;>first|(cases he;done)|skip
    ·rename_i t sz els hl
     cases hlt:Nat.blt i nx1 with
     |false=>rw[hlt] at he;cases he
     |true=>rw[hlt] at he;cases he;exact⟨(i,none)::(e.m,some (.arr t sz els))::d,by rw[hd];rfl⟩
    ·rename_i t c l hl
     cases hlt:Nat.blt i nx1 with
     |false=>rw[hlt] at he;cases he
     |true=>rw[hlt] at he;cases he;exact⟨(i,none)::(e.m,some (.deep t c l))::d,by rw[hd];rfl⟩
   ·split at he<;>first|(cases he;done)|skip
    split at he<;>first|(cases he;done)|skip
    ·rename_i t sz els hl
     cases hed:e.d with
     |true=>rw[hed] at he;cases he
     |false=>rw[hed] at he;cases he;exact⟨(e.m,some (.arr t sz (.lst [])))::d,by rw[hd];rfl⟩
    ·rename_i t c l hl
     split at he<;>first|(cases he;done)|skip
     cases hed:e.d with
     |false=>rw[hed] at he;cases he
     |true=>rw[hed] at he;cases he;exact⟨(e.m,some (.deep t c []))::d,by rw[hd];rfl⟩
theorem At5 (cs:List A):(VS cs).plain=true:=by unfold VS;split<;>rfl
theorem A1l (g:Bool) (c:TC) (l:List (U c)) (c':TC) (l':List (U c')):(Agy g c l c' l').plain=true:=by unfold Agy;split<;>rfl
theorem Sa {b:Bool} {x y:A} (hx:x.plain=true) (hy:y.plain=true):(bif b then x else y).plain=true:=by cases b<;>assumption
theorem A7q:∀(d:Nat) (g:Bool) (x y:A),(Mt d g x y).plain=true
 |0,_,_,_=>rfl
 |d+1,g,x,y=>by
  unfold Mt
  split<;>first|rfl|exact At5 _|exact A1l _ _ _ _ _|(refine Sa ?_ rfl;first|rfl|exact Sa rfl rfl)|(split<;>rfl)
theorem A7v (M:Mvs):∀(d:Nat) (g:Bool) (x y:A),(Rr M d g x y).plain=true
 |0,_,_,_=>rfl
 |d+1,g,x,y=>by
  unfold Rr
  split<;>first|rfl|exact At5 _|exact A7q _ _ _ _|(refine Sa ?_ ?_<;>first|rfl|(split<;>rfl)|(refine Sa ?_ rfl;first|rfl|exact Sa rfl rfl))
theorem A7r (M:Mvs) (g:Bool) (x y:A):(Ub M g x y).plain=true:=A7v M 5 g x y
theorem Bh4 {M:Mvs} {g:Bool} {x y:A} (h:(x.plain&&y.plain)=false):Ub M g x y=.dead:=by
 cases x<;>cases y<;>first|(cases h;done)|rfl
theorem Acl {i:Nat} {d o:Objs} (h:i∉Aws (d++o) o.length):Ao i (d++o)=Ao i o:=by
 unfold Aws at h
 rw[List.length_append,Nat.add_sub_cancel,List.take_left'] at h
 ·exact Jw h
 ·rfl
end
section
variable {Z:Base} {F F0:Nat→Prop} {N N0:Nm} {s0 s1 s2:St} {a a0:Act} {R R0:World} {W:List Nat} {g:Bool}
abbrev LA (F:Nat→Prop) (N:Nm) (s:St) (a:Act) (R:World) (W:List Nat):Base:=⟨F,N,s.nx,s.o,R,Bl a,fun u=>Qc u W=true⟩
theorem Rel.start (h0:Rel Z F0 N0 s0 a0 R0) (W:List Nat):Rel (LA F0 N0 s0 a0 R0 W) F0 N0 s0 a0 R0:=⟨h0.defers,h0.size,h0.slots,h0.hp,.refl,fun _ _=>rfl⟩
theorem Awf (h0:Rel Z F0 N0 s0 a0 R0) {s:St} (h:Rel (LA F0 N0 s0 a0 R0 W) F N s a R) (hW:∀u,Qc u W=true→Z.W u) (hn:s.n=s0.n) {nx':Nat} {o':Objs} {N':Nm} (k1:HRel F N' nx' o' R) (k2:Step F N s.nx s.o R F N' nx' o' R) {t:HV} {os:Objs}
  (ht:∀u x,D6 u t=some x→HS F N' nx' R (Bl a) x (Bl a u)) (ho:∀i ob,Ao i os=some ob→∃ob0,Ao i o'=some ob0∧(ObR F N' nx' R i ob0→ObR F N' nx' R i ob)∧∀gg,foot N' i ob gg↔foot N' i ob0 gg):Rel Z F N' ⟨s0.n,nx',t,os⟩ a R:=by
 obtain⟨q1,q2⟩:=k1.less ho
 refine⟨h.defers,h.size.trans hn,ht,q1,((h0.st.trans h.st).trans k2).trans q2,fun u hu=>?_⟩
 rw[h.tm u fun hw=>hu (hW u hw)]
 exact h0.tm u hu
theorem Rel.merge (h0:Rel Z F0 N0 s0 a0 R0) (h:Rel (LA F0 N0 s0 a0 R0 W) F N (bif g then s1 else s2) a R) (hW:∀u,Qc u W=true→Z.W u) (e1:Sub s0 s1) (e2:Sub s0 s2):∃N',Rel Z F N' (Jy g W s0 s1 s2) a R:=by
 have hn:(bif g then s1 else s2).n=s0.n:=by cases g<;>first|exact e1.n|exact e2.n
 have hnx:(bif g then s1 else s2).nx≤Nat.max s1.nx s2.nx:=by cases g<;>first|exact Nat.le_max_left .. |exact Nat.le_max_right ..
 obtain⟨u1,u2⟩:=h.hp.nxup hnx
 unfold Jy
 generalize (Bl0 s1.o s2.o (Aws s1.o s0.o.length) (Bl1 s1.o s2.o s1.t s2.t W ([],Nat.max s1.nx s2.nx))).1=M
 unfold A7t
 split
 ·rename_i n1 o1 n2 o2 g1 g2
  have main:∃N' nx' o',nx'≤Nat.max n1 n2∧HRel F N' nx' o' R∧Step F N (Nat.max s1.nx s2.nx) (bif g then s1 else s2).o R F N' nx' o' R∧Bgr N' nx' (Bo6 g) M∧o'=(bif g then o1 else o2):=by
   cases g with
   |true=>
    obtain⟨N',m1,m2,m3,_⟩:=Bh7 u1 g1
    exact⟨N',n1,o1,Nat.le_max_left ..,m1,m2,m3,rfl⟩
   |false=>
    obtain⟨N',m1,m2,m3,_⟩:=Bh7 u1 g2
    exact⟨N',n2,o2,Nat.le_max_right ..,m1,m2,m3,rfl⟩
  have d1:∃d,o1=d++s0.o:=by
   obtain⟨d,hd⟩:=e1.seq
   obtain⟨e,he⟩:=A73 g1
   exact⟨e++d,by rw[he,hd,List.append_assoc]⟩
  have d2:∃d,o2=d++s0.o:=by
   obtain⟨d,hd⟩:=e2.seq
   obtain⟨e,he⟩:=A73 g2
   exact⟨e++d,by rw[he,hd,List.append_assoc]⟩
  obtain⟨N',nx',o',hle,m1,m2,m3,rfl⟩:=main
  obtain⟨q1,q2⟩:=m1.nxup hle
  have m3':Bgr N' (Nat.max n1 n2) (Bo6 g) M:=fun e he=>⟨Nat.lt_of_lt_of_le (m3 e he).1 hle,fun i hi=>⟨Nat.lt_of_lt_of_le ((m3 e he).2.1 i hi).1 hle,((m3 e he).2.1 i hi).2⟩,(m3 e he).2.2⟩
  have hst:=(u2.trans m2).trans q2
  have hx:Ext F N (bif g then s1 else s2).nx R F N' (Nat.max n1 n2) R:=hst.ext h.hp
  refine⟨N',Awf h0 h hW hn q1 hst (fun u x hu=>?_) fun i ob hi=>?_⟩
  ·rw [QH,An6] at hu
   cases hw:Qc u W with
   | true=>
    rw[hw] at hu
    have hu':Awc M g (D6 u s1.t) (D6 u s2.t)=x:=Option.some.inj hu
    unfold Awc at hu'
    split at hu'
    ·rename_i x1 x2 k1 k2
     have hs:HS F N' (Nat.max n1 n2) R (Bl a) (bif g then x1 else x2) (Bl a u):=by
      cases g with
      |true=>exact(h.slots u x1 k1).step hx
      |false=>exact(h.slots u x2 k2).step hx
     subst hu'
     cases hp:(x1.plain&&x2.plain) with
     |true=>
      rw[Bool.and_eq_true] at hp
      have hs':Hv F N' (Nat.max n1 n2) R (bif g then x1 else x2) (Bl a u):=by cases g<;>first|exact(Ab hp.1).1 hs|exact(Ab hp.2).1 hs
      have hm:=Akx m3' hs'
      exact(Ab (A7r _ _ _ _)).2 hm
     |false=>
      have:=Bh4 (M:=M) (g:=g) hp
      rw[this]
      exact(Ab rfl).2 (.dead _)
    ·subst hu'
     exact(Ab rfl).2 (.dead _)
   | false=>
    rw[hw] at hu
    have hu':D6 u (Wx W s0.t)=some x:=hu
    have htm:∀k,Qc k W=false→Bl a k=Bl a0 k:=fun k hk=>h.tm k fun hh=>by
     have hh':Qc k W=true:=hh
     rw[hk] at hh';cases hh'
    rcases T9 hu' with rfl|⟨k1,k2⟩
    ·exact(Ab rfl).2 (.dead _)
    ·rw[htm u hw]
     exact HS.congrW htm k2 (((h0.slots u x k1).step (h.st.ext h0.hp)).step hx)
  ·by_cases hk:i∈Aws o1 s0.o.length++Aws o2 s0.o.length
   ·rw[WV (by rw[Wv];exact hk),ZT hk] at hi
    unfold Atm at hi
    split at hi<;>first|(cases hi;done)|skip
    rename_i x1 x2 k1 k2
    obtain⟨r1,r2⟩:=Bh5 (i:=i) (F:=F) (N:=N') (nx:=Nat.max n1 n2) (R:=R) m3' hi
    exact⟨_,by cases g<;>first|exact k1|exact k2,r1,r2⟩
   ·rw[Jw (by rw[Wv];exact hk)] at hi
    refine⟨ob,?_,id,fun _=>Iff.rfl⟩
    obtain⟨d1,hd1⟩:=d1
    obtain⟨d2,hd2⟩:=d2
    cases g with
    |true=>
     show Ao i o1=_
     rw[hd1,Acl (by rw[←hd1];exact fun hh=>hk (List.mem_append.2 (.inl hh)))]
     exact hi
    |false=>
     show Ao i o2=_
     rw[hd2,Acl (by rw[←hd2];exact fun hh=>hk (List.mem_append.2 (.inr hh)))]
     exact hi
 ·refine⟨N,Awf h0 h hW hn u1 u2 (fun u x hu=>by cases hu) fun i ob hi=>?_⟩
  rw[Bh1] at hi
  cases hi
theorem Sub.merge (g:Bool) (W:List Nat) (s0 s1 s2:St):Sub s0 (Jy g W s0 s1 s2):=by
 unfold Jy
 unfold A7t
 split
 ·exact⟨rfl,_,rfl⟩
 ·exact⟨rfl,_,rfl⟩
end
end Go.Proofs.Yteebobbhhgmeiaa
