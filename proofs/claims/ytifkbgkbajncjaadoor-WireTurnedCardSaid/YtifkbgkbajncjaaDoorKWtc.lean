/- made by a program (rowgen.py): WireTurned: for every input the law returns true, and each argument reads behind the call as it read before. -/
import Derived.Test.YtifkbgkbajncjaaDoorKWtb

namespace Go.Proofs.YtifkbgkbajncjaaDoor
open Go.RowKit Go.MapKept
section
variable {F:Nat→Prop} {N:Nm} {nx:Nat} {R:World} {size:Nat}
theorem A8l {c:TC} {l m:List (U c)} {lo n:Nat} (hlo:lo+Nat.min n m.length≤l.length):
  (Els.ty c (l.take lo++(m.take n++l.drop (lo+Nat.min n m.length)))).n=l.length∧
  ∀j,j <l.length→(Els.ty c (l.take lo++(m.take n++l.drop (lo+Nat.min n m.length)))).nth j=if lo≤j∧j <lo+Nat.min n m.length then(Els.ty c m).nth (j - lo) else(Els.ty c l).nth j:=by
 have hmin:Nat.min n m.length=min n m.length:=rfl
 refine⟨?_,fun j hj=>?_⟩
 ·show(l.take lo++(m.take n++l.drop _)).length=_
  rw[List.length_append,List.length_append,List.length_take,List.length_take,List.length_drop]
  omega
 ·show enc c ((l.take lo++(m.take n++l.drop _)).getD j (Aj c))=_
  rw[List.getD_eq_getElem?_getD,List.getElem?_append,List.length_take]
  by_cases c1:j <lo
  ·rw[if_pos (by omega),if_neg (by omega),List.getElem?_take,if_pos c1]
   show _=enc c (l.getD j _)
   rw[List.getD_eq_getElem?_getD]
  ·rw[if_neg (by omega),List.getElem?_append,List.length_take]
   by_cases c2:j <lo+Nat.min n m.length
   ·rw[if_pos (by omega),if_pos ⟨by omega,c2⟩,List.getElem?_take,if_pos (by omega)]
    show _=enc c (m.getD (j - lo) _)
    rw[List.getD_eq_getElem?_getD]
    congr 3
    omega
   ·rw[if_neg (by omega),if_neg (by omega),List.getElem?_drop]
    show _=enc c (l.getD j _)
    rw[List.getD_eq_getElem?_getD]
    congr 3
    omega
theorem A76 {lo n:Nat} {els b r:Els} {ps:List Prop} {zs us:List Value} (he:A0c lo n els b=some (r,ps)) (hp:∀p∈ps,p) (h1:RowHL F N nx R els size zs) (h2:RowHL F N nx R b size us) (hle:lo+n≤els.n):
  r.n=els.n∧RowHL F N nx R r size (zs.take (lo*size)++us.take (Nat.min b.n n*size)++zs.drop (lo*size+(us.take (Nat.min b.n n*size)).length)):=by
 unfold A0c at he
 split at he<;>first|(cases he;done)|skip
 rename_i c l
 split at he<;>first|(cases he;done)|skip
 rename_i m qs hm
 cases he
 have h3:=h2.ty hm hp
 have hbn:m.length=b.n:=(JK (F:=F) (N:=N) (nx:=nx) (R:=R) hm hp).1
 have hmin:Nat.min b.n n=min b.n n:=rfl
 have hmin2:Nat.min n m.length=min n m.length:=rfl
 have hle':lo+n≤l.length:=hle
 obtain⟨k1,k2⟩:=A8l (m:=m) (l:=l) (lo:=lo) (n:=n) (by omega)
 have hz:zs.length=l.length*size:=h1.1
 have hu:us.length=m.length*size:=h3.1
 have hul:(us.take (Nat.min b.n n*size)).length=Nat.min b.n n*size:=by
  rw[List.length_take,hu,hbn]
  exact Nat.min_eq_left (Nat.mul_le_mul_right _ (by omega))
 have hlm:lo*size+Nat.min b.n n*size≤zs.length:=by rw[hz,←Nat.add_mul];exact Nat.mul_le_mul_right _ (by omega)
 refine⟨k1,?_,fun j hj=>?_⟩
 ·rw[k1,List.length_append,List.length_append,hul,List.length_take,List.length_drop,←hz]
  omega
 ·rw [k1] at hj
  rw[k2 j hj]
  have hjs:j*size+size≤zs.length:=by rw[hz,←Nat.succ_mul];exact Nat.mul_le_mul_right _ hj
  by_cases c1:j <lo
  ·rw[if_neg (by omega)]
   have:j*size+size≤lo*size:=by rw[←Nat.succ_mul];exact Nat.mul_le_mul_right _ c1
   rw[List.append_assoc,List.drop_append_of_le_length (by rw[List.length_take];omega),List.take_append_of_le_length (by rw[List.length_drop,List.length_take];omega),List.drop_take,List.take_take,Nat.min_eq_left (by omega)]
   exact h1.2 j hj
  ·by_cases c2:j <lo+Nat.min n m.length
   ·rw[if_pos ⟨by omega,c2⟩]
    have hk:j - lo <b.n:=by omega
    have e1:j*size=lo*size+(j - lo)*size:=by rw[←Nat.add_mul];congr 1;omega
    have hks:(j - lo)*size+size≤Nat.min b.n n*size:=by rw[←Nat.succ_mul];exact Nat.mul_le_mul_right _ (by omega)
    rw[List.append_assoc,List.drop_append,List.drop_eq_nil_of_le (by rw[List.length_take];omega),List.nil_append,List.length_take,Nat.min_eq_left (by omega),e1,Nat.add_sub_cancel_left,
     List.drop_append_of_le_length (by omega),List.take_append_of_le_length (by rw[List.length_drop];omega),List.drop_take,List.take_take,Nat.min_eq_left (by omega)]
    exact h3.2 (j - lo) (by rw[show(Els.ty c m).n=m.length from rfl,hbn];exact hk)
   ·rw[if_neg (by omega)]
    have:lo*size+Nat.min b.n n*size≤j*size:=by rw[←Nat.add_mul];exact Nat.mul_le_mul_right _ (by omega)
    rw[List.drop_append,List.drop_eq_nil_of_le (by rw[List.length_append,List.length_take,hul];omega),List.nil_append,List.length_append,List.length_take,hul,List.drop_drop]
    have e2:lo*size+Nat.min b.n n*size+(j*size - (min (lo*size) zs.length+Nat.min b.n n*size))=j*size:=by omega
    rw[e2]
    exact h1.2 j hj
end
section
variable {E:Env} {Z:Base} {F:Nat→Prop} {N:Nm} {s:St} {a:Act} {R:World} {G:Guards}
theorem A46 {α:Type} {vs L W:List α} {base lo k n:Nat} (hk:lo+k≤n) (hlen:L.length=n) (hW:W.length=k) (h:∀j,j <n→vs[base+j]?=L[j]?):
  vs.take (base+lo)++W++vs.drop (base+lo+W.length)=vs.take base++(L.take lo++(W++L.drop (lo+k)))++vs.drop (base+n):=by
 have hL:L=(vs.drop base).take n:=by
  refine List.ext_getElem? fun j=>?_
  rw[List.getElem?_take]
  by_cases hj:j <n
  ·rw[if_pos hj,List.getElem?_drop,h j hj]
  ·rw[if_neg hj,List.getElem?_eq_none (by omega)]
 have e1:vs.take (base+lo)=vs.take base++L.take lo:=by
  rw[List.take_add,hL,List.take_take,Nat.min_eq_left (by omega)]
 have e2:vs.drop (base+lo+W.length)=L.drop (lo+k)++vs.drop (base+n):=by
  rw[hW,hL,List.drop_take,List.drop_drop,show base+(lo+k)=base+lo+k by omega]
  have:=List.take_append_drop (n - (lo+k)) (vs.drop (base+lo+k))
  rw[List.drop_drop,show base+lo+k+(n - (lo+k))=base+n by omega] at this
  exact this.symm
 rw[e1,e2]
 simp[List.append_assoc]
theorem A29 (h:Rel Z F N s a R) (hG:KQ (A1 a) G) {t u ty:TypeId} {x y:Operand} {f:Eff} (he:Atx E s G t u x y=some f) (hp:∀p∈f.ps,p):
  ∃v R',(Builtin.copy_ #[t,u] ty #[a.eval x,a.eval y]).run E.P R=.ok v R'∧EK F N s.nx s.o R f v R':=by
 unfold Atx at he
 split at he<;>first|(cases he;done)|skip
 rename_i e ht
 split at he<;>first|(cases he;done)|skip
 rename_i sz hsz
 cases hsd:Yz E.P e sz with
 |false=>rw[hsd] at he;cases he
 | true=>
  rw[hsd] at he
  simp only[cond_true] at he
  obtain⟨i,z,hi,hz,rfl,hzs,hpos,hby⟩:=Ad0 hsd
  split at he<;>first|(cases he;done)|skip
  rename_i b ps hb
  have main:∀(j lo n:Nat) (e':TypeId) (els r:Els) (qs:List Prop) (aa:Option Addr) (cap:Nat) (k0:List Prop),Ak j s.o=some (.arr e' i.size els)→A0c lo n els b=some (r,qs)→(∀p∈ps,p)→(∀p∈qs,p)→lo+n≤els.n→
    a.eval x=.slice aa n cap→(0 <n→aa=some ((DZ (N.q j)).add (lo*i.size)))→
    ∃v R',(Builtin.copy_ #[t,u] ty #[a.eval x,a.eval y]).run E.P R=.ok v R'∧EK F N s.nx s.o R ⟨.v (.int .i64 (Nat.min b.n n:Nat)),s.nx,(j,some (.arr e' i.size r))::s.o,2,k0⟩ v R':=by
   intro j lo n e' els r qs aa cap k0 hl hmid hp1 hp2 hle hxv haa
   obtain⟨_,us,g1,g2,g3⟩:=Qy h hG hb hp1 hpos
   obtain⟨_,zs,r1,r2⟩:=h.hp.ob j _ hl
   obtain⟨d1,d2⟩:=A76 hmid hp2 ⟨r1.1,r2⟩ g1 hle
   obtain⟨hl1,hf1⟩:=g3 R fun _ _ h=>h
   have hmin:Nat.min b.n n=min b.n n:=rfl
   have hlen:(us.take (Nat.min b.n n*i.size)).length=Nat.min b.n n*i.size:=by
    rw[List.length_take,g1.1]
    exact Nat.min_eq_left (Nat.mul_le_mul_right _ (by omega))
   by_cases hn:0 <n
   ·obtain⟨g,c,cur,q1,q2,q3,q4,q5,q6⟩:=Aj5 r1 (by omega)
    have hpl:aa=some ⟨g,lo*i.size,none⟩:=by
     rw[haa hn,q1]
     show some ((⟨g,0,none⟩:Addr).add _)=_
     rw[Bv,Nat.zero_add]
    have hfit:lo*i.size+(us.take (Nat.min b.n n*i.size)).length≤els.n*i.size:=by
     rw[hlen,←Nat.add_mul]
     exact Nat.mul_le_mul_right _ (by omega)
    have hcur:els.n*i.size≤cur.size:=by rw[q5];exact Nat.mul_le_mul_right _ q3
    have hrun:=SQ (P:=E.P) (w:=R) (ty:=ty) (sT:=u) ht hi (g:=g) (o:=lo*i.size) (dLen:=n) (dCap:=cap) hl1 (hf1 (Nat.min b.n n) (by omega)) q2 (by omega) (fun v hv=>g2 v (List.mem_of_mem_take hv))
    rw[hxv,hpl]
    refine⟨_,_,hrun,?_⟩
    have hown:=Aj6 (w:=R) (o:=lo*i.size) (vs:=us.take (Nat.min b.n n*i.size)) r1.1 q2 q3 q4 q5 q6 hfit
    rw[←q1,←d1] at hown
    refine Aq1 (R':=R.setRow g (cur.toList.take (lo*i.size)++us.take (Nat.min b.n n*i.size)++cur.toList.drop (lo*i.size+(us.take (Nat.min b.n n*i.size)).length)).toArray) h.hp hl rfl rfl rfl (by simp) (fun g' _ hg'=>setRow_other R _ g' _ (fun e=>?_)) hown d2 fun _ _=> .v _
    subst e
    rw[q1] at hg'
    exact hg' rfl
   ·have h0:Nat.min b.n n=0:=by omega
    have hrun:=Afo (P:=E.P) (w:=R) (ty:=ty) (sT:=u) ht hi (d:=aa) (dLen:=n) (dCap:=cap) hl1 h0 (by simpa using hf1 0 (Nat.zero_le _))
    rw[hxv]
    refine⟨_,_,hrun,?_⟩
    rw[h0,Nat.zero_mul] at d2
    rw[h0]
    have d2':RowHL F N s.nx R r i.size zs:=by simpa using d2
    exact Aq1 (R':=R) h.hp hl rfl rfl rfl (Nat.le_refl _) (fun _ _ _=>rfl) (by rw[d1];exact r1) d2' fun _ _=> .v _
  split at he<;>first|(cases he;done)|skip
  ·rename_i j hx
   split at he<;>first|(cases he;done)|skip
   rename_i e' size els hl
   cases hb1:Nat.beq size i.size with
   |false=>rw[hb1] at he;cases he
   |true=>
    rw[hb1] at he
    simp only[cond_true] at he
    split at he<;>first|(cases he;done)|skip
    rename_i r qs hmid
    cases he
    obtain rfl:=Nat.eq_of_beq_eq_true hb1
    obtain⟨_,zs,r1,_⟩:=h.hp.ob j _ hl
    obtain⟨aa,cap,e1,_⟩:=r1.form
    refine main j 0 els.n e' els r qs aa cap _ hl hmid (fun p hm=>hp p (List.mem_append.2 (.inl hm))) (fun p hm=>hp p (List.mem_append.2 (.inr hm))) (by omega) (by rw[(AQ h hG hx).2.sq_inv.2,e1]) fun hn=>?_
    obtain⟨g,c,q1,_,q3,_,_⟩:=EE r1 hn
    rw[q1] at e1
    cases e1
    rw[q3,Nat.zero_mul,add_zero]
  ·rename_i j z' lo n f hx
   split at he<;>first|(cases he;done)|skip
   rename_i e' size els hl
   cases hb0:Nat.beq z' i.size with
   |false=>rw[hb0] at he;cases he
   |true=>
   cases hb1:Nat.beq size i.size with
   |false=>rw[hb0,hb1] at he;cases he
   |true=>
    rw[hb0,hb1] at he
    simp only[cond_true] at he
    split at he<;>first|(cases he;done)|skip
    rename_i r qs hmid
    cases he
    obtain rfl:=Nat.eq_of_beq_eq_true hb0
    obtain rfl:=Nat.eq_of_beq_eq_true hb1
    obtain⟨_,aa,cap,e1,_,_,e4⟩:=(AQ h hG hx).2.vw_inv
    exact main j lo n e' els r qs aa cap _ hl hmid (fun p hm=>hp p (List.mem_cons_of_mem _ (List.mem_append.2 (.inl hm)))) (fun p hm=>hp p (List.mem_cons_of_mem _ (List.mem_append.2 (.inr hm)))) (hp _ (List.mem_cons_self ..)) e1 e4
  ·rename_i j base lo m hx
   split at he<;>first|(cases he;done)|skip
   rename_i e' xs hl
   cases hb1:Nat.beq i.size 1 with
   |false=>rw[hb1] at he;cases he
   | true=>
    rw[hb1] at he
    simp only[cond_true] at he
    split at he<;>first|(cases he;done)|skip
    rename_i xs' qs hr
    cases he
    have hi1:=Nat.eq_of_beq_eq_true hb1
    have hp1:∀p∈ps,p:=fun p hm=>hp p (List.mem_append.2 (.inl hm))
    have hp2:∀p∈qs,p:=fun p hm=>hp p (List.mem_append.2 (.inr hm))
    obtain⟨_,us,g1,g2,g3⟩:=Qy h hG hb hp1 hpos
    obtain⟨hl1,hf1⟩:=g3 R fun _ _ h=>h
    obtain⟨_,vs,r1,r2⟩:=h.hp.ob j _ hl
    obtain⟨c,n,l,l',q1,q2,q3,q4,q5,q6⟩:=KV r1 hr
    unfold Bab at q1
    split at q1<;>first|(cases q1;done)|skip
    rename_i c' l2
    split at q1<;>first|(cases q1;done)|skip
    rename_i hh _
    obtain⟨hh⟩:=hh
    subst hh
    cases q1
    have hle:lo+m≤n:=hp2 _ (List.mem_cons_self ..)
    have hm:0 <m:=hp2 _ (List.mem_cons_of_mem _ (List.mem_cons_self ..))
    obtain⟨ad,e1,e2⟩:=(show ∀y,Hv F N s.nx R (.vr j base lo m) y→∃ad,y=.slice (some ad) m m∧(0 <m→ad=⟨N.b j,base+lo,none⟩) from fun y hy=>by cases hy with|vr ad h h1=>exact⟨ad,rfl,h1⟩) _ (AQ h hG hx).2
    have hbn:(Els.ty c' l2).n=l2.length:=rfl
    rw[hbn] at hl1 hf1⊢
    have hul:us.length=l2.length:=by rw[g1.1,hbn,hi1,Nat.mul_one]
    have hmin:Nat.min l2.length m=min l2.length m:=rfl
    have hW:us.take (Nat.min l2.length m*i.size)=(l2.take m).map (sv c'):=by
     refine List.ext_getElem? fun k=>?_
     rw[hi1,Nat.mul_one,List.getElem?_take,List.getElem?_map,List.getElem?_take]
     by_cases hk:k <m
     ·by_cases hk2:k <l2.length
      ·rw[if_pos (by omega),if_pos hk]
       have h6:HL F N s.nx R (enc c' (l2.getD k (Aj c'))) ((us.drop (k*i.size)).take i.size):=g1.2 k hk2
       rw[Wk q2] at h6
       obtain⟨y,ys,hy,w1,_⟩:=h6.inv
       have h7:=congrArg (·[0]?) hy
       simp[hi1] at h7
       rw[h7,w1.v_inv,List.getD_eq_getElem?_getD,List.getElem?_eq_getElem hk2]
       rfl
      ·rw[if_neg (by omega),if_pos hk,List.getElem?_eq_none (by omega)]
       rfl
     ·rw[if_neg (by omega),if_neg hk]
      rfl
    have hlen:((l2.take m).map (sv c')).length=min l2.length m:=by rw[List.length_map,List.length_take,Nat.min_comm]
    have hrun:=SQ (P:=E.P) (w:=R) (ty:=ty) (sT:=u) ht hi (g:=N.b j) (o:=base+lo) (dLen:=m) (dCap:=m) hl1 (hf1 (Nat.min l2.length m) (by omega)) r2 (by rw[hW,hlen];simp;omega) (fun v hv=>g2 v (List.mem_of_mem_take hv))
    rw[e1,e2 hm]
    refine⟨_,_,hrun,?_⟩
    rw[hW]
    have e3:=A46 (vs:=vs) (L:=l.map (sv c')) (W:=(l2.take m).map (sv c')) (base:=base) (lo:=lo) (k:=min l2.length m) (n:=n) (by omega) (by rw[List.length_map,q3]) hlen fun k hk=>by
     rw[List.getElem?_map,List.getElem?_eq_getElem (by omega:k <l.length),q5 k _ (List.getElem?_eq_getElem (by omega:k <l.length))]
     rfl
    have e4:vs.toArray.toList.take (base+lo)++(l2.take m).map (sv c')++vs.toArray.toList.drop (base+lo+((l2.take m).map (sv c')).length)=vs.take base++(l.take lo++((IX rfl l2).take m++l.drop (lo+Nat.min l2.length m))).map (sv c')++vs.drop (base+n):=by
     rw[show vs.toArray.toList=vs from rfl,e3]
     simp[IX,List.map_append,List.map_take,List.map_drop,hmin]
    rw[e4]
    refine Tj h.hp hl (q6 ?_) r2 fun _ _=> .v _
    simp[IX,hmin]
    omega
theorem Apk (h:Rel Z F N s a R) (hG:KQ (A1 a) G) {src dst:TypeId} {x:Operand} {f:Eff} (he:RM E s G src dst x=some f):
  ∃v R',(convert src dst (a.eval x)).run E.P R=.ok v R'∧EK F N s.nx s.o R f v R':=by
 unfold RM at he
 split at he<;>first|(cases he;done)|skip
 rename_i e hs hd
 split at he<;>first|(cases he;done)|skip
 rename_i b hu hx
 cases he
 have hrun:=run_bytes_of_string (P:=E.P) R src dst e b hs hd hu
 rw[CS h hG hx]
 refine⟨_,_,hrun,Av9 (R':=R.drew.alloc _) h.hp (((Below.refl _ R).drew).trans ⟨rfl,rfl,rfl,by simp,fun k hk=>Below.heap_alloc R.drew _ k hk⟩) (by simp) ?_⟩
 have hlen:b.data.toList.length=b.size:=by simp
 have hge:=grownCap_ge R b.size 0 e
 have main:Hv (fun g=>F g∨g=R.heap.size) N s.nx (R.drew.alloc (.cells (bytesRow b (grownCap R b.size 0 e)) e ((bytesRow b (grownCap R b.size 0 e)).size,(bytesRow b (grownCap R b.size 0 e)).size+1))) (.sl .u8 b.data.toList) (.slice (some ⟨R.heap.size,0,none⟩) b.data.toList.length (grownCap R b.size 0 e)):=by
  refine Hv.of_sl (by rw[hlen];exact hge) fun hn=>⟨_,rfl,.inr rfl,fun k d hd=>?_⟩
  refine HC.cons.2 ⟨⟨A4 d,?_,.v _⟩,HC.nil⟩
  rw[Bv,show size .u8=1 from rfl,Nat.mul_one,Nat.zero_add]
  have hk:k <b.data.toList.length:=(List.getElem?_eq_some_iff.1 hd).1
  have hblk:(R.drew.alloc (.cells (bytesRow b (grownCap R b.size 0 e)) e ((bytesRow b (grownCap R b.size 0 e)).size,(bytesRow b (grownCap R b.size 0 e)).size+1))).heap[R.heap.size]?=some (.cells (bytesRow b (grownCap R b.size 0 e)) e ((bytesRow b (grownCap R b.size 0 e)).size,(bytesRow b (grownCap R b.size 0 e)).size+1)):=heap_alloc_new R.drew _
  unfold World.cell?
  simp only[hblk]
  have e1:(bytesRow b (grownCap R b.size 0 e))[k]?=some (A4 d):=by
   unfold bytesRow
   rw[Array.getElem?_append_left (by rw[hlen] at hk;simpa using hk),Array.getElem?_map]
   have:b.data[k]?=some d:=by rw[←Array.getElem?_toList];exact hd
   rw[this]
   rfl
  simpa using e1
 rw[hlen] at main
 exact main
theorem K9 {f:Operand} {args:List Operand} {g:FuncId} {x:A} (h:Jr E f args=some (g,x)):f=.func g∧args=[]∧Aa5 E.P g=true∧x.free=true∧∃k,k≤1∧E.C g [] 0 []=some (k,x,0,[],[]):=by
 unfold Jr at h
 split at h<;>first|(cases h;done)|skip
 split at h<;>first|(cases h;done)|skip
 rename_i g' k x' hg hc
 cases hb:(Nat.ble k 1&&x'.free)&&ZU with
 |false=>rw[hb] at h;cases h
 |true=>
  rw[hb] at h
  cases h
  rw[Bool.and_eq_true,Bool.and_eq_true] at hb
  exact⟨rfl,rfl,hg,hb.1.2,k,Nat.le_of_ble_eq_true hb.1.1,hc⟩
theorem Aqq {f:Operand} {args:List Operand} {g:FuncId} {x:A} (h:Jr E f args=some (g,x)):Sn=[]:=by
 unfold Jr at h
 split at h<;>first|(cases h;done)|skip
 split at h<;>first|(cases h;done)|skip
 cases hn:Sn with
 |nil=>rfl
 | cons x r=>
  have:ZU=false:=by
   unfold ZU
   rw[hn]
  rw[this,Bool.and_false] at h
  cases h
theorem Aan {o:Oper} {g:FuncId} {args:Array Operand} {ts:Array TypeId} (ho:o.op=.call {callee:=.value (.func g),args,argTypes:=ts}) (ha:args.toList=[]) (hg:Aa5 E.P g=true) (A':Act) (R':World):(execOp A'.eval o).run E.P R'=.ok (.enter g #[]) R':=by
 obtain rfl:args=#[]:=by
  apply Array.ext'
  exact ha
 obtain⟨dst,op,type,pos,after,guard⟩:=o
 simp only at ho
 subst ho
 show(do let d ←resolve A'.eval _ type;invoke d.target d.args:Sem Next).run E.P R'=_
 have hr:(resolve A'.eval {callee:=.value (.func g),args:=#[],argTypes:=ts} type)=pure {target:=.fn (.func g) #[],args:=#[]}:=by
  simp[resolve,Deferred.ofValue,Act.eval]
 rw[hr]
 simp only[Sem.run_bind,Sem.run_pure,Result.andThen_ok,invoke]
 exact Ape hg _ R'
theorem Aqn (ok:EnvOk E) (h:Rel Z F N s a R) (hG:KQ (A1 a) G) {o:Oper} {g:Operand} {args:Array Operand} {ts:Array TypeId} (ho:o.op=.call {callee:=.value g,args,argTypes:=ts}) {f:Eff} (he:Rp E s G g args.toList=some f) (hp:∀p∈f.ps,p):
  HE E.P (fun v R'=>EK F N s.nx s.o R f v R') ((execOp a.eval o).run E.P R):=by
 unfold Rp at he
 split at he
 ·rename_i g' x hc
  cases he
  obtain⟨rfl,ha,hg,hf,k,hk,hC⟩:=K9 hc
  rw[Aan ho ha hg a R]
  refine(ok.C _ _ _ _ _ _ _ _ _ hC (fun p hm=>by cases hm) F N R [] h.hp.noObj HL.nil).mono fun e R' ⟨y,F',N',e1,e2,e3,e4,e5⟩=>?_
  obtain⟨q1,q2⟩:=h.hp.widen e2 e3
  exact⟨y,e1,F',N,q1,q2,e4.free hf,fun _=>e5 hk⟩
 split at he<;>first|(cases he;done)|skip
 rename_i k x nx' o' ps hr
 cases he
 obtain⟨fn,xs,vs,h1,h2,h3⟩:=Aml h hG ho hr
 rw[h3 R]
 refine(ok.C fn xs s.nx s.o _ _ _ _ _ h1 hp F N R vs h.hp h2).mono fun e R' ⟨y,F',N',e1,e2,e3,e4,e5⟩=>⟨y,e1,F',N',e2,e3,e4,fun hk=>e5 ?_⟩
 cases hb:Nat.ble k 1 with
 |true=>exact Nat.le_of_ble_eq_true hb
 |false=>
  have hk':(bif Nat.ble k 1 then 1 else 2)≤1:=hk
  rw[hb] at hk'
  cases hk' with|step hk'=>cases hk'
theorem Ft {α:Type} {P:Program} {R R':World} {m:Sem α} {f:α→Next} {x:α} (h:m.run P R=.ok x R'):((do pure (f (←m)):Sem Next)).run P R=.ok (f x) R':=by
 simp[h]
theorem IL {P:Program} {K:Value→World→Prop} {v:Value} {R':World} {r:Result Next} (h:r=.ok (.value v) R') (hk:K v R'):HE P K r:=by
 rw[h]
 exact hk
theorem A00 (h:Rel Z F N s a R) (hG:KQ (A1 a) G) {t:TypeId} {x:Operand} {f:Eff} (he:Aki E s G t x=some f):
  ∃v R',(Instr.range t (a.eval x)).run E.P R=.ok v R'∧EK F N s.nx s.o R f v R':=by
 unfold Aki at he
 split at he<;>first|(cases he;done)|skip
 rename_i b hu hx
 cases he
 have e:=CS h hG hx
 refine⟨.pointer (some ⟨R.heap.size,0,none⟩),R.alloc (.stringIter b 0),?_,?_⟩
 ·rw[e]
  simp[Instr.range,run_underlying hu]
 ·refine Ai8 h.hp (fun N' g hg=>hg) (fun _ hb=>hb) ?_
  have:(⟨R.heap.size,0,none⟩:Addr)=⟨(N.setB s.nx R.heap.size).b s.nx,0,none⟩:=by
   show _=(⟨GM N.b s.nx R.heap.size s.nx,0,none⟩:Addr)
   rw[A3]
  rw[this]
  exact .own (by omega)
theorem A4d (h:Rel Z F N s a R) (hG:KQ (A1 a) G) {it:Operand} {ty:TypeId} {f:Eff} (he:Aus s G it=some f):
  ∃v R',(Instr.next (a.eval it) true ty).run E.P R=.ok v R'∧EK F N s.nx s.o R f v R':=by
 unfold Aus at he
 split at he<;>first|(cases he;done)|skip
 rename_i i off hx
 have hx':=(AQ h hG hx).2.own_inv
 cases h0:Nat.beq off 0 with
 |false=>rw[h0] at he;cases he
 | true=>
  rw[h0] at he
  simp only[cond_true] at he
  obtain rfl:=Nat.eq_of_beq_eq_true h0
  split at he<;>first|(cases he;done)|skip
  rename_i b pos hl
  cases he
  have hb:R.heap[N.b i]?=some (.stringIter b pos):=(h.hp.ob _ _ hl).2
  by_cases hp:pos <b.size
  ·refine⟨.tuple #[.bool true,.int .i64 (pos:Nat),.int .i32 ((Utf8.decode b pos).1:Nat)],{R with heap:=R.heap.setIfInBounds (N.b i) (.stringIter b (pos+(Utf8.decode b pos).2))},?_,?_⟩
   ·rw[hx'.2]
    simp[Instr.next,getObj,setObj,Sem.run,hb,hp,goInt]
   ·rw[decide_eq_true hp]
    exact Aq3 h.hp hl rfl (fun g hg=>hg) hb (fun hs=>hs) (.it true _ _ rfl)
  ·refine⟨.tuple #[.bool false],{R with heap:=R.heap.setIfInBounds (N.b i) (.stringIter b pos)},?_,?_⟩
   ·have hsame:R.heap.setIfInBounds (N.b i) (.stringIter b pos)=R.heap:=by
     have hlt:=Fv hb
     have hv:R.heap[N.b i]=.stringIter b pos:=(Array.getElem?_eq_some_iff.1 hb).2
     apply Array.ext_getElem?
     intro j
     by_cases hj:N.b i=j
     ·subst hj;simp[hlt,hv]
     ·simp[hj]
    rw[hx'.2,hsame]
    simp[Instr.next,getObj,Sem.run,hb,hp]
   ·rw[decide_eq_false hp]
    exact Aq3 h.hp hl rfl (fun g hg=>hg) hb (fun hs=>hs) (.it false _ _ rfl)
theorem A0d (h:Rel Z F N s a R) {t:TypeId} {f:Eff} (he:Ajx E s t=some f):∃v R',(Instr.makeMap t none).run E.P R=.ok v R'∧EK F N s.nx s.o R f v R':=by
 unfold Ajx at he
 cases hk:An0 E t with
 |false=>rw[hk] at he;cases he
 | true=>
  rw[hk] at he
  cases he
  refine⟨.map (some R.heap.size),R.alloc (.map #[] 0),by simp[Instr.makeMap],?_⟩
  refine Ai8 h.hp (fun N' g hg=>hg) (fun _ hb=>⟨[],0,hb,rfl,fun j p e hp=>by cases hp⟩) ?_
  have:(some R.heap.size:Option Nat)=some ((N.setB s.nx R.heap.size).b s.nx):=by
   show _=some (GM N.b s.nx R.heap.size s.nx)
   rw[A3]
  rw[this]
  exact .mp (by omega)
theorem A0b (h:Rel Z F N s a R) (hG:KQ (A1 a) G) {t:TypeId} {m k x:Operand} {f:Eff} (he:Ajq E s G t m k x=some f):
  ∃R',(Instr.mapUpdate t (a.eval m) (a.eval k) (a.eval x)).run E.P R=.ok () R'∧EK F N s.nx s.o R f undef R':=by
 unfold Ajq at he
 split at he<;>first|(cases he;done)|skip
 rename_i y b n hm hk hx
 split at he<;>first|(cases he;done)|skip
 rename_i i l hi
 cases hq:An0 E t with
 |false=>rw[hq] at he;cases he
 | true=>
  rw[hq] at he
  cases he
  obtain⟨e1,hl,es,clock,e2,e3⟩:=Auk h.hp hi (AQ h hG hm).2
  obtain⟨kt,vt,q1,q2,q3⟩:=Auf hq
  have hkk:IsKey .string (.string b):=trivial
  rw[e1,CS h hG hk,CS h hG hx]
  have mk:∀{es':List MapEntry} {c:Nat},Aik (R7 l b n) es'→EK F N s.nx s.o R ⟨.v undef,s.nx,(i,some (.map .str .i64 (R7 l b n)))::s.o,2,[]⟩ undef {R with heap:=R.heap.setIfInBounds (N.b i) (.map es'.toArray c)}:=fun {es' c} hr=>
   Aq3 h.hp hl rfl (fun g hg=>hg) e2 (fun hs=>by
    obtain⟨g1,g2⟩:=Aum (F:=F) (N:=N) (R:={R with heap:=R.heap.setIfInBounds (N.b i) (.map es'.toArray c)}) (nx:=s.nx) hr
    exact⟨es',c,hs,g1,g2⟩) (.v _)
  rcases WK b 0 e3 with⟨g1,_,g3⟩|⟨j,e,g1,g2,g3,g4⟩
  ·refine⟨_,?_,mk (g3 n clock) (c:=clock+1)⟩
   simp[Instr.mapUpdate,run_underlying q1,MapKept.run_getObj_map e2,run_checkKey q2 hkk,run_findKey q2 g1,run_setObj_map _ e2]
  ·refine⟨_,?_,mk (g4 n) (c:=clock)⟩
   have hj:es[0+j]?=some e:=by rw[Nat.zero_add];exact g2
   simp[Instr.mapUpdate,run_underlying q1,MapKept.run_getObj_map e2,run_checkKey q2 hkk,run_findKey q2 g1,g2,g3,run_keyThatStays hkk,run_setObj_map _ e2]
theorem Awa {nx:Nat} {o:Objs} (h:HRel F N nx o R) {cs:List A} {vs:List Value} (hc:HW F N nx R cs vs) (e:TypeId) (k:Nat) (ps:List Prop):
  EK F N nx o R ⟨.own nx 0,nx+1,(nx,some (.rcd e cs))::o,k,ps⟩ (.pointer (some ⟨R.heap.size,0,none⟩)) (R.alloc (.cells vs.toArray e (0,0))):=by
 refine Ai8 h (fun N' g hg=>hg) (fun st hb=>⟨vs,hc.step st,hb⟩) ?_
 have:(⟨R.heap.size,0,none⟩:Addr)=⟨(N.setB nx R.heap.size).b nx,0,none⟩:=by
  show _=(⟨GM N.b nx R.heap.size nx,0,none⟩:Addr)
  rw[A3]
 rw[this]
 exact .own (by omega)
theorem Ao8 {nx:Nat} {x:A} {y:Value} {xs:List A} (h:A6z x=some xs) (hv:Hv F N nx R x y):HW F N nx R xs y.cells.toList:=by
 cases x<;>first|(cases h;done)|skip
 ·cases h
  exact⟨y,[],by simp,hv,fun e=>(by cases e),rfl⟩
 ·cases h
  obtain⟨us,rfl,hw⟩:=hv.rv_inv
  simpa[Value.cells] using hw
theorem Ay2 (ok:EnvOk E) (h:Rel Z F N s a R) (hG:KQ (A1 a) G) {o:Oper} {f:Eff} (he:Av8 E s G o=some f) (hp:∀p∈f.ps,p):
  HE E.P (fun v R'=>EK F N s.nx s.o R f v R') ((execOp a.eval o).run E.P R):=by
 have hcall:=fun {g args ts} (ho:o.op=.call {callee:=.value g,args,argTypes:=ts})=>Aqn (f:=f) ok h hG ho
 obtain⟨dst,op,type,pos,after,guard⟩:=o
 unfold Av8 at he
 simp only at he
 split at he
 ·rename_i e
  unfold Aaa at he
  split at he<;>first|(cases he;done)|skip
  rename_i z hz
  cases he
  exact IL (Ft (Yx hz)) (Ay3 h.hp (HL.toL _) e 1 [])
 ·rename_i e v
  unfold Ayr at he
  split at he<;>first|(cases he;done)|skip
  rename_i x hx
  split at he
  ·rename_i us hus
   cases hs:MM s.o us with
   |false=>rw[hs] at he;cases he
   |true=>
    rw[hs] at he
    cases he
    exact IL (Ft RK) (Ay3 h.hp (Rq h.hp hus hs (AQ h hG hx).2) e 1 [])
  ·split at he<;>first|(cases he;done)|skip
   rename_i xs hr
   cases he
   exact IL (Ft RK) (Awa h.hp (Ao8 hr (AQ h hG hx).2) e 1 [])
 ·rename_i t x v
  obtain⟨R',h1,h2⟩:=A8e h hG he hp
  have:(execOp a.eval {dst,op:=.store t x v,type,pos,after,guard}).run E.P R=.ok .skip R':=by
   show(do Instr.storeAt t (a.eval x) (a.eval v);pure Next.skip:Sem Next).run E.P R=_
   simp[h1]
  rw[this]
  exact h2
 ·rename_i t len parts
  obtain⟨v,R',h1,h2⟩:=Aqj h hG he
  exact IL (Ft h1) h2
 ·rename_i t len cap
  obtain⟨v,R',h1,h2⟩:=Awn ok h hG he hp
  exact IL (Ft h1) h2
 ·rename_i src dst' x
  obtain⟨v,R',h1,h2⟩:=Apk h hG he
  exact IL (Ft h1) h2
 ·rename_i args ts
  split at he<;>first|(cases he;done)|skip
  rename_i x y t u ha ht
  have ha':args=#[x,y]:=by rw[←Array.toArray_toList (xs:=args),ha]
  have ht':ts=#[t,u]:=by rw[←Array.toArray_toList (xs:=ts),ht]
  subst ha' ht'
  obtain⟨v,R',h1,h2⟩:=A7h (ty:=type) h hG he hp
  refine IL ?_ h2
  show(do let d ←resolve a.eval _ type;invoke d.target d.args:Sem Next).run E.P R=_
  simp[resolve,invoke,builtin,h1]
 ·rename_i args ts
  split at he<;>first|(cases he;done)|skip
  rename_i x y t u ha ht
  have ha':args=#[x,y]:=by rw[←Array.toArray_toList (xs:=args),ha]
  have ht':ts=#[t,u]:=by rw[←Array.toArray_toList (xs:=ts),ht]
  subst ha' ht'
  obtain⟨v,R',h1,h2⟩:=A29 (ty:=type) h hG he hp
  refine IL ?_ h2
  show(do let d ←resolve a.eval _ type;invoke d.target d.args:Sem Next).run E.P R=_
  simp[resolve,invoke,builtin,h1]
 ·rename_i g args ts
  exact hcall rfl he hp
 ·rename_i t x
  obtain⟨v,R',h1,h2⟩:=A00 h hG he
  exact IL (Ft h1) h2
 ·rename_i it
  obtain⟨v,R',h1,h2⟩:=A4d (E:=E) (ty:=type) h hG he
  exact IL (Ft h1) h2
 ·rename_i t
  obtain⟨v,R',h1,h2⟩:=A0d h he
  exact IL (Ft h1) h2
 ·rename_i t m k x
  obtain⟨R',h1,h2⟩:=A0b h hG he
  have:(execOp a.eval {dst,op:=.mapUpdate t m k x,type,pos,after,guard}).run E.P R=.ok .skip R':=by
   show(do Instr.mapUpdate t (a.eval m) (a.eval k) (a.eval x);pure Next.skip:Sem Next).run E.P R=_
   simp[h1]
  rw[this]
  exact h2
 ·cases he
theorem A97 (ok:EnvOk E) (h:Rel Z F N s a R) (hG:KQ (A1 a) G) {o:Oper} {f:Eff} (he:opE E s G o=some f) (hp:∀p∈f.ps,p):
  HE E.P (fun v R'=>EK F N s.nx s.o R f v R') ((execOp a.eval o).run E.P R):=by
 unfold opE at he
 cases hl:Abr o.op with
 |true=>rw[hl] at he;exact Ay2 ok h hG he hp
 | false=>
  rw[hl] at he
  simp only[cond_false] at he
  split at he
  ·rename_i x ps hv
   cases he
   obtain⟨v,h1,h2⟩:=Asx ok h hG hv hp
   have h3:=h2 R (Below.refl _ _)
   have J3:∀R',Below R.heap.size R R'→EK F N s.nx s.o R ⟨x,s.nx,s.o,0,ps⟩ v R':=fun R' hb=>by
    obtain⟨g1,g2⟩:=h.hp.grow hb
    exact⟨F,N,g1,Step.of_below hb,h1.step g2,fun _=>hb⟩
   generalize (execOp a.eval o).run E.P R=r at*
   cases r with
   |halt x w=>exact h3.elim
   | ok n w=>
    cases n<;>simp only[Oper.quietUpon] at h3<;>simp only[HE]
    case value u=>
     obtain⟨e1,e2⟩:=h3
     rw[e1,e2]
     exact J3 R (Below.refl _ _)
    case skip=>
     obtain⟨e1,e2⟩:=h3
     rw[e1,←e2]
     exact J3 R (Below.refl _ _)
    case enter f args=>
     obtain⟨e1,hc⟩:=h3
     rw[e1]
     exact hc.mono fun e w'' ⟨he,hw''⟩=>⟨v,he,J3 _ hw''⟩
  ·exact Ay2 ok h hG he hp
end
end Go.Proofs.YtifkbgkbajncjaaDoor
namespace Go.Proofs.YtifkbgkbajncjaaDoor
open Go.RowKit
def ivA (c:TC) (l:List (U c)) (k:Nat):A:=match Ae0 c (l.getD k (Aj c)) with
 |some ⟨c',l'⟩=> .sl c' l'
 |none=> .dead
mutual
def HG (i:Nat) (dp:Bool) (c:TC) (l:List (U c)):A→A
 | .sq j=>bif Nat.beq j i then(bif dp then .dead else .sl c l) else .sq j
 | .vw j sz lo n f=>bif Nat.beq j i then(bif dp then .dead else bif Nat.beq sz (size c) then .sl c ((l.drop lo).take n) else .dead) else .vw j sz lo n f
 | .dq j=>bif Nat.beq j i then(bif dp then .sl c l else .dead) else .dq j
 | .iv j k=>bif Nat.beq j i then(bif dp then ivA c l k else .dead) else .iv j k
 | .de j k sz off=>bif Nat.beq j i then .dead else .de j k sz off
 | .ie j k m sz off=>bif Nat.beq j i then .dead else .ie j k m sz off
 | .el j k sz off=>bif Nat.beq j i then .dead else .el j k sz off
 | .fn f xs ys=> .fn f (fzL i dp c l xs) (fzL i dp c l ys)
 | .agg xs=> .agg (fzL i dp c l xs)
 | .tup xs=> .tup (fzL i dp c l xs)
 | .ref xs=> .ref (fzL i dp c l xs)
 | .opt u b x=> .opt u b (HG i dp c l x)
 | .v x=> .v x
 | .sl c' l'=> .sl c' l'
 | .own j o=> .own j o
 | .ownx j b n k=> .ownx j b n k
 | .mp j=> .mp j
 | .nl=> .nl
 | .it q vs=> .it q vs
 | .dead=> .dead
 | .av c' n l'=> .av c' n l'
 | .rv xs=> .rv (fzL i dp c l xs)
 | .vr j b lo m=> .vr j b lo m
 | .vd j b m n=> .vd j b m n
def fzL (i:Nat) (dp:Bool) (c:TC) (l:List (U c)):List A→List A
 | []=>[]
 |x::r=>HG i dp c l x::fzL i dp c l r
end
mutual
def Y3 (i n:Nat):A→List Prop
 | .vw j _ lo m _=>bif Nat.beq j i then[lo+m≤n] else[]
 | .iv j k=>bif Nat.beq j i then[k <n] else[]
 | .fn _ xs ys=>inL i n xs++inL i n ys
 | .agg xs=>inL i n xs
 | .tup xs=>inL i n xs
 | .ref xs=>inL i n xs
 | .rv xs=>inL i n xs
 | .opt _ _ x=>Y3 i n x
 |_=>[]
def inL (i n:Nat):List A→List Prop
 | []=>[]
 |x::r=>Y3 i n x++inL i n r
end
theorem KC {i:Nat} {dp:Bool} {c:TC} {l:List (U c)}:∀{xs:List A} {j:Nat} {x:A},(fzL i dp c l xs)[j]?=some x→∃y,xs[j]?=some y∧x=HG i dp c l y
 | [],j,x,h=>by unfold fzL at h;cases j<;>cases h
 |y::r,0,x,h=>by unfold fzL at h;cases h;exact⟨y,rfl,rfl⟩
 |y::r,j+1,x,h=>by unfold fzL at h;exact KC (xs:=r) h
theorem I8 {i:Nat} {dp:Bool} {c:TC} {l:List (U c)}:∀xs:List A,(fzL i dp c l xs).length=xs.length
 | []=>by unfold fzL;rfl
 |y::r=>by unfold fzL;rw[List.length_cons,List.length_cons,I8 r]
theorem OE {i n:Nat}:∀{xs:List A} {j:Nat} {x:A},xs[j]?=some x→∀p∈Y3 i n x,p∈inL i n xs
 | [],j,x,h=>by cases j<;>cases h
 |y::r,0,x,h=>by cases h;intro p hp;unfold inL;exact List.mem_append.2 (.inl hp)
 |y::r,j+1,x,h=>by intro p hp;unfold inL;exact List.mem_append.2 (.inr (OE (xs:=r) h p hp))
theorem Auc {i:Nat} {dp:Bool} {c:TC} {l:List (U c)} {x:A} (h:HH (HG i dp c l x)=false):HH x=false:=by
 cases x<;>first|rfl|(unfold HG at h;exact h)
theorem A7n {i:Nat} {dp:Bool} {c:TC} {l:List (U c)} (c':TC) (d:U c'):∀x∈enc c' d,HG i dp c l x=x:=fun x hx=>by
 have:=Nb c' d x hx
 cases x<;>first|(unfold HG;rfl)|exact this.elim
theorem A7o {i n:Nat} (c':TC) (d:U c'):∀x∈enc c' d,Y3 i n x=[]:=fun x hx=>by
 have:=Nb c' d x hx
 cases x<;>first|(unfold Y3;rfl)|exact this.elim
section
variable {F F':Nat→Prop} {N:Nm} {nx:Nat} {R:World}
theorem Ext.wide (h:∀g,F g→F' g):Ext F N nx R F' N nx R:=⟨Nat.le_refl _,fun _ _=>rfl,fun _ _=>rfl,h,fun _ _=>rfl⟩
theorem Aq8 {i:Nat} {dp:Bool} {c:TC} {l:List (U c)} (hrow:dp=false→Hv F' N nx R (.sl c l) (N.q i)) (hpl:dp=false→0 <l.length→∃ad,ad=DZ (N.q i)∧F' ad.block∧∀(k:Nat) (d:U c),l[k]?=some d→HC F' N nx R (enc c d) (ad.add (k*size c)))
  (hdq:dp=true→Hv F' N nx R (.sl c l) (J2 (N.q i) 0)) (hiv:dp=true→∀k,k <l.length→Hv F' N nx R (ivA c l k) (J2 (N.q i) (k+1))) (hF:∀g,F g→F' g) {x:A} {y:Value} (h:Hv F N nx R x y):(∀p∈Y3 i l.length x,p)→Hv F' N nx R (HG i dp c l x) y:=by
 induction h with
 |v x=>intro _;unfold HG;exact .v x
 | @sl c' l' a cap ad h1 h2 h3 h4 ih=>
  intro _
  unfold HG
  refine .sl ad h1 (fun hn=>⟨(h2 hn).1,hF _ (h2 hn).2⟩) h3 (fun k d j x y hd hx hy=>?_)
  have hm:=List.mem_of_getElem? hx
  have:=ih k d j x y hd hx hy (fun p hp=>by rw[A7o c' d x hm] at hp;cases hp)
  rwa[A7n c' d x hm] at this
 | @ref xs ad h1 h2 h3 ih=>
  intro hp
  unfold HG
  unfold Y3 at hp
  refine .ref ad (hF _ h1) (fun j x hx=>?_) (fun j x y hx hy=>?_)
  ·obtain⟨z,hz,rfl⟩:=KC hx;exact h2 j z hz
  ·obtain⟨z,hz,rfl⟩:=KC hx;exact ih j z y hz hy fun p hm=>hp p (OE hz p hm)
 |own h=>intro _;unfold HG;exact .own h
 |ownx h=>intro _;unfold HG;exact .ownx h
 | @sq j h=>
  intro _
  unfold HG
  cases hb:Nat.beq j i with
  |true=>
   obtain rfl:=Nat.eq_of_beq_eq_true hb
   cases dp with
   |true=>exact .dead _
   |false=>exact hrow rfl
  |false=>exact .sq h
 | @vw j sz lo n f a cap h h1 h2 h3=>
  intro hp
  unfold HG
  cases hb:Nat.beq j i with
  |false=>exact .vw h h1 h2 h3
  | true=>
   obtain rfl:=Nat.eq_of_beq_eq_true hb
   cases dp with
   |true=>exact .dead _
   |false=>
   cases hb2:Nat.beq sz (size c) with
   |false=>exact .dead _
   | true=>
    obtain rfl:=Nat.eq_of_beq_eq_true hb2
    unfold Y3 at hp
    rw[hb] at hp
    have hle:lo+n≤l.length:=hp _ (List.mem_singleton.2 rfl)
    have hlen:((l.drop lo).take n).length=n:=by rw[List.length_take,List.length_drop];omega
    have main:Hv F' N nx R (.sl c ((l.drop lo).take n)) (.slice a ((l.drop lo).take n).length cap):=by
     refine Hv.of_sl (by omega) fun hn=>?_
     rw[hlen] at hn
     obtain⟨ad,e1,e2,e3⟩:=hpl rfl (by omega)
     refine⟨ad.add (lo*size c),by rw[h3 hn,e1],by rw[Gj];exact e2,fun k d hd=>?_⟩
     rw[BU,←Nat.add_mul]
     refine e3 (lo+k) d ?_
     rw[List.getElem?_take] at hd
     split at hd<;>first|(cases hd;done)|skip
     rwa[List.getElem?_drop] at hd
    rw[hlen] at main
    exact main
 | @el j k sz off h=>
  intro _
  unfold HG
  cases hb:Nat.beq j i with
  |false=>exact .el h
  |true=>exact .dead _
 | @dq j h=>
  intro _
  unfold HG
  cases hb:Nat.beq j i with
  |false=>exact .dq h
  |true=>
   obtain rfl:=Nat.eq_of_beq_eq_true hb
   cases dp with
   |true=>exact hdq rfl
   |false=>exact .dead _
 | @iv j k h=>
  intro hp
  unfold HG
  cases hb:Nat.beq j i with
  |false=>exact .iv h
  | true=>
   obtain rfl:=Nat.eq_of_beq_eq_true hb
   cases dp with
   |true=>
    unfold Y3 at hp
    rw[hb] at hp
    exact hiv rfl k (hp _ (List.mem_singleton.2 rfl))
   |false=>exact .dead _
 | @de j k sz off h=>
  intro _
  unfold HG
  cases hb:Nat.beq j i with
  |false=>exact .de h
  |true=>exact .dead _
 | @ie j k m sz off h=>
  intro _
  unfold HG
  cases hb:Nat.beq j i with
  |false=>exact .ie h
  |true=>exact .dead _
 |mp h=>intro _;unfold HG;exact .mp h
 |nl a=>intro _;unfold HG;exact .nl a
 |it q vs y h=>intro _;unfold HG;exact .it q vs y h
 | fn vs us h1 _ h3 _ ih2 ih4=>
  intro hp
  unfold HG
  unfold Y3 at hp
  exact .fn vs us (by rw[I8];exact h1) (fun j x v hx hv=>by obtain⟨z,hz,rfl⟩:=KC hx;exact ih2 j z v hz hv fun p hm=>hp p (List.mem_append.2 (.inl (OE hz p hm)))) (by rw[I8];exact h3)
   (fun j x v hx hv=>by obtain⟨z,hz,rfl⟩:=KC hx;exact ih4 j z v hz hv fun p hm=>hp p (List.mem_append.2 (.inr (OE hz p hm))))
 |agg vs h1 _ ih=>
  intro hp
  unfold HG
  unfold Y3 at hp
  exact .agg vs (by rw[I8];exact h1) (fun j x v hx hv=>by obtain⟨z,hz,rfl⟩:=KC hx;exact ih j z v hz hv fun p hm=>hp p (OE hz p hm))
 |tup vs h1 _ ih=>
  intro hp
  unfold HG
  unfold Y3 at hp
  exact .tup vs (by rw[I8];exact h1) (fun j x v hx hv=>by obtain⟨z,hz,rfl⟩:=KC hx;exact ih j z v hz hv fun p hm=>hp p (OE hz p hm))
 |dead y=>intro _;unfold HG;exact .dead y
 |av h1 h2=>intro _;unfold HG;exact .av h1 h2
 |rv vs h1 _ h3 ih=>
  intro hp
  unfold HG
  unfold Y3 at hp
  refine .rv vs (by rw[I8];exact h1) (fun j x v hx hv=>by obtain⟨z,hz,rfl⟩:=KC hx;exact ih j z v hz hv fun p hm=>hp p (OE hz p hm)) (fun j x v hx hv hi=>?_)
  obtain⟨z,hz,rfl⟩:=KC hx
  exact h3 j z v hz hv (Auc hi)
 |vr ad h h1=>intro _;unfold HG;exact .vr ad h h1
 |vd h=>intro _;unfold HG;exact .vd h
theorem Azl {i:Nat} {dp:Bool} {c:TC} {l:List (U c)} {n:Nat} (hf:∀{x:A} {y:Value},Hv F N nx R x y→(∀p∈Y3 i n x,p)→Hv F' N nx R (HG i dp c l x) y):∀{xs:List A} {us:List Value},HW F N nx R xs us→(∀p∈inL i n xs,p)→HW F' N nx R (fzL i dp c l xs) us
 | [],_,h,_=>by unfold fzL;exact h
 |x::r,_,⟨v,t,h1,h2,h3,h4⟩,hp=>by
  unfold fzL
  unfold inL at hp
  exact⟨v,t,h1,hf h2 fun p hm=>hp p (List.mem_append.2 (.inl hm)),fun hi=>h3 (Auc hi),Azl hf h4 fun p hm=>hp p (List.mem_append.2 (.inr hm))⟩
theorem Aq9 {i:Nat} {dp:Bool} {c:TC} {l:List (U c)} {n:Nat} (hf:∀{x:A} {y:Value},Hv F N nx R x y→(∀p∈Y3 i n x,p)→Hv F' N nx R (HG i dp c l x) y):∀{xs:List A} {vs:List Value},HL F N nx R xs vs→(∀p∈inL i n xs,p)→HL F' N nx R (fzL i dp c l xs) vs
 | [],_,h,_=>by unfold fzL;exact h
 |x::r,_,⟨v,vs,h1,h2,h3⟩,hp=>by
  unfold fzL
  unfold inL at hp
  exact⟨v,vs,h1,hf h2 fun p hm=>hp p (List.mem_append.2 (.inl hm)),Aq9 hf h3 fun p hm=>hp p (List.mem_append.2 (.inr hm))⟩
end
section
variable {F F':Nat→Prop} {N:Nm} {nx:Nat} {R:World} {tm:Nat→Value}
theorem Azk {i:Nat} {dp:Bool} {c:TC} {l:List (U c)} {n:Nat} (fz:∀{x:A} {y:Value},Hv F N nx R x y→(∀p∈Y3 i n x,p)→Hv F' N nx R (HG i dp c l x) y):∀{x:A} {y:Value},HS F N nx R tm x y→(∀p∈Y3 i n x,p)→HS F' N nx R tm (HG i dp c l x) y
 | .opt u b x,_,h,hp=>by
  unfold Y3 at hp
  unfold HG
  simp only[HS] at h⊢
  exact⟨fun hb=>Azk fz (h.1 hb) hp,h.2⟩
 | .sq j,_,h,hp=>(Ab (by unfold HG;cases Nat.beq j i<;>cases dp<;>rfl)).2 (fz ((Ab rfl).1 h) hp)
 | .vw j z _ _ _,_,h,hp=>(Ab (by unfold HG;cases Nat.beq j i<;>cases dp<;>first|rfl|(cases Nat.beq z (size c)<;>rfl))).2 (fz ((Ab rfl).1 h) hp)
 | .el j _ _ _,_,h,hp=>(Ab (by unfold HG;cases Nat.beq j i<;>rfl)).2 (fz ((Ab rfl).1 h) hp)
 | .dq j,_,h,hp=>(Ab (by unfold HG;cases Nat.beq j i<;>cases dp<;>rfl)).2 (fz ((Ab rfl).1 h) hp)
 | .iv j k,_,h,hp=>(Ab (by unfold HG;cases Nat.beq j i<;>cases dp<;>first|rfl|(unfold ivA;split<;>rfl))).2 (fz ((Ab rfl).1 h) hp)
 | .de j _ _ _,_,h,hp=>(Ab (by unfold HG;cases Nat.beq j i<;>rfl)).2 (fz ((Ab rfl).1 h) hp)
 | .ie j _ _ _ _,_,h,hp=>(Ab (by unfold HG;cases Nat.beq j i<;>rfl)).2 (fz ((Ab rfl).1 h) hp)
 | .v _,_,h,hp=>(Ab (by unfold HG;rfl)).2 (fz ((Ab rfl).1 h) hp)
 | .sl _ _,_,h,hp=>(Ab (by unfold HG;rfl)).2 (fz ((Ab rfl).1 h) hp)
 | .ref _,_,h,hp=>(Ab (by unfold HG;rfl)).2 (fz ((Ab rfl).1 h) hp)
 | .own _ _,_,h,hp=>(Ab (by unfold HG;rfl)).2 (fz ((Ab rfl).1 h) hp)
 | .ownx _ _ _ _,_,h,hp=>(Ab (by unfold HG;rfl)).2 (fz ((Ab rfl).1 h) hp)
 | .mp _,_,h,hp=>(Ab (by unfold HG;rfl)).2 (fz ((Ab rfl).1 h) hp)
 | .nl,_,h,hp=>(Ab (by unfold HG;rfl)).2 (fz ((Ab rfl).1 h) hp)
 | .it _ _,_,h,hp=>(Ab (by unfold HG;rfl)).2 (fz ((Ab rfl).1 h) hp)
 | .fn _ _ _,_,h,hp=>(Ab (by unfold HG;rfl)).2 (fz ((Ab rfl).1 h) hp)
 | .agg _,_,h,hp=>(Ab (by unfold HG;rfl)).2 (fz ((Ab rfl).1 h) hp)
 | .tup _,_,h,hp=>(Ab (by unfold HG;rfl)).2 (fz ((Ab rfl).1 h) hp)
 | .dead,_,h,hp=>(Ab (by unfold HG;rfl)).2 (fz ((Ab rfl).1 h) hp)
 | .av _ _ _,_,h,hp=>(Ab (by unfold HG;rfl)).2 (fz ((Ab rfl).1 h) hp)
 | .rv _,_,h,hp=>(Ab (by unfold HG;rfl)).2 (fz ((Ab rfl).1 h) hp)
 | .vr _ _ _ _,_,h,hp=>(Ab (by unfold HG;rfl)).2 (fz ((Ab rfl).1 h) hp)
 | .vd _ _ _ _,_,h,hp=>(Ab (by unfold HG;rfl)).2 (fz ((Ab rfl).1 h) hp)
end
def fzT (i:Nat) (dp:Bool) (c:TC) (l:List (U c)):Fu→Fu
 | []=>[]
 |(k,x)::r=>(k,HG i dp c l x)::fzT i dp c l r
def inT (i n:Nat):Fu→List Prop
 | []=>[]
 |(_,x)::r=>Y3 i n x++inT i n r
def Aez (i:Nat) (dp:Bool) (c:TC) (l:List (U c)):List (List A)→List (List A)
 | []=>[]
 |x::r=>fzL i dp c l x::Aez i dp c l r
def Azv (i n:Nat):List (List A)→List Prop
 | []=>[]
 |x::r=>inL i n x++Azv i n r
def Azj (i:Nat) (dp:Bool) (c:TC) (l:List (U c)):Ob→Ob
 | .box e cs=> .box e (fzL i dp c l cs)
 | .arr e sz (.lst cs)=> .arr e sz (.lst (Aez i dp c l cs))
 | .arr e sz (.ty c' l')=> .arr e sz (.ty c' l')
 | .map k v m=> .map k v m
 | .sit s p=> .sit s p
 | .deep e c' l'=> .deep e c' l'
 | .rcd e xs=> .rcd e (fzL i dp c l xs)
 | .abs m c' l'=> .abs m c' l'
def Azw (i n:Nat):Ob→List Prop
 | .box _ cs=>inL i n cs
 | .rcd _ xs=>inL i n xs
 | .arr _ _ (.lst cs)=>Azv i n cs
 |_=>[]
def fzO (i:Nat) (dp:Bool) (c:TC) (l:List (U c)):Objs→Objs
 | []=>[]
 |(k,x)::r=>(k,bif Nat.beq k i then none else(match x with
  |some ob=>some (Azj i dp c l ob)
  |none=>none))::fzO i dp c l r
def inO (i n:Nat):Objs→List Prop
 | []=>[]
 |(_,some ob)::r=>Azw i n ob++inO i n r
 |(_,none)::r=>inO i n r
def HI:Objs→List Nat
 | []=>[]
 |(k,_)::r=>k::HI r
theorem G5 {i:Nat}:∀{A B:Objs},i∉HI A→Ak i (A++B)=Ak i B
 | [],_,_=>rfl
 |(k,x)::r,B,h=>by
  have hk:Nat.beq k i=false:=Aab fun e=>h (by rw[e];exact List.mem_cons_self ..)
  show(bif Nat.beq k i then x else Ak i (r++B))=Ak i B
  rw[hk]
  exact G5 fun hm=>h (List.mem_cons_of_mem _ hm)
theorem Qs {i:Nat}:∀{A B:Objs},i∈HI A→Ak i (A++B)=Ak i A
 | [],_,h=>by cases h
 | (k,x)::r,B,h=>by
  show(bif Nat.beq k i then x else Ak i (r++B))=(bif Nat.beq k i then x else Ak i r)
  cases hb:Nat.beq k i with
  |true=>rfl
  |false=>
   rcases List.mem_cons.1 h with rfl|h
   ·simp at hb
   ·exact Qs h
theorem Aa9 {i:Nat} {dp:Bool} {c:TC} {l:List (U c)}:∀{o:Objs},HI (fzO i dp c l o)=HI o
 | []=>rfl
 |(k,x)::r=>by
  show k::HI (fzO i dp c l r)=k::HI r
  rw[Aa9]
def frA (i:Nat) (c:TC) (l:List (U c)):A→A
 | .vr j base lo m=>bif Nat.beq j i&&Nat.beq base 0 then .sl c ((l.drop lo).take m) else .vr j base lo m
 |x=>x
def irA (i n:Nat):A→List Prop
 | .vr j base lo m=>bif Nat.beq j i&&Nat.beq base 0 then[lo+m≤n] else[]
 |_=>[]
def frT (i:Nat) (c:TC) (l:List (U c)):Fu→Fu
 | []=>[]
 |(k,x)::r=>(k,frA i c l x)::frT i c l r
def irT (i n:Nat):Fu→List Prop
 | []=>[]
 |(_,x)::r=>irA i n x++irT i n r
theorem Aob {i:Nat} {c:TC} {l:List (U c)} {u:Nat} {x:A}:∀{t:Fu},B5 u (frT i c l t)=some x→∃y,B5 u t=some y∧x=frA i c l y∧∀n,∀p∈irA i n y,p∈irT i n t
 | [],h=>by cases h
 | (k,y)::r,h=>by
  have h':(bif Nat.beq k u then some (frA i c l y) else B5 u (frT i c l r))=some x:=h
  show ∃z,(bif Nat.beq k u then some y else B5 u r)=some z∧_∧∀n,∀p∈irA i n z,p∈irA i n y++irT i n r
  cases hb:Nat.beq k u with
  |true=>rw[hb] at h';cases h';exact⟨y,rfl,rfl,fun n p hp=>List.mem_append.2 (.inl hp)⟩
  |false=>
   rw[hb] at h'
   obtain⟨z,h1,h2,h3⟩:=Aob h'
   exact⟨z,h1,h2,fun n p hp=>List.mem_append.2 (.inr (h3 n p hp))⟩
def Rx (E:Env) (i:Nat) (s:St):Option (St×List Prop):=match Ak i s.o with
 | some (.arr e sz els)=>match E.tc e with
  |some c=>bif Nat.beq sz (size c) then(match PY c els with
   |some (l,ps)=>some ({s with t:=fzT i false c l s.t,o:=fzO i false c l s.o++s.o},ps++(inT i l.length s.t++inO i l.length s.o))
   |none=>none) else none
  |none=>none
 |some (.deep _ c l)=>some ({s with t:=fzT i true c l s.t,o:=fzO i true c l s.o++s.o},inT i l.length s.t++inO i l.length s.o)
 |some (.rcd _ [.av c n l])=>some ({s with t:=frT i c l s.t,o:=(i,none)::s.o},irT i n s.t)
 |_=>none
theorem Aoc {i:Nat} {dp:Bool} {c:TC} {l:List (U c)} {u:Nat} {x:A}:∀{t:Fu},B5 u (fzT i dp c l t)=some x→∃y,B5 u t=some y∧x=HG i dp c l y∧∀n,∀p∈Y3 i n y,p∈inT i n t
 | [],h=>by cases h
 | (k,y)::r,h=>by
  have h':(bif Nat.beq k u then some (HG i dp c l y) else B5 u (fzT i dp c l r))=some x:=h
  show ∃z,(bif Nat.beq k u then some y else B5 u r)=some z∧_∧∀n,∀p∈Y3 i n z,p∈Y3 i n y++inT i n r
  cases hb:Nat.beq k u with
  |true=>rw[hb] at h';cases h';exact⟨y,rfl,rfl,fun n p hp=>List.mem_append.2 (.inl hp)⟩
  |false=>
   rw[hb] at h'
   obtain⟨z,h1,h2,h3⟩:=Aoc h'
   exact⟨z,h1,h2,fun n p hp=>List.mem_append.2 (.inr (h3 n p hp))⟩
theorem Ag8 {i:Nat} {dp:Bool} {c:TC} {l:List (U c)} {j:Nat} {ob:Ob}:∀{o:Objs},Ak j (fzO i dp c l o)=some ob→∃ob',Ak j o=some ob'∧ob=Azj i dp c l ob'∧j≠i∧∀n,∀p∈Azw i n ob',p∈inO i n o
 | [],h=>by cases h
 | (k,x)::r,h=>by
  have h':(bif Nat.beq k j then(bif Nat.beq k i then none else(match x with|some ob=>some (Azj i dp c l ob)|none=>none)) else Ak j (fzO i dp c l r))=some ob:=h
  show ∃ob',(bif Nat.beq k j then x else Ak j r)=some ob'∧_∧_∧_
  cases hb:Nat.beq k j with
  | true=>
   rw[hb] at h'
   cases hi:Nat.beq k i with
   |true=>rw[hi] at h';cases h'
   | false=>
    rw[hi] at h'
    obtain rfl:=Nat.eq_of_beq_eq_true hb
    cases x with
    |none=>cases h'
    |some ob'=>
     cases h'
     exact⟨ob',rfl,rfl,fun e=>by subst e;simp at hi,fun n p hp=>by show p∈Azw i n ob'++inO i n r;exact List.mem_append.2 (.inl hp)⟩
  |false=>
   rw[hb] at h'
   obtain⟨ob',h1,h2,h3,h4⟩:=Ag8 h'
   refine⟨ob',h1,h2,h3,fun n p hp=>?_⟩
   cases x with
   |none=>exact h4 n p hp
   |some y=>exact List.mem_append.2 (.inr (h4 n p hp))
theorem ND {i:Nat} {dp:Bool} {c:TC} {l:List (U c)} {j:Nat} {ob:Ob} {o:Objs} (h:Ak j (fzO i dp c l o++o)=some ob):∃ob',Ak j o=some ob'∧ob=Azj i dp c l ob'∧j≠i∧∀n,∀p∈Azw i n ob',p∈inO i n o:=by
 by_cases hk:j∈HI o
 ·rw[Qs (by rw[Aa9];exact hk)] at h
  exact Ag8 h
 ·rw[G5 (by rw[Aa9];exact hk)] at h
  have:=G5 (A:=o) (B:=[]) hk
  rw[List.append_nil] at this
  rw[this] at h
  cases h
theorem Ano {i:Nat} {dp:Bool} {c:TC} {l:List (U c)}:∀(cs:List (List A)) (k:Nat),GV (Aez i dp c l cs) k=fzL i dp c l (GV cs k)
 | [],k=>by unfold Aez;cases k<;>(unfold GV;unfold fzL;rfl)
 |x::r,0=>by unfold Aez;rfl
 |x::r,k+1=>by unfold Aez;exact Ano r k
theorem P6 {i:Nat} {dp:Bool} {c:TC} {l:List (U c)}:∀(cs:List (List A)),(Aez i dp c l cs).length=cs.length
 | []=>by unfold Aez;rfl
 |x::r=>by unfold Aez;rw[List.length_cons,List.length_cons,P6 r]
theorem Anx {i n:Nat}:∀(cs:List (List A)) (k:Nat),∀p∈inL i n (GV cs k),p∈Azv i n cs
 | [],k,p,hp=>by cases k<;>(unfold GV at hp;unfold inL at hp;cases hp)
 |x::r,0,p,hp=>by unfold Azv;exact List.mem_append.2 (.inl hp)
 |x::r,k+1,p,hp=>by unfold Azv;exact List.mem_append.2 (.inr (Anx r k p hp))
section
variable {E:Env} {Z:Base} {F:Nat→Prop} {N:Nm} {s s':St} {a:Act} {R:World}
theorem Tm {i:Nat} {ps:List Prop} (he:Rx E i s=some (s',ps)):s'.n=s.n∧∃d,s'.o=d++s.o:=by
 unfold Rx at he
 split at he<;>first|(cases he;done)|skip
 ·split at he<;>first|(cases he;done)|skip
  rename_i e sz els hl _ c hc
  cases hb:Nat.beq sz (size c) with
  |false=>rw[hb] at he;cases he
  |true=>
   rw[hb] at he
   simp only[cond_true] at he
   split at he<;>first|(cases he;done)|skip
   cases he
   exact⟨rfl,_,rfl⟩
 ·cases he
  exact⟨rfl,_,rfl⟩
 ·cases he
  exact⟨rfl,[(i,none)],rfl⟩
theorem Aq7 (h:Rel Z F N s a R) {i n:Nat} {e:TypeId} {c:TC} {l:List (U c)} (hl:Ak i s.o=some (.rcd e [.av c n l])) (hp:∀p∈irT i n s.t,p):
  Rel Z (fun g=>F g∨g=N.b i) N {s with t:=frT i c l s.t,o:=(i,none)::s.o} a R:=by
 have hF:∀g,F g→(F g∨g=N.b i):=fun g hg=> .inl hg
 have hw:Ext F N s.nx R (fun g=>F g∨g=N.b i) N s.nx R:=Ext.wide hF
 obtain⟨_,us,q1,q2⟩:=h.hp.ob i _ hl
 obtain⟨v,t,e1,q3,_,q4⟩:=q1
 obtain rfl:t=[]:=q4
 have hln:∀{j ob},Ak j ((i,none)::s.o)=some ob→j≠i∧Ak j s.o=some ob:=fun {j ob} hj=>by
  rw[AE] at hj
  by_cases hji:j=i
  ·rw[if_pos hji] at hj;cases hj
  ·rw[if_neg hji] at hj;exact⟨hji,hj⟩
 have hst:Step F N s.nx s.o R (fun g=>F g∨g=N.b i) N s.nx ((i,none)::s.o) R:=⟨Nat.le_refl _,fun _ _=>rfl,fun _ _=>rfl,hF,fun g hg=>by
  rcases hg with hg|hg
  ·exact .inl hg
  ·exact .inr (.inl ⟨i,_,hl,hg⟩),fun g ⟨j,ob,h1,h2⟩=> .inl ⟨j,ob,(hln h1).2,h2⟩,rfl,rfl,rfl,Nat.le_refl _,fun _ _ _=>rfl⟩
 refine⟨h.defers,h.size,fun u x hu=>?_,⟨fun g hg=>?_,fun j ob1 hj=>?_,fun j ob1 g hj hg hf=>?_,fun j k x y g hj hk hx hy=>?_,h.hp.gl.step hw⟩,h.st.trans hst,h.tm⟩
 ·obtain⟨y,h1,rfl,h3⟩:=Aob hu
  have hy:=h.slots u y h1
  cases y<;>first|exact hy.step hw|skip
  rename_i j base lo m
  have hv:=(Ab (x:=.vr j base lo m) rfl).1 hy
  rw[show frA i c l (.vr j base lo m)=(bif Nat.beq j i&&Nat.beq base 0 then .sl c ((l.drop lo).take m) else .vr j base lo m) from rfl]
  cases hb:(Nat.beq j i&&Nat.beq base 0) with
  |false=>exact hy.step hw
  | true=>
   have hin:∀p∈(bif Nat.beq j i&&Nat.beq base 0 then[lo+m≤n] else[]),p∈irT i n s.t:=h3 n
   rw[hb] at hin
   have hlm:lo+m≤n:=hp _ (hin _ (List.mem_singleton.2 rfl))
   rw[Bool.and_eq_true] at hb
   obtain rfl:=Nat.eq_of_beq_eq_true hb.1
   obtain rfl:=Nat.eq_of_beq_eq_true hb.2
   rw[cond_true]
   refine(Ab (x:=.sl c ((l.drop lo).take m)) rfl).2 ?_
   generalize A1 a u=w at hv⊢
   cases hv with
   | vr ad hi h1=>
    cases q3 with
    | av k1 k2=>
     have hlen:((l.drop lo).take m).length=m:=by rw[List.length_take,List.length_drop];omega
     have main:Hv (fun g=>F g∨g=N.b j) N s.nx R (.sl c ((l.drop lo).take m)) (.slice (some ad) ((l.drop lo).take m).length m):=by
      refine Hv.of_sl (by omega) fun hn=>?_
      rw[hlen] at hn
      have had:=h1 hn
      subst had
      refine⟨_,rfl,.inr rfl,fun k d hd j' x hx=>?_⟩
      rw[A08 k1,Nat.mul_one] at*
      rw[Wk k1] at hx
      cases j' with
      |succ j'=>cases hx
      |zero=>
       cases hx
       refine⟨sv c d,?_,.v _⟩
       rw[add_zero,Bv,BZ q2,e1]
       rw[List.getElem?_take] at hd
       split at hd<;>first|(cases hd;done)|skip
       rw[List.getElem?_drop] at hd
       simp[Value.cells,hd]
     rw[hlen] at main
     exact main
 ·rcases hg with hg|hg
  ·exact h.hp.flt g hg
  ·exact(h.hp.ob i _ hl).2.lt hg
 ·obtain⟨h1,h2⟩:=hln hj
  obtain⟨k1,k2⟩:=h.hp.ob j ob1 h2
  exact⟨k1,k2.step hw k1 fun _ _=>rfl⟩
 ·obtain⟨h1,h2⟩:=hln hj
  rcases hf with hf|hf
  ·exact h.hp.ff j ob1 g h2 hg hf
  ·exact h1 (h.hp.sep j i ob1 _ g h2 hl hg hf)
 ·exact h.hp.sep j k x y g (hln hj).2 (hln hk).2 hx hy
theorem XM (h:Rel Z F N s a R) {i:Nat} {ob:Ob} (hl:Ak i s.o=some ob) {dp:Bool} {c:TC} {l:List (U c)} (fz:∀{x:A} {y:Value},Hv F N s.nx R x y→(∀p∈Y3 i l.length x,p)→Hv (fun g=>F g∨foot N i ob g) N s.nx R (HG i dp c l x) y)
  (hp2:∀p∈inT i l.length s.t,p) (hp3:∀p∈inO i l.length s.o,p):Rel Z (fun g=>F g∨foot N i ob g) N {s with t:=fzT i dp c l s.t,o:=fzO i dp c l s.o++s.o} a R:=by
 have hF:∀g,F g→(F g∨foot N i ob g):=fun g hg=> .inl hg
 have hw:Ext F N s.nx R (fun g=>F g∨foot N i ob g) N s.nx R:=Ext.wide hF
 have fzS:∀{x:A} {y:Value},HS F N s.nx R (A1 a) x y→(∀p∈Y3 i l.length x,p)→HS (fun g=>F g∨foot N i ob g) N s.nx R (A1 a) (HG i dp c l x) y:=fun hx hpp=>Azk fz hx hpp
 have hfoot:∀{j ob' g},Ak j s.o=some ob'→foot N j (Azj i dp c l ob') g→foot N j ob' g:=fun {j ob' g} _ hg=>by
  cases ob' with
  |arr e' s' els'=>cases els'<;>exact hg
  |_=>exact hg
 have hst:Step F N s.nx s.o R (fun g=>F g∨foot N i ob g) N s.nx (fzO i dp c l s.o++s.o) R:=⟨Nat.le_refl _,fun _ _=>rfl,fun _ _=>rfl,hF,fun g hg=>by
  rcases hg with hg|hg
  ·exact .inl hg
  ·exact .inr (.inl ⟨i,_,hl,hg⟩),fun g ⟨j,ob,h1,h2⟩=>by
  obtain⟨ob',h3,rfl,_,_⟩:=ND h1
  exact .inl ⟨j,ob',h3,hfoot h3 h2⟩,rfl,rfl,rfl,Nat.le_refl _,fun _ _ _=>rfl⟩
 refine⟨h.defers,h.size,fun u x hu=>?_,⟨fun g hg=>?_,fun j ob1 hj=>?_,fun j ob1 g hj hg hf=>?_,fun j k x y g hj hk hx hy=>?_,h.hp.gl.step hw⟩,h.st.trans hst,h.tm⟩
 ·obtain⟨y,h1,rfl,h3⟩:=Aoc hu
  exact fzS (h.slots u y h1) fun p hm=>hp2 p (h3 _ p hm)
 ·rcases hg with hg|hg
  ·exact h.hp.flt g hg
  ·exact(h.hp.ob i ob hl).2.lt hg
 ·obtain⟨ob',h1,rfl,h3,h4⟩:=ND hj
  obtain⟨k1,k2⟩:=h.hp.ob j ob' h1
  refine⟨k1,?_⟩
  have hin:∀p∈Azw i l.length ob',p:=fun p hm=>hp3 p (h4 _ p hm)
  cases ob' with
  |box e' cs=>
   obtain⟨vs,q1,q2⟩:=k2
   exact⟨vs,Aq9 (fun hx hpp=>fz hx hpp) q1 hin,q2⟩
  | arr e' s' els'=>
   cases els' with
   |ty c' l'=>exact k2.step hw k1 fun _ _=>rfl
   |lst cs=>
    obtain⟨zs',q1,q2⟩:=k2
    refine⟨zs',by simpa[Els.n,P6] using q1,fun k hk=>?_⟩
    have hk':k <cs.length:=by simpa[Els.n,P6] using hk
    show HL _ N s.nx R (GV (Aez i dp c l cs) k) _
    rw[Ano]
    exact Aq9 (fun hx hpp=>fz hx hpp) (q2 k hk') fun p hm=>hin p (Anx cs k p hm)
  |map k v m=>exact k2.step hw k1 fun _ _=>rfl
  |sit st pos=>exact k2
  |deep e' c' l'=>exact k2.step hw k1 fun _ _=>rfl
  |abs m c' l'=>exact k2.step hw k1 fun _ _=>rfl
  |rcd e' xs=>
   obtain⟨us,q1,q2⟩:=k2
   exact⟨us,Azl (fun hx hpp=>fz hx hpp) q1 hin,q2⟩
 ·obtain⟨ob',h1,rfl,h3,_⟩:=ND hj
  have hg':=hfoot h1 hg
  rcases hf with hf|hf
  ·exact h.hp.ff j ob' g h1 hg' hf
  ·exact h3 (h.hp.sep j i ob' _ g h1 hl hg' hf)
 ·obtain⟨x',h1,rfl,_,_⟩:=ND hj
  obtain⟨y',h2,rfl,_,_⟩:=ND hk
  exact h.hp.sep j k x' y' g h1 h2 (hfoot h1 hx) (hfoot h2 hy)
theorem NV {F':Nat→Prop} {nx:Nat} {e:TypeId} {c:TC} {l:List (U c)} {v:Value} {zs:List Value} (g1:OwnR R e (size c) v l.length zs) (hr:∀k,k <l.length→HL F' N nx R (enc c (l.getD k (Aj c))) ((zs.drop (k*size c)).take (size c))) (hF:∀g,BO v=some g→F' g):
  Hv F' N nx R (.sl c l) v∧(0 <l.length→∃ad,ad=DZ v∧F' ad.block∧∀(k:Nat) (d:U c),l[k]?=some d→HC F' N nx R (enc c d) (ad.add (k*size c))):=by
 have hpl:0 <l.length→∃ad,ad=DZ v∧F' ad.block∧∀(k:Nat) (d:U c),l[k]?=some d→HC F' N nx R (enc c d) (ad.add (k*size c)):=fun hpos=>by
  obtain⟨g,cap,q1,_,q3,q4,q5⟩:=EE g1 hpos
  refine⟨_,rfl,by rw[q3];exact hF _ q4,fun k d hd=>?_⟩
  rw[q3,Bv,Nat.zero_add]
  intro j x hx
  have hk:k <l.length:=(List.getElem?_eq_some_iff.1 hd).1
  have hgd:l.getD k (Aj c)=d:=by rw[List.getD_eq_getElem?_getD,hd];rfl
  have h3:=hr k hk
  rw[hgd] at h3
  obtain⟨v,hv,hx2⟩:=h3.get hx
  exact⟨v,by rw[Bv];exact q5 _ v (KW hv),hx2⟩
 refine⟨?_,hpl⟩
 obtain⟨aa,cap,e1,e2⟩:=g1.form
 rw[e1]
 refine Hv.of_sl e2 fun hpos=>?_
 obtain⟨ad,q1,q2,q3⟩:=hpl hpos
 obtain⟨g,cap',r1,_,r3,_,_⟩:=EE g1 hpos
 refine⟨ad,?_,q2,q3⟩
 rw[e1] at r1
 cases r1
 rw[q1,e1]
 rfl
theorem Ag1 (h:Rel Z F N s a R) {i:Nat} {ps:List Prop} (he:Rx E i s=some (s',ps)) (hp:∀p∈ps,p):∃F',Rel Z F' N s' a R:=by
 unfold Rx at he
 split at he<;>first|(cases he;done)|skip
 ·rename_i e sz els hl
  split at he<;>first|(cases he;done)|skip
  rename_i c hc
  cases hb:Nat.beq sz (size c) with
  |false=>rw[hb] at he;cases he
  |true=>
   rw[hb] at he
   simp only[cond_true] at he
   split at he<;>first|(cases he;done)|skip
   rename_i l qs hty
   cases he
   obtain rfl:=Nat.eq_of_beq_eq_true hb
   have hp1:∀p∈qs,p:=fun p hm=>hp p (List.mem_append.2 (.inl hm))
   obtain⟨hi,zs,g1,g2⟩:=h.hp.ob i _ hl
   have hr:RowHL F N s.nx R (.ty c l) (size c) zs:=(show RowHL F N s.nx R els (size c) zs from⟨g1.1,g2⟩).ty hty hp1
   have hn:l.length=els.n:=(JK (F:=F) (N:=N) (nx:=s.nx) (R:=R) hty hp1).1
   have hF:∀g,F g→(F g∨foot N i (.arr e (size c) els) g):=fun g hg=> .inl hg
   rw[←hn] at g1
   obtain⟨q1,q2⟩:=NV (F':=fun g=>F g∨foot N i (.arr e (size c) els) g) (N:=N) (nx:=s.nx) g1 (fun k hk=>(hr.2 k hk).step (Ext.wide hF)) (fun g hg=> .inr hg)
   exact⟨_,XM h hl (fun hx=>Aq8 (fun _=>q1) (fun _=>q2) (fun e=>by cases e) (fun e=>by cases e) hF hx) (fun p hm=>hp p (List.mem_append.2 (.inr (List.mem_append.2 (.inl hm))))) fun p hm=>hp p (List.mem_append.2 (.inr (List.mem_append.2 (.inr hm))))⟩
 ·rename_i e c l hl
  cases he
  obtain⟨hi,col,c',zs,h1,h2,h3,h4,h5⟩:=h.hp.ob i _ hl
  have hF:∀g,F g→(F g∨foot N i (.deep e c l) g):=fun g hg=> .inl hg
  have hw:Ext F N s.nx R (fun g=>F g∨foot N i (.deep e c l) g) N s.nx R:=Ext.wide hF
  have hin:∀k,k <l.length→∃l':List (U c'),(enc c (l.getD k (Aj c)))[col]?=some (.sl c' l')∧Hv (fun g=>F g∨foot N i (.deep e c l) g) N s.nx R (.sl c' l') (J2 (N.q i) (k+1)):=fun k hk=>by
   obtain⟨l',e',us,k1,k2,k3⟩:=h4 k _ (getD_some hk)
   exact⟨l',k1,(NV k2 (fun j hj=>(k3 j hj).step hw) (fun g hg=> .inr ⟨k+1,by omega,hg⟩)).1⟩
  have hel:∀k,k <l.length→HL (fun g=>F g∨foot N i (.deep e c l) g) N s.nx R (enc c (l.getD k (Aj c))) ((zs.drop (k*size c)).take (size c)):=fun k hk=>by
   obtain⟨l',k1,k2⟩:=hin k hk
   have hk3:=(h3 k (l.getD k (Aj c)) (getD_some hk)).step hw
   have go:∀(cs:List A) (vs:List Value),(∀(p:Nat) (c2:TC) (l2:List (U c2)),cs[p]?=some (.sl c2 l2)→Hv (fun g=>F g∨foot N i (.deep e c l) g) N s.nx R (.sl c2 l2) (J2 (N.q i) (k+1)))→HL (fun g=>F g∨foot N i (.deep e c l) g) N s.nx R (Kz i k cs) vs→HL (fun g=>F g∨foot N i (.deep e c l) g) N s.nx R cs vs:=fun cs=>by
    induction cs with
    |nil=>intro vs _ hh;rw[hh.inv0];exact HL.nil
    | cons x r ih=>
     intro vs hc hh
     cases x
     case sl c2 l2=>
      obtain⟨w,ws,rfl,w1,w2⟩:=hh.inv
      rw[w1.iv_inv.2]
      exact HL.cons (hc 0 c2 l2 rfl) (ih ws (fun p c3 l3 hp=>hc (p+1) c3 l3 hp) w2)
     all_goals
      obtain⟨w,ws,rfl,w1,w2⟩:=hh.inv
      exact HL.cons w1 (ih ws (fun p c3 l3 hp=>hc (p+1) c3 l3 hp) w2)
   refine go _ _ (fun p c2 l2 hp=>?_) hk3
   obtain rfl:=Aao h1 _ p c2 l2 hp
   rw[k1] at hp
   cases hp
   exact k2
  have hrow:=(NV h2 hel (fun g hg=> .inr ⟨0,by omega,hg⟩)).1
  refine⟨_,XM h hl (fun hx=>Aq8 (fun e=>by cases e) (fun e=>by cases e) (fun _=>hrow) (fun _ k hk=>?_) hF hx) (fun p hm=>hp p (List.mem_append.2 (.inl hm))) fun p hm=>hp p (List.mem_append.2 (.inr hm))⟩
  obtain⟨l',k1,k2⟩:=hin k hk
  unfold ivA Ae0
  rw[h1]
  simp only
  rw[k1]
  exact k2
 ·rename_i e c n l hl
  cases he
  exact⟨_,Aq7 h hl hp⟩
end
end Go.Proofs.YtifkbgkbajncjaaDoor
namespace Go.Proofs.YtifkbgkbajncjaaDoor
open Go.RowKit
def Py (s:St):Nat→Nat→Bool→Guards
 |0,u,b=>[(u,b)]
 |n+1,u,b=>(u,b)::match s.get u with
  |some (.opt v c _)=>Py s n v c
  |_=>[]
def OC (s:St) (G:Guards):Guards→List Prop
 | []=>[]
 | (u,b)::r=>match s.get u with
  |some x=>match x.strip G with
   |some (.v (.bool g))=>(g=b)::OC s G r
   |_=>OC s G r
  |none=>OC s G r
def A7z:List Prop→Prop→Prop
 | [],p=>p
 |q::r,p=>q→A7z r p
def P8 (qs:List Prop):List Prop→List Prop
 | []=>[]
 |p::r=>A7z qs p::P8 qs r
theorem At8:∀{qs:List Prop} {p:Prop},A7z qs p→(∀q∈qs,q)→p
 | [],_,h,_=>h
 |q::r,_,h,hq=>At8 (h (hq q (by simp))) fun q' h'=>hq q' (by simp[h'])
theorem JL {qs:List Prop}:∀{ps:List Prop},(∀p∈P8 qs ps,p)→(∀q∈qs,q)→∀p∈ps,p
 | [],_,_,_,h=>by cases h
 |p::r,hp,hq,p',hm=>by
  rcases List.mem_cons.1 hm with rfl|hm
  ·exact At8 (hp _ (List.mem_cons_self ..)) hq
  ·exact JL (ps:=r) (fun p h=>hp p (List.mem_cons_of_mem _ h)) hq p' hm
section
variable {Z:Base} {F:Nat→Prop} {N:Nm} {s:St} {a:Act} {R:World}
theorem Anw {u v:Nat} {b c:Bool} {G:Guards} (h:inG u b ((v,c)::G)=true):(u=v∧b=c)∨inG u b G=true:=by
 unfold inG at h
 cases hk:Nat.beq v u with
 |false=>rw[hk] at h;exact .inr h
 |true=>
  rw[hk] at h
  simp only[cond_true] at h
  cases hb:Ael c b with
  |false=>rw[hb] at h;exact .inr h
  |true=>exact .inl ⟨(Nat.eq_of_beq_eq_true hk).symm,(Rn hb).symm⟩
theorem Aom (h:Rel Z F N s a R) {u v:Nat} {b c:Bool} {x:A} (hg:s.get u=some (.opt v c x)) (hu:A1 a u=.bool b):A1 a v=.bool c:=by
 have hh:=h.slots u _ hg
 simp only[HS] at hh
 by_cases hc:A1 a v=.bool c
 ·exact hc
 ·have:=hh.2 hc
  rw[hu] at this
  cases this
theorem Ry (h:Rel Z F N s a R):∀(n u:Nat) (b:Bool),A1 a u=.bool b→KQ (A1 a) (Py s n u b)
 |0,u,b,hu,v,c,hv=>by
  rcases Anw hv with⟨rfl,rfl⟩|h'
  ·exact hu
  ·cases h'
 | n+1,u,b,hu,v,c,hv=>by
  unfold Py at hv
  rcases Anw hv with⟨rfl,rfl⟩|h'
  ·exact hu
  ·split at h'
   ·rename_i v' c' x hg
    exact Ry h n v' c' (Aom h hg hu) v c h'
   ·cases h'
theorem Nj (h:Rel Z F N s a R) {G:Guards} (hG:KQ (A1 a) G):∀{l:Guards},(∀e∈l,A1 a e.1=.bool e.2)→∀q∈OC s G l,q
 | [],_,_,hq=>by cases hq
 | (u,b)::r,hl,q,hq=>by
  have hr:∀e∈r,A1 a e.1=.bool e.2:=fun e he=>hl e (List.mem_cons_of_mem _ he)
  unfold OC at hq
  split at hq
  ·rename_i x hx
   split at hq
   ·rename_i g hg
    rcases List.mem_cons.1 hq with rfl|hq
    ·obtain⟨_,h2⟩:=Ad8 hG hg (h.slots u x hx)
     have h3:=hl (u,b) (List.mem_cons_self ..)
     rw[h2.v_inv] at h3
     injection h3
    ·exact Nj h hG hr q hq
   ·exact Nj h hG hr q hq
  ·exact Nj h hG hr q hq
theorem Aa6 (h:Rel Z F N s a R):∀(n u:Nat) (b:Bool),A1 a u=.bool b→∀e∈Py s n u b,A1 a e.1=.bool e.2
 |0,u,b,hu,e,he=>by
  obtain rfl:=List.mem_singleton.1 he
  exact hu
 | n+1,u,b,hu,e,he=>by
  unfold Py at he
  rcases List.mem_cons.1 he with rfl|he
  ·exact hu
  ·split at he
   ·rename_i v' c' x hg
    exact Aa6 h n v' c' (Aom h hg hu) e he
   ·cases he
end
structure Mv where
 l:Option Nat
 r:Option Nat
 m:Nat
 d:Bool
abbrev Mvs:=List Mv
def isO (i:Nat):Option Nat→Bool
 |some j=>Nat.beq j i
 |none=>false
theorem Ajj {i:Nat} {o:Option Nat} (h:isO i o=true):o=some i:=by
 cases o with
 |none=>cases h
 |some j=>rw[Nat.eq_of_beq_eq_true h]
def A11 (i:Nat):Mvs→Bool
 | []=>false
 |e::r=>bif isO i e.l then true else A11 i r
def A12 (i:Nat):Mvs→Bool
 | []=>false
 |e::r=>bif isO i e.r then true else A12 i r
def isNone:Option Nat→Bool
 |none=>true
 |_=>false
def Ani (i j:Nat):Mvs→Option Nat
 | []=>none
 |e::r=>bif isO i e.l&&isO j e.r then some e.m else Ani i j r
def Anj (d:Bool) (j:Nat):Mvs→Option Nat
 | []=>none
 |e::r=>bif isNone e.l&&(isO j e.r&&Ael e.d d) then some e.m else Anj d j r
def Anh (d:Bool) (i:Nat):Mvs→Option Nat
 | []=>none
 |e::r=>bif isO i e.l&&(isNone e.r&&Ael e.d d) then some e.m else Anh d i r
def Aue (d:Bool) (o:Objs) (i:Nat):Bool:=match Ak i o with
 |some (.arr _ _ _)=>!d
 |some (.deep _ _ _)=>d
 |some (.abs _ _ _)=>d
 |_=>false
abbrev RP:=Mvs×Nat
def A9a (d:Bool) (o1 o2:Objs) (i j:Nat) (c:RP):RP:=bif Nat.beq i j then c else
 bif A11 i c.1||A12 j c.1 then c else bif Aue d o1 i&&Aue d o2 j then(⟨some i,some j,c.2,d⟩::c.1,c.2+1) else c
def A9b (d:Bool) (o2:Objs) (j:Nat) (c:RP):RP:=bif A12 j c.1 then c else bif Aue d o2 j then(⟨none,some j,c.2,d⟩::c.1,c.2+1) else c
def A89 (d:Bool) (o1:Objs) (i:Nat) (c:RP):RP:=bif A11 i c.1 then c else bif Aue d o1 i then(⟨some i,none,c.2,d⟩::c.1,c.2+1) else c
def Mp (f:A→A→RP→RP):List A→List A→RP→RP
 |x::xs,y::ys,c=>Mp f xs ys (f x y c)
 |_,_,c=>c
def Sh (o1 o2:Objs):Nat→A→A→RP→RP
 |0,_,_,c=>c
 |d+1,x,y,c=>match x,y with
  | .sq i,.sq j=>A9a false o1 o2 i j c
  | .v x,.sq j=>bif C7 x then A9b false o2 j c else c
  | .sq i,.v y=>bif C7 y then A89 false o1 i c else c
  | .dq i,.dq j=>A9a true o1 o2 i j c
  | .v x,.dq j=>bif C7 x then A9b true o2 j c else c
  | .dq i,.v y=>bif C7 y then A89 true o1 i c else c
  | .agg xs,.agg ys=>Mp (Sh o1 o2 d) xs ys c
  | .tup xs,.tup ys=>Mp (Sh o1 o2 d) xs ys c
  | .fn _ xs us,.fn _ ys ws=>Mp (Sh o1 o2 d) us ws (Mp (Sh o1 o2 d) xs ys c)
  | .v (.agg xs),.agg ys=>Mp (Sh o1 o2 d) (toL xs.toList) ys c
  | .agg xs,.v (.agg ys)=>Mp (Sh o1 o2 d) xs (toL ys.toList) c
  | .v (.tuple xs),.tup ys=>Mp (Sh o1 o2 d) (toL xs.toList) ys c
  | .tup xs,.v (.tuple ys)=>Mp (Sh o1 o2 d) xs (toL ys.toList) c
  |_,_=>c
def Mu (M:Mvs):Nat→Bool→A→A→A
 |0,_,_,_=> .dead
 | d+1,g,x,y=>match(bif UI x y then ML x else x),(bif UI x y then ML y else y) with
  | .sq i,.sq j=>bif Nat.beq i j then .sq i else match Ani i j M with
   |some m=> .sq m
   |none=> .dead
  | .v x,.sq j=>bif C7 x then(match Anj false j M with
   |some m=> .sq m
   |none=> .dead) else .dead
  | .sq i,.v y=>bif C7 y then(match Anh false i M with
   |some m=> .sq m
   |none=> .dead) else .dead
  | .dq i,.dq j=>bif Nat.beq i j then .dq i else match Ani i j M with
   |some m=> .dq m
   |none=> .dead
  | .v x,.dq j=>bif C7 x then(match Anj true j M with
   |some m=> .dq m
   |none=> .dead) else .dead
  | .dq i,.v y=>bif C7 y then(match Anh true i M with
   |some m=> .dq m
   |none=> .dead) else .dead
  | .agg xs,.agg ys=>MZ (CL (Mu M d g) g xs ys)
  | .tup xs,.tup ys=> .tup (CL (Mu M d g) g xs ys)
  | .fn f xs us,.fn h ys ws=>bif Nat.beq f h then .fn f (CL (Mu M d g) g xs ys) (CL (Mu M d g) g us ws) else .dead
  | .vw i sz lo n _,.vw j sz' lo' n' _=>bif Nat.beq i j then(bif Nat.beq sz sz' then .vw i sz (bif g then lo else lo') (bif g then n else n') false else .dead) else .dead
  | .el i k sz off,.el j k' sz' off'=>bif Nat.beq i j then(bif Nat.beq sz sz' then(bif Nat.beq off off' then .el i (bif g then k else k') sz off else .dead) else .dead) else .dead
  |x,y=>Je 4 g x y
def Ka (M:Mvs) (g:Bool) (x y:A):A:=Mu M 5 g x y
def Aj1 (d:Bool):Value:=bif d then .agg #[.slice none 0 0] else .slice none 0 0
def Al5 (N:Nm) (nx:Nat) (sel:Mv→Option Nat) (M:Mvs):Prop:=∀e∈M,e.m <nx∧(∀i,sel e=some i→i <nx∧N.q e.m=N.q i)∧(sel e=none→N.q e.m=Aj1 e.d)
def Aso (g:Bool):Mv→Option Nat:=bif g then Mv.l else Mv.r
section
variable {F:Nat→Prop} {N:Nm} {nx:Nat} {R:World} {g:Bool} {M:Mvs}
theorem Wq {i j m:Nat}:∀{M:Mvs},Ani i j M=some m→∃e∈M,e.l=some i∧e.r=some j∧e.m=m
 | [],h=>by cases h
 | e::r,h=>by
  unfold Ani at h
  cases hb:(isO i e.l&&isO j e.r) with
  |true=>
   rw[hb] at h
   cases h
   rw[Bool.and_eq_true] at hb
   exact⟨e,List.mem_cons_self ..,Ajj hb.1,Ajj hb.2,rfl⟩
  |false=>
   rw[hb] at h
   obtain⟨e',h1,h2⟩:=Wq (M:=r) h
   exact⟨e',List.mem_cons_of_mem _ h1,h2⟩
theorem Ag5 {o:Option Nat} (h:isNone o=true):o=none:=by cases o<;>first|rfl|cases h
theorem Wr {d:Bool} {j m:Nat}:∀{M:Mvs},Anj d j M=some m→∃e∈M,e.l=none∧e.r=some j∧e.m=m∧e.d=d
 | [],h=>by cases h
 | e::r,h=>by
  unfold Anj at h
  cases hb:(isNone e.l&&(isO j e.r&&Ael e.d d)) with
  |true=>
   rw[hb] at h
   cases h
   rw[Bool.and_eq_true,Bool.and_eq_true] at hb
   exact⟨e,List.mem_cons_self ..,Ag5 hb.1,Ajj hb.2.1,rfl,Rn hb.2.2⟩
  |false=>
   rw[hb] at h
   obtain⟨e',h1,h2⟩:=Wr (M:=r) h
   exact⟨e',List.mem_cons_of_mem _ h1,h2⟩
theorem Wp {d:Bool} {j m:Nat}:∀{M:Mvs},Anh d j M=some m→∃e∈M,e.l=some j∧e.r=none∧e.m=m∧e.d=d
 | [],h=>by cases h
 | e::r,h=>by
  unfold Anh at h
  cases hb:(isO j e.l&&(isNone e.r&&Ael e.d d)) with
  |true=>
   rw[hb] at h
   cases h
   rw[Bool.and_eq_true,Bool.and_eq_true] at hb
   exact⟨e,List.mem_cons_self ..,Ajj hb.1,Ag5 hb.2.1,rfl,Rn hb.2.2⟩
  |false=>
   rw[hb] at h
   obtain⟨e',h1,h2⟩:=Wp (M:=r) h
   exact⟨e',List.mem_cons_of_mem _ h1,h2⟩
theorem Hv.sq_as {i m:Nat} {v:Value} (h:Hv F N nx R (.sq i) v) (hm:m <nx) (e:N.q m=N.q i):Hv F N nx R (.sq m) v:=by
 rw[h.sq_inv.2,←e]
 exact .sq hm
theorem Hv.dq_as {i m:Nat} {v:Value} (h:Hv F N nx R (.dq i) v) (hm:m <nx) (e:N.q m=N.q i):Hv F N nx R (.dq m) v:=by
 rw[h.dq_inv.2,←e]
 exact .dq hm
theorem Aha (hM:Al5 N nx (Aso g) M):∀(d:Nat) {x y:A} {v:Value},Hv F N nx R (bif g then x else y) v→Hv F N nx R (Mu M d g x y) v
 |0,_,_,_,_=> .dead _
 | d +1,x,y,v,h=>by
  have ih:∀{x y v},Hv F N nx R (bif g then x else y) v→Hv F N nx R (Mu M d g x y) v:=fun h=>Aha hM d h
  have h':Hv F N nx R (bif g then(bif UI x y then ML x else x) else(bif UI x y then ML y else y)) v:=by
   cases UI x y with
   |false=>exact h
   |true=>cases g<;>exact Ahz h
  unfold Mu
  generalize (bif UI x y then ML x else x)=x' at*
  generalize (bif UI x y then ML y else y)=y' at*
  clear h
  have h:=h'
  clear h'
  split
  ·rename_i i j
   cases h1:Nat.beq i j with
   |true=>
    obtain rfl:=Nat.eq_of_beq_eq_true h1
    cases g<;>exact h
   | false=>
    simp only[cond_false]
    split
    ·rename_i m hm
     obtain⟨e,h2,h3,h4,rfl⟩:=Wq hm
     obtain⟨k1,k2,_⟩:=hM e h2
     cases g with
     |true=>exact Hv.sq_as h k1 (k2 i h3).2
     |false=>exact Hv.sq_as h k1 (k2 j h4).2
    ·exact .dead _
  ·rename_i x j
   cases hx:C7 x with
   |false=>exact .dead _
   | true=>
    obtain rfl:=Fi hx
    simp only[cond_true]
    split
    ·rename_i m hm
     obtain⟨e,h2,h3,h4,rfl,h9⟩:=Wr hm
     obtain⟨k1,k2,k3⟩:=hM e h2
     cases g with
     |true=>
      have k4:=k3 h3
      rw[h9] at k4
      rw[h.v_inv,show Value.slice none 0 0=N.q e.m from k4.symm]
      exact .sq k1
     |false=>exact Hv.sq_as h k1 (k2 j h4).2
    ·exact .dead _
  ·rename_i i y
   cases hx:C7 y with
   |false=>exact .dead _
   | true=>
    obtain rfl:=Fi hx
    simp only[cond_true]
    split
    ·rename_i m hm
     obtain⟨e,h2,h3,h4,rfl,h9⟩:=Wp hm
     obtain⟨k1,k2,k3⟩:=hM e h2
     cases g with
     |true=>exact Hv.sq_as h k1 (k2 i h3).2
     |false=>
      have k4:=k3 h4
      rw[h9] at k4
      rw[h.v_inv,show Value.slice none 0 0=N.q e.m from k4.symm]
      exact .sq k1
    ·exact .dead _
  ·rename_i i j
   cases h1:Nat.beq i j with
   |true=>
    obtain rfl:=Nat.eq_of_beq_eq_true h1
    cases g<;>exact h
   | false=>
    simp only[cond_false]
    split
    ·rename_i m hm
     obtain⟨e,h2,h3,h4,rfl⟩:=Wq hm
     obtain⟨k1,k2,_⟩:=hM e h2
     cases g with
     |true=>exact Hv.dq_as h k1 (k2 i h3).2
     |false=>exact Hv.dq_as h k1 (k2 j h4).2
    ·exact .dead _
  ·rename_i x j
   cases hx:C7 x with
   |false=>exact .dead _
   | true=>
    obtain rfl:=Fi hx
    simp only[cond_true]
    split
    ·rename_i m hm
     obtain⟨e,h2,h3,h4,rfl,h9⟩:=Wr hm
     obtain⟨k1,k2,k3⟩:=hM e h2
     cases g with
     |true=>
      have k4:=k3 h3
      rw[h9] at k4
      have hdq:Hv F N nx R (.dq e.m) (J2 (N.q e.m) 0):=.dq k1
      have hf:J2 (N.q e.m) 0=.slice none 0 0:=by rw[k4];rfl
      rw[hf] at hdq
      rw[h.v_inv]
      exact hdq
     |false=>exact Hv.dq_as h k1 (k2 j h4).2
    ·exact .dead _
  ·rename_i i y
   cases hx:C7 y with
   |false=>exact .dead _
   | true=>
    obtain rfl:=Fi hx
    simp only[cond_true]
    split
    ·rename_i m hm
     obtain⟨e,h2,h3,h4,rfl,h9⟩:=Wp hm
     obtain⟨k1,k2,k3⟩:=hM e h2
     cases g with
     |true=>exact Hv.dq_as h k1 (k2 i h3).2
     |false=>
      have k4:=k3 h4
      rw[h9] at k4
      have hdq:Hv F N nx R (.dq e.m) (J2 (N.q e.m) 0):=.dq k1
      have hf:J2 (N.q e.m) 0=.slice none 0 0:=by rw[k4];rfl
      rw[hf] at hdq
      rw[h.v_inv]
      exact hdq
    ·exact .dead _
  ·rename_i xs ys
   have h':Hv F N nx R (.agg (bif g then xs else ys)) v:=by cases g<;>exact h
   obtain⟨vs,rfl,h2⟩:=h'.agg_inv
   exact N9 (Fy ih h2)
  ·rename_i xs ys
   have h':Hv F N nx R (.tup (bif g then xs else ys)) v:=by cases g<;>exact h
   obtain⟨vs,rfl,h2⟩:=h'.tup_inv
   exact Hv.of_tup (Fy ih h2)
  ·rename_i f xs us h0 ys ws
   cases h1:Nat.beq f h0 with
   |false=>exact .dead _
   |true=>
    obtain rfl:=Nat.eq_of_beq_eq_true h1
    have h':Hv F N nx R (.fn f (bif g then xs else ys) (bif g then us else ws)) v:=by cases g<;>exact h
    obtain⟨vs,ks,rfl,h2,h3⟩:=h'.fn_inv
    exact Hv.of_fn (Fy ih h2) (Fy ih h3)
  ·rename_i i sz lo n f j sz' lo' n' f'
   cases h1:Nat.beq i j with
   |false=>exact .dead _
   | true=>
    cases h2:Nat.beq sz sz' with
    |false=>exact .dead _
    | true=>
     obtain rfl:=Nat.eq_of_beq_eq_true h1
     obtain rfl:=Nat.eq_of_beq_eq_true h2
     cases g with
     |true=>
      obtain⟨k1,a,c,rfl,k2,_,k4⟩:=h.vw_inv
      exact .vw k1 k2 (fun e=>by cases e) k4
     |false=>
      obtain⟨k1,a,c,rfl,k2,_,k4⟩:=h.vw_inv
      exact .vw k1 k2 (fun e=>by cases e) k4
  ·rename_i i k sz off j k' sz' off'
   cases h1:Nat.beq i j with
   |false=>exact .dead _
   | true=>
    cases h2:Nat.beq sz sz' with
    |false=>exact .dead _
    | true=>
     cases h3:Nat.beq off off' with
     |false=>exact .dead _
     |true=>
      obtain rfl:=Nat.eq_of_beq_eq_true h1
      obtain rfl:=Nat.eq_of_beq_eq_true h2
      obtain rfl:=Nat.eq_of_beq_eq_true h3
      cases g<;>exact h
  ·exact RA 4 h
theorem RB (hM:Al5 N nx (Aso g) M) {x y:A} {v:Value} (h:Hv F N nx R (bif g then x else y) v):Hv F N nx R (Ka M g x y) v:=by
 exact Aha hM 5 h
end
def Abw (M:Mvs) (g:Bool):Els→Els→Option Els
 | .ty c l,.ty c' l'=>match TC.same c' c with
  |some h=>some (.ty c (bif g then l else IX h.down l'))
  |none=>none
 | .lst cs,.ty c l=>match Am3 c cs with
  |some (l',[])=>some (.ty c (bif g then l' else l))
  |_=>none
 | .ty c l,.lst cs=>match Am3 c cs with
  |some (l',[])=>some (.ty c (bif g then l else l'))
  |_=>none
 | .lst xs,.lst ys=>bif Nat.beq xs.length ys.length then some (.lst ((xs.zip ys).map fun p=>CL (Ka M g) g p.1 p.2)) else none
def Aun (M:Mvs) (g:Bool) (x y:A):Option A:=match x,y with
 | .av c n l,.av c' n' l'=>match TC.same c' c with
  |some h=>bif Nat.beq n n' then some (.av c n (bif g then l else IX h.down l')) else none
  |none=>none
 |x,y=>bif HH x||HH y||HH (Ka M g x y) then none else some (Ka M g x y)
def ZR (M:Mvs) (g:Bool):List A→List A→Option (List A)
 | [],[]=>some []
 | x::xs,y::ys=>match ZR M g xs ys with
  |some r=>match Aun M g x y with
   |some z=>some (z::r)
   |none=>none
  |none=>none
 |_,_=>none
def z0:TC→Value→Bool
 | .u8,.int .u8 n=>n==0
 | .u32,.int .u32 n=>n==0
 | .i64,.int .i64 n=>n==0
 | .bool,.bool b=>!b
 |_,_=>false
def S4 (c:TC):List A→Bool
 | []=>true
 | .v x::r=>z0 c x&&S4 c r
 |_=>false
theorem Ban {c:TC} {x:Value} (h:z0 c x=true):x=sv c (Aj c):=by
 unfold z0 at h
 split at h<;>first|(cases h;done)|skip
 ·rw[eq_of_beq h];rfl
 ·rw[eq_of_beq h];rfl
 ·rw[eq_of_beq h];rfl
 ·rename_i b
  cases b with
  |true=>cases h
  |false=>rfl
theorem Aej {F:Nat→Prop} {N:Nm} {nx:Nat} {R:World} {c:TC}:∀{cs:List A} {vs:List Value},HL F N nx R cs vs→S4 c cs=true→vs=(List.replicate cs.length (Aj c)).map (sv c)
 | [],_,h,_=>h.inv0
 |x::r,vs,h,hz=>by
  obtain⟨v,us,rfl,h1,h2⟩:=h.inv
  cases x<;>first|(cases hz;done)|skip
  unfold S4 at hz
  rw[Bool.and_eq_true] at hz
  rw[List.length_cons,List.replicate_succ,List.map_cons,←Aej h2 hz.2,h1.v_inv,Ban hz.1]
theorem Apv {F:Nat→Prop} {N:Nm} {nx:Nat} {R:World} {i:Nat} {e:TypeId} {c:TC} {n:Nat} {cs:List A} (h:ObR F N nx R i (.box e cs)) (hb:(Nat.beq cs.length n&&(c.one&&S4 c cs))=true):ObR F N nx R i (.rcd e [.av c n (List.replicate n (Aj c))]):=by
 simp only[Bool.and_eq_true] at hb
 obtain⟨b1,b2,b3⟩:=hb
 obtain rfl:=Nat.eq_of_beq_eq_true b1
 obtain⟨vs,h1,h2⟩:=h
 refine⟨vs,⟨.agg ((List.replicate cs.length (Aj c)).map (sv c)).toArray,[],?_,.av b2 (by rw[List.length_replicate]),fun e=>(by cases e),rfl⟩,h2⟩
 rw[Aej h1 b3]
 simp[Value.cells]
def Ajt (M:Mvs) (g:Bool):Ob→Ob→Option Ob
 | .box e cs,.box e' cs'=>bif Nat.beq e e' then some (.box e (CL (Ka M g) g cs cs')) else none
 | .arr e sz els,.arr e' sz' els'=>bif Nat.beq e e' then(bif Nat.beq sz sz' then(match Abw M g els els' with
  |some r=>some (.arr e sz r)
  |none=>none) else none) else none
 | .map k v l,.map k' v' l'=>match TC.same k' k,TC.same v' v with
  |some h,some h'=>some (.map k v (bif g then l else(h.down▸h'.down▸l':List (U k×U v))))
  |_,_=>none
 | .sit b p,.sit b' p'=>some (.sit (bif g then b else b') (bif g then p else p'))
 | .deep e c l,.deep e' c' l'=>match TC.same c' c with
  |some h=>bif Nat.beq e e' then some (.deep e c (bif g then l else IX h.down l')) else none
  |none=>none
 | .rcd e xs,.rcd e' xs'=>bif Nat.beq e e' then(match ZR M g xs xs' with
  |some r=>some (.rcd e r)
  |none=>none) else none
 | .abs m c l,.abs m' c' l'=>match TC.same c' c with
  |some h=>bif Nat.beq m m' then some (.abs m c (bif g then l else IX h.down l')) else none
  |none=>none
 | .box e cs,.rcd e' [.av c n l]=>bif Nat.beq e e'&&(Nat.beq cs.length n&&(c.one&&S4 c cs)) then some (.rcd e [.av c n (bif g then List.replicate n (Aj c) else l)]) else none
 | .rcd e' [.av c n l],.box e cs=>bif Nat.beq e e'&&(Nat.beq cs.length n&&(c.one&&S4 c cs)) then some (.rcd e [.av c n (bif g then l else List.replicate n (Aj c))]) else none
 |_,_=>none
section
variable {F:Nat→Prop} {N:Nm} {nx:Nat} {R:World} {g:Bool} {M:Mvs} {size:Nat}
theorem Abx (hM:Al5 N nx (Aso g) M):∀{xs ys r:List A} {us:List Value},ZR M g xs ys=some r→HW F N nx R (bif g then xs else ys) us→HW F N nx R r us
 | [],[],_,_,he,h=>by cases he;cases g<;>exact h
 | [],_::_,_,_,he,_=>by cases he
 |_::_,[],_,_,he,_=>by cases he
 | x::xs,y::ys,r,us,he,h=>by
  unfold ZR at he
  split at he<;>first|(cases he;done)|skip
  rename_i t ht
  split at he<;>first|(cases he;done)|skip
  rename_i z hz
  cases he
  obtain⟨v,ts,h1,h2,h3,h4⟩:HW F N nx R ((bif g then x else y)::(bif g then xs else ys)) us:=by cases g<;>exact h
  refine⟨v,ts,h1,?_⟩
  have hrest:=Abx hM ht h4
  unfold Aun at hz
  split at hz
  ·rename_i c n l c' n' l'
   split at hz<;>first|(cases hz;done)|skip
   rename_i hh _
   obtain⟨hh⟩:=hh
   subst hh
   cases hb:Nat.beq n n' with
   |false=>rw[hb] at hz;cases hz
   |true=>
    rw[hb] at hz
    cases hz
    obtain rfl:=Nat.eq_of_beq_eq_true hb
    exact⟨by cases g<;>exact h2,fun e=>(by cases e),hrest⟩
  ·cases hb:HH x||HH y||HH (Ka M g x y) with
   |true=>rw[hb] at hz;cases hz
   |false=>
    rw[hb] at hz
    cases hz
    refine⟨RB hM h2,fun _=>h3 ?_,hrest⟩
    rw[Bool.or_eq_false_iff,Bool.or_eq_false_iff] at hb
    cases g
    ·exact hb.1.2
    ·exact hb.1.1
theorem Aod (hM:Al5 N nx (Aso g) M) {x y r:Els} {zs:List Value} (he:Abw M g x y=some r) (h:RowHL F N nx R (bif g then x else y) size zs):r.n=(bif g then x else y).n∧RowHL F N nx R r size zs:=by
 unfold Abw at he
 split at he
 ·rename_i c l c' l'
  split at he<;>first|(cases he;done)|skip
  rename_i h1 _
  obtain⟨h1⟩:=h1
  subst h1
  cases he
  cases g<;>exact⟨rfl,h⟩
 ·rename_i cs c l
  split at he<;>first|(cases he;done)|skip
  rename_i l' hl
  cases he
  cases g with
  |false=>exact⟨rfl,h⟩
  |true=>exact⟨(Rt (F:=F) (N:=N) (nx:=nx) (R:=R) hl (fun p hp=>by cases hp)).1,RowHL.ty (els:=.lst cs) h hl (fun p hp=>by cases hp)⟩
 ·rename_i c l cs
  split at he<;>first|(cases he;done)|skip
  rename_i l' hl
  cases he
  cases g with
  |true=>exact⟨rfl,h⟩
  |false=>exact⟨(Rt (F:=F) (N:=N) (nx:=nx) (R:=R) hl (fun p hp=>by cases hp)).1,RowHL.ty (els:=.lst cs) h hl (fun p hp=>by cases hp)⟩
 ·rename_i xs ys
  cases hb:Nat.beq xs.length ys.length with
  |false=>rw[hb] at he;cases he
  | true=>
   rw[hb] at he
   cases he
   have hlen:=Nat.eq_of_beq_eq_true hb
   have hz:((xs.zip ys).map fun p=>CL (Ka M g) g p.1 p.2).length=xs.length:=by rw[List.length_map,List.length_zip];omega
   have hn:(Els.lst ((xs.zip ys).map fun p=>CL (Ka M g) g p.1 p.2)).n=(bif g then Els.lst xs else Els.lst ys).n:=by
    show List.length _=_
    rw[hz]
    cases g with
    |true=>rfl
    |false=>exact hlen
   refine⟨hn,by rw[hn];exact h.1,fun k hk=>?_⟩
   rw[hn] at hk
   have h2:=h.2 k hk
   have hkx:k <xs.length:=by cases g with
    |true=>exact hk
    |false=>have:k <ys.length:=hk;omega
   have hky:k <ys.length:=by omega
   show HL F N nx R (GV _ k) _
   rw[CX,List.getD_eq_getElem?_getD,List.getElem?_map]
   have e1:(xs.zip ys)[k]?=some (xs[k],ys[k]):=by
    rw[List.getElem?_zip_eq_some]
    exact⟨List.getElem?_eq_getElem hkx,List.getElem?_eq_getElem hky⟩
   rw[e1]
   show HL F N nx R (CL (Ka M g) g xs[k] ys[k]) _
   refine Fy (fun hh=>RB hM hh) ?_
   have e2:(bif g then Els.lst xs else Els.lst ys).nth k=bif g then xs[k] else ys[k]:=by
    cases g with
    |true=>show GV xs k=xs[k];rw[CX,List.getD_eq_getElem?_getD,List.getElem?_eq_getElem hkx];rfl
    |false=>show GV ys k=ys[k];rw[CX,List.getD_eq_getElem?_getD,List.getElem?_eq_getElem hky];rfl
   rw[e2] at h2
   exact h2
theorem Aro (hM:Al5 N nx (Aso g) M) {i:Nat} {x y r:Ob} (he:Ajt M g x y=some r):(ObR F N nx R i (bif g then x else y)→ObR F N nx R i r)∧∀gg,foot N i r gg↔foot N i (bif g then x else y) gg:=by
 unfold Ajt at he
 split at he<;>first|(cases he;done)|skip
 ·rename_i e cs e' cs'
  cases hb:Nat.beq e e' with
  |false=>rw[hb] at he;cases he
  |true=>
   rw[hb] at he
   cases he
   obtain rfl:=Nat.eq_of_beq_eq_true hb
   refine⟨fun h=>?_,fun gg=>by cases g<;>exact Iff.rfl⟩
   have h':ObR F N nx R i (.box e (bif g then cs else cs')):=by cases g<;>exact h
   obtain⟨vs,h1,h2⟩:=h'
   exact⟨vs,Fy (fun hh=>RB hM hh) h1,h2⟩
 ·rename_i e sz els e' sz' els'
  cases hb:Nat.beq e e' with
  |false=>rw[hb] at he;cases he
  | true=>
   cases hb2:Nat.beq sz sz' with
   |false=>rw[hb,hb2] at he;cases he
   |true=>
    rw[hb,hb2] at he
    simp only[cond_true] at he
    split at he<;>first|(cases he;done)|skip
    rename_i r' hr
    cases he
    obtain rfl:=Nat.eq_of_beq_eq_true hb
    obtain rfl:=Nat.eq_of_beq_eq_true hb2
    refine⟨fun h=>?_,fun gg=>by cases g<;>exact Iff.rfl⟩
    have h':ObR F N nx R i (.arr e sz (bif g then els else els')):=by cases g<;>exact h
    obtain⟨zs,h1,h2⟩:=h'
    obtain⟨k1,k2⟩:=Aod hM hr ⟨h1.1,h2⟩
    exact⟨zs,by rw[k1];exact h1,k2.2⟩
 ·rename_i k v l k' v' l'
  split at he<;>first|(cases he;done)|skip
  rename_i h1 h2 _ _
  obtain⟨h1⟩:=h1
  obtain⟨h2⟩:=h2
  subst h1 h2
  cases he
  exact⟨fun h=>by cases g<;>exact h,fun gg=>by cases g<;>exact Iff.rfl⟩
 ·cases he
  exact⟨fun h=>by cases g<;>exact h,fun gg=>by cases g<;>exact Iff.rfl⟩
 ·rename_i e c l e' c' l'
  split at he<;>first|(cases he;done)|skip
  rename_i h1 _
  obtain⟨h1⟩:=h1
  subst h1
  cases hb:Nat.beq e e' with
  |false=>rw[hb] at he;cases he
  |true=>
   rw[hb] at he
   cases he
   obtain rfl:=Nat.eq_of_beq_eq_true hb
   exact⟨fun h=>by cases g<;>exact h,fun gg=>by cases g<;>exact Iff.rfl⟩
 ·rename_i e xs e' xs'
  cases hb:Nat.beq e e' with
  |false=>rw[hb] at he;cases he
  |true=>
   rw[hb] at he
   simp only[cond_true] at he
   split at he<;>first|(cases he;done)|skip
   rename_i r' hr
   cases he
   obtain rfl:=Nat.eq_of_beq_eq_true hb
   refine⟨fun h=>?_,fun gg=>by cases g<;>exact Iff.rfl⟩
   have h':ObR F N nx R i (.rcd e (bif g then xs else xs')):=by cases g<;>exact h
   obtain⟨us,h1,h2⟩:=h'
   exact⟨us,Abx hM hr h1,h2⟩
 ·rename_i m c l m' c' l'
  split at he<;>first|(cases he;done)|skip
  rename_i h1 _
  obtain⟨h1⟩:=h1
  subst h1
  cases hb:Nat.beq m m' with
  |false=>rw[hb] at he;cases he
  |true=>
   rw[hb] at he
   cases he
   obtain rfl:=Nat.eq_of_beq_eq_true hb
   exact⟨fun h=>by cases g<;>exact h,fun gg=>by cases g<;>exact Iff.rfl⟩
 ·rename_i e cs e' c n l
  cases hb:(Nat.beq e e'&&(Nat.beq cs.length n&&(c.one&&S4 c cs))) with
  |false=>rw[hb] at he;cases he
  |true=>
   rw[hb] at he
   cases he
   rw[Bool.and_eq_true] at hb
   obtain rfl:=Nat.eq_of_beq_eq_true hb.1
   refine⟨fun h=>?_,fun gg=>by cases g<;>exact Iff.rfl⟩
   cases g with
   |true=>exact Apv h hb.2
   |false=>exact h
 ·rename_i e' c n l e cs
  cases hb:(Nat.beq e e'&&(Nat.beq cs.length n&&(c.one&&S4 c cs))) with
  |false=>rw[hb] at he;cases he
  |true=>
   rw[hb] at he
   cases he
   rw[Bool.and_eq_true] at hb
   obtain rfl:=Nat.eq_of_beq_eq_true hb.1
   refine⟨fun h=>?_,fun gg=>by cases g<;>exact Iff.rfl⟩
   cases g with
   |true=>exact h
   |false=>exact Apv h hb.2
end
def mvS (sel oth:Mv→Option Nat) (oo:Objs):Mvs→Nat→Objs→Option (Nat×Objs)
 | [],nx,o=>some (nx,o)
 | e ::r,nx,o=>match mvS sel oth oo r nx o with
  | some (nx',o')=>bif Nat.ble nx' e.m then(match sel e with
   |some i=>match Ak i o' with
    |some (.arr t sz els)=>bif Nat.blt i nx' then some (e.m+1,(i,none)::(e.m,some (.arr t sz els))::o') else none
    |some (.deep t c l)=>bif Nat.blt i nx' then some (e.m+1,(i,none)::(e.m,some (.deep t c l))::o') else none
    |some (.abs t c l)=>bif Nat.blt i nx' then some (e.m+1,(i,none)::(e.m,some (.abs t c l))::o') else none
    |_=>none
   | none=>match oth e with
    | some j=>match Ak j oo with
     |some (.arr t sz _)=>bif e.d then none else some (e.m+1,(e.m,some (.arr t sz (.lst [])))::o')
     |some (.deep t c _)=>match PO c with
      |some _=>bif e.d then some (e.m+1,(e.m,some (.deep t c []))::o') else none
      |none=>none
     |_=>none
    |none=>none) else none
  |none=>none
section
variable {F:Nat→Prop} {N:Nm} {nx:Nat} {o:Objs} {R:World}
theorem HRel.move (h:HRel F N nx o R) {i m:Nat} {ob0:Ob} (hl:Ak i o=some ob0) (hm:nx≤m) (hob:Ext F N nx R F (N.setQ m (N.q i)) (m+1) R→(N.setQ m (N.q i)).q m=N.q i→ObR F N nx R i ob0→ObR F (N.setQ m (N.q i)) (m+1) R m ob0) (fm0:(N.setQ m (N.q i)).q m=N.q i→∀g,foot (N.setQ m (N.q i)) m ob0 g→foot N i ob0 g):
  HRel F (N.setQ m (N.q i)) (m+1) ((i,none)::(m,some ob0)::o) R∧Step F N nx o R F (N.setQ m (N.q i)) (m+1) ((i,none)::(m,some ob0)::o) R:=by
 have hq:∀k,k <nx→(N.setQ m (N.q i)).q k=N.q k:=fun k hk=>BY N.q _ (by omega)
 have hqm:(N.setQ m (N.q i)).q m=N.q i:=A3 N.q m _
 have st:Ext F N nx R F (N.setQ m (N.q i)) (m+1) R:=⟨by omega,fun _ _=>rfl,hq,fun _ h=>h,fun _ _=>rfl⟩
 have cases_:∀k ob,Ak k ((i,none)::(m,some ob0)::o)=some ob→(k=m∧k≠i∧ob=ob0)∨(k≠m∧k≠i∧Ak k o=some ob):=fun k ob hk=>by
  rw[AE] at hk
  by_cases hki:k=i
  ·rw[if_pos hki] at hk;cases hk
  ·rw[if_neg hki,AE] at hk
   by_cases hkm:k=m
   ·rw[if_pos hkm] at hk;cases hk;exact .inl ⟨hkm,hki,rfl⟩
   ·rw[if_neg hkm] at hk;exact .inr ⟨hkm,hki,hk⟩
 have fm:=fm0 hqm
 have fo:∀k ob g,Ak k o=some ob→foot (N.setQ m (N.q i)) k ob g→foot N k ob g:=fun k ob g hk hg=>(Dw st (h.ob k ob hk).1).1 hg
 refine⟨⟨h.flt,fun k ob hk=>?_,fun k ob g hk hg=>?_,fun j k x y g hj hk hx hy=>?_,h.gl⟩,by omega,fun _ _=>rfl,hq,fun _ h=>h,fun _ h=> .inl h,fun g ⟨k,ob,hk,hg⟩=>?_,rfl,rfl,rfl,Nat.le_refl _,fun _ _ _=>rfl⟩
 ·rcases cases_ k ob hk with⟨rfl,_,rfl⟩|⟨_,_,hk'⟩
  ·exact⟨Nat.lt_succ_self _,hob st hqm (h.ob i _ hl).2⟩
  ·obtain⟨h1,h2⟩:=h.ob k ob hk'
   exact⟨by omega,h2.step st h1 fun _ _=>rfl⟩
 ·rcases cases_ k ob hk with⟨rfl,_,rfl⟩|⟨_,_,hk'⟩
  ·exact h.ff i _ g hl (fm g hg)
  ·exact h.ff k ob g hk' (fo k ob g hk' hg)
 ·rcases cases_ j x hj with⟨rfl,hji,rfl⟩|⟨hjm,hji,hj'⟩
  ·rcases cases_ k y hk with⟨rfl,_,_⟩|⟨hkm,hki,hk'⟩
   ·rfl
   ·exact absurd (h.sep i k _ y g hl hk' (fm g hx) (fo k y g hk' hy)).symm hki
  ·rcases cases_ k y hk with⟨rfl,hki,rfl⟩|⟨hkm,hki,hk'⟩
   ·exact absurd (h.sep j i x _ g hj' hl (fo j x g hj' hx) (fm g hy)) hji
   ·exact h.sep j k x y g hj' hk' (fo j x g hj' hx) (fo k y g hk' hy)
 ·rcases cases_ k ob hk with⟨rfl,_,rfl⟩|⟨_,_,hk'⟩
  ·exact .inl ⟨i,_,hl,fm g hg⟩
  ·exact .inl ⟨k,ob,hk',fo k ob g hk' hg⟩
theorem HRel.moveR (h:HRel F N nx o R) {i m:Nat} {t:TypeId} {sz:Nat} {els:Els} (hl:Ak i o=some (.arr t sz els)) (hm:nx≤m):
  HRel F (N.setQ m (N.q i)) (m+1) ((i,none)::(m,some (.arr t sz els))::o) R∧Step F N nx o R F (N.setQ m (N.q i)) (m+1) ((i,none)::(m,some (.arr t sz els))::o) R:=
 h.move hl hm (fun st hqm ⟨zs,h1,h2⟩=>⟨zs,by rw[hqm];exact h1,fun j hj=>(h2 j hj).step st⟩) fun hqm g hg=>by
  have hg':BO ((N.setQ m (N.q i)).q m)=some g:=hg
  rw[hqm] at hg'
  exact hg'
theorem HRel.moveD (h:HRel F N nx o R) {i m:Nat} {t:TypeId} {c:TC} {l:List (U c)} (hl:Ak i o=some (.deep t c l)) (hm:nx≤m):
  HRel F (N.setQ m (N.q i)) (m+1) ((i,none)::(m,some (.deep t c l))::o) R∧Step F N nx o R F (N.setQ m (N.q i)) (m+1) ((i,none)::(m,some (.deep t c l))::o) R:=
 h.move hl hm (fun st hqm ⟨col,c',zs,h1,h2,h3,h4,h5⟩=>⟨col,c',zs,h1,by rw[hqm];exact h2,fun k d hd=>(h3 k d hd).moved st (Nat.lt_succ_self _) (by rw[hqm]),fun k d hd=>by
   obtain⟨l',e',us,k1,k2,k3⟩:=h4 k d hd
   exact⟨l',e',us,k1,by rw[hqm];exact k2,fun j hj=>(k3 j hj).step st⟩,by rw[hqm];exact h5⟩) fun hqm g ⟨k,hk,hg⟩=>⟨k,hk,by rw[hqm] at hg;exact hg⟩
theorem HRel.moveA (h:HRel F N nx o R) {i m:Nat} {t:Nat} {c:TC} {l:List (U c)} (hl:Ak i o=some (.abs t c l)) (hm:nx≤m):
  HRel F (N.setQ m (N.q i)) (m+1) ((i,none)::(m,some (.abs t c l))::o) R∧Step F N nx o R F (N.setQ m (N.q i)) (m+1) ((i,none)::(m,some (.abs t c l))::o) R:=
 h.move hl hm (fun _ hqm ⟨hh,h1,h2⟩=>⟨hh,by rw[hqm];exact h1,by rw[hqm];exact h2⟩) fun hqm g ⟨k,hg⟩=>⟨k,by rw[hqm] at hg;exact hg⟩
theorem HRel.nilG (h:HRel F N nx o R) {m:Nat} {ob0:Ob} (v:Value) (hm:nx≤m) (hob:(N.setQ m v).q m=v→ObR F (N.setQ m v) (m+1) R m ob0) (fm0:(N.setQ m v).q m=v→∀g,¬foot (N.setQ m v) m ob0 g):
  HRel F (N.setQ m v) (m+1) ((m,some ob0)::o) R∧Step F N nx o R F (N.setQ m v) (m+1) ((m,some ob0)::o) R:=by
 have hq:∀k,k <nx→(N.setQ m v).q k=N.q k:=fun k hk=>BY N.q _ (by omega)
 have hqm:(N.setQ m v).q m=v:=A3 N.q m _
 have st:Ext F N nx R F (N.setQ m v) (m+1) R:=⟨by omega,fun _ _=>rfl,hq,fun _ h=>h,fun _ _=>rfl⟩
 have cases_:∀k ob,Ak k ((m,some ob0)::o)=some ob→(k=m∧ob=ob0)∨(k≠m∧Ak k o=some ob):=fun k ob hk=>by
  rw[AE] at hk
  by_cases hkm:k=m
  ·rw[if_pos hkm] at hk;cases hk;exact .inl ⟨hkm,rfl⟩
  ·rw[if_neg hkm] at hk;exact .inr ⟨hkm,hk⟩
 have fm:=fm0 hqm
 have fo:∀k ob g,Ak k o=some ob→foot (N.setQ m v) k ob g→foot N k ob g:=fun k ob g hk hg=>(Dw st (h.ob k ob hk).1).1 hg
 refine⟨⟨h.flt,fun k ob hk=>?_,fun k ob g hk hg=>?_,fun j k x y g hj hk hx hy=>?_,h.gl⟩,by omega,fun _ _=>rfl,hq,fun _ h=>h,fun _ h=> .inl h,fun g ⟨k,ob,hk,hg⟩=>?_,rfl,rfl,rfl,Nat.le_refl _,fun _ _ _=>rfl⟩
 ·rcases cases_ k ob hk with⟨rfl,rfl⟩|⟨_,hk'⟩
  ·exact⟨Nat.lt_succ_self _,hob hqm⟩
  ·obtain⟨h1,h2⟩:=h.ob k ob hk'
   exact⟨by omega,h2.step st h1 fun _ _=>rfl⟩
 ·rcases cases_ k ob hk with⟨rfl,rfl⟩|⟨_,hk'⟩
  ·exact absurd hg (fm g)
  ·exact h.ff k ob g hk' (fo k ob g hk' hg)
 ·rcases cases_ j x hj with⟨rfl,rfl⟩|⟨hjm,hj'⟩
  ·exact absurd hx (fm g)
  ·rcases cases_ k y hk with⟨rfl,rfl⟩|⟨hkm,hk'⟩
   ·exact absurd hy (fm g)
   ·exact h.sep j k x y g hj' hk' (fo j x g hj' hx) (fo k y g hk' hy)
 ·rcases cases_ k ob hk with⟨rfl,rfl⟩|⟨_,hk'⟩
  ·exact absurd hg (fm g)
  ·exact .inl ⟨k,ob,hk',fo k ob g hk' hg⟩
theorem HRel.nilRow (h:HRel F N nx o R) {m:Nat} (t:TypeId) (sz:Nat) {els:Els} (he:els.n=0) (hm:nx≤m):
  HRel F (N.setQ m (.slice none 0 0)) (m+1) ((m,some (.arr t sz els))::o) R∧Step F N nx o R F (N.setQ m (.slice none 0 0)) (m+1) ((m,some (.arr t sz els))::o) R:=
 h.nilG _ hm (fun hqm=>⟨[],by rw[hqm];exact⟨by rw[he];simp,.inl ⟨none,rfl,he⟩⟩,fun j hj=>absurd hj (by omega)⟩) fun hqm g hg=>by
  have hg':BO ((N.setQ m (.slice none 0 0)).q m)=some g:=hg
  rw[hqm] at hg'
  cases hg'
theorem HRel.nilD (h:HRel F N nx o R) {m:Nat} (t:TypeId) {c:TC} {cc:Nat×TC} (hc:PO c=some cc) (hm:nx≤m):
  HRel F (N.setQ m (Aj1 true)) (m+1) ((m,some (.deep t c []))::o) R∧Step F N nx o R F (N.setQ m (Aj1 true)) (m+1) ((m,some (.deep t c []))::o) R:=
 h.nilG _ hm (fun hqm=>⟨cc.1,cc.2,[],hc,by rw[hqm];exact⟨by simp,.inl ⟨none,rfl,rfl⟩⟩,(fun k d hd=>by cases k<;>cases hd),(fun k d hd=>by cases k<;>cases hd),fun k k' g hk hk' _ _=>by simp at hk hk';omega⟩) fun hqm g ⟨k,hk,hg⟩=>by
  rw[hqm] at hg
  obtain rfl:k=0:=by simp at hk;omega
  cases hg
theorem Arq (h:HRel F N nx o R) {sel oth:Mv→Option Nat} {oo:Objs}:∀{M:Mvs} {nx':Nat} {o':Objs},mvS sel oth oo M nx o=some (nx',o')→
  ∃N',HRel F N' nx' o' R∧Step F N nx o R F N' nx' o' R∧Al5 N' nx' sel M∧∃d,o'=d++o
 | [],nx',o',he=>by cases he;exact⟨N,h,.refl,(fun e he=>by cases he),[],rfl⟩
 | e :: r,nx',o',he=>by
  unfold mvS at he
  split at he<;>first|(cases he;done)|skip
  rename_i nx1 o1 h1
  obtain⟨N1,k1,k2,k3,d,k4⟩:=Arq h h1
  cases hb:Nat.ble nx1 e.m with
  |false=>rw[hb] at he;cases he
  | true=>
   rw[hb] at he
   simp only[cond_true] at he
   have hm:=Nat.le_of_ble_eq_true hb
   split at he
   ·rename_i i hi
    split at he<;>first|(cases he;done)|skip
    ·rename_i t sz els hl
     cases hlt:Nat.blt i nx1 with
     |false=>rw[hlt] at he;cases he
     | true=>
      rw[hlt] at he
      cases he
      have hin:i <nx1:=Nat.le_of_ble_eq_true hlt
      obtain⟨q1,q2⟩:=k1.moveR hl hm
      refine⟨_,q1,k2.trans q2,fun e' he'=>?_,(i,none)::(e.m,some (.arr t sz els))::d,by rw[k4];rfl⟩
      rcases List.mem_cons.1 he' with rfl|he'
      ·refine⟨Nat.lt_succ_self _,fun i' hi'=>?_,fun hn=>?_⟩
       ·rw[hi] at hi'
        cases hi'
        refine⟨by omega,?_⟩
        show GM N1.q e'.m (N1.q i) e'.m=GM N1.q e'.m (N1.q i) i
        rw[A3,BY N1.q _ (by omega)]
       ·rw[hi] at hn;cases hn
      ·obtain⟨g1,g2,g3⟩:=k3 e' he'
       refine⟨by omega,fun i' hi'=>?_,fun hn=>?_⟩
       ·obtain⟨g4,g5⟩:=g2 i' hi'
        refine⟨by omega,?_⟩
        show GM N1.q e.m (N1.q i) e'.m=GM N1.q e.m (N1.q i) i'
        rw[BY N1.q _ (by omega:e'.m≠e.m),BY N1.q _ (by omega:i'≠e.m)]
        exact g5
       ·show GM N1.q e.m (N1.q i) e'.m=_
        rw[BY N1.q _ (by omega:e'.m≠e.m)];exact g3 hn
    ·rename_i t c l hl
     cases hlt:Nat.blt i nx1 with
     |false=>rw[hlt] at he;cases he
     | true=>
      rw[hlt] at he
      cases he
      have hin:i <nx1:=Nat.le_of_ble_eq_true hlt
      obtain⟨q1,q2⟩:=k1.moveD hl hm
      refine⟨_,q1,k2.trans q2,fun e' he'=>?_,(i,none)::(e.m,some (.deep t c l))::d,by rw[k4];rfl⟩
      rcases List.mem_cons.1 he' with rfl|he'
      ·refine⟨Nat.lt_succ_self _,fun i' hi'=>?_,fun hn=>?_⟩
       ·rw[hi] at hi'
        cases hi'
        refine⟨by omega,?_⟩
        show GM N1.q e'.m (N1.q i) e'.m=GM N1.q e'.m (N1.q i) i
        rw[A3,BY N1.q _ (by omega)]
       ·rw[hi] at hn;cases hn
      ·obtain⟨g1,g2,g3⟩:=k3 e' he'
       refine⟨by omega,fun i' hi'=>?_,fun hn=>?_⟩
       ·obtain⟨g4,g5⟩:=g2 i' hi'
        refine⟨by omega,?_⟩
        show GM N1.q e.m (N1.q i) e'.m=GM N1.q e.m (N1.q i) i'
        rw[BY N1.q _ (by omega:e'.m≠e.m),BY N1.q _ (by omega:i'≠e.m)]
        exact g5
       ·show GM N1.q e.m (N1.q i) e'.m=_
        rw[BY N1.q _ (by omega:e'.m≠e.m)];exact g3 hn
    ·rename_i t c l hl
     cases hlt:Nat.blt i nx1 with
     |false=>rw[hlt] at he;cases he
     | true=>
      rw[hlt] at he
      cases he
      have hin:i <nx1:=Nat.le_of_ble_eq_true hlt
      obtain⟨q1,q2⟩:=k1.moveA hl hm
      refine⟨_,q1,k2.trans q2,fun e' he'=>?_,(i,none)::(e.m,some (.abs t c l))::d,by rw[k4];rfl⟩
      rcases List.mem_cons.1 he' with rfl|he'
      ·refine⟨Nat.lt_succ_self _,fun i' hi'=>?_,fun hn=>?_⟩
       ·rw[hi] at hi'
        cases hi'
        refine⟨by omega,?_⟩
        show GM N1.q e'.m (N1.q i) e'.m=GM N1.q e'.m (N1.q i) i
        rw[A3,BY N1.q _ (by omega)]
       ·rw[hi] at hn;cases hn
      ·obtain⟨g1,g2,g3⟩:=k3 e' he'
       refine⟨by omega,fun i' hi'=>?_,fun hn=>?_⟩
       ·obtain⟨g4,g5⟩:=g2 i' hi'
        refine⟨by omega,?_⟩
        show GM N1.q e.m (N1.q i) e'.m=GM N1.q e.m (N1.q i) i'
        rw[BY N1.q _ (by omega:e'.m≠e.m),BY N1.q _ (by omega:i'≠e.m)]
        exact g5
       ·show GM N1.q e.m (N1.q i) e'.m=_
        rw[BY N1.q _ (by omega:e'.m≠e.m)];exact g3 hn
   ·rename_i hi
    split at he<;>first|(cases he;done)|skip
    rename_i j hj
    split at he<;>first|(cases he;done)|skip
    ·rename_i t sz els hl
     cases hed:e.d with
     |true=>rw[hed] at he;cases he
     | false=>
      rw[hed] at he
      cases he
      obtain⟨q1,q2⟩:=k1.nilRow t sz (els:=.lst []) rfl hm
      refine⟨_,q1,k2.trans q2,fun e' he'=>?_,(e.m,some (.arr t sz (.lst [])))::d,by rw[k4];rfl⟩
      rcases List.mem_cons.1 he' with rfl|he'
      ·refine⟨Nat.lt_succ_self _,fun i' hi'=>?_,fun hn=>?_⟩
       ·rw[hi] at hi';cases hi'
       ·rw[hed];exact A3 N1.q _ _
      ·obtain⟨g1,g2,g3⟩:=k3 e' he'
       refine⟨by omega,fun i' hi'=>?_,fun hn=>?_⟩
       ·obtain⟨g4,g5⟩:=g2 i' hi'
        refine⟨by omega,?_⟩
        show GM N1.q e.m _ e'.m=GM N1.q e.m _ i'
        rw[BY N1.q _ (by omega:e'.m≠e.m),BY N1.q _ (by omega:i'≠e.m)]
        exact g5
       ·show GM N1.q e.m _ e'.m=_
        rw[BY N1.q _ (by omega:e'.m≠e.m)];exact g3 hn
    ·rename_i t c l hl
     split at he<;>first|(cases he;done)|skip
     rename_i cc hcc
     cases hed:e.d with
     |false=>rw[hed] at he;cases he
     | true=>
      rw[hed] at he
      cases he
      obtain⟨q1,q2⟩:=k1.nilD t hcc hm
      refine⟨_,q1,k2.trans q2,fun e' he'=>?_,(e.m,some (.deep t c []))::d,by rw[k4];rfl⟩
      rcases List.mem_cons.1 he' with rfl|he'
      ·refine⟨Nat.lt_succ_self _,fun i' hi'=>?_,fun hn=>?_⟩
       ·rw[hi] at hi';cases hi'
       ·rw[hed];exact A3 N1.q _ _
      ·obtain⟨g1,g2,g3⟩:=k3 e' he'
       refine⟨by omega,fun i' hi'=>?_,fun hn=>?_⟩
       ·obtain⟨g4,g5⟩:=g2 i' hi'
        refine⟨by omega,?_⟩
        show GM N1.q e.m _ e'.m=GM N1.q e.m _ i'
        rw[BY N1.q _ (by omega:e'.m≠e.m),BY N1.q _ (by omega:i'≠e.m)]
        exact g5
       ·show GM N1.q e.m _ e'.m=_
        rw[BY N1.q _ (by omega:e'.m≠e.m)];exact g3 hn
end
def LF (u:Nat):List Nat→Bool
 | []=>false
 |k::r=>bif Nat.beq k u then true else LF u r
def Av5 (W:List Nat):A→Bool
 | .opt k _ x=>bif LF k W then true else Av5 W x
 |_=>false
def Qd (W:List Nat):Fu→Fu
 | []=>[]
 |(k,x)::r=>(bif Av5 W x then(k,.dead) else(k,x))::Qd W r
def Abv (M:Mvs) (g:Bool):Option A→Option A→A
 |some x,some y=>Ka M g x y
 |_,_=> .dead
def Ajv (M:Mvs) (g:Bool) (t1 t2:Fu):List Nat→Fu
 | []=>[]
 |u::r=>(u,Abv M g (B5 u t1) (B5 u t2))::Ajv M g t1 t2 r
def ZQ (M:Mvs) (g:Bool):Option Ob→Option Ob→Option Ob
 |some x,some y=>Ajt M g x y
 |_,_=>none
def RC (M:Mvs) (g:Bool) (o1 o2:Objs):List Nat→Objs
 | []=>[]
 |i::r=>(i,ZQ M g (Ak i o1) (Ak i o2))::RC M g o1 o2 r
def Atw (o1 o2:Objs) (t1 t2:Fu):List Nat→RP→RP
 | [],c=>c
 |u::r,c=>match B5 u t1,B5 u t2 with
  |some x,some y=>Atw o1 o2 t1 t2 r (Sh o1 o2 5 x y c)
  |_,_=>Atw o1 o2 t1 t2 r c
def Atv (o1 o2:Objs):List Nat→RP→RP
 | [],c=>c
 |i::r,c=>match Ak i o1,Ak i o2 with
  |some (.box _ cs),some (.box _ cs')=>Atv o1 o2 r (Mp (Sh o1 o2 5) cs cs' c)
  |_,_=>Atv o1 o2 r c
def WP (o:Objs) (k:Nat):List Nat:=HI (o.take (o.length - k))
def Aju (g:Bool) (W:List Nat) (s0 s1 s2:St) (nx:Nat) (M:Mvs):St:=
 match mvS Mv.l Mv.r s2.o M nx s1.o,mvS Mv.r Mv.l s1.o M nx s2.o with
 |some (n1,o1),some (n2,o2)=>⟨s0.n,Nat.max n1 n2,Ajv M g s1.t s2.t W++Qd W s0.t,RC M g o1 o2 (WP o1 s0.o.length++WP o2 s0.o.length)++s0.o⟩
 |_,_=>⟨s0.n,nx,[],(s0.o.map fun e=>(e.1,none))++s0.o⟩
def G6 (g:Bool) (W:List Nat) (s0 s1 s2:St):St:=
 Aju g W s0 s1 s2 (Nat.max s1.nx s2.nx) (Atv s1.o s2.o (WP s1.o s0.o.length++WP s2.o s0.o.length) (Atw s1.o s2.o s1.t s2.t W ([],Nat.max s1.nx s2.nx))).1
structure Sub (s s':St):Prop where
 n:s'.n=s.n
 seq:∃d,s'.o=d++s.o
theorem Sub.refl (s:St):Sub s s:=⟨rfl,[],rfl⟩
theorem Sub.trans {s s1 s2:St} (h:Sub s s1) (k:Sub s1 s2):Sub s s2:=by
 obtain⟨d,hd⟩:=h.seq
 obtain⟨e,he⟩:=k.seq
 exact⟨k.n.trans h.n,e++d,by rw[he,hd,List.append_assoc]⟩
section
variable {F F0:Nat→Prop} {N N0:Nm} {nx nx':Nat} {o o':Objs} {R R0:World}
theorem HRel.nxup (h:HRel F N nx o R) (hn:nx≤nx'):HRel F N nx' o R∧Step F N nx o R F N nx' o R:=by
 have st:Ext F N nx R F N nx' R:=⟨hn,fun _ _=>rfl,fun _ _=>rfl,fun _ h=>h,fun _ _=>rfl⟩
 exact⟨⟨h.flt,fun i ob hi=>⟨Nat.lt_of_lt_of_le (h.ob i ob hi).1 hn,(h.ob i ob hi).2.step st (h.ob i ob hi).1 fun _ _=>rfl⟩,h.ff,h.sep,h.gl⟩,hn,fun _ _=>rfl,fun _ _=>rfl,fun _ h=>h,fun _ h=> .inl h,fun _ h=> .inl h,rfl,rfl,rfl,Nat.le_refl _,fun _ _ _=>rfl⟩
theorem HRel.less (h:HRel F N nx o R) (ho:∀i ob,Ak i o'=some ob→∃ob0,Ak i o=some ob0∧(ObR F N nx R i ob0→ObR F N nx R i ob)∧∀g,foot N i ob g↔foot N i ob0 g):HRel F N nx o' R∧Step F N nx o R F N nx o' R:=by
 refine⟨⟨h.flt,fun i ob hi=>?_,fun i ob g hi hg=>?_,fun i j x y g hi hj hx hy=>?_,h.gl⟩,Nat.le_refl _,fun _ _=>rfl,fun _ _=>rfl,fun _ h=>h,fun _ h=> .inl h,fun g ⟨i,ob,hi,hg⟩=>?_,rfl,rfl,rfl,Nat.le_refl _,fun _ _ _=>rfl⟩
 ·obtain⟨ob0,h1,h2,h3⟩:=ho i ob hi
  exact⟨(h.ob i ob0 h1).1,h2 (h.ob i ob0 h1).2⟩
 ·obtain⟨ob0,h1,h2,h3⟩:=ho i ob hi
  exact h.ff i ob0 g h1 ((h3 g).1 hg)
 ·obtain⟨x0,h1,h2,h3⟩:=ho i x hi
  obtain⟨y0,k1,k2,k3⟩:=ho j y hj
  exact h.sep i j x0 y0 g h1 k1 ((h3 g).1 hx) ((k3 g).1 hy)
 ·obtain⟨ob0,h1,h2,h3⟩:=ho i ob hi
  exact .inl ⟨i,ob0,h1,(h3 g).1 hg⟩
theorem HS.congrW {tm tm':Nat→Value} {W:List Nat} (ht:∀k,LF k W=false→tm' k=tm k):∀{x:A} {y:Value},Av5 W x=false→HS F N nx R tm x y→HS F N nx R tm' x y
 | .opt k b x,y,hd,h=>by
  unfold Av5 at hd
  cases hk:LF k W with
  |true=>rw[hk] at hd;cases hd
  |false=>
   rw[hk] at hd
   simp only[HS] at h⊢
   rw[ht k hk]
   exact⟨fun hb=>HS.congrW ht hd (h.1 hb),h.2⟩
 | .v _,_,_,h=>(Ab rfl).2 ((Ab rfl).1 h)
 | .sl _ _,_,_,h=>(Ab rfl).2 ((Ab rfl).1 h)
 | .own _ _,_,_,h=>(Ab rfl).2 ((Ab rfl).1 h)
 | .ownx _ _ _ _,_,_,h=>(Ab rfl).2 ((Ab rfl).1 h)
 | .sq _,_,_,h=>(Ab rfl).2 ((Ab rfl).1 h)
 | .dq _,_,_,h=>(Ab rfl).2 ((Ab rfl).1 h)
 | .iv _ _,_,_,h=>(Ab rfl).2 ((Ab rfl).1 h)
 | .de _ _ _ _,_,_,h=>(Ab rfl).2 ((Ab rfl).1 h)
 | .ie _ _ _ _ _,_,_,h=>(Ab rfl).2 ((Ab rfl).1 h)
 | .vw _ _ _ _ _,_,_,h=>(Ab rfl).2 ((Ab rfl).1 h)
 | .el _ _ _ _,_,_,h=>(Ab rfl).2 ((Ab rfl).1 h)
 | .ref _,_,_,h=>(Ab rfl).2 ((Ab rfl).1 h)
 | .mp _,_,_,h=>(Ab rfl).2 ((Ab rfl).1 h)
 | .nl,_,_,h=>(Ab rfl).2 ((Ab rfl).1 h)
 | .it _ _,_,_,h=>(Ab rfl).2 ((Ab rfl).1 h)
 | .fn _ _ _,_,_,h=>(Ab rfl).2 ((Ab rfl).1 h)
 | .agg _,_,_,h=>(Ab rfl).2 ((Ab rfl).1 h)
 | .tup _,_,_,h=>(Ab rfl).2 ((Ab rfl).1 h)
 | .dead,_,_,h=>(Ab rfl).2 ((Ab rfl).1 h)
 | .av _ _ _,_,_,h=>(Ab rfl).2 ((Ab rfl).1 h)
 | .rv _,_,_,h=>(Ab rfl).2 ((Ab rfl).1 h)
 | .vr _ _ _ _,_,_,h=>(Ab rfl).2 ((Ab rfl).1 h)
 | .vd _ _ _ _,_,_,h=>(Ab rfl).2 ((Ab rfl).1 h)
theorem L7 (u:Nat):∀(A B:Fu),B5 u (A++B)=match B5 u A with|some x=>some x|none=>B5 u B
 | [],B=>rfl
 |(k,x)::r,B=>by
  show(bif Nat.beq k u then some x else B5 u (r++B))=match(bif Nat.beq k u then some x else B5 u r) with|some x=>some x|none=>B5 u B
  cases Nat.beq k u with
  |true=>rfl
  |false=>exact L7 u r B
theorem XW {M:Mvs} {g:Bool} {t1 t2:Fu} {u:Nat}:∀{W:List Nat},B5 u (Ajv M g t1 t2 W)=bif LF u W then some (Abv M g (B5 u t1) (B5 u t2)) else none
 | []=>rfl
 |k::r=>by
  show(bif Nat.beq k u then some (Abv M g (B5 k t1) (B5 k t2)) else B5 u (Ajv M g t1 t2 r))=bif(bif Nat.beq k u then true else LF u r) then _ else _
  cases hb:Nat.beq k u with
  |true=>rw[Nat.eq_of_beq_eq_true hb];rfl
  |false=>exact XW
theorem OH {W:List Nat} {u:Nat} {x:A}:∀{t:Fu},B5 u (Qd W t)=some x→x=.dead∨(B5 u t=some x∧Av5 W x=false)
 | [],h=>by cases h
 | (j,y)::r,h=>by
  unfold Qd at h
  show x=.dead∨((bif Nat.beq j u then some y else B5 u r)=some x∧_)
  cases hd:Av5 W y with
  |true=>
   rw[hd] at h
   have h':(bif Nat.beq j u then some A.dead else B5 u (Qd W r))=some x:=h
   cases hj:Nat.beq j u with
   |true=>rw[hj] at h';cases h';exact .inl rfl
   |false=>rw[hj] at h';exact OH h'
  |false=>
   rw[hd] at h
   have h':(bif Nat.beq j u then some y else B5 u (Qd W r))=some x:=h
   cases hj:Nat.beq j u with
   |true=>rw[hj] at h';obtain rfl:y=x:=Option.some.inj h';exact .inr ⟨rfl,hd⟩
   |false=>rw[hj] at h';exact OH h'
theorem Qb (M:Mvs) (g:Bool) (o1 o2:Objs):∀l,HI (RC M g o1 o2 l)=l
 | []=>rfl
 |i::r=>by
  show i::HI (RC M g o1 o2 r)=i::r
  rw[Qb M g o1 o2 r]
theorem Sr {M:Mvs} {g:Bool} {o1 o2:Objs} {i:Nat}:∀{l:List Nat},i∈l→Ak i (RC M g o1 o2 l)=ZQ M g (Ak i o1) (Ak i o2)
 | [],h=>by cases h
 | k::r,h=>by
  show(bif Nat.beq k i then ZQ M g (Ak k o1) (Ak k o2) else Ak i (RC M g o1 o2 r))=_
  cases hb:Nat.beq k i with
  |true=>rw[Nat.eq_of_beq_eq_true hb];rfl
  |false=>
   rcases List.mem_cons.1 h with rfl|h
   ·simp at hb
   ·exact Sr h
theorem Qr {i:Nat}:∀{o:Objs},Ak i (o.map fun e=>(e.1,none))=none
 | []=>rfl
 |(k,x)::r=>by
  show(bif Nat.beq k i then none else Ak i (r.map fun e=>(e.1,none)))=none
  cases Nat.beq k i with
  |true=>rfl
  |false=>exact Qr
theorem Wx:∀{o:Objs},HI (o.map fun e=>(e.1,none))=HI o
 | []=>rfl
 |(k,x)::r=>by
  show k::HI (r.map fun e=>(e.1,none))=k::HI r
  rw[Wx]
theorem Ark {i:Nat} {o:Objs}:Ak i ((o.map fun e=>(e.1,none))++o)=none:=by
 by_cases h:i∈HI o
 ·rw[Qs (by rw[Wx];exact h),Qr]
 ·rw[G5 (by rw[Wx];exact h)]
  have:=G5 (A:=o) (B:=[]) h
  rw[List.append_nil] at this
  exact this
theorem Ajz {sel oth:Mv→Option Nat} {oo:Objs} {nx:Nat} {o:Objs}:∀{M:Mvs} {nx':Nat} {o':Objs},mvS sel oth oo M nx o=some (nx',o')→∃d,o'=d++o
 | [],nx',o',he=>by cases he;exact⟨[],rfl⟩
 | e ::r,nx',o',he=>by
  unfold mvS at he
  split at he<;>first|(cases he;done)|skip
  rename_i nx1 o1 h1
  obtain⟨d,hd⟩:=Ajz h1
  cases hb:Nat.ble nx1 e.m with
  |false=>rw[hb] at he;cases he
  | true=>
   rw[hb] at he
   simp only[cond_true] at he
   split at he
   ·rename_i i hi
    split at he<;>first|(cases he;done)|skip
    ·rename_i t sz els hl
     cases hlt:Nat.blt i nx1 with
     |false=>rw[hlt] at he;cases he
     |true=>rw[hlt] at he;cases he;exact⟨(i,none)::(e.m,some (.arr t sz els))::d,by rw[hd];rfl⟩
    ·rename_i t c l hl
     cases hlt:Nat.blt i nx1 with
     |false=>rw[hlt] at he;cases he
     |true=>rw[hlt] at he;cases he;exact⟨(i,none)::(e.m,some (.deep t c l))::d,by rw[hd];rfl⟩
    ·rename_i t c l hl
     cases hlt:Nat.blt i nx1 with
     |false=>rw[hlt] at he;cases he
     |true=>rw[hlt] at he;cases he;exact⟨(i,none)::(e.m,some (.abs t c l))::d,by rw[hd];rfl⟩
   ·split at he<;>first|(cases he;done)|skip
    split at he<;>first|(cases he;done)|skip
    ·rename_i t sz els hl
     cases hed:e.d with
     |true=>rw[hed] at he;cases he
     |false=>rw[hed] at he;cases he;exact⟨(e.m,some (.arr t sz (.lst [])))::d,by rw[hd];rfl⟩
    ·rename_i t c l hl
     split at he<;>first|(cases he;done)|skip
     cases hed:e.d with
     |false=>rw[hed] at he;cases he
     |true=>rw[hed] at he;cases he;exact⟨(e.m,some (.deep t c []))::d,by rw[hd];rfl⟩
theorem Z8 (cs:List A):(MZ cs).plain=true:=by unfold MZ;split<;>rfl
theorem Ae5 (g:Bool) (c:TC) (l:List (U c)) (c':TC) (l':List (U c')):(UX g c l c' l').plain=true:=by unfold UX;split<;>rfl
theorem KS {b:Bool} {x y:A} (hx:x.plain=true) (hy:y.plain=true):(bif b then x else y).plain=true:=by cases b<;>assumption
theorem Ajr:∀(d:Nat) (g:Bool) (x y:A),(Je d g x y).plain=true
 |0,_,_,_=>rfl
 |d+1,g,x,y=>by
  unfold Je
  split<;>first|rfl|exact Z8 _|exact Ae5 _ _ _ _ _|(refine KS ?_ rfl;first|rfl|exact KS rfl rfl)|(split<;>first|rfl|exact KS rfl rfl)
theorem Ajw (M:Mvs):∀(d:Nat) (g:Bool) (x y:A),(Mu M d g x y).plain=true
 |0,_,_,_=>rfl
 |d+1,g,x,y=>by
  unfold Mu
  split<;>first|rfl|exact Z8 _|exact Ajr _ _ _ _|(refine KS ?_ ?_<;>first|rfl|(split<;>rfl)|(refine KS ?_ rfl;first|rfl|exact KS rfl rfl))
theorem Ajs (M:Mvs) (g:Bool) (x y:A):(Ka M g x y).plain=true:=Ajw M 5 g x y
theorem Arn {M:Mvs} {g:Bool} {x y:A} (h:(x.plain&&y.plain)=false):Ka M g x y=.dead:=by
 cases x<;>cases y<;>first|(cases h;done)|rfl
theorem Tr {i:Nat} {d o:Objs} (h:i∉WP (d++o) o.length):Ak i (d++o)=Ak i o:=by
 unfold WP at h
 rw[List.length_append,Nat.add_sub_cancel,List.take_left'] at h
 ·exact G5 h
 ·rfl
end
section
variable {Z:Base} {F F0:Nat→Prop} {N N0:Nm} {s0 s1 s2:St} {a a0:Act} {R R0:World} {W:List Nat} {g:Bool}
abbrev ID (F:Nat→Prop) (N:Nm) (s:St) (a:Act) (R:World) (W:List Nat):Base:=⟨F,N,s.nx,s.o,R,A1 a,fun u=>LF u W=true⟩
theorem Rel.start (h0:Rel Z F0 N0 s0 a0 R0) (W:List Nat):Rel (ID F0 N0 s0 a0 R0 W) F0 N0 s0 a0 R0:=⟨h0.defers,h0.size,h0.slots,h0.hp,.refl,fun _ _=>rfl⟩
theorem Abz (h0:Rel Z F0 N0 s0 a0 R0) {s:St} (h:Rel (ID F0 N0 s0 a0 R0 W) F N s a R) (hW:∀u,LF u W=true→Z.W u) (hn:s.n=s0.n) {nx':Nat} {o':Objs} {N':Nm} (k1:HRel F N' nx' o' R) (k2:Step F N s.nx s.o R F N' nx' o' R) {t:Fu} {os:Objs}
  (ht:∀u x,B5 u t=some x→HS F N' nx' R (A1 a) x (A1 a u)) (ho:∀i ob,Ak i os=some ob→∃ob0,Ak i o'=some ob0∧(ObR F N' nx' R i ob0→ObR F N' nx' R i ob)∧∀gg,foot N' i ob gg↔foot N' i ob0 gg):Rel Z F N' ⟨s0.n,nx',t,os⟩ a R:=by
 obtain⟨q1,q2⟩:=k1.less ho
 refine⟨h.defers,h.size.trans hn,ht,q1,((h0.st.trans h.st).trans k2).trans q2,fun u hu=>?_⟩
 rw[h.tm u fun hw=>hu (hW u hw)]
 exact h0.tm u hu
theorem Rel.merge (h0:Rel Z F0 N0 s0 a0 R0) (h:Rel (ID F0 N0 s0 a0 R0 W) F N (bif g then s1 else s2) a R) (hW:∀u,LF u W=true→Z.W u) (e1:Sub s0 s1) (e2:Sub s0 s2):∃N',Rel Z F N' (G6 g W s0 s1 s2) a R:=by
 have hn:(bif g then s1 else s2).n=s0.n:=by cases g<;>first|exact e1.n|exact e2.n
 have hnx:(bif g then s1 else s2).nx≤Nat.max s1.nx s2.nx:=by cases g<;>first|exact Nat.le_max_left .. |exact Nat.le_max_right ..
 obtain⟨u1,u2⟩:=h.hp.nxup hnx
 unfold G6
 generalize (Atv s1.o s2.o (WP s1.o s0.o.length++WP s2.o s0.o.length) (Atw s1.o s2.o s1.t s2.t W ([],Nat.max s1.nx s2.nx))).1=M
 unfold Aju
 split
 ·rename_i n1 o1 n2 o2 g1 g2
  have main:∃N' nx' o',nx'≤Nat.max n1 n2∧HRel F N' nx' o' R∧Step F N (Nat.max s1.nx s2.nx) (bif g then s1 else s2).o R F N' nx' o' R∧Al5 N' nx' (Aso g) M∧o'=(bif g then o1 else o2):=by
   cases g with
   |true=>
    obtain⟨N',m1,m2,m3,_⟩:=Arq u1 g1
    exact⟨N',n1,o1,Nat.le_max_left ..,m1,m2,m3,rfl⟩
   |false=>
    obtain⟨N',m1,m2,m3,_⟩:=Arq u1 g2
    exact⟨N',n2,o2,Nat.le_max_right ..,m1,m2,m3,rfl⟩
  have d1:∃d,o1=d++s0.o:=by
   obtain⟨d,hd⟩:=e1.seq
   obtain⟨e,he⟩:=Ajz g1
   exact⟨e++d,by rw[he,hd,List.append_assoc]⟩
  have d2:∃d,o2=d++s0.o:=by
   obtain⟨d,hd⟩:=e2.seq
   obtain⟨e,he⟩:=Ajz g2
   exact⟨e++d,by rw[he,hd,List.append_assoc]⟩
  obtain⟨N',nx',o',hle,m1,m2,m3,rfl⟩:=main
  obtain⟨q1,q2⟩:=m1.nxup hle
  have m3':Al5 N' (Nat.max n1 n2) (Aso g) M:=fun e he=>⟨Nat.lt_of_lt_of_le (m3 e he).1 hle,fun i hi=>⟨Nat.lt_of_lt_of_le ((m3 e he).2.1 i hi).1 hle,((m3 e he).2.1 i hi).2⟩,(m3 e he).2.2⟩
  have hst:=(u2.trans m2).trans q2
  have hx:Ext F N (bif g then s1 else s2).nx R F N' (Nat.max n1 n2) R:=hst.ext h.hp
  refine⟨N',Abz h0 h hW hn q1 hst (fun u x hu=>?_) fun i ob hi=>?_⟩
  ·rw [L7,XW] at hu
   cases hw:LF u W with
   | true=>
    rw[hw] at hu
    have hu':Abv M g (B5 u s1.t) (B5 u s2.t)=x:=Option.some.inj hu
    unfold Abv at hu'
    split at hu'
    ·rename_i x1 x2 k1 k2
     have hs:HS F N' (Nat.max n1 n2) R (A1 a) (bif g then x1 else x2) (A1 a u):=by
      cases g with
      |true=>exact(h.slots u x1 k1).step hx
      |false=>exact(h.slots u x2 k2).step hx
     subst hu'
     cases hp:(x1.plain&&x2.plain) with
     |true=>
      rw[Bool.and_eq_true] at hp
      have hs':Hv F N' (Nat.max n1 n2) R (bif g then x1 else x2) (A1 a u):=by cases g<;>first|exact(Ab hp.1).1 hs|exact(Ab hp.2).1 hs
      have hm:=RB m3' hs'
      exact(Ab (Ajs _ _ _ _)).2 hm
     |false=>
      have:=Arn (M:=M) (g:=g) hp
      rw[this]
      exact(Ab rfl).2 (.dead _)
    ·subst hu'
     exact(Ab rfl).2 (.dead _)
   | false=>
    rw[hw] at hu
    have hu':B5 u (Qd W s0.t)=some x:=hu
    have htm:∀k,LF k W=false→A1 a k=A1 a0 k:=fun k hk=>h.tm k fun hh=>by
     have hh':LF k W=true:=hh
     rw[hk] at hh';cases hh'
    rcases OH hu' with rfl|⟨k1,k2⟩
    ·exact(Ab rfl).2 (.dead _)
    ·rw[htm u hw]
     exact HS.congrW htm k2 (((h0.slots u x k1).step (h.st.ext h0.hp)).step hx)
  ·by_cases hk:i∈WP o1 s0.o.length++WP o2 s0.o.length
   ·rw[Qs (by rw[Qb];exact hk),Sr hk] at hi
    unfold ZQ at hi
    split at hi<;>first|(cases hi;done)|skip
    rename_i x1 x2 k1 k2
    obtain⟨r1,r2⟩:=Aro (i:=i) (F:=F) (N:=N') (nx:=Nat.max n1 n2) (R:=R) m3' hi
    exact⟨_,by cases g<;>first|exact k1|exact k2,r1,r2⟩
   ·rw[G5 (by rw[Qb];exact hk)] at hi
    refine⟨ob,?_,id,fun _=>Iff.rfl⟩
    obtain⟨d1,hd1⟩:=d1
    obtain⟨d2,hd2⟩:=d2
    cases g with
    |true=>
     show Ak i o1=_
     rw[hd1,Tr (by rw[←hd1];exact fun hh=>hk (List.mem_append.2 (.inl hh)))]
     exact hi
    |false=>
     show Ak i o2=_
     rw[hd2,Tr (by rw[←hd2];exact fun hh=>hk (List.mem_append.2 (.inr hh)))]
     exact hi
 ·refine⟨N,Abz h0 h hW hn u1 u2 (fun u x hu=>by cases hu) fun i ob hi=>?_⟩
  rw[Ark] at hi
  cases hi
theorem Sub.merge (g:Bool) (W:List Nat) (s0 s1 s2:St):Sub s0 (G6 g W s0 s1 s2):=by
 unfold G6
 unfold Aju
 split
 ·exact⟨rfl,_,rfl⟩
 ·exact⟨rfl,_,rfl⟩
end
end Go.Proofs.YtifkbgkbajncjaaDoor
namespace Go.Proofs.YtifkbgkbajncjaaDoor
open Go.RowKit
abbrev Cnd:=Option Bool
def A9:Cnd→Bool
 |none=>true
 |some b=>b
def IU:Cnd→Cnd→Cnd
 |none,y=>y
 |some a,none=>some a
 |some a,some b=>some (a&&b)
def orO:Cnd→Cnd→Cnd
 |none,_=>none
 |some _,none=>none
 |some a,some b=>some (a||b)
def Ae8:Cnd→Cnd
 |none=>some false
 |some a=>some (!a)
def Az3 (g:Bool):Cnd→Cnd→Cnd
 |none,none=>none
 |some a,none=>some (!g||a)
 |none,some b=>some (g||b)
 |some a,some b=>some (bif g then a else b)
theorem A8 (x y:Cnd):A9 (IU x y)=(A9 x&&A9 y):=by cases x<;>cases y<;>simp[IU,A9]
theorem Us (x y:Cnd):A9 (orO x y)=(A9 x||A9 y):=by cases x<;>cases y<;>simp[orO,A9]
theorem Ur (x:Cnd):A9 (Ae8 x)=!(A9 x):=by cases x<;>rfl
theorem M9 (g:Bool) (x y:Cnd):A9 (Az3 g x y)=bif g then A9 x else A9 y:=by cases x<;>cases y<;>cases g<;>simp[Az3,A9]
def A26:Cnd→List Prop
 |none=>[]
 |some b=>[b=true]
theorem Atu {c:Cnd} (h:A9 c=true):∀q∈A26 c,q:=fun q hq=>by
 cases c with
 |none=>cases hq
 |some b=>obtain rfl:=List.mem_singleton.1 hq;exact h
def Agw (ops:List Oper) (j:Nat):Option Tmp:=match ops[j]? with
 |some o=>o.dst
 |none=>none
abbrev C6:=Cnd×Nat×St×List Prop
def X0:List C6→(St→Prop)→Prop
 | [],_=>False
 |(c,_,s,_)::r,K=>(A9 c=true∧K s)∨(A9 c=false∧X0 r K)
def Kn:List C6→Prop
 | []=>True
 |(c,_,_,ps)::r=>(A9 c=true→∀p∈ps,p)∧Kn r
def DF:List C6→Nat
 | []=>0
 |(_,k,_,_)::r=>Nat.max k (DF r)
def QS (s:St) (dst:Option Tmp) (f:Eff):Option St:=match dst with
 |some d=>bif Nat.blt d s.n then some (St.put ⟨s.n,f.nx,s.t,f.o⟩ d f.x) else none
 |none=>some ⟨s.n,f.nx,s.t,f.o⟩
def St.lit (s:St) (u:Nat) (b:Bool):St:={s with t:=(u,.v (.bool b))::s.t}
def OP (E:Env) (s:St) (G:Guards) (o:Oper):R2:=bif Abr o.op then none else A5j E s G o
def doE (E:Env) (s:St) (G:Guards) (o:Oper) (c:Cnd) (ps:List Prop):Option C6:=match opE E s G o with
 |some f=>match QS s o.dst f with
  |some s'=>some (c,f.k,s',ps++f.ps)
  |none=>none
 |none=>none
def YA (s:St) (o:Oper):Option St:=match o.dst with
 |some d=>bif Nat.blt d s.n then some (s.put d (.v undef)) else none
 |none=>some s
def Kt (E:Env) (ops:List Oper) (s:St) (o:Oper):Option (List C6):=
 match o.guard with
 |none=>match doE E s [] o none [] with
  |some x=>some [x]
  |none=>none
 | some (j,b)=>match Agw ops j with
  | some u=>match E.lit with
   | true=>match s.raw [] (.tmp u) with
    | some (.bool c)=>match Ael c b with
     |true=>match doE E s (Py s 5 u b) o none [] with
      |some x=>some [x]
      |none=>none
     |false=>match YA s o with
      |some s'=>some [(none,0,s',[])]
      |none=>none
    |_=>none
   | false=>match OP E s (Py s 5 u b) o with
    |some (x,ps)=>match o.dst with
     |some d=>bif Nat.blt d s.n then(bif Nat.beq d u then none else some [(none,0,s.put d (.opt u b x),P8 (OC s (Py s 5 u b) (Py s 5 u b)) ps)]) else none
     |none=>none
    | none=>match s.raw [] (.tmp u) with
     |some (.bool c)=>match doE E (s.lit u b) (Py s 5 u b) o (some (bif b then c else !c)) [],YA (s.lit u (!b)) o with
      |some x,some s'=>some [x,(none,0,s',[])]
      |_,_=>none
     |_=>none
  |none=>none
section
variable {E:Env} {Z:Base} {F:Nat→Prop} {N:Nm} {s:St} {a:Act} {R:World}
theorem F7 (tm:Nat→Value):KQ tm []:=fun _ _ h=>by cases h
theorem Hv.isPlain {nx:Nat} {x:A} {v:Value} (h:Hv F N nx R x v):x.plain=true:=by cases h<;>rfl
theorem TY {ops:List Oper} {o:Oper} {j u:Nat} {b:Bool} (hg:o.guard=some (j,b)) (hu:Agw ops j=some u) (a:Act):Region.wanted o (yielded ops.toArray a.tmps)=true↔A1 a u=.bool b:=by
 unfold Region.wanted yielded A1
 rw[hg]
 have:(ops.toArray[j]?).bind (·.dst)=some u:=by
  unfold Agw at hu
  rw[List.getElem?_toArray]
  cases ho:ops[j]? with
  |none=>rw[ho] at hu;cases hu
  |some o'=>rw[ho] at hu;exact hu
 simp only[this,Option.bind_some]
 rw[Array.getD_eq_getD_getElem?]
 cases hv:a.tmps[u]? with
 |none=>simp[undef]
 |some v=>
  cases v<;>simp
theorem Ih {o:Oper} (hg:o.guard=none) (y:Nat→Option Bool):Region.wanted o y=true:=by
 unfold Region.wanted
 rw[hg]
theorem Rel.lit (h:Rel Z F N s a R) {u:Nat} {b:Bool} (hu:A1 a u=.bool b):Rel Z F N (s.lit u b) a R:=
 ⟨h.defers,h.size,fun v x hv=>by
  have hv':(bif Nat.beq u v then some (A.v (.bool b)) else B5 v s.t)=some x:=hv
  cases hb:Nat.beq u v with
  |true=>
   rw[hb] at hv'
   obtain rfl:=Nat.eq_of_beq_eq_true hb
   cases hv'
   rw[hu]
   exact(Ab rfl).2 (.v _)
  |false=>rw[hb] at hv';exact h.slots v x hv',h.hp,h.st,h.tm⟩
theorem A4s (h:Rel Z F N s a R) {dst:Option Tmp} {f:Eff} {s':St} (he:QS s dst f=some s') (hW:∀d,dst=some d→Z.W d) {v:Value} {R':World} (hk:EK F N s.nx s.o R f v R'):
  ∃F' N',Rel Z F' N' s' (a.put dst v) R':=by
 obtain⟨F',N',h1,h2,h3,_⟩:=hk
 have hr:=h.heap h2 h1
 unfold QS at he
 split at he
 ·rename_i d
  cases hd:Nat.blt d s.n with
  |false=>rw[hd] at he;cases he
  |true=>
   rw[hd] at he
   cases he
   exact⟨F',N',hr.put (Nat.le_of_ble_eq_true hd) (hW d rfl) v ((Ab h3.isPlain).2 h3)⟩
 ·cases he
  exact⟨F',N',hr⟩
theorem Vw (h:Rel Z F N s a R) {o:Oper} {s':St} (he:YA s o=some s') (hW:∀d,o.dst=some d→Z.W d):Rel Z F N s' (a.put o.dst undef) R:=by
 unfold YA at he
 split at he
 ·rename_i d hd
  cases hb:Nat.blt d s.n with
  |false=>rw[hb] at he;cases he
  |true=>
   rw[hb] at he
   cases he
   rw[hd]
   exact h.put (Nat.le_of_ble_eq_true hb) (hW d hd) undef ((Ab rfl).2 (.v _))
 ·rename_i hd
  cases he
  rw[hd]
  exact h
theorem Ay0 (ok:EnvOk E) (h:Rel Z F N s a R) {G:Guards} (hG:KQ (A1 a) G) {o:Oper} {c c':Cnd} {k:Nat} {s':St} {ps qs:List Prop} (he:doE E s G o c qs=some (c',k,s',ps)) (hp:∀p∈ps,p) (hW:∀d,o.dst=some d→Z.W d):
  c'=c∧HE E.P (fun v R'=>(k≤1→Below R.heap.size R R')∧∃F' N',Rel Z F' N' s' (a.put o.dst v) R') ((execOp a.eval o).run E.P R):=by
 unfold doE at he
 split at he<;>first|(cases he;done)|skip
 rename_i f hf
 split at he<;>first|(cases he;done)|skip
 rename_i s1 hs
 cases he
 refine⟨rfl,CU (A97 ok h hG hf fun p hm=>hp p (List.mem_append.2 (.inr hm))) fun v R' hk=>⟨?_,A4s h hs hW hk⟩⟩
 obtain⟨_,_,_,_,_,h4⟩:=hk
 exact h4
theorem Agj {c b:Bool} (hcb:(bif b then c else !c)=true):c=b:=by cases b<;>cases c<;>first|rfl|cases hcb
theorem Aae {c b:Bool} (hcb:(bif b then c else !c)=false):c=!b:=by cases b<;>cases c<;>first|rfl|cases hcb
theorem Ad7 (ok:EnvOk E) (h:Rel Z F N s a R) {ops:List Oper} {o:Oper} {l:List C6} (he:Kt E ops s o=some l) (hp:Kn l) (hW:∀d,o.dst=some d→Z.W d):
  (Region.wanted o (yielded ops.toArray a.tmps)=true∧HE E.P (fun v R'=>(DF l≤1→Below R.heap.size R R')∧X0 l fun s'=>∃F' N',Rel Z F' N' s' (a.put o.dst v) R') ((execOp a.eval o).run E.P R))∨
  (Region.wanted o (yielded ops.toArray a.tmps)=false∧X0 l fun s'=>∃F' N',Rel Z F' N' s' (a.put o.dst undef) R):=by
 have one:∀{G:Guards} {x:C6},KQ (A1 a) G→doE E s G o none []=some x→l=[x]→HE E.P (fun v R'=>(DF l≤1→Below R.heap.size R R')∧X0 l fun s'=>∃F' N',Rel Z F' N' s' (a.put o.dst v) R') ((execOp a.eval o).run E.P R):=fun {G x} hG hx hl=>by
  obtain⟨c,k,s',ps⟩:=x
  subst hl
  have hc:c=none:=by
   unfold doE at hx
   split at hx<;>first|(cases hx;done)|skip
   split at hx<;>first|(cases hx;done)|skip
   cases hx;rfl
  subst hc
  obtain⟨_,h2⟩:=Ay0 ok h hG hx (hp.1 rfl) hW
  exact CU h2 fun v R' ⟨h3,h4⟩=>⟨fun hk=>h3 (Nat.le_trans (Nat.le_max_left ..) hk),.inl ⟨rfl,h4⟩⟩
 unfold Kt at he
 split at he
 ·rename_i hg
  split at he<;>first|(cases he;done)|skip
  rename_i x hx
  cases he
  exact .inl ⟨Ih hg _,one (F7 _) hx rfl⟩
 ·rename_i j b hg
  split at he<;>first|(cases he;done)|skip
  rename_i u hu
  have wt:=TY hg hu a
  have wf:A1 a u≠.bool b→Region.wanted o (yielded ops.toArray a.tmps)=false:=fun hn=>by
   cases hw:Region.wanted o (yielded ops.toArray a.tmps) with
   |false=>rfl
   |true=>exact absurd (wt.1 hw) hn
  split at he
  ·split at he<;>first|(cases he;done)|skip
   rename_i c hc
   have hcu:A1 a u=.bool c:=CS h (F7 _) hc
   split at he
   ·rename_i hb
    obtain rfl:=Rn hb
    split at he<;>first|(cases he;done)|skip
    rename_i x hx
    cases he
    exact .inl ⟨wt.2 hcu,one (Ry h 5 u c hcu) hx rfl⟩
   ·rename_i hb
    split at he<;>first|(cases he;done)|skip
    rename_i s' hs
    cases he
    refine .inr ⟨wf fun e=>?_,.inl ⟨rfl,F,N,Vw h hs hW⟩⟩
    rw[hcu] at e
    cases e
    cases b<;>cases hb
  ·split at he
   ·rename_i x ps hq
    split at he<;>first|(cases he;done)|skip
    rename_i d hd
    cases hb:Nat.blt d s.n with
    |false=>rw[hb] at he;cases he
    | true=>
     cases hdu:Nat.beq d u with
     |true=>rw[hb,hdu] at he;cases he
     | false=>
      rw[hb,hdu] at he
      cases he
      have hne:u≠d:=fun e=>by subst e;simp at hdu
      have hdn:=Nat.le_of_ble_eq_true hb
      unfold OP at hq
      cases hl:Abr o.op with
      |true=>rw[hl] at hq;cases hq
      | false=>
       rw[hl] at hq
       by_cases hw:A1 a u=.bool b
       ·have hG:=Ry h 5 u b hw
        have hps:=JL (hp.1 rfl) (Nj h hG (Aa6 h 5 u b hw))
        obtain⟨v,h1,h2⟩:=Asx ok h hG hq hps
        refine .inl ⟨wt.2 hw,?_⟩
        have h3:=h2 R (Below.refl _ _)
        have J3:∀R',Below R.heap.size R R'→(DF [((none:Cnd),0,s.put d (.opt u b x),P8 (OC s (Py s 5 u b) (Py s 5 u b)) ps)]≤1→Below R.heap.size R R')∧X0 [((none:Cnd),0,s.put d (.opt u b x),P8 (OC s (Py s 5 u b) (Py s 5 u b)) ps)] fun s'=>∃F' N',Rel Z F' N' s' (a.put o.dst v) R':=fun R' hR'=>
         ⟨fun _=>hR',.inl ⟨rfl,F,N,by
          rw[hd]
          refine((h.put (x:=.opt u b x) hdn (hW d hd) v ?_).grow hR')
          simp only[HS]
          exact⟨fun _=>(Ab h1.isPlain).2 h1,fun hn=>absurd (by rw[Jn _ hne];exact hw) hn⟩⟩⟩
        generalize (execOp a.eval o).run E.P R=r at*
        cases r with
        |halt x w=>exact h3.elim
        | ok n w=>
         cases n<;>simp only[Oper.quietUpon] at h3<;>simp only[HE]
         case value y=>
          obtain⟨e1,e2⟩:=h3
          rw[e1,e2]
          exact J3 R (Below.refl _ _)
         case skip=>
          obtain⟨e1,e2⟩:=h3
          rw[e1,←e2]
          exact J3 R (Below.refl _ _)
         case enter f args=>
          obtain⟨e1,hc⟩:=h3
          rw[e1]
          exact hc.mono fun e w'' ⟨he,hw''⟩=>⟨v,he,J3 _ hw''⟩
       ·refine .inr ⟨wf hw,.inl ⟨rfl,F,N,?_⟩⟩
        rw[hd]
        refine h.put (x:=.opt u b x) hdn (hW d hd) undef ?_
        simp only[HS]
        exact⟨fun hn=>absurd (by rw[Jn _ hne] at hn;exact hn) hw,fun _=>trivial⟩
   ·split at he<;>first|(cases he;done)|skip
    rename_i c hc
    have hcu:A1 a u=.bool c:=CS h (F7 _) hc
    split at he<;>first|(cases he;done)|skip
    rename_i x s' hx hs
    obtain⟨cx,k,sx,ps⟩:=x
    cases he
    cases hcb:(bif b then c else !c) with
    | true=>
     have e1:=Agj hcb
     subst e1
     have hcx:cx=some (bif c then c else !c):=by
      unfold doE at hx
      split at hx<;>first|(cases hx;done)|skip
      split at hx<;>first|(cases hx;done)|skip
      cases hx;rfl
     have hcv:A9 cx=true:=by rw[hcx];exact hcb
     obtain⟨_,h2⟩:=Ay0 ok (h.lit hcu) (Ry h 5 u c hcu) hx (hp.1 hcv) hW
     exact .inl ⟨wt.2 hcu,CU h2 fun v R' ⟨h3,h4⟩=>⟨fun hk=>h3 (Nat.le_trans (Nat.le_max_left ..) hk),.inl ⟨hcv,h4⟩⟩⟩
    | false=>
     have e1:=Aae hcb
     have hcx:cx=some (bif b then c else !c):=by
      unfold doE at hx
      split at hx<;>first|(cases hx;done)|skip
      split at hx<;>first|(cases hx;done)|skip
      cases hx;rfl
     have hcv:A9 cx=false:=by rw[hcx];exact hcb
     refine .inr ⟨wf fun e=>?_,.inr ⟨hcv,.inl ⟨rfl,F,N,Vw (h.lit (by rw[hcu,e1])) hs hW⟩⟩⟩
     rw[hcu,e1] at e
     cases b<;>cases e
end
def Q4 (o:Objs):Nat→A→List Nat
 |0,_=>[]
 | d+1,x=>match x with
  | .sq i=>(match Ak i o with
   |some (.arr _ _ (.lst cs))=>cs.flatMap fun l=>l.flatMap (Q4 o d)
   |_=>[])++[i]
  | .vw i _ _ _ _=>(match Ak i o with
   |some (.arr _ _ (.lst cs))=>cs.flatMap fun l=>l.flatMap (Q4 o d)
   |_=>[])++[i]
  | .dq i=>[i]
  | .iv i _=>[i]
  | .vr i _ _ _=>[i]
  | .vd i _ _ _=>[i]
  | .agg xs=>xs.flatMap (Q4 o d)
  | .tup xs=>xs.flatMap (Q4 o d)
  |_=>[]
def opV (s:St) (x:Operand):A:=match s.ev [] x with
 |some z=>z
 | none=>match x with
  | .tmp t=>match s.get t with
   |some (.opt _ _ z)=>z
   |_=> .dead
  |_=> .dead
def Ayt (s:St) (o:Oper):List Nat:=match o.op with
 | .call {callee:=.value _,args, .. }=>args.toList.flatMap fun x=>Q4 s.o 4 (opV s x)
 | .call {callee:=.builtin .append,args, .. }=>match args.toList with
  | [_,y]=>match opV s y with
   | .sq i=>(Q4 s.o 4 (.sq i)).filter fun k=>!Nat.beq k i
   |y'=>Q4 s.o 4 y'
  |_=>[]
 | .store _ _ v=>Q4 s.o 4 (opV s v)
 | .indexAddr _ x _=>match opV s x with
  | .sq i=>bif Az8 s.o i then[i] else[]
  |_=>[]
 |_=>[]
def It (E:Env):List Nat→St→St×List Prop
 | [],s=>(s,[])
 | i::r,s=>match Rx E i s with
  |some (s',ps)=>match It E r s' with
   |(s'',qs)=>(s'',ps++qs)
  |none=>It E r s
def Al9 (ps:List Prop):List C6→List C6
 | []=>[]
 |(c,k,s,qs)::r=>(c,k,s,ps++qs)::Al9 ps r
def ZO:List C6→Bool
 | []=>false
 |(none,_,_,_)::_=>true
 |_::r=>ZO r
def Aqz (o:Objs):List Nat→Bool
 | []=>false
 |i::r=>match Ak i o with
  |some (.deep _ _ _)=>true
  |_=>Aqz o r
def A6u (s:St) (o:Oper) (ps:List Prop):List C6→Option (List C6)
 | [(none,k,s1,qs)]=>match o.guard,o.dst with
  |none,some d=>match s1.get d with
   |some (.v x)=>bif Nat.ble k 1&&Nat.blt d s.n then some [(none,k,s.put d (.v x),ps++qs)] else none
   |_=>none
  |_,_=>none
 |_=>none
def A6t (s:St) (o:Oper):Bool:=match o.op with
 | .call {callee:=.value f, .. }=>(match Ait s [] f with
  |some (g,_,_)=>Nat.beq g 40
  |none=>false)
 |_=>false
def Aug (s:St) (o:Oper) (is:List Nat) (ps:List Prop) (l:List C6):Option (List C6):=bif Aqz s.o is||A6t s o then A6u s o ps l else none
def SU (E:Env) (ops:List Oper) (s:St) (o:Oper):Option (List C6):=match Kt E ops s o with
 |some l=>some l
 | none=>match Ayt s o with
  | []=>none
  | i::r=>match It E (i::r) s with
   | (s',ps)=>match Kt E ops s' o with
    |some l=>bif ZO l then(match Aug s o (i::r) ps l with
     |some l'=>some l'
     |none=>some (Al9 ps l)) else none
    |none=>none
theorem An6 {s:St} {o:Oper} {is:List Nat} {ps:List Prop} {l l':List C6} (h:Aug s o is ps l=some l'):∃k s1 qs d x,l=[(none,k,s1,qs)]∧o.guard=none∧o.dst=some d∧s1.get d=some (.v x)∧k≤1∧d <s.n∧l'=[(none,k,s.put d (.v x),ps++qs)]:=by
 unfold Aug at h
 cases hd:Aqz s.o is||A6t s o with
 |false=>rw[hd] at h;cases h
 | true=>
  rw[hd,cond_true] at h
  unfold A6u at h
  split at h<;>first|(cases h;done)|skip
  rename_i k s1 qs
  split at h<;>first|(cases h;done)|skip
  rename_i d hg hds
  split at h<;>first|(cases h;done)|skip
  rename_i x hx
  cases hb:Nat.ble k 1&&Nat.blt d s.n with
  |false=>rw[hb] at h;cases h
  |true=>
   rw[hb] at h
   cases h
   rw[Bool.and_eq_true] at hb
   exact⟨k,s1,qs,d,x,rfl,hg,hds,hx,Nat.le_of_ble_eq_true hb.1,Nat.le_of_ble_eq_true hb.2,rfl⟩
section
variable {E:Env} {Z:Base} {F:Nat→Prop} {N:Nm} {s:St} {a:Act} {R:World}
theorem OA:∀{l:List Nat} {s s':St} {ps:List Prop} {F:Nat→Prop},Rel Z F N s a R→It E l s=(s',ps)→(∀p∈ps,p)→∃F',Rel Z F' N s' a R
 | [],s,s',ps,F,h,he,_=>by cases he;exact⟨F,h⟩
 | i::r,s,s',ps,F,h,he,hp=>by
  unfold It at he
  split at he
  ·rename_i s1 ps1 h1
   generalize h2:It E r s1=x at he
   obtain⟨s2,qs⟩:=x
   cases he
   obtain⟨F1,g1⟩:=Ag1 h h1 fun p hm=>hp p (List.mem_append.2 (.inl hm))
   exact OA g1 h2 fun p hm=>hp p (List.mem_append.2 (.inr hm))
  ·exact OA h he hp
theorem Z7 {K:St→Prop} {ps:List Prop}:∀{l:List C6},X0 l K→X0 (Al9 ps l) K
 | [],h=>h
 |_::_,h=>h.imp id fun⟨a,b⟩=>⟨a,Z7 b⟩
theorem Age {ps:List Prop}:∀{l:List C6},DF (Al9 ps l)=DF l
 | []=>rfl
 |(c,k,s,qs)::r=>by
  show Nat.max k (DF (Al9 ps r))=Nat.max k (DF r)
  rw[Age]
theorem Agf {ps:List Prop}:∀{l:List C6},Kn (Al9 ps l)→Kn l
 | [],h=>h
 |(_,_,_,_)::r,⟨h1,h2⟩=>⟨fun hc p hm=>h1 hc p (List.mem_append.2 (.inr hm)),Agf (l:=r) h2⟩
theorem Agg {ps:List Prop}:∀{l:List C6},ZO l=true→Kn (Al9 ps l)→∀p∈ps,p
 | [],h,_=>by cases h
 |(none,k,s,qs)::r,_,⟨h1,_⟩=>fun p hm=>h1 rfl p (List.mem_append.2 (.inl hm))
 |(some _,k,s,qs)::r,h,⟨_,h2⟩=>Agg (l:=r) h h2
theorem A1d (ok:EnvOk E) (h:Rel Z F N s a R) {ops:List Oper} {o:Oper} {l:List C6} (he:SU E ops s o=some l) (hp:Kn l) (hW:∀d,o.dst=some d→Z.W d):
  (Region.wanted o (yielded ops.toArray a.tmps)=true∧HE E.P (fun v R'=>(DF l≤1→Below R.heap.size R R')∧X0 l fun s'=>∃F' N',Rel Z F' N' s' (a.put o.dst v) R') ((execOp a.eval o).run E.P R))∨
  (Region.wanted o (yielded ops.toArray a.tmps)=false∧X0 l fun s'=>∃F' N',Rel Z F' N' s' (a.put o.dst undef) R):=by
 unfold SU at he
 split at he
 ·rename_i l' hl
  cases he
  exact Ad7 ok h hl hp hW
 ·split at he<;>first|(cases he;done)|skip
  rename_i i r hc
  generalize hf:It E (i::r) s=x at he
  obtain⟨s',ps⟩:=x
  simp only at he
  split at he<;>first|(cases he;done)|skip
  rename_i l' hl
  cases hn:ZO l' with
  |false=>rw[hn] at he;cases he
  | true=>
   rw[hn,cond_true] at he
   cases hle:Aug s o (i::r) ps l' with
   | some l2=>
    rw[hle] at he
    cases he
    obtain⟨k,s1,qs,d,x,rfl,hg,hds,hx,hk,hdn,rfl⟩:=An6 hle
    obtain⟨F',h'⟩:=OA h hf fun p hm=>hp.1 rfl p (List.mem_append.2 (.inl hm))
    rcases Ad7 ok h' hl ⟨fun _ p hm=>hp.1 rfl p (List.mem_append.2 (.inr hm)),hp.2⟩ hW with⟨h1,h2⟩|⟨h1,_⟩
    ·refine .inl ⟨h1,CU h2 fun v R' ⟨h3,h4⟩=>?_⟩
     have hB:Below R.heap.size R R':=h3 (Nat.max_le.2 ⟨hk,Nat.zero_le _⟩)
     refine⟨fun _=>hB,.inl ⟨rfl,F,N,?_⟩⟩
     rcases h4 with⟨_,F1,N1,hr⟩|h4
     ·have e:=hr.slots d (.v x) hx
      rw[hds,YE v (by rw[h.size];exact hdn)] at e
      cases(Ab rfl).1 e
      rw[hds]
      exact(h.grow hB).put hdn (hW d hds) _ ((Ab rfl).2 (.v _))
     ·cases h4.1
    ·rw[Ih hg] at h1
     cases h1
   |none=>
   rw[hle] at he
   cases he
   obtain⟨F',h'⟩:=OA h hf (Agg hn hp)
   rcases Ad7 ok h' hl (Agf hp) hW with⟨h1,h2⟩|⟨h1,h2⟩
   ·exact .inl ⟨h1,CU h2 fun v R' ⟨h3,h4⟩=>⟨fun hk=>h3 (by rw[Age] at hk;exact hk),Z7 h4⟩⟩
   ·exact .inr ⟨h1,Z7 h2⟩
end
def Aj9 (s:St) (dst:Option Tmp) (x:A) (ps:List Prop):Option (St×List Prop):=match dst with
 |some d=>bif Nat.blt d s.n then some (s.put d x,ps) else none
 |none=>some (s,ps)
def SF (E:Env) (ops:List Oper) (s:St) (o:Oper):Option (St×List Prop):=
 match o.guard with
 |none=>match OP E s [] o with
  |some (x,ps)=>Aj9 s o.dst x ps
  |none=>none
 | some (j,b)=>match Agw ops j with
  | some u=>match E.lit with
   | true=>match s.raw [] (.tmp u) with
    | some (.bool c)=>match Ael c b with
     |true=>match OP E s (Py s 5 u b) o with
      |some (x,ps)=>Aj9 s o.dst x ps
      |none=>none
     |false=>Aj9 s o.dst (.v undef) []
    |_=>none
   | false=>match OP E s (Py s 5 u b) o with
    |some (x,ps)=>match o.dst with
     |some d=>bif Nat.blt d s.n then(bif Nat.beq d u then none else some (s.put d (.opt u b x),P8 (OC s (Py s 5 u b) (Py s 5 u b)) ps)) else none
     |none=>none
    |none=>none
  |none=>none
def Ath (P:Program) (ops:List Oper) (o:Oper) (a:Act) (R:World) (v:Value):Prop:=
 (Region.wanted o (yielded ops.toArray a.tmps)=true∧∀w',Below R.heap.size R w'→Oper.quietUpon P (fun w''=>Below w'.heap.size w' w'') w' v ((execOp a.eval o).run P w'))∨
 (Region.wanted o (yielded ops.toArray a.tmps)=false∧v=undef)
section
variable {E:Env} {Z:Base} {F:Nat→Prop} {N:Nm} {s:St} {a:Act} {R:World}
theorem Aka (h:Rel Z F N s a R) {dst:Option Tmp} {x:A} {ps qs:List Prop} {s':St} (he:Aj9 s dst x ps=some (s',qs)) (hW:∀d,dst=some d→Z.W d) {v:Value} (hv:Hv F N s.nx R x v):qs=ps∧Rel Z F N s' (a.put dst v) R:=by
 unfold Aj9 at he
 split at he
 ·rename_i d
  cases hb:Nat.blt d s.n with
  |false=>rw[hb] at he;cases he
  |true=>
   rw[hb] at he
   cases he
   exact⟨rfl,h.put (Nat.le_of_ble_eq_true hb) (hW d rfl) v ((Ab hv.isPlain).2 hv)⟩
 ·cases he
  exact⟨rfl,h⟩
theorem Aor (ok:EnvOk E) (h:Rel Z F N s a R) {ops:List Oper} {o:Oper} {s':St} {ps:List Prop} (he:SF E ops s o=some (s',ps)) (hp:∀p∈ps,p) (hW:∀d,o.dst=some d→Z.W d):
  ∃v,Rel Z F N s' (a.put o.dst v) R∧Ath E.P ops o a R v:=by
 have go:∀{G:Guards} {x:A} {qs:List Prop},KQ (A1 a) G→OP E s G o=some (x,qs)→(∀p∈qs,p)→∃v,Hv F N s.nx R x v∧∀R',Below R.heap.size R R'→Oper.quietUpon E.P (fun R''=>Below R'.heap.size R' R'') R' v ((execOp a.eval o).run E.P R'):=fun {G x qs} hG hq hqs=>by
  unfold OP at hq
  cases hl:Abr o.op with
  |true=>rw[hl] at hq;cases hq
  |false=>rw[hl] at hq;exact Asx ok h hG hq hqs
 unfold SF at he
 split at he
 ·rename_i hg
  split at he<;>first|(cases he;done)|skip
  rename_i x qs hq
  have hqs:qs=ps:=by
   unfold Aj9 at he
   split at he
   ·rename_i d _
    cases hb:Nat.blt d s.n with
    |false=>rw[hb] at he;cases he
    |true=>rw[hb] at he;cases he;rfl
   ·cases he;rfl
  subst hqs
  obtain⟨v,h1,h2⟩:=go (F7 _) hq hp
  exact⟨v,(Aka h he hW h1).2,.inl ⟨Ih hg _,h2⟩⟩
 ·rename_i j b hg
  split at he<;>first|(cases he;done)|skip
  rename_i u hu
  have wt:=TY hg hu a
  have wf:A1 a u≠.bool b→Region.wanted o (yielded ops.toArray a.tmps)=false:=fun hn=>by
   cases hw:Region.wanted o (yielded ops.toArray a.tmps) with
   |false=>rfl
   |true=>exact absurd (wt.1 hw) hn
  split at he
  ·split at he<;>first|(cases he;done)|skip
   rename_i c hc
   have hcu:A1 a u=.bool c:=CS h (F7 _) hc
   split at he
   ·rename_i hb
    have hcb:=Rn hb
    rw[hcb] at hcu
    split at he<;>first|(cases he;done)|skip
    rename_i x qs hq
    have hqs:qs=ps:=by
     unfold Aj9 at he
     split at he
     ·rename_i d _
      cases hb:Nat.blt d s.n with
      |false=>rw[hb] at he;cases he
      |true=>rw[hb] at he;cases he;rfl
     ·cases he;rfl
    subst hqs
    obtain⟨v,h1,h2⟩:=go (Ry h 5 u b hcu) hq hp
    exact⟨v,(Aka h he hW h1).2,.inl ⟨wt.2 hcu,h2⟩⟩
   ·rename_i hb
    refine⟨undef,(Aka h he hW (.v _)).2,.inr ⟨wf fun e=>?_,rfl⟩⟩
    rw[hcu] at e
    cases e
    cases b<;>cases hb
  ·split at he<;>first|(cases he;done)|skip
   rename_i x qs hq
   split at he<;>first|(cases he;done)|skip
   rename_i d hd
   cases hb:Nat.blt d s.n with
   |false=>rw[hb] at he;cases he
   | true=>
    cases hdu:Nat.beq d u with
    |true=>rw[hb,hdu] at he;cases he
    | false=>
     rw[hb,hdu] at he
     cases he
     have hne:u≠d:=fun e=>by subst e;simp at hdu
     have hdn:=Nat.le_of_ble_eq_true hb
     by_cases hw:A1 a u=.bool b
     ·have hG:=Ry h 5 u b hw
      obtain⟨v,h1,h2⟩:=go hG hq (JL hp (Nj h hG (Aa6 h 5 u b hw)))
      refine⟨v,?_,.inl ⟨wt.2 hw,h2⟩⟩
      rw[hd]
      refine h.put (x:=.opt u b x) hdn (hW d hd) v ?_
      simp only[HS]
      exact⟨fun _=>(Ab h1.isPlain).2 h1,fun hn=>absurd (by rw[Jn _ hne];exact hw) hn⟩
     ·refine⟨undef,?_,.inr ⟨wf hw,rfl⟩⟩
      rw[hd]
      refine h.put (x:=.opt u b x) hdn (hW d hd) undef ?_
      simp only[HS]
      exact⟨fun hn=>absurd (by rw[Jn _ hne] at hn;exact hn) hw,fun _=>trivial⟩
end
abbrev Gw:=Cnd×St
def YT:List C6→List C6
 | []=>[]
 |(c,k,s,ps)::r=>(c,Nat.max 1 k,s,ps)::YT r
def Aph (ops:List Oper) (s:St) (o:Oper):Option (St×List Prop):=match o.guard with
 | some (j,b)=>match Agw ops j with
  | some u=>match s.raw [] (.tmp u) with
   |some (.bool c)=>match YA s o with
    |some s'=>some (s',[c=!b])
    |none=>none
   |some (.tuple _)=>match YA s o with
    |some s'=>some (s',[])
    |none=>none
   |_=>none
  |none=>none
 |none=>none
def II (E:Env) (ops:List Oper) (s:St) (o:Oper):Option (List C6):=match SF E ops s o with
 |some (s',ps)=>some [(none,0,s',ps)]
 | none=>match SU E ops s o with
  |some (x::r)=>some (YT (x::r))
  |_=>match Aph ops s o with
   |some (s',ps)=>some [(none,0,s',ps)]
   |none=>none
def St.open1 (s:St) (u u2:Nat) (b2:Bool) (y:A):St:={s with t:=(u,y)::(u2,.v (.bool b2))::s.t}
def Ama (c:Cnd):List C6→List C6
 | []=>[]
 |(d,k,s,ps)::r=>(IU c d,k,s,ps)::Ama c r
def Ko (E:Env) (ops:List Oper) (s:St) (o:Oper):Option (List C6):=match II E ops s o with
 |some l=>some l
 | none=>match o.guard with
  | some (j,_)=>match Agw ops j with
   | some u=>match s.get u with
    | some (.opt u2 b2 y)=>match s.raw [] (.tmp u2) with
     |some (.bool c)=>match II E ops (s.open1 u u2 b2 y) o,II E ops (s.open1 u u2 (!b2) (.v undef)) o with
      |some l1,some l2=>some (Ama (some (bif b2 then c else !c)) l1++l2)
      |_,_=>none
     |_=>none
    |_=>none
   |none=>none
  |none=>none
def Amv (c:Cnd):List C6→List Gw
 | []=>[]
 |(d,_,s,_)::r=>(IU c d,s)::Amv c r
def A0e (c:Cnd):List C6→List Prop
 | []=>[]
 |(d,_,_,ps)::r=>P8 (A26 (IU c d)) ps++A0e c r
def Ir (E:Env) (ops:List Oper) (o:Oper):List Gw→Option (Nat×List Gw×List Prop)
 | []=>some (0,[],[])
 | (c,s)::r=>match Ko E ops s o with
  |some l=>match Ir E ops o r with
   |some (k,r',qs)=>some (Nat.max (DF l) k,Amv c l++r',A0e c l++qs)
   |none=>none
  |none=>none
def WV:List Gw→(St→Prop)→Prop
 | [],_=>False
 |(c,s)::r,K=>(A9 c=true∧K s)∨(A9 c=false∧WV r K)
theorem QH {K K':St→Prop} (hk:∀s,K s→K' s):∀{l:List Gw},WV l K→WV l K'
 | [],h=>h
 |_::_,h=>h.imp (fun⟨a,b⟩=>⟨a,hk _ b⟩) (fun⟨a,b⟩=>⟨a,QH hk b⟩)
theorem NH {c:Cnd} {K:St→Prop} {r':List Gw} (hc:A9 c=true):∀{l:List C6},X0 l K→WV (Amv c l++r') K
 | [],h=>h.elim
 |(d,k,s,ps)::r,h=>by
  rcases h with⟨h1,h2⟩|⟨h1,h2⟩
  ·exact .inl ⟨by rw[A8,hc,h1];rfl,h2⟩
  ·exact .inr ⟨by rw[A8,hc,h1];rfl,NH hc h2⟩
theorem NI {c:Cnd} {K:St→Prop} {r':List Gw} (hc:A9 c=false) (h:WV r' K):∀{l:List C6},WV (Amv c l++r') K
 | []=>h
 |(d,k,s,ps)::r=> .inr ⟨by rw[A8,hc];rfl,NI hc h⟩
theorem Ab0 {c:Cnd} (hc:A9 c=true):∀{l:List C6},(∀p∈A0e c l,p)→Kn l
 | [],_=>trivial
 |(d,k,s,ps)::r,h=>by
  refine⟨fun hd=>JL (fun p hm=>h p (List.mem_append.2 (.inl hm))) (Atu (by rw[A8,hc,hd];rfl)),Ab0 hc fun p hm=>h p (List.mem_append.2 (.inr hm))⟩
theorem PB {K:St→Prop}:∀{l:List C6},X0 l K→X0 (YT l) K
 | [],h=>h
 |_::_,h=>h.imp id fun⟨a,b⟩=>⟨a,PB b⟩
theorem Agl:∀{l:List C6},Kn (YT l)→Kn l
 | [],h=>h
 |_::r,⟨h1,h2⟩=>⟨h1,Agl (l:=r) h2⟩
theorem Agk:∀{l:List C6},DF l≤DF (YT l)
 | []=>Nat.le_refl _
 |(c,k,s,ps)::r=>by
  show Nat.max k (DF r)≤Nat.max (Nat.max 1 k) (DF (YT r))
  have:=Agk (l:=r)
  exact Nat.max_le.2 ⟨Nat.le_trans (Nat.le_max_right ..) (Nat.le_max_left ..),Nat.le_trans this (Nat.le_max_right ..)⟩
section
variable {E:Env} {Z:Base} {F:Nat→Prop} {N:Nm} {s:St} {a:Act} {R:World}
theorem Ar1 {P:Program} {o:Oper} {v:Value} {K:Value→World→Prop} (h:Oper.quietUpon P (fun w''=>Below R.heap.size R w'') R v ((execOp a.eval o).run P R)) (hk:∀R',Below R.heap.size R R'→K v R'):HE P K ((execOp a.eval o).run P R):=by
 have hr:=Below.refl R.heap.size R
 generalize (execOp a.eval o).run P R=r at*
 cases r with
 |halt x w=>exact h.elim
 | ok n w=>
  cases n<;>simp only[Oper.quietUpon] at h<;>simp only[HE]
  case value y=>
   obtain⟨e1,e2⟩:=h
   rw[e1,e2]
   exact hk _ hr
  case skip=>
   obtain⟨e1,e2⟩:=h
   rw[e1,←e2]
   exact hk _ hr
  case enter f args=>
   obtain⟨e1,hc⟩:=h
   rw[e1]
   exact hc.mono fun e w'' ⟨he,hw''⟩=>⟨v,he,hk _ hw''⟩
theorem Api (h:Rel Z F N s a R) {ops:List Oper} {o:Oper} {s':St} {ps:List Prop} (he:Aph ops s o=some (s',ps)) (hp:∀p∈ps,p) (hW:∀d,o.dst=some d→Z.W d):
  Region.wanted o (yielded ops.toArray a.tmps)=false∧Rel Z F N s' (a.put o.dst undef) R:=by
 unfold Aph at he
 split at he<;>first|(cases he;done)|skip
 rename_i j b hg
 split at he<;>first|(cases he;done)|skip
 rename_i u hu
 have wt:=TY hg hu a
 split at he<;>first|(cases he;done)|skip
 ·rename_i c hc
  split at he<;>first|(cases he;done)|skip
  rename_i s1 hs
  cases he
  have hcb:c=!b:=hp _ (List.mem_singleton.2 rfl)
  have hcu:A1 a u=.bool c:=CS h (F7 _) hc
  refine⟨?_,Vw h hs hW⟩
  cases hw:Region.wanted o (yielded ops.toArray a.tmps) with
  |false=>rfl
  |true=>
   have:=wt.1 hw
   rw[hcu,hcb] at this
   cases b<;>cases this
 ·rename_i xs hc
  split at he<;>first|(cases he;done)|skip
  rename_i s1 hs
  cases he
  have hcu:A1 a u=.tuple xs:=CS h (F7 _) hc
  refine⟨?_,Vw h hs hW⟩
  cases hw:Region.wanted o (yielded ops.toArray a.tmps) with
  |false=>rfl
  |true=>
   have:=wt.1 hw
   rw[hcu] at this
   cases this
theorem Acp (ok:EnvOk E) (h:Rel Z F N s a R) {ops:List Oper} {o:Oper} {l:List C6} (he:II E ops s o=some l) (hp:Kn l) (hW:∀d,o.dst=some d→Z.W d):
  (Region.wanted o (yielded ops.toArray a.tmps)=true∧HE E.P (fun v R'=>(DF l≤1→Below R.heap.size R R')∧X0 l fun s'=>∃F' N',Rel Z F' N' s' (a.put o.dst v) R') ((execOp a.eval o).run E.P R))∨
  (Region.wanted o (yielded ops.toArray a.tmps)=false∧X0 l fun s'=>∃F' N',Rel Z F' N' s' (a.put o.dst undef) R):=by
 unfold II at he
 split at he
 ·rename_i s' ps hq
  cases he
  obtain⟨v,h1,h2⟩:=Aor ok h hq (hp.1 rfl) hW
  rcases h2 with⟨h2,h3⟩|⟨h2,rfl⟩
  ·exact .inl ⟨h2,Ar1 (h3 R (Below.refl _ _)) fun R' hb=>⟨fun _=>hb,.inl ⟨rfl,F,N,h1.grow hb⟩⟩⟩
  ·exact .inr ⟨h2,.inl ⟨rfl,F,N,h1⟩⟩
 ·split at he
  ·rename_i x r hs
   cases he
   rcases A1d ok h hs (Agl hp) hW with⟨h1,h2⟩|⟨h1,h2⟩
   ·exact .inl ⟨h1,CU h2 fun v R' ⟨h3,h4⟩=>⟨fun hk=>h3 (Nat.le_trans Agk hk),PB h4⟩⟩
   ·exact .inr ⟨h1,PB h2⟩
  ·split at he<;>first|(cases he;done)|skip
   rename_i s' ps hs
   cases he
   obtain⟨h1,h2⟩:=Api h hs (hp.1 rfl) hW
   exact .inr ⟨h1,.inl ⟨rfl,F,N,h2⟩⟩
theorem QJ (ok:EnvOk E) (h:Rel Z F N s a R) {ops:List Oper} {o:Oper} {l:List C6} (he:II E ops s o=some l) (hk:DF l=0) (hp:Kn l) (hW:∀d,o.dst=some d→Z.W d):
  ∃v,(X0 l fun s'=>∃F' N',Rel Z F' N' s' (a.put o.dst v) R)∧Ath E.P ops o a R v:=by
 unfold II at he
 split at he
 ·rename_i s' ps hq
  cases he
  obtain⟨v,h1,h2⟩:=Aor ok h hq (hp.1 rfl) hW
  exact⟨v,.inl ⟨rfl,F,N,h1⟩,h2⟩
 ·split at he
  ·rename_i x r hs
   cases he
   obtain⟨c,k,s',ps⟩:=x
   have hk':Nat.max (Nat.max 1 k) (DF (YT r))=0:=hk
   exact absurd (Nat.le_trans (Nat.le_trans (Nat.le_max_left 1 k) (Nat.le_max_left (Nat.max 1 k) (DF (YT r)))) (Nat.le_of_eq hk')) (by decide)
  ·split at he<;>first|(cases he;done)|skip
   rename_i s' ps hs
   cases he
   obtain⟨h1,h2⟩:=Api h hs (hp.1 rfl) hW
   exact⟨undef,.inl ⟨rfl,F,N,h2⟩,.inr ⟨h1,rfl⟩⟩
theorem KF {c:Cnd} {K:St→Prop} {r:List C6} (hc:A9 c=true):∀{l:List C6},X0 l K→X0 (Ama c l++r) K
 | [],h=>h.elim
 |(d,k,s,ps)::_,h=>by
  rcases h with⟨h1,h2⟩|⟨h1,h2⟩
  ·exact .inl ⟨by rw[A8,hc,h1];rfl,h2⟩
  ·exact .inr ⟨by rw[A8,hc,h1];rfl,KF hc h2⟩
theorem Jz {c:Cnd} {K:St→Prop} {r:List C6} (hc:A9 c=false) (h:X0 r K):∀{l:List C6},X0 (Ama c l++r) K
 | []=>h
 |(d,k,s,ps)::_=> .inr ⟨by rw[A8,hc];rfl,Jz hc h⟩
theorem RD {c:Cnd} {r:List C6}:∀{l:List C6},Kn (Ama c l++r)→(A9 c=true→Kn l)∧Kn r
 | [],h=>⟨fun _=>trivial,h⟩
 |(d,k,s,ps)::_,⟨h1,h2⟩=>⟨fun hc=>⟨fun hd=>h1 (by rw[A8,hc,hd];rfl),(RD h2).1 hc⟩,(RD h2).2⟩
theorem Wy {c:Cnd} {r:List C6}:∀{l:List C6},DF (Ama c l++r)=Nat.max (DF l) (DF r)
 | []=>by show DF r=Nat.max 0 (DF r);exact(Nat.max_eq_right (Nat.zero_le _)).symm
 |(d,k,s,ps)::l=>by
  show Nat.max k (DF (Ama c l++r))=Nat.max (Nat.max k (DF l)) (DF r)
  rw[Wy]
  exact(Nat.max_assoc _ _ _).symm
theorem Aok (h:Rel Z F N s a R) {u u2:Nat} {b2:Bool} {y:A} (hu:HS F N s.nx R (A1 a) y (A1 a u)) (hu2:A1 a u2=.bool b2):Rel Z F N (s.open1 u u2 b2 y) a R:=
 ⟨h.defers,h.size,fun v x hv=>by
  have hv':(bif Nat.beq u v then some y else bif Nat.beq u2 v then some (A.v (.bool b2)) else B5 v s.t)=some x:=hv
  cases hb:Nat.beq u v with
  |true=>
   rw[hb] at hv'
   obtain rfl:=Nat.eq_of_beq_eq_true hb
   cases hv'
   exact hu
  | false=>
   rw[hb] at hv'
   cases hb2:Nat.beq u2 v with
   |true=>
    rw[hb2] at hv'
    obtain rfl:=Nat.eq_of_beq_eq_true hb2
    cases hv'
    rw[hu2]
    exact(Ab rfl).2 (.v _)
   |false=>rw[hb2] at hv';exact h.slots v x hv',h.hp,h.st,h.tm⟩
theorem Acm (h:Rel Z F N s a R) {u u2:Nat} {b2 c:Bool} {y:A} (hg:s.get u=some (.opt u2 b2 y)) (hc:s.raw [] (.tmp u2)=some (.bool c)):
  (A9 (some (bif b2 then c else !c))=true∧Rel Z F N (s.open1 u u2 b2 y) a R)∨(A9 (some (bif b2 then c else !c))=false∧Rel Z F N (s.open1 u u2 (!b2) (.v undef)) a R):=by
 have hcu:A1 a u2=.bool c:=CS h (F7 _) hc
 have hs:=h.slots u _ hg
 simp only[HS] at hs
 cases hcb:(bif b2 then c else !c) with
 |true=>
  have e:=Agj hcb
  subst e
  exact .inl ⟨rfl,Aok h (hs.1 hcu) hcu⟩
 |false=>
  have e:=Aae hcb
  refine .inr ⟨rfl,Aok h ?_ (by rw[hcu,e])⟩
  rw[hs.2 (by rw[hcu,e];cases b2<;>simp)]
  exact(Ab rfl).2 (.v _)
theorem A0m (ok:EnvOk E) (h:Rel Z F N s a R) {ops:List Oper} {o:Oper} {l:List C6} (he:Ko E ops s o=some l) (hp:Kn l) (hW:∀d,o.dst=some d→Z.W d):
  (Region.wanted o (yielded ops.toArray a.tmps)=true∧HE E.P (fun v R'=>(DF l≤1→Below R.heap.size R R')∧X0 l fun s'=>∃F' N',Rel Z F' N' s' (a.put o.dst v) R') ((execOp a.eval o).run E.P R))∨
  (Region.wanted o (yielded ops.toArray a.tmps)=false∧X0 l fun s'=>∃F' N',Rel Z F' N' s' (a.put o.dst undef) R):=by
 unfold Ko at he
 split at he
 ·rename_i l' hl
  cases he
  exact Acp ok h hl hp hW
 ·split at he<;>first|(cases he;done)|skip
  split at he<;>first|(cases he;done)|skip
  split at he<;>first|(cases he;done)|skip
  rename_i u2 b2 y hg
  split at he<;>first|(cases he;done)|skip
  rename_i c hc
  split at he<;>first|(cases he;done)|skip
  rename_i l1 l2 h1 h2
  cases he
  obtain⟨n1,n2⟩:=RD hp
  rw[Wy]
  rcases Acm h hg hc with⟨e,hr⟩|⟨e,hr⟩
  ·rcases Acp ok hr h1 (n1 e) hW with⟨g1,g2⟩|⟨g1,g2⟩
   ·exact .inl ⟨g1,CU g2 fun v R' ⟨g3,g4⟩=>⟨fun hk=>g3 (Nat.le_trans (Nat.le_max_left ..) hk),KF e g4⟩⟩
   ·exact .inr ⟨g1,KF e g2⟩
  ·rcases Acp ok hr h2 n2 hW with⟨g1,g2⟩|⟨g1,g2⟩
   ·exact .inl ⟨g1,CU g2 fun v R' ⟨g3,g4⟩=>⟨fun hk=>g3 (Nat.le_trans (Nat.le_max_right ..) hk),Jz e g4⟩⟩
   ·exact .inr ⟨g1,Jz e g2⟩
theorem Aoo (ok:EnvOk E) (h:Rel Z F N s a R) {ops:List Oper} {o:Oper} {l:List C6} (he:Ko E ops s o=some l) (hk:DF l=0) (hp:Kn l) (hW:∀d,o.dst=some d→Z.W d):
  ∃v,(X0 l fun s'=>∃F' N',Rel Z F' N' s' (a.put o.dst v) R)∧Ath E.P ops o a R v:=by
 unfold Ko at he
 split at he
 ·rename_i l' hl
  cases he
  exact QJ ok h hl hk hp hW
 ·split at he<;>first|(cases he;done)|skip
  split at he<;>first|(cases he;done)|skip
  split at he<;>first|(cases he;done)|skip
  rename_i u2 b2 y hg
  split at he<;>first|(cases he;done)|skip
  rename_i c hc
  split at he<;>first|(cases he;done)|skip
  rename_i l1 l2 h1 h2
  cases he
  obtain⟨n1,n2⟩:=RD hp
  rw[Wy] at hk
  have hk1:DF l1=0:=Nat.le_zero.1 (Nat.le_trans (Nat.le_max_left (DF l1) (DF l2)) (Nat.le_of_eq hk))
  have hk2:DF l2=0:=Nat.le_zero.1 (Nat.le_trans (Nat.le_max_right (DF l1) (DF l2)) (Nat.le_of_eq hk))
  rcases Acm h hg hc with⟨e,hr⟩|⟨e,hr⟩
  ·obtain⟨v,g1,g2⟩:=QJ ok hr h1 hk1 (n1 e) hW
   exact⟨v,KF e g1,g2⟩
  ·obtain⟨v,g1,g2⟩:=QJ ok hr h2 hk2 n2 hW
   exact⟨v,Jz e g1,g2⟩
abbrev At (Z:Base) (A:Act) (w:World):St→Prop:=fun s=>∃F N,Rel Z F N s A w
theorem UA (ok:EnvOk E) {ops:List Oper} {o:Oper} (hW:∀d,o.dst=some d→Z.W d):∀{l l':List Gw} {qs:List Prop},Ir E ops o l=some (0,l',qs)→(∀q∈qs,q)→WV l (At Z a R)→∃v,WV l' (At Z (a.put o.dst v) R)∧Ath E.P ops o a R v
 | [],l',qs,he,_,h=>h.elim
 | (c,s)::r,l',qs,he,hp,h=>by
  unfold Ir at he
  split at he<;>first|(cases he;done)|skip
  rename_i l1 h1
  split at he<;>first|(cases he;done)|skip
  rename_i k r' qs' h2
  injection he with he
  injection he with hk he
  injection he with e1 e2
  subst e1 e2
  have hk1:DF l1=0:=Nat.le_zero.1 (Nat.le_trans (Nat.le_max_left (DF l1) k) (Nat.le_of_eq hk))
  have hk2:k=0:=Nat.le_zero.1 (Nat.le_trans (Nat.le_max_right (DF l1) k) (Nat.le_of_eq hk))
  rcases h with⟨hc,F,N,hr⟩|⟨hc,h⟩
  ·obtain⟨v,g1,g2⟩:=Aoo ok hr h1 hk1 (Ab0 hc fun p hm=>hp p (List.mem_append.2 (.inl hm))) hW
   exact⟨v,NH hc g1,g2⟩
  ·subst hk2
   obtain⟨v,g1,g2⟩:=UA ok hW h2 (fun p hm=>hp p (List.mem_append.2 (.inr hm))) h
   exact⟨v,NI hc g1,g2⟩
theorem Wn (ok:EnvOk E) {ops:List Oper} {o:Oper} (hW:∀d,o.dst=some d→Z.W d):∀{l l':List Gw} {k:Nat} {qs:List Prop},Ir E ops o l=some (k,l',qs)→(∀q∈qs,q)→WV l (At Z a R)→
  (Region.wanted o (yielded ops.toArray a.tmps)=true∧HE E.P (fun v R'=>(k≤1→Below R.heap.size R R')∧WV l' (At Z (a.put o.dst v) R')) ((execOp a.eval o).run E.P R))∨
  (Region.wanted o (yielded ops.toArray a.tmps)=false∧WV l' (At Z (a.put o.dst undef) R))
 | [],l',k,qs,he,_,h=>h.elim
 | (c,s)::r,l',k,qs,he,hp,h=>by
  unfold Ir at he
  split at he<;>first|(cases he;done)|skip
  rename_i l1 h1
  split at he<;>first|(cases he;done)|skip
  rename_i k' r' qs' h2
  cases he
  rcases h with⟨hc,F,N,hr⟩|⟨hc,h⟩
  ·rcases A0m ok hr h1 (Ab0 hc fun p hm=>hp p (List.mem_append.2 (.inl hm))) hW with⟨g1,g2⟩|⟨g1,g2⟩
   ·exact .inl ⟨g1,CU g2 fun v R' ⟨g3,g4⟩=>⟨fun hk=>g3 (Nat.le_trans (Nat.le_max_left ..) hk),NH hc g4⟩⟩
   ·exact .inr ⟨g1,NH hc g2⟩
  ·rcases Wn ok hW h2 (fun p hm=>hp p (List.mem_append.2 (.inr hm))) h with⟨g1,g2⟩|⟨g1,g2⟩
   ·exact .inl ⟨g1,CU g2 fun v R' ⟨g3,g4⟩=>⟨fun hk=>g3 (Nat.le_trans (Nat.le_max_right ..) hk),NI hc g4⟩⟩
   ·exact .inr ⟨g1,NI hc g2⟩
end
end Go.Proofs.YtifkbgkbajncjaaDoor
namespace Go.Proofs.YtifkbgkbajncjaaDoor
open Go.RowKit
theorem AY {α:Type} {b:Bool} {x:Option α} {y:α} (h:(bif b then x else none)=some y):x=some y:=by cases b<;>first|exact h|cases h
theorem Aac {α:Type} {b:Bool} {x:Option α} {y:α} (h:(bif b then none else x)=some y):x=some y:=by cases b<;>first|exact h|cases h
theorem Av6 (o:Objs) (d:Option Nat):∃e,Wi o d=e++o:=by
 cases d with
 |none=>exact⟨[],rfl⟩
 |some i=>exact⟨[(i,none)],rfl⟩
section
variable {E:Env} {s:St} {G:Guards}
theorem Am6 (ok:EnvOk E) {o:Oper} {f:Eff} (he:Av8 E s G o=some f):∃d,f.o=d++s.o:=by
 obtain⟨dst,op,type,pos,after,guard⟩:=o
 unfold Av8 at he
 simp only at he
 split at he
 ·unfold Aaa at he
  repeat' (first|(cases he;done)|(replace he:=AY he)|split at he)
  all_goals (cases he;exact⟨[_],rfl⟩)
 ·unfold Ayr at he
  repeat' (first|(cases he;done)|(replace he:=AY he)|split at he)
  all_goals (cases he;exact⟨[_],rfl⟩)
 ·unfold Asn Au9 at he
  repeat' (first|(cases he;done)|(replace he:=AY he)|split at he)
  all_goals (cases he;exact⟨[_],rfl⟩)
 ·unfold M1 at he
  repeat' (first|(cases he;done)|(replace he:=AY he)|split at he)
  all_goals (generalize Nat.beq _ 0=bb at he;cases bb<;>(cases he;first|exact⟨[],rfl⟩|exact⟨[_],rfl⟩))
 ·unfold ZP at he
  repeat' (first|(cases he;done)|(replace he:=AY he)|split at he)
  all_goals (cases he;exact⟨[_],rfl⟩)
 ·unfold RM at he
  repeat' (first|(cases he;done)|(replace he:=AY he)|split at he)
  all_goals (cases he;exact⟨[],rfl⟩)
 ·split at he<;>first|(cases he;done)|skip
  unfold A2y at he
  repeat' (first|(cases he;done)|(replace he:=AY he)|split at he)
  all_goals (cases he;first|exact⟨[_],rfl⟩|exact⟨[_,_,_],rfl⟩|(obtain⟨e,h⟩:=Av6 s.o _;exact⟨_::e,by show _::Wi _ _=_;rw[h];rfl⟩))
 ·split at he<;>first|(cases he;done)|skip
  unfold Atx at he
  repeat' (first|(cases he;done)|(replace he:=AY he)|split at he)
  all_goals (cases he;exact⟨[_],rfl⟩)
 ·unfold Rp at he
  split at he
  ·cases he;exact⟨[],rfl⟩
  split at he<;>first|(cases he;done)|skip
  rename_i k x nx' o' ps hr
  cases he
  unfold Amk at hr
  repeat' (first|(cases hr;done)|(replace hr:=AY hr)|split at hr)
  exact ok.suf _ _ _ _ _ _ _ _ _ hr
 ·unfold Aki at he
  repeat' (first|(cases he;done)|split at he)
  all_goals (cases he;exact⟨[_],rfl⟩)
 ·unfold Aus at he
  repeat' (first|(cases he;done)|(replace he:=AY he)|split at he)
  all_goals (cases he;exact⟨[_],rfl⟩)
 ·unfold Ajx at he
  replace he:=AY he
  cases he
  exact⟨[_],rfl⟩
 ·unfold Ajq at he
  repeat' (first|(cases he;done)|(replace he:=AY he)|split at he)
  all_goals (cases he;exact⟨[_],rfl⟩)
 ·cases he
theorem A4k (ok:EnvOk E) {o:Oper} {f:Eff} (he:opE E s G o=some f):∃d,f.o=d++s.o:=by
 unfold opE at he
 cases hl:Abr o.op with
 |true=>rw[hl] at he;exact Am6 ok he
 |false=>
  rw[hl] at he
  simp only[cond_false] at he
  split at he
  ·cases he;exact⟨[],rfl⟩
  ·exact Am6 ok he
theorem Sub.put (s:St) (u:Nat) (x:A):Sub s (s.put u x):=⟨rfl,[],rfl⟩
theorem Sub.lit (s:St) (u:Nat) (b:Bool):Sub s (s.lit u b):=⟨rfl,[],rfl⟩
theorem A0v {dst:Option Tmp} {f:Eff} {s':St} (he:QS s dst f=some s') (hf:∃d,f.o=d++s.o):Sub s s':=by
 unfold QS at he
 split at he
 ·replace he:=AY he
  cases he
  exact⟨rfl,hf⟩
 ·cases he
  exact⟨rfl,hf⟩
theorem Xh {o:Oper} {s':St} (he:YA s o=some s'):Sub s s':=by
 unfold YA at he
 split at he
 ·replace he:=AY he
  cases he
  exact Sub.put _ _ _
 ·cases he
  exact Sub.refl _
theorem Ai7 (ok:EnvOk E) {o:Oper} {c c':Cnd} {ps ps':List Prop} {k:Nat} {s':St} (he:doE E s G o c ps=some (c',k,s',ps')):Sub s s':=by
 unfold doE at he
 split at he<;>first|(cases he;done)|skip
 rename_i f hf
 split at he<;>first|(cases he;done)|skip
 rename_i s1 hs
 cases he
 exact A0v hs (A4k ok hf)
theorem Acu {dst:Option Tmp} {x:A} {ps ps':List Prop} {s':St} (he:Aj9 s dst x ps=some (s',ps')):Sub s s':=by
 unfold Aj9 at he
 split at he
 ·replace he:=AY he
  cases he
  exact Sub.put _ _ _
 ·cases he
  exact Sub.refl _
theorem Awz {ops:List Oper} {o:Oper} {s':St} {ps:List Prop} (he:SF E ops s o=some (s',ps)):Sub s s':=by
 unfold SF at he
 split at he
 ·split at he<;>first|(cases he;done)|skip
  exact Acu he
 ·split at he<;>first|(cases he;done)|skip
  split at he
  ·split at he<;>first|(cases he;done)|skip
   split at he
   ·split at he<;>first|(cases he;done)|skip
    exact Acu he
   ·exact Acu he
  ·split at he<;>first|(cases he;done)|skip
   split at he<;>first|(cases he;done)|skip
   replace he:=AY he
   replace he:=Aac he
   cases he
   exact Sub.put _ _ _
def TT (s:St):List C6→Prop
 | []=>True
 |(_,_,s',_)::r=>Sub s s'∧TT s r
theorem Ah0 (ok:EnvOk E) {ops:List Oper} {o:Oper} {l:List C6} (he:Kt E ops s o=some l):TT s l:=by
 unfold Kt at he
 split at he
 ·split at he<;>first|(cases he;done)|skip
  rename_i x hx
  obtain⟨c,k,s',ps⟩:=x
  cases he
  exact⟨Ai7 ok hx,trivial⟩
 ·split at he<;>first|(cases he;done)|skip
  split at he
  ·split at he<;>first|(cases he;done)|skip
   split at he
   ·split at he<;>first|(cases he;done)|skip
    rename_i x hx
    obtain⟨c,k,s',ps⟩:=x
    cases he
    exact⟨Ai7 ok hx,trivial⟩
   ·split at he<;>first|(cases he;done)|skip
    rename_i s' hs
    cases he
    exact⟨Xh hs,trivial⟩
  ·split at he
   ·split at he<;>first|(cases he;done)|skip
    replace he:=AY he
    replace he:=Aac he
    cases he
    exact⟨Sub.put _ _ _,trivial⟩
   ·split at he<;>first|(cases he;done)|skip
    split at he<;>first|(cases he;done)|skip
    rename_i x s' hx hs
    obtain⟨c,k,s1,ps⟩:=x
    cases he
    exact⟨(Sub.lit _ _ _).trans (Ai7 ok hx),(Sub.lit _ _ _).trans (Xh hs),trivial⟩
theorem P5:∀{l:List Nat} {s s':St} {ps:List Prop},It E l s=(s',ps)→Sub s s'
 | [],s,s',ps,he=>by cases he;exact Sub.refl _
 | i::r,s,s',ps,he=>by
  unfold It at he
  split at he
  ·rename_i s1 ps1 h1
   generalize h2:It E r s1=x at he
   obtain⟨s2,qs⟩:=x
   cases he
   obtain⟨e1,e2⟩:=Tm h1
   exact Sub.trans ⟨e1,e2⟩ (P5 h2)
  ·exact P5 he
theorem TU {s1:St} (h:Sub s s1):∀{l:List C6},TT s1 l→TT s l
 | [],_=>trivial
 |_::_,⟨h1,h2⟩=>⟨h.trans h1,TU h h2⟩
theorem Ah1 {ps:List Prop}:∀{l:List C6},TT s l→TT s (Al9 ps l)
 | [],_=>trivial
 |_::_,⟨h1,h2⟩=>⟨h1,Ah1 h2⟩
theorem Ah2:∀{l:List C6},TT s l→TT s (YT l)
 | [],_=>trivial
 |_::_,⟨h1,h2⟩=>⟨h1,Ah2 h2⟩
theorem Axb (ok:EnvOk E) {ops:List Oper} {o:Oper} {l:List C6} (he:SU E ops s o=some l):TT s l:=by
 unfold SU at he
 split at he
 ·rename_i l' hl
  cases he
  exact Ah0 ok hl
 ·split at he<;>first|(cases he;done)|skip
  rename_i i r hc
  generalize hf:It E (i::r) s=x at he
  obtain⟨s',ps⟩:=x
  simp only at he
  split at he<;>first|(cases he;done)|skip
  rename_i l' hl
  replace he:=AY he
  split at he
  ·rename_i l2 hle
   cases he
   obtain⟨k,s1,qs,d,x,_,_,_,_,_,_,rfl⟩:=An6 hle
   exact⟨Sub.put _ _ _,trivial⟩
  ·cases he
   exact Ah1 (TU (P5 hf) (Ah0 ok hl))
theorem Axa {ops:List Oper} {o:Oper} {s':St} {ps:List Prop} (he:Aph ops s o=some (s',ps)):Sub s s':=by
 unfold Aph at he
 repeat' (first|(cases he;done)|split at he)
 all_goals (rename_i hs;cases he;exact Xh hs)
theorem WW (ok:EnvOk E) {ops:List Oper} {o:Oper} {l:List C6} (he:II E ops s o=some l):TT s l:=by
 unfold II at he
 split at he
 ·rename_i s' ps hq
  cases he
  exact⟨Awz hq,trivial⟩
 ·split at he
  ·rename_i x r hs
   cases he
   exact Ah2 (Axb ok hs)
  ·split at he<;>first|(cases he;done)|skip
   rename_i s' ps hs
   cases he
   exact⟨Axa hs,trivial⟩
theorem Apl {s1:St} {c:Cnd} {r:List C6} (h:Sub s s1) (hr:TT s r):∀{l:List C6},TT s1 l→TT s (Ama c l++r)
 | [],_=>hr
 |_::_,⟨h1,h2⟩=>⟨h.trans h1,Apl h hr h2⟩
theorem Aol (s:St) (u u2:Nat) (b2:Bool) (y:A):Sub s (s.open1 u u2 b2 y):=⟨rfl,[],rfl⟩
theorem Awt (ok:EnvOk E) {ops:List Oper} {o:Oper} {l:List C6} (he:Ko E ops s o=some l):TT s l:=by
 unfold Ko at he
 split at he
 ·rename_i l' hl
  cases he
  exact WW ok hl
 ·repeat' (first|(cases he;done)|split at he)
  rename_i l1 l2 h1 h2
  cases he
  exact Apl (Aol _ _ _ _ _) (TU (Aol _ _ _ _ _) (WW ok h2)) (WW ok h1)
def Xk (s:St):List Gw→Prop
 | []=>True
 |(_,s')::r=>Sub s s'∧Xk s r
theorem Ah3 {s1:St} (h:Sub s s1) {c:Cnd} {r':List Gw} (hr:Xk s r'):∀{l:List C6},TT s1 l→Xk s (Amv c l++r')
 | [],_=>hr
 |_::_,⟨h1,h2⟩=>⟨h.trans h1,Ah3 h hr h2⟩
theorem Tl (ok:EnvOk E) {ops:List Oper} {o:Oper}:∀{l l':List Gw} {k:Nat} {qs:List Prop},Ir E ops o l=some (k,l',qs)→Xk s l→Xk s l'
 | [],l',k,qs,he,_=>by cases he;trivial
 |(c,s1)::r,l',k,qs,he,⟨h1,h2⟩=>by
  unfold Ir at he
  split at he<;>first|(cases he;done)|skip
  rename_i l1 g1
  split at he<;>first|(cases he;done)|skip
  rename_i k' r' qs' g2
  cases he
  exact Ah3 h1 (Tl ok g2 h2) (Awt ok g1)
end
def Qv (W:List Nat) (s0:St):List Gw→St
 | []=>s0
 | [(_,s)]=>s
 |(c,s)::r=>G6 (A9 c) W s0 s (Qv W s0 r)
theorem Ts (W:List Nat) (s0:St):∀{l:List Gw},Xk s0 l→Sub s0 (Qv W s0 l)
 | [],_=>Sub.refl _
 | [(_,_)],⟨h,_⟩=>h
 |(_,_)::_::_,_=>Sub.merge _ _ _ _ _
section
variable {Z:Base} {F F0:Nat→Prop} {N N0:Nm} {s0 s:St} {a a0:Act} {R R0:World} {W:List Nat}
theorem Rel.over (h0:Rel Z F0 N0 s0 a0 R0) (h:Rel (ID F0 N0 s0 a0 R0 W) F N s a R) (hW:∀u,LF u W=true→Z.W u):Rel Z F N s a R:=
 ⟨h.defers,h.size,h.slots,h.hp,h0.st.trans h.st,fun u hu=>by
  rw[h.tm u fun hw=>hu (hW u hw)]
  exact h0.tm u hu⟩
theorem Ag9 (h0:Rel Z F0 N0 s0 a0 R0):∀{l:List Gw},Xk s0 l→WV l (At (ID F0 N0 s0 a0 R0 W) a R)→At (ID F0 N0 s0 a0 R0 W) a R (Qv W s0 l)
 | [],_,h=>h.elim
 | [(c,s)],_,h=>by
  rcases h with⟨_,h⟩|⟨_,h⟩
  ·exact h
  ·exact h.elim
 | (c,s)::p::r,⟨h1,h2⟩,h=>by
  have e2:=Ts W s0 h2
  rcases h with⟨hc,F,N,h⟩|⟨hc,h⟩
  ·obtain⟨N',hr⟩:=Rel.merge (g:=A9 c) (s1:=s) (s2:=Qv W s0 (p::r)) (h0.start W) (by rw[hc];exact h) (fun _ h=>h) h1 e2
   exact⟨F,N',hr⟩
  ·obtain⟨F,N,h⟩:=Ag9 h0 h2 h
   obtain⟨N',hr⟩:=Rel.merge (g:=A9 c) (s1:=s) (s2:=Qv W s0 (p::r)) (h0.start W) (by rw[hc];exact h) (fun _ h=>h) h1 e2
   exact⟨F,N',hr⟩
end
def Na:List Oper→List Nat
 | []=>[]
 |o::r=>match o.dst with
  |some d=>d::Na r
  |none=>Na r
def Agy (E:Env) (ops:List Oper):List Oper→List Gw→Option (List Gw×List Prop)
 | [],l=>some (l,[])
 | o::r,l=>match Ir E ops o l with
  |some (_,l',ps)=>match Agy E ops r l' with
   |some (l'',qs)=>some (l'',ps++qs)
   |none=>none
  |none=>none
theorem Am4:∀{l:List Oper} {o:Oper} {d:Nat},o∈l→o.dst=some d→LF d (Na l)=true
 | [],o,d,h,_=>by cases h
 | x::r,o,d,h,hd=>by
  rcases List.mem_cons.1 h with rfl|h
  ·unfold Na
   rw[hd]
   show(bif Nat.beq d d then true else LF d (Na r))=true
   rw[JH];rfl
  ·have:=Am4 h hd
   unfold Na
   split
   ·rename_i e _
    show(bif Nat.beq e d then true else LF d (Na r))=true
    rw[this];cases Nat.beq e d<;>rfl
   ·exact this
section
variable {E:Env} {Z:Base} {a:Act} {R:World}
theorem A0j (ok:EnvOk E) {ops:List Oper} {Q:Exit→Act→World→Prop}:∀{l:List Oper} {P P':List Gw} {ps:List Prop} {a:Act} {R:World},(∀o∈l,∀d,o.dst=some d→Z.W d)→WV P (At Z a R)→Agy E ops l P=some (P',ps)→(∀p∈ps,p)→
  (∀a' R',WV P' (At Z a' R')→Q .normal a' R')→wpList E.P ops.toArray Q l a R
 | [],P,P',ps,a,R,_,h,he,_,hk=>by
  cases he
  exact hk a R h
 | o::r,P,P',ps,a,R,hW,h,he,hp,hk=>by
  unfold Agy at he
  split at he<;>first|(cases he;done)|skip
  rename_i k P1 ps1 h1
  split at he<;>first|(cases he;done)|skip
  rename_i P2 ps2 h2
  cases he
  have next:∀a' R',WV P1 (At Z a' R')→wpList E.P ops.toArray Q r a' R':=fun a' R' h'=>A0j ok (fun o ho=>hW o (List.mem_cons_of_mem _ ho)) h' h2 (fun p hm=>hp p (List.mem_append.2 (.inr hm))) hk
  unfold wpList
  rcases Wn ok (hW o (List.mem_cons_self ..)) h1 (fun p hm=>hp p (List.mem_append.2 (.inl hm))) h with⟨g1,g2⟩|⟨g1,g2⟩
  ·rw[if_pos g1]
   left
   exact VX (CU g2 fun v R' ⟨_,g3⟩=>next _ _ g3)
  ·rw[if_neg (by rw[g1];exact Bool.false_ne_true)]
   exact next _ _ g2
theorem Wm {s0:St} (ok:EnvOk E) {ops:List Oper}:∀{l:List Oper} {P P':List Gw} {ps:List Prop},Agy E ops l P=some (P',ps)→Xk s0 P→Xk s0 P'
 | [],P,P',ps,he,h=>by cases he;exact h
 |o::r,P,P',ps,he,h=>by
  unfold Agy at he
  split at he<;>first|(cases he;done)|skip
  rename_i k P1 ps1 h1
  split at he<;>first|(cases he;done)|skip
  rename_i P2 ps2 h2
  cases he
  exact Wm ok h2 (Tl ok h1 h)
end
def Aua (P:Program):Nat→TypeId→Bool
 |0,_=>true
 |d+1,t=>match P.underlying t with
  |some (.slice _)=>true
  |some (.struct fs)=>fs.toList.any fun f=>Aua P d f.type
  |some (.array _ e)=>Aua P d e
  |some (.tuple es)=>es.toList.any fun e=>Aua P d e
  |_=>false
def Bag (P:Program) (o:Oper):Bool:=match o.op with
 | .alloc _=>true
 | .box _ _=>true
 | .buildSlice _ _ _=>true
 | .makeSlice _ _ _=>true
 | .store _ _ _=>true
 | .range _ _=>true
 | .next _ _=>true
 | .makeMap _ _=>true
 | .mapUpdate _ _ _ _=>true
 | .convert _ dst _=>match P.underlying dst with
  |some (.slice _)=>true
  |_=>false
 | .call {callee:=.builtin .append, .. }=>true
 | .call {callee:=.builtin .copy, .. }=>true
 | .call {callee:=.value _, .. }=>Aua P 4 o.type
 |_=>false
def Ayy (done:List Nat) (o:Oper):Bool:=o.after.toList.all fun e=>!Region.binds .any e||done.contains e.on
def Auy (P:Program) (ops:List Oper):List Nat→List Nat→List Nat→List Nat×List Nat
 | [],done,left=>(done,left.reverse)
 |i::r,done,left=>match ops[i]? with
  |some o=>bif Ayy done o&&!Bag P o then Auy P ops r (i::done) left else Auy P ops r done (i::left)
  |none=>Auy P ops r done left
def Aaw (P:Program) (o:Oper):Bool:=match o.op,o.guard with
 | .alloc e,none=>match(P.info? e).bind (·.zero) with
  |some _=>true
  |none=>false
 |_,_=>false
def A6r (P:Program) (o:Oper):Bool:=bif Aaw P o then true else match o.op,o.guard with
 | .call {callee:=.value (.func _),args, .. },none=>args.toList.isEmpty
 |_,_=>false
def mkB (o:Oper):Bool:=match o.op,o.guard with
 | .buildSlice _ _ _,none=>true
 | .box _ _,none=>true
 |_,_=>false
def mkE (E:Env) (s:St) (o:Oper):Option Eff:=match o.op,o.guard with
 | .buildSlice t len parts,none=>bif Nat.beq len 0 then none else M1 E s [] t len parts.toList
 | .box e v,none=>Ayr s [] e v
 |_,_=>none
def mkV:Op→Nat→Value
 | .buildSlice _ len _,g=> .slice (some ⟨g,0,none⟩) len len
 |_,g=> .pointer (some ⟨g,0,none⟩)
def A73 (P:Program) (o:Oper):Bool:=bif A6r P o then true else mkB o
def Aav (E:Env) (o:Oper):Bool:=bif Aaw E.P o then true else match o.op,o.guard with
 | .call {callee:=.value f,args, .. },none=>(match Jr E f args.toList with
  |some _=>true
  |none=>false)
 |_,_=>false
def Aq6 (late:Oper→Bool) (sk:Bool) (ops:List Oper) (done:List Nat):List Nat→Option (Nat×List Nat)
 | []=>none
 | i::r=>match ops[i]? with
  |some o=>bif Ayy done o&&!(sk&&late o) then some (i,r) else match Aq6 late sk ops done r with
   |some (m,l)=>some (m,i::l)
   |none=>none
  |none=>none
def Au2 (P:Program) (late:Oper→Bool) (ops:List Oper):Nat→List Nat→List Nat→List Nat
 |0,_,done=>done.reverse
 | n+1,todo,done=>match Auy P ops todo done [] with
  | (done',left)=>match Aq6 late true ops done' left with
   |some (m,rest)=>Au2 P late ops n rest (m::done')
   |none=>match Aq6 late false ops done' left with
    |some (m,rest)=>Au2 P late ops n rest (m::done')
    |none=>done'.reverse
def Ba7 (P:Program) (ops:List Oper):List Nat:=Au2 P (A6r P) ops (ops.length+1) (List.range ops.length) []
def A98 (P:Program) (ops:List Oper):List Nat:=Au2 P (A73 P) ops (ops.length+1) (List.range ops.length) []
def evK (E:Env) (ops:List Oper):List Nat→List Gw→Option (List Nat×List Gw×List Prop)
 | [],l=>some ([],l,[])
 | i::r,l=>match ops[i]? with
  | some o=>match Ir E ops o l with
   |some (k,l',ps)=>match evK E ops r l' with
    |some (ks,l'',qs)=>some (k::ks,l'',ps++qs)
    |none=>none
   |none=>none
  |none=>none
def stK (E:Env) (ops:List Oper):List Nat→List Gw→Nat→Option (List Gw)
 |_,l,0=>some l
 | [],_,_+1=>none
 | i::r,l,k+1=>match ops[i]? with
  |some o=>match Ir E ops o l with
   |some (_,l',_)=>stK E ops r l' k
   |none=>none
  |none=>none
theorem Ad3 {E:Env} {ops:List Oper} {L:List Nat} {l:List Gw}:stK E ops L l 0=some l:=by cases L<;>rfl
theorem Aze {E:Env} {ops:List Oper}:∀{L:List Nat} {l:List Gw} {ks:List Nat} {lF:List Gw} {psF:List Prop},evK E ops L l=some (ks,lF,psF)→
  stK E ops L l L.length=some lF∧∀k,k <L.length→∃l1 o l2 ps2,ops[L.getD k 0]?=some o∧stK E ops L l k=some l1∧Ir E ops o l1=some (ks.getD k 0,l2,ps2)∧(∀p∈ps2,p∈psF)∧stK E ops L l (k+1)=some l2
 | [],l,ks,lF,psF,h=>by cases h;exact⟨rfl,fun k hk=>by cases hk⟩
 | i::r,l,ks,lF,psF,h=>by
  unfold evK at h
  split at h<;>first|(cases h;done)|skip
  rename_i o ho
  split at h<;>first|(cases h;done)|skip
  rename_i kd l' ps hst
  split at h<;>first|(cases h;done)|skip
  rename_i ks' l'' qs hr
  cases h
  obtain⟨h1,h2⟩:=Aze hr
  have hs:∀k,stK E ops (i::r) l (k+1)=stK E ops r l' k:=fun k=>by
   show(match ops[i]? with|some o=>(match Ir E ops o l with|some (_,l',_)=>stK E ops r l' k|none=>none)|none=>none)=_
   rw[ho]
   simp only[hst]
  refine⟨by rw[List.length_cons,hs];exact h1,fun k hk=>?_⟩
  cases k with
  |zero=>exact⟨l,o,l',ps,ho,Ad3,hst,fun p hp=>List.mem_append.2 (.inl hp),by rw[hs,Ad3]⟩
  |succ k=>
   obtain⟨s1,o1,s2,ps2,g1,g2,g3,g5,g6⟩:=h2 k (by simpa using hk)
   exact⟨s1,o1,s2,ps2,by simpa using g1,by rw[hs];exact g2,by simpa using g3,fun p hp=>List.mem_append.2 (.inr (g5 p hp)),by rw[hs];exact g6⟩
theorem Aje {E:Env} {s0:St} (ok:EnvOk E) {ops:List Oper}:∀{L:List Nat} {P P':List Gw} {ks:List Nat} {ps:List Prop},evK E ops L P=some (ks,P',ps)→Xk s0 P→Xk s0 P'
 | [],P,P',ks,ps,he,h=>by cases he;exact h
 |i::r,P,P',ks,ps,he,h=>by
  unfold evK at he
  split at he<;>first|(cases he;done)|skip
  split at he<;>first|(cases he;done)|skip
  rename_i k P1 ps1 h1
  split at he<;>first|(cases he;done)|skip
  rename_i ks2 P2 ps2 h2
  cases he
  exact Aje ok h2 (Tl ok h1 h)
def Amu (E:Env) (o o':Oper) (s:St):Bool:=match o.op,o'.op,o'.guard with
 | .load t x,.store t' x' v',none=>match s.ev [] x,s.ev [] x' with
  |some (.own i _),some (.own i' _)=>bif Nat.beq i i' then false else(match Ak i s.o,Ak i' s.o,Abk E s [] t x,Asn E s [] t' x' v',cellsOf s [] v' with
   |some (.box _ _),some (.box _ _),some _,some _,some _=>true
   |_,_,_,_,_=>false)
  |_,_=>false
 |_,_,_=>false
def Ams (E:Env) (o o':Oper):List Gw→Bool
 | []=>true
 |(_,s)::r=>bif Amu E o o' s then Ams E o o' r else false
def Blind {α:Type} (P:Program) (m:Sem α):Prop:=∀w x w1,m.run P w=.ok x w1→w1=w∧∀w',m.run P w'=.ok x w'
section
variable {P:Program} {α β:Type}
theorem Blind.pure (x:α):Blind P (Pure.pure x:Sem α):=fun w y w1 h=>by
 have h':Result.ok x w=Result.ok y w1:=h
 cases h'
 exact⟨rfl,fun _=>rfl⟩
theorem Blind.bind {m:Sem α} {f:α→Sem β} (h:Blind P m) (k:∀x,Blind P (f x)):Blind P (m >>= f):=fun w y w1 he=>by
 rw[Sem.run_bind] at he
 cases hm:m.run P w with
 |halt e w2=>rw[hm] at he;cases he
 |ok x w2=>
  rw[hm] at he
  obtain⟨rfl,h2⟩:=h w x w2 hm
  obtain⟨rfl,h3⟩:=k x _ _ _ he
  exact⟨rfl,fun w'=>by rw[Sem.run_bind,h2 w'];exact h3 w'⟩
theorem Blind.halt (e:Halt):Blind P (Sem.halt e:Sem α):=fun w x w1 he=>by cases he
theorem Blind.prog {k:Program→Sem α} (h:∀p,Blind P (k p)):Blind P (do let p ←program;k p):=fun w x w1 he=>h P w x w1 he
def Never (P:Program) (m:Sem α):Prop:=∀w x w1,m.run P w≠.ok x w1
theorem Never.blind {m:Sem α} (h:Never P m):Blind P m:=fun w x w1 he=>absurd he (h w x w1)
theorem Never.bind {m:Sem α} {f:α→Sem β} (h:∀x,Never P (f x)):Never P (m >>= f):=fun w y w1 he=>by
 rw[Sem.run_bind] at he
 cases hm:m.run P w with
 |halt e w2=>rw[hm] at he;cases he
 |ok x w2=>rw[hm] at he;exact h x _ _ _ he
theorem Ab1 (e:Halt):Never P (Sem.halt e:Sem α):=fun w x w1 he=>by cases he
theorem Aoe (e:RuntimeError):Never P (runtimePanic e:Sem α):=by
 unfold runtimePanic
 refine Never.bind fun p=>?_
 cases e<;>first|exact Ab1 _|exact Never.bind fun _=>Never.bind fun _=>Ab1 _
theorem Aj0 (k:IntKind) (x y:Int) (c:BoundsCode):Never P (boundsPanic k x y c:Sem α):=by
 unfold boundsPanic
 split<;>exact Never.bind fun s=>Aoe _
theorem LJ (t:TypeId):Blind P (underlying t):=by
 unfold underlying
 refine Blind.prog fun p=>?_
 split<;>first|exact .pure _|exact .halt _
theorem Aad (t:TypeId):Blind P (typeInfo t):=by
 unfold typeInfo
 refine Blind.prog fun p=>?_
 split<;>first|exact .pure _|exact .halt _
theorem Od (t:TypeId):Blind P (sizeOf t):=by
 unfold sizeOf
 exact(Aad t).bind fun _=> .pure _
theorem Avt (v:Value):Blind P (asIntOf v):=by
 unfold asIntOf
 split<;>first|exact .pure _|exact .halt _
theorem Aqf (v:Value):Blind P (Instr.sureAddr v):=by
 unfold Instr.sureAddr
 split<;>first|exact .pure _|exact .halt _
theorem Amg (t:TypeId) (x i:Value):Blind P (Instr.indexAt t x i):=by
 unfold Instr.indexAt
 refine(Avt i).bind fun ki=>?_
 repeat' (first|exact Blind.pure _|exact Blind.halt _|exact LJ _|exact Aqf _|exact Od _|exact(Aj0 _ _ _ _).blind|(refine Blind.bind ?_ fun _=>?_)|split|dsimp only)
theorem Aqg (t:TypeId):Blind P (zeroValue t):=by
 unfold zeroValue
 refine(Aad t).bind fun i=>?_
 split<;>first|exact .pure _|exact .halt _
theorem Aqe {γ:Type} (f:γ→Sem β) (hf:∀x,Blind P (f x)) (l:Array γ):Blind P (l.mapM f):=by
 rw[Array.mapM_eq_mapM_toList]
 refine Blind.bind ?_ fun _=> .pure _
 induction l.toList with
 |nil=>exact .pure _
 |cons a r ih=>
  rw[List.mapM_cons]
  exact(hf a).bind fun _=>ih.bind fun _=> .pure _
theorem Ame (t:TypeId) (parts:Array (Nat×Value)):Blind P (Instr.build t parts):=by
 unfold Instr.build
 refine Blind.bind ((Aqg t)) fun z=>?_
 refine(LJ t).bind fun d=>?_
 split
 ·refine(Aqe _ (fun f=>(Od _).bind fun _=> .pure _) _).bind fun ps=>?_
  split<;>first|exact .pure _|exact .halt _
 ·refine(Od _).bind fun s=>?_
  split<;>first|exact .pure _|exact .halt _
 ·exact .halt _
theorem Avs (v:Value):Blind P (asAgg v):=by
 unfold asAgg
 split<;>first|exact .pure _|exact .halt _
theorem Amh (t:TypeId):Blind P (isAgg t):=by
 unfold isAgg
 refine(LJ t).bind fun d=>?_
 repeat' (first|exact Blind.pure _|exact Blind.halt _|split|dsimp only)
theorem Amf (t:TypeId) (x:Value) (f:Nat):Blind P (Instr.field t x f):=by
 unfold Instr.field part
 refine(LJ t).bind fun d=>?_
 repeat' (first|exact Blind.pure _|exact Blind.halt _|exact Avs _|exact Amh _|exact Od _|(refine Blind.bind ?_ fun _=>?_)|split|dsimp only)
def Aip:Op→Bool
 | .indexAddr _ _ _=>true
 | .build _ _=>true
 | .field _ _ _=>true
 |_=>false
theorem Aqd {ev:Operand→Value} {o:Oper} (h:Aip o.op=true):∃I:Sem Value,execOp ev o=(do pure (.value (←I)))∧Blind P I:=by
 obtain⟨dst,op,type,pos,after,guard⟩:=o
 simp only at h
 unfold Aip at h
 split at h<;>first|(cases h;done)|skip
 ·exact⟨_,rfl,Amg _ _ _⟩
 ·exact⟨_,rfl,Ame _ _⟩
 ·exact⟨_,rfl,Amf _ _ _⟩
end
def Aur (ops:List Oper) (order:List Nat) (j:Nat):Bool:=match ops[order.getD j 0]? with
 |some o=>(match o.op with
  | .move _=>true
  | .extract _ _=>true
  |p=>Aip p)
 |none=>false
theorem Ahj {P:Program} {ops:List Oper} {order:List Nat} {a:Act} {V:Nat→Value} {w w':World} {j:Nat} (h:Aur ops order j=true) (hp:Pend P ops.toArray (fun k=>order.getD k 0) a V w j):Pend P ops.toArray (fun k=>order.getD k 0) a V w' j:=fun o2 ho2=>by
 have ho3:ops[order.getD j 0]?=some o2:=by simpa using ho2
 unfold Aur at h
 rw[ho3] at h
 simp only at h
 split at h<;>first|(cases h;done)|skip
 ·rename_i x hx
  have hex:∀w1,(execOp (canA ops.toArray (fun k=>order.getD k 0) a V j).eval o2).run P w1=.ok (.value ((canA ops.toArray (fun k=>order.getD k 0) a V j).eval x)) w1:=fun w1=>by
   obtain⟨dst,op,type,pos,after,guard⟩:=o2
   simp only at hx
   subst hx
   rfl
  rcases hp o2 ho2 with⟨p1,p2⟩|⟨p1,p2⟩
  ·refine .inl ⟨p1,fun w1 _=>?_⟩
   have p3:=p2 w (Below.refl _ _)
   rw[hex] at p3⊢
   exact⟨rfl,p3.2⟩
  ·exact .inr ⟨p1,p2⟩
 ·rename_i x ix hx
  have hex:∀w1,(execOp (canA ops.toArray (fun k=>order.getD k 0) a V j).eval o2).run P w1=(do pure (.value (←Instr.extract ((canA ops.toArray (fun k=>order.getD k 0) a V j).eval x) ix)):Sem Next).run P w1:=fun w1=>by
   obtain⟨dst,op,type,pos,after,guard⟩:=o2
   simp only at hx
   subst hx
   rfl
  rcases hp o2 ho2 with⟨p1,p2⟩|⟨p1,p2⟩
  ·refine .inl ⟨p1,fun w1 _=>?_⟩
   have p3:=p2 w (Below.refl _ _)
   rw[hex] at p3⊢
   revert p3
   generalize (canA ops.toArray (fun k=>order.getD k 0) a V j).eval x=v
   intro p3
   cases v<;>try exact(show False from p3).elim
   rename_i vs
   unfold Instr.extract at p3⊢
   cases h:vs[ix]? with
   |none=>simp only[h] at p3;exact(show False from p3).elim
   |some u=>simp only[h] at p3⊢;exact⟨rfl,(show _∧_ from p3).2⟩
  ·exact .inr ⟨p1,p2⟩
 ·have hbl:Aip o2.op=true:=h
  rcases hp o2 ho2 with⟨p1,p2⟩|⟨p1,p2⟩
  ·refine .inl ⟨p1,fun w1 _=>?_⟩
   have p3:=p2 w (Below.refl _ _)
   obtain⟨I,hI,hb⟩:=Aqd (P:=P) (ev:=(canA ops.toArray (fun k=>order.getD k 0) a V j).eval) hbl
   rw[hI,Sem.run_bind] at p3⊢
   cases hr:I.run P w with
   |halt e w2=>rw[hr] at p3;exact(show False from p3).elim
   |ok x w2=>
    rw[hr] at p3
    rw[(hb w x w2 hr).2 w1]
    exact⟨rfl,(show _∧_ from p3).2⟩
  ·exact .inr ⟨p1,p2⟩
def Amr (E:Env) (ops:List Oper) (order:List Nat) (l0:List Gw) (j k:Nat):Bool:=match ops[order.getD j 0]?,ops[order.getD k 0]?,stK E ops order l0 k with
 | some o,some o',some l=>bif Ams E o o' l then(match o.op with
  | .load _ (.tmp x)=>(List.range (k - j)).all fun m=>match ops[order.getD (j+m) 0]? with
   |some p=>match p.dst with
    |some d=>!(Nat.beq d x)
    |none=>true
   |none=>true
  |_=>false) else false
 |_,_,_=>false
section
variable {E:Env} {Z:Base} {F:Nat→Prop} {N:Nm} {s:St} {a:Act} {R:World}
theorem Az7 (h:Rel Z F N s a R) {t:TypeId} {x:Operand} {i off:Nat} (hx:s.ev [] x=some (.own i off)) {e0:TypeId} {cs0:List A} (hl0:Ak i s.o=some (.box e0 cs0)) {z:A} {ps:List Prop} (he:Abk E s [] t x=some (z,ps)):
  ∃y,∀R',R'.heap[N.b i]?=R.heap[N.b i]?→(Instr.loadAt t (a.eval x)).run E.P R'=.ok y R':=by
 have hx':=(AQ h (F7 _) hx).2.own_inv
 unfold Abk at he
 rw[hx] at he
 simp only at he
 rw[hl0] at he
 simp only at he
 have hl:=hl0
 split at he<;>first|(cases he;done)|skip
 rename_i z' hz
 cases he
 obtain⟨_,vs,g1,g2⟩:=h.hp.ob i _ hl
 obtain⟨y,_,q2⟩:=NQ (ad:=⟨N.b i,off,none⟩) hz (g1.drop off)
 refine⟨y,fun R' hb=>?_⟩
 rw[Ge hx'.2]
 refine q2 R' fun j v hj=>?_
 rw[Bv,BZ (hb.trans g2)]
 rw[List.getElem?_drop] at hj
 simpa using hj
theorem A45 (h:Rel Z F N s a R) {t:TypeId} {x v:Operand} {i off:Nat} (hx:s.ev [] x=some (.own i off)) {e0:TypeId} {cs0:List A} (hl0:Ak i s.o=some (.box e0 cs0)) {us0:List A} (hus0:cellsOf s [] v=some us0) {f:Eff} (he:Asn E s [] t x v=some f):
  ∃R',(Instr.storeAt t (a.eval x) (a.eval v)).run E.P R=.ok () R'∧R'.heap.size=R.heap.size∧∀g,g≠N.b i→R'.heap[g]?=R.heap[g]?:=by
 have hx':=(AQ h (F7 _) hx).2.own_inv
 unfold Asn at he
 split at he
 rotate_left
 ·rename_i hus
  rw[hus0] at hus
  cases hus
 rename_i us hus
 obtain⟨hu,h1⟩:=Aaj h (F7 _) hus
 have hlen:=hu.length
 split at he<;>first|(cases he;done)|skip
 rename_i n hn
 cases hb:Nat.beq n us.length with
 |false=>rw[hb] at he;cases he
 | true=>
  rw[hb] at he
  obtain rfl:=Nat.eq_of_beq_eq_true hb
  simp only[cond_true,hx] at he
  rw[←hlen] at hn
  have hl:=hl0
  rw[hl0] at he
  simp only at he
  generalize e0=e at hl he
  generalize cs0=cs at hl he
  cases hb2:Nat.ble (off+us.length) cs.length with
  |false=>rw[hb2] at he;cases he
  |true=>
   have hle:=Nat.le_of_ble_eq_true hb2
   obtain⟨_,vs,g1,g2⟩:=h.hp.ob i _ hl
   have hvl:=g1.length
   exact⟨_,Cz hx'.2 g2 hn (by omega) h1,by simp[World.setRow],fun g hg=>setRow_other R _ g _ hg⟩
theorem A28 (h:Rel Z F N s a R) {o o':Oper} (hc:Amu E o o' s=true):
  ∃t x R' y,o.op=.load t x∧o'.guard=none∧(execOp a.eval o').run E.P R=.ok .skip R'∧(Instr.loadAt t (a.eval x)).run E.P R=.ok y R∧
   ∀w1,Below R'.heap.size R' w1→(Instr.loadAt t (a.eval x)).run E.P w1=.ok y w1:=by
 unfold Amu at hc
 split at hc<;>first|(cases hc;done)|skip
 rename_i t x t' x' v' ho ho' hg
 split at hc<;>first|(cases hc;done)|skip
 rename_i i off i' off' hx hx'
 cases hb:Nat.beq i i' with
 |true=>rw[hb] at hc;cases hc
 | false=>
  rw[hb] at hc
  simp only[cond_false] at hc
  split at hc<;>first|(cases hc;done)|skip
  rename_i e cs e' cs' zl f us0 hbx hbx' hl hf hus0
  obtain⟨z,ps⟩:=zl
  obtain⟨y,g1⟩:=Az7 h hx hbx hl
  obtain⟨R',g2,g3,g4⟩:=A45 h hx' hbx' hus0 hf
  have hne:N.b i≠N.b i':=fun e=>by
   have:=h.hp.sep i i' _ _ (N.b i) hbx hbx' rfl e
   subst this
   simp at hb
  obtain⟨_,vs,_,q2⟩:=h.hp.ob i _ hbx
  refine⟨t,x,R',y,ho,hg,?_,g1 R rfl,fun w1 hw=>g1 w1 ?_⟩
  ·obtain⟨dst,op,type,pos,after,guard⟩:=o'
   simp only at ho'
   subst ho'
   simp[execOp,g2]
  ·rw[hw.block _ (by rw[g3];exact Fv q2)]
   exact g4 _ hne
theorem Amt {o o':Oper}:∀{l:List Gw},Ams E o o' l=true→WV l (fun s=>∃F N,Rel Z F N s a R)→∃s F N,Rel Z F N s a R∧Amu E o o' s=true
 | [],_,h=>h.elim
 | (c,s)::r,hc,h=>by
  unfold Ams at hc
  cases hp:Amu E o o' s with
  |false=>rw[hp] at hc;cases hc
  |true=>
   rw[hp] at hc
   rcases h with⟨_,F,N,h⟩|⟨_,h⟩
   ·exact⟨s,F,N,h,hp⟩
   ·exact Amt hc h
end
abbrev R3:=Option (St×List Prop)
def A0g (ops:List Oper) (order:List Nat) (p k:Nat) (o:Oper):Bool:=(List.range (k - p)).all fun i=>match ops[order.getD (p+i) 0]? with
 |some o'=>(match o'.dst with
  |some d=>!((o.looksAt ops.toArray).contains d)
  |none=>true)
 |none=>true
def isS {α:Type}:Option α→Bool
 |some _=>true
 |none=>false
def Ba8 (E:Env) (o:Oper) (l:List Gw):Bool:=l.all fun cs=>isS (mkE E cs.2 o)
def Bac (E:Env) (o:Oper) (l:List Gw):Bool:=l.all fun cs=>match mkE E cs.2 o with
 |some f=>isS (QS cs.2 o.dst f)
 |none=>false
def A4r (E:Env) (ops:List Oper) (order:List Nat) (l0:List Gw) (k:Nat) (o:Oper):Bool:=
 (match stK E ops order l0 k with
 |some l=>Bac E o l
 |none=>false)&&(List.range (k+1)).all fun p=>!(A0g ops order p k o)||(match stK E ops order l0 p with
 |some l=>Ba8 E o l
 |none=>true)
def Wj (E:Env) (ops:List Oper) (order:List Nat) (l0:List Gw) (k:Nat):Bool:=match ops[order.getD k 0]? with
 |some o=>bif Aav E o then true else bif mkB o then A4r E ops order l0 k o else false
 |none=>false
def evO (E:Env) (ops:List Oper) (order:List Nat) (s:St):R3:=match evK E ops order [(none,s)] with
 |some (ks,l,ps)=>bif Aiu ops.toArray order ks (Wj E ops order [(none,s)]) (fun j k=>Aur ops order j||Amr E ops order [(none,s)] j k)&&A7q ops.toArray order (Wj E ops order [(none,s)]) then some (Qv (Na ops) s l,ps) else none
 |none=>none
def evR (E:Env) (ops:List Oper) (draw:Bool) (s:St):R3:=match draw with
 |true=>match evO E ops (Ba7 E.P ops) s with
  |some r=>some r
  |none=>evO E ops (A98 E.P ops) s
 |false=>match Agy E ops ops [(none,s)] with
  |some (l,ps)=>some (Qv (Na ops) s l,ps)
  |none=>none
section
variable {E:Env} {Z:Base} {F:Nat→Prop} {N:Nm} {s:St} {a:Act} {R:World}
theorem Asf (ok:EnvOk E) {ops:List Oper} {draw:Bool} {s':St} {ps:List Prop} (he:evR E ops draw s=some (s',ps)):Sub s s':=by
 cases draw with
 |false=>
  unfold evR at he
  simp only at he
  split at he<;>first|(cases he;done)|skip
  rename_i l ps1 h1
  cases he
  exact Ts _ _ (Wm ok h1 ⟨Sub.refl _,trivial⟩)
 | true=>
  have one:∀order,evO E ops order s=some (s',ps)→Sub s s':=fun order he=>by
   unfold evO at he
   split at he<;>first|(cases he;done)|skip
   rename_i ks l ps1 h1
   replace he:=AY he
   cases he
   exact Ts _ _ (Aje ok h1 ⟨Sub.refl _,trivial⟩)
  unfold evR at he
  simp only at he
  split at he
  ·rename_i r hr
   cases he
   exact one _ hr
  ·exact one _ he
def Avp (E:Env) (ops:List Oper) (order:List Nat) (k:Nat) (A:Act) (j:Nat) (v:Value) (G:Nat→Prop) (w:World):Prop:=
 (∃g e z,v=.pointer (some ⟨g,0,none⟩)∧(∃op,ops[order.getD j 0]?=some op∧op.op=.alloc e)∧(E.P.info? e).bind (·.zero)=some z∧(∀b,G b↔b=g)∧w.heap[g]?=some (.cells z.cells.toList.toArray e (0,0)))∨
 (∃g x args ts N0,(∃op,ops[order.getD j 0]?=some op∧op.op=.call {callee:=.value (.func g),args:=args,argTypes:=ts})∧Jr E (.func g) args.toList=some (g,x)∧Hv G N0 0 w x v)∨
 (∃g C op,ops[order.getD j 0]?=some op∧mkB op=true∧(∀w0,(execOp A.eval op).run E.P w0=.ok (.value (mkV op.op w0.heap.size)) (w0.alloc C))∧v=mkV op.op g∧(∀b,G b↔b=g)∧w.heap[g]?=some C∧NoWr ops.toArray (fun k=>order.getD k 0) k j op)
def Rsv (E:Env) (ops:List Oper) (order:List Nat) (B k:Nat) (X:Aside) (A:Act) (F:Nat→Prop) (N:Nm) (o:Objs) (w:World):Prop:=
 ∃G:Nat→Nat→Prop,(∀j v,k≤j→X j=some v→Avp E ops order k A j v (G j) w∧∀b,G j b→B≤b∧b <w.heap.size∧¬F b∧¬Foot N o b)∧∀i j u v b,k≤i→k≤j→X i=some u→X j=some v→G i b→G j b→i=j
theorem Ahu {E:Env} {ops:List Oper} {order:List Nat} {k:Nat} {A:Act} {j:Nat} {v:Value} {G:Nat→Prop} {w w':World} (h:Avp E ops order k A j v G w) (hk:∀b,G b→w'.heap[b]?=w.heap[b]?):Avp E ops order k A j v G w':=by
 rcases h with⟨g,e,z,h1,h2,h3,h4,h5⟩|⟨g,x,args,ts,N0,h1,h2,h3⟩|⟨g,C,op,h1,h2,h3,h4,h5,h6,h7⟩
 ·exact .inl ⟨g,e,z,h1,h2,h3,h4,by rw[hk g ((h4 g).2 rfl)];exact h5⟩
 ·exact .inr (.inl ⟨g,x,args,ts,N0,h1,h2,h3.step ⟨Nat.le_refl _,fun _ _=>rfl,fun _ _=>rfl,fun _ h=>h,hk⟩⟩)
 ·exact .inr (.inr ⟨g,C,op,h1,h2,h3,h4,h5,by rw[hk g ((h5 g).2 rfl)];exact h6,h7⟩)
theorem Auo {op:Oper} (h:mkB op=true):∀cs b,op.op≠.select cs b:=fun cs b e=>by
 unfold mkB at h
 rw[e] at h
 cases h
theorem Apd {E:Env} {ops:List Oper} {order:List Nat} {k:Nat} {A:Act} {j:Nat} {v u:Value} {G:Nat→Prop} {w:World} (h:Avp E ops order k A j v G w) (hkj:k <j) {o:Oper} (ho:ops[order.getD k 0]?=some o):Avp E ops order (k+1) (A.put o.dst u) j v G w:=by
 rcases h with h|h|⟨g,C,op,h1,h2,h3,h4,h5,h6,h7⟩
 ·exact .inl h
 ·exact .inr (.inl h)
 ·refine .inr (.inr ⟨g,C,op,h1,h2,fun w0=>?_,h4,h5,h6,fun i q1 q2=>h7 i (by omega) q2⟩)
  rw[Ot (a:=A) (a':=A.put o.dst u) (ops:=ops.toArray) op (Auo h2) fun t ht=>?_]
  ·exact h3 w0
  ·cases hd:o.dst with
   |none=>rfl
   |some d=>
    rw[EZ,if_neg]
    rintro⟨rfl,_⟩
    exact h7 k (Nat.le_refl _) hkj o _ (by simpa using ho) hd ht
theorem Adu {E:Env} {ops:List Oper} {order:List Nat} {B k nx nx':Nat} {X:Aside} {A:Act} {F F':Nat→Prop} {N N':Nm} {o o':Objs} {w w':World} (h:Rsv E ops order B k X A F N o w) (st:Step F N nx o w F' N' nx' o' w'):Rsv E ops order B k X A F' N' o' w':=by
 obtain⟨G,h1,h2⟩:=h
 refine⟨G,fun j v hj hx=>?_,h2⟩
 obtain⟨q1,q2⟩:=h1 j v hj hx
 refine⟨Ahu q1 fun b hb=>st.keep b (q2 b hb).2.1 (q2 b hb).2.2.2,fun b hb=>?_⟩
 obtain⟨h4,h5,h6,h7⟩:=q2 b hb
 refine⟨h4,Nat.lt_of_lt_of_le h5 st.size,fun hf=>?_,fun hf=>?_⟩
 ·rcases st.fnew b hf with q|q|q
  ·exact h6 q
  ·exact h7 q
  ·omega
 ·rcases st.foot b hf with q|q
  ·exact h7 q
  ·omega
theorem ZX {E:Env} {ops:List Oper} {order:List Nat} {B k:Nat} {X:Aside} {A:Act} {F:Nat→Prop} {N:Nm} {o:Objs} {w:World} (h:Rsv E ops order B k X A F N o w) {op:Oper} (ho:ops[order.getD k 0]?=some op) (u:Value):Rsv E ops order B (k+1) X (A.put op.dst u) F N o w:=by
 obtain⟨G,h1,h2⟩:=h
 exact⟨G,fun j v hj hx=>⟨Apd (h1 j v (by omega) hx).1 (by omega) ho,(h1 j v (by omega) hx).2⟩,fun i j u v b hi hj=>h2 i j u v b (by omega) (by omega)⟩
theorem A04 {E:Env} {ops:List Oper} {order:List Nat} {B k:Nat} {X:Aside} {A:Act} {F:Nat→Prop} {N:Nm} {o:Objs} {w w':World} (h:Rsv E ops order B k X A F N o w) (hb:Below w.heap.size w w'):Rsv E ops order B k X A F N o w':=
 Adu h (nx:=0) (nx':=0) (Step.of_below hb)
theorem A10 (h:Rel Z F N s a R) {G:Nat→Prop} {N0:Nm} {x:A} {v:Value} (hG:∀b,G b→Z.R.heap.size≤b∧b <R.heap.size∧¬F b∧¬Foot N s.o b) (hx:Hv G N0 0 R x v) (hf:x.free=true):
  Rel Z (fun b=>F b∨G b) N s a R∧Hv (fun b=>F b∨G b) N s.nx R x v:=by
 have hw:Ext F N s.nx R (fun b=>F b∨G b) N s.nx R:=Ext.wide fun g hg=> .inl hg
 have hw2:Ext G N0 0 R (fun b=>F b∨G b) N0 0 R:=Ext.wide fun g hg=> .inr hg
 refine⟨⟨h.defers,h.size,fun u y hu=>(h.slots u y hu).step hw,⟨fun g hg=>?_,fun i ob hi=>⟨(h.hp.ob i ob hi).1,(h.hp.ob i ob hi).2.step hw (h.hp.ob i ob hi).1 fun _ _=>rfl⟩,fun i ob g hi hg hfg=>?_,h.hp.sep,h.hp.gl.step hw⟩,?_,h.tm⟩,(hx.step hw2).free hf⟩
 ·rcases hg with hg|hg
  ·exact h.hp.flt g hg
  ·exact(hG g hg).2.1
 ·rcases hfg with hfg|hfg
  ·exact h.hp.ff i ob g hi hg hfg
  ·exact(hG g hfg).2.2.2 ⟨i,ob,hi,hg⟩
 ·have:=h.st
  refine⟨this.le,this.b,this.q,fun g hg=> .inl (this.f g hg),fun g hg=>?_,this.foot,this.os,this.tape,this.output,this.size,this.keep⟩
  rcases hg with hg|hg
  ·exact this.fnew g hg
  ·exact .inr (.inr (hG g hg).1)
theorem A5h (h:Rel Z F N s a R) {e:TypeId} {z:Value} {g:Nat} (hB:Z.R.heap.size≤g) (hg:g <R.heap.size) (nF:¬F g) (nO:¬Foot N s.o g) (hc:R.heap[g]?=some (.cells z.cells.toList.toArray e (0,0))):
  Rel Z F (N.setB s.nx g) ⟨s.n,s.nx+1,s.t,(s.nx,some (.box e (toL z.cells.toList)))::s.o⟩ a R∧Hv F (N.setB s.nx g) (s.nx+1) R (.own s.nx 0) (.pointer (some ⟨g,0,none⟩))∧∀g',Foot (N.setB s.nx g) ((s.nx,some (.box e (toL z.cells.toList)))::s.o) g'→g'=g∨Foot N s.o g':=by
 have hb:(N.setB s.nx g).b s.nx=g:=A3 _ _ _
 have hne:∀i,i <s.nx→(N.setB s.nx g).b i=N.b i:=fun i hi=>BY _ _ (by omega)
 have st:Ext F N s.nx R F (N.setB s.nx g) (s.nx+1) R:=⟨Nat.le_succ _,hne,fun _ _=>rfl,fun _ h=>h,fun _ _=>rfl⟩
 have cases:∀{i ob},Ak i ((s.nx,some (Ob.box e (toL z.cells.toList)))::s.o)=some ob→(i=s.nx∧ob=.box e (toL z.cells.toList))∨(i <s.nx∧Ak i s.o=some ob):=fun {i ob} hl=>by
  rw[AE] at hl
  split at hl
  ·exact .inl ⟨‹_›,(Option.some.inj hl).symm⟩
  ·exact .inr ⟨(h.hp.ob i ob hl).1,hl⟩
 have hfoot:∀{i ob g'},i <s.nx→(foot (N.setB s.nx g) i ob g'↔foot N i ob g'):=fun {i ob g'} hi=>Dw st hi
 have fo:∀g',Foot (N.setB s.nx g) ((s.nx,some (.box e (toL z.cells.toList)))::s.o) g'→g'=g∨Foot N s.o g':=fun g' ⟨i,ob,hl,hf⟩=>by
  rcases cases hl with⟨rfl,rfl⟩|⟨hi,hl⟩
  ·exact .inl (by have:g'=(N.setB s.nx g).b s.nx:=hf;rw[this,hb])
  ·exact .inr ⟨i,ob,hl,(hfoot hi).1 hf⟩
 have hp:HRel F (N.setB s.nx g) (s.nx+1) ((s.nx,some (.box e (toL z.cells.toList)))::s.o) R:=by
  refine⟨h.hp.flt,fun i ob hl=>?_,fun i ob g' hl hf=>?_,fun i j x y g' hi hj hx hy=>?_,h.hp.gl⟩
  ·rcases cases hl with⟨rfl,rfl⟩|⟨hi,hl⟩
   ·refine⟨Nat.lt_succ_self _,z.cells.toList,HL.toL _,?_⟩
    rw[hb]
    exact hc
   ·exact⟨by omega,(h.hp.ob i ob hl).2.step st hi fun _ _=>rfl⟩
  ·rcases cases hl with⟨rfl,rfl⟩|⟨hi,hl⟩
   ·have:g'=(N.setB s.nx g).b s.nx:=hf
    rw[this,hb]
    exact nF
   ·exact h.hp.ff i ob g' hl ((hfoot hi).1 hf)
  ·rcases cases hi with⟨rfl,rfl⟩|⟨hi1,hi2⟩
   ·rcases cases hj with⟨rfl,rfl⟩|⟨hj1,hj2⟩
    ·rfl
    ·have:g'=(N.setB s.nx g).b s.nx:=hx
     rw[hb] at this
     subst this
     exact absurd ⟨j,y,hj2,(hfoot hj1).1 hy⟩ nO
   ·rcases cases hj with⟨rfl,rfl⟩|⟨hj1,hj2⟩
    ·have:g'=(N.setB s.nx g).b s.nx:=hy
     rw[hb] at this
     subst this
     exact absurd ⟨i,x,hi2,(hfoot hi1).1 hx⟩ nO
    ·exact h.hp.sep i j x y g' hi2 hj2 ((hfoot hi1).1 hx) ((hfoot hj1).1 hy)
 refine⟨⟨h.defers,h.size,fun u x hu=>(h.slots u x hu).step st,hp,?_,h.tm⟩,?_,fo⟩
 ·have:=h.st
  refine⟨Nat.le_trans this.le (Nat.le_succ _),fun i hi=>by rw[hne i (Nat.lt_of_lt_of_le hi this.le)];exact this.b i hi,fun i hi=>this.q i hi,this.f,this.fnew,fun g' hf=>?_,this.os,this.tape,this.output,this.size,this.keep⟩
  rcases fo g' hf with q|q
  ·exact .inr (by omega)
  ·exact this.foot g' q
 ·have:(⟨g,0,none⟩:Addr)=⟨(N.setB s.nx g).b s.nx,0,none⟩:=by rw[hb]
  rw[this]
  exact .own (Nat.lt_succ_self _)
def Nm.both (N:Nm) (i g:Nat) (v:Value):Nm:=⟨GM N.b i g,GM N.q i v⟩
theorem Ub {F:Nat→Prop} {N:Nm} {nx g:Nat} {v:Value} {R:World}:Ext F N nx R F (N.both nx g v) (nx+1) R:=
 ⟨Nat.le_succ _,fun i hi=>BY _ _ (by omega),fun i hi=>BY _ _ (by omega),fun _ h=>h,fun _ _=>rfl⟩
theorem A8m (h:Rel Z F N s a R) {ob:Ob} {g:Nat} {v:Value} (hB:Z.R.heap.size≤g) (nF:¬F g) (nO:¬Foot N s.o g) (hob:ObR F (N.both s.nx g v) (s.nx+1) R s.nx ob) (hft:∀b,foot (N.both s.nx g v) s.nx ob b→b=g):
  Rel Z F (N.both s.nx g v) ⟨s.n,s.nx+1,s.t,(s.nx,some ob)::s.o⟩ a R∧∀g',Foot (N.both s.nx g v) ((s.nx,some ob)::s.o) g'→g'=g∨Foot N s.o g':=by
 have st:Ext F N s.nx R F (N.both s.nx g v) (s.nx+1) R:=Ub
 have cases:∀{i o1},Ak i ((s.nx,some ob)::s.o)=some o1→(i=s.nx∧o1=ob)∨(i <s.nx∧Ak i s.o=some o1):=fun {i o1} hl=>by
  rw[AE] at hl
  split at hl
  ·exact .inl ⟨‹_›,(Option.some.inj hl).symm⟩
  ·exact .inr ⟨(h.hp.ob i o1 hl).1,hl⟩
 have hfoot:∀{i o1 g'},i <s.nx→(foot (N.both s.nx g v) i o1 g'↔foot N i o1 g'):=fun {i o1 g'} hi=>Dw st hi
 have fo:∀g',Foot (N.both s.nx g v) ((s.nx,some ob)::s.o) g'→g'=g∨Foot N s.o g':=fun g' ⟨i,o1,hl,hf⟩=>by
  rcases cases hl with⟨rfl,rfl⟩|⟨hi,hl⟩
  ·exact .inl (hft g' hf)
  ·exact .inr ⟨i,o1,hl,(hfoot hi).1 hf⟩
 have hp:HRel F (N.both s.nx g v) (s.nx+1) ((s.nx,some ob)::s.o) R:=by
  refine⟨h.hp.flt,fun i o1 hl=>?_,fun i o1 g' hl hf=>?_,fun i j x y g' hi hj hx hy=>?_,h.hp.gl⟩
  ·rcases cases hl with⟨rfl,rfl⟩|⟨hi,hl⟩
   ·exact⟨Nat.lt_succ_self _,hob⟩
   ·exact⟨by omega,(h.hp.ob i o1 hl).2.step st hi fun _ _=>rfl⟩
  ·rcases cases hl with⟨rfl,rfl⟩|⟨hi,hl⟩
   ·rw[hft g' hf]
    exact nF
   ·exact h.hp.ff i o1 g' hl ((hfoot hi).1 hf)
  ·rcases cases hi with⟨rfl,rfl⟩|⟨hi1,hi2⟩
   ·rcases cases hj with⟨rfl,rfl⟩|⟨hj1,hj2⟩
    ·rfl
    ·have:=hft g' hx
     subst this
     exact absurd ⟨j,y,hj2,(hfoot hj1).1 hy⟩ nO
   ·rcases cases hj with⟨rfl,rfl⟩|⟨hj1,hj2⟩
    ·have:=hft g' hy
     subst this
     exact absurd ⟨i,x,hi2,(hfoot hi1).1 hx⟩ nO
    ·exact h.hp.sep i j x y g' hi2 hj2 ((hfoot hi1).1 hx) ((hfoot hj1).1 hy)
 refine⟨⟨h.defers,h.size,fun u x hu=>(h.slots u x hu).step st,hp,?_,h.tm⟩,fo⟩
 have:=h.st
 refine⟨Nat.le_trans this.le (Nat.le_succ _),fun i hi=>by rw[st.b i (Nat.lt_of_lt_of_le hi this.le)];exact this.b i hi,fun i hi=>by rw[st.q i (Nat.lt_of_lt_of_le hi this.le)];exact this.q i hi,this.f,this.fnew,fun g' hf=>?_,this.os,this.tape,this.output,this.size,this.keep⟩
 rcases fo g' hf with q|q
 ·exact .inr (by omega)
 ·exact this.foot g' q
theorem A6v (h:Rel Z F N s a R) {o:Oper} {f:Eff} (he:mkE E s o=some f):∃C ob x,f=⟨x,s.nx+1,(s.nx,some ob)::s.o,1,[]⟩∧(∀w,(execOp a.eval o).run E.P w=.ok (.value (mkV o.op w.heap.size)) (w.alloc C))∧
  ∀g,R.heap[g]?=some C→ObR F (N.both s.nx g (mkV o.op g)) (s.nx+1) R s.nx ob∧Hv F (N.both s.nx g (mkV o.op g)) (s.nx+1) R x (mkV o.op g)∧∀b,foot (N.both s.nx g (mkV o.op g)) s.nx ob b→b=g:=by
 obtain⟨dst,op,type,pos,after,guard⟩:=o
 unfold mkE at he
 simp only at he
 have hb:∀g v,(N.both s.nx g v).b s.nx=g:=fun g v=>A3 _ _ _
 have hq:∀g v,(N.both s.nx g v).q s.nx=v:=fun g v=>A3 _ _ _
 split at he<;>first|(cases he;done)|skip
 ·rename_i t len parts
  cases h0:Nat.beq len 0 with
  |true=>rw[h0] at he;cases he
  |false=>
  rw[h0,cond_false] at he
  unfold M1 at he
  split at he<;>first|(cases he;done)|skip
  rename_i e hu
  split at he<;>first|(cases he;done)|skip
  rename_i i hi
  split at he<;>first|(cases he;done)|skip
  rename_i z hz
  split at he<;>first|(cases he;done)|skip
  rename_i ps hps
  cases h1:Nat.ble (len*i.size) 16777216 with
  |false=>rw[h1] at he;cases he
  |true=>
  cases h2:Nat.beq z.cells.size i.size with
  |false=>rw[h1,h2] at he;cases he
  |true=>
  cases h3:Nat.ble 1 i.size with
  |false=>rw[h1,h2,h3] at he;cases he
  | true=>
   rw[h1,h2,h3] at he
   simp only[cond_true] at he
   split at he<;>first|(cases he;done)|skip
   rename_i cs hcs
   cases h4:Lh s.o (.lst (GU i.size len cs)) with
   |false=>rw[h4] at he;cases he
   | true=>
    rw[h4,h0] at he
    cases he
    have g1:=Nat.le_of_ble_eq_true h1
    have g2:=Nat.eq_of_beq_eq_true h2
    have g3:0 <i.size:=Nat.le_of_ble_eq_true h3
    have hparts:=RG h (F7 _) hps
    have hz0:HL F N s.nx R (Aw3 (toL z.cells.toList) len) (madeCells z.cells (len*i.size)).toList:=by
     rw[←g2,Mt]
     exact Ako (HL.toL _) len
    obtain⟨arr,q1,q2⟩:=PZ hcs hparts hz0
    have hl:(parts.map fun(i,x)=>(i,a.eval x))=(parts.toList.map fun(i,x)=>(i,a.eval x)).toArray:=by rw[←Array.toList_map,Array.toArray_toList]
    have hasz:arr.size=len*i.size:=by rw[Wo q1,size_madeCells]
    have hn:(Els.lst (GU i.size len cs)).n=len:=Jq _ _ _
    have hmx:len≤maxLen:=by
     have h5:len≤len*i.size:=Nat.le_mul_of_pos_right _ g3
     have hmx:maxLen=9223372036854775807:=rfl
     omega
    refine⟨.cells arr e (0,0),.arr e i.size (.lst (GU i.size len cs)),.sq s.nx,rfl,fun w=>?_,fun g hg=>⟨⟨arr.toList,?_,fun k hk=>?_⟩,?_,fun b hf=>?_⟩⟩
    ·have hrun:=Yy hu hi hz g1 q1 w
     rw[←hl] at hrun
     exact Ft hrun
    ·rw[hq,hn]
     exact QI (by rw[Array.length_toList,hasz]) hasz hmx (Nat.le_refl _) (List.take_of_length_le (by rw[Array.length_toList,hasz];exact Nat.le_refl _)) hg
    ·rw[hn] at hk
     show HL F _ _ R (GV (GU i.size len cs) k) _
     rw[Tc _ _ _ _ hk]
     exact((q2.step Ub).drop _).take _
    ·have:Hv F (N.both s.nx g (mkV (.buildSlice t len parts) g)) (s.nx+1) R (.sq s.nx) ((N.both s.nx g (mkV (.buildSlice t len parts) g)).q s.nx):=.sq (Nat.lt_succ_self _)
     rw[hq] at this
     exact this
    ·have hf':BO ((N.both s.nx g (mkV (.buildSlice t len parts) g)).q s.nx)=some b:=hf
     rw[hq] at hf'
     unfold mkV at hf'
     cases len with
     |zero=>cases hf'
     |succ n=>cases hf';rfl
 ·rename_i e v
  unfold Ayr at he
  split at he<;>first|(cases he;done)|skip
  rename_i x hx
  split at he
  rotate_left
  ·split at he<;>first|(cases he;done)|skip
   rename_i xs hr
   cases he
   have hc:=Ao8 hr (AQ h (F7 _) hx).2
   refine⟨.cells (a.eval v).cells.toList.toArray e (0,0),.rcd e xs,.own s.nx 0,rfl,fun w=>Ft RK,fun g hg=>⟨⟨_,hc.step Ub,?_⟩,?_,fun b hf=>?_⟩⟩
   ·rw[hb];exact hg
   ·have:Hv F (N.both s.nx g (.pointer (some ⟨g,0,none⟩))) (s.nx+1) R (.own s.nx 0) (.pointer (some ⟨(N.both s.nx g (.pointer (some ⟨g,0,none⟩))).b s.nx,0,none⟩)):=.own (Nat.lt_succ_self _)
    rw[hb] at this
    exact this
   ·have hf':b=(N.both s.nx g (mkV (.box e v) g)).b s.nx:=hf
    rw[hb] at hf'
    exact hf'
  rename_i us hus
  cases hs:MM s.o us with
  |false=>rw[hs] at he;cases he
  | true=>
   rw[hs] at he
   cases he
   have hc:=Rq h.hp hus hs (AQ h (F7 _) hx).2
   refine⟨.cells (a.eval v).cells.toList.toArray e (0,0),.box e us,.own s.nx 0,rfl,fun w=>Ft RK,fun g hg=>⟨⟨_,hc.step Ub,?_⟩,?_,fun b hf=>?_⟩⟩
   ·rw[hb];exact hg
   ·have:Hv F (N.both s.nx g (.pointer (some ⟨g,0,none⟩))) (s.nx+1) R (.own s.nx 0) (.pointer (some ⟨(N.both s.nx g (.pointer (some ⟨g,0,none⟩))).b s.nx,0,none⟩)):=.own (Nat.lt_succ_self _)
    rw[hb] at this
    exact this
   ·have hf':b=(N.both s.nx g (mkV (.box e v) g)).b s.nx:=hf
    rw[hb] at hf'
    exact hf'
theorem A6w {o:Oper} {f:Eff} (he:mkE E s o=some f):opE E s [] o=some f∧o.guard=none∧Abr o.op=true∧mkB o=true:=by
 obtain⟨dst,op,type,pos,after,guard⟩:=o
 unfold mkE at he
 simp only at he
 split at he<;>first|(cases he;done)|exact⟨he,rfl,rfl,rfl⟩|exact⟨Aac he,rfl,rfl,rfl⟩
theorem A4c {ops:List Oper} {o:Oper} {f:Eff} (he:mkE E s o=some f) (hp:isS (QS s o.dst f)=true):∃s',QS s o.dst f=some s'∧∀{l:List C6},Ko E ops s o=some l→∀K:St→Prop,K s'→X0 l K:=by
 obtain⟨h1,h2,h3,_⟩:=A6w he
 cases hs:QS s o.dst f with
 |none=>rw[hs] at hp;cases hp
 | some s'=>
  refine⟨s',rfl,fun {l} hl K hK=>?_⟩
  have e2:SF E ops s o=none:=by
   unfold SF
   rw[h2]
   simp only
   unfold OP
   rw[h3]
   rfl
  have e3:∃k ps,Kt E ops s o=some [(none,k,s',ps)]:=by
   unfold Kt
   rw[h2]
   simp only
   unfold doE
   rw[h1]
   simp only
   rw[hs]
   exact⟨_,_,rfl⟩
  obtain⟨k,ps,e3⟩:=e3
  have e4:II E ops s o=some (YT [(none,k,s',ps)]):=by
   unfold II
   rw[e2]
   simp only
   unfold SU
   rw[e3]
  unfold Ko at hl
  rw[e4] at hl
  cases hl
  exact PB (.inl ⟨rfl,hK⟩)
theorem Auu {l:List Gw} {s0:St} {p:St→Bool} (h:WV l (fun x=>x=s0)) (ha:(l.all fun cs=>p cs.2)=true):p s0=true:=by
 induction l with
 |nil=>exact h.elim
 |cons x r ih=>
  obtain⟨c,s⟩:=x
  rw[List.all_cons,Bool.and_eq_true] at ha
  rcases h with⟨_,rfl⟩|⟨_,h⟩
  ·exact ha.1
  ·exact ih h ha.2
theorem Aci {K:St→Prop}:∀{l:List Gw},WV l K→∃s0,K s0∧WV l (fun x=>x=s0)
 | [],h=>h.elim
 | (c,s)::r,h=>by
  rcases h with⟨h1,h2⟩|⟨h1,h2⟩
  ·exact⟨s,h2,.inl ⟨h1,rfl⟩⟩
  ·obtain⟨s0,h3,h4⟩:=Aci h2
   exact⟨s0,h3,.inr ⟨h1,h4⟩⟩
theorem LT {ops:List Oper} {o:Oper} {s0:St}:∀{l l':List Gw} {k:Nat} {qs:List Prop},Ir E ops o l=some (k,l',qs)→WV l (fun x=>x=s0)→∃l1,Ko E ops s0 o=some l1∧∀K,X0 l1 K→WV l' K
 | [],_,_,_,_,h=>h.elim
 | (c,s)::r,l',k,qs,he,h=>by
  unfold Ir at he
  split at he<;>first|(cases he;done)|skip
  rename_i l1 h1
  split at he<;>first|(cases he;done)|skip
  rename_i k' r' qs' h2
  cases he
  rcases h with⟨hc,rfl⟩|⟨hc,h⟩
  ·exact⟨l1,h1,fun K hK=>NH hc hK⟩
  ·obtain⟨l2,h3,h4⟩:=LT h2 h
   exact⟨l2,h3,fun K hK=>NI hc (h4 K hK)⟩
theorem Av7 {o:Oper} (h:Aaw E.P o=true):∃e z,o.op=.alloc e∧o.guard=none∧(E.P.info? e).bind (·.zero)=some z:=by
 unfold Aaw at h
 split at h
 ·rename_i e h1 h2
  split at h
  ·rename_i z hz
   exact⟨e,z,h1,h2,hz⟩
  ·cases h
 ·cases h
theorem Am5 {o:Oper} (h:Aav E o=true):(∃e z,o.op=.alloc e∧o.guard=none∧(E.P.info? e).bind (·.zero)=some z)∨∃g x args ts,o.op=.call {callee:=.value (.func g),args:=args,argTypes:=ts}∧o.guard=none∧Jr E (.func g) args.toList=some (g,x):=by
 unfold Aav at h
 cases h0:Aaw E.P o with
 |true=>exact .inl (Av7 h0)
 |false=>
  rw[h0,cond_false] at h
  split at h<;>first|(cases h;done)|skip
  rename_i f args ts h1 h2
  split at h<;>first|(cases h;done)|skip
  rename_i y hy
  obtain⟨g,x⟩:=y
  obtain⟨rfl,_⟩:=K9 hy
  exact .inr ⟨g,x,args,ts,h1,h2,hy⟩
theorem Amq {ops:List Oper} {o:Oper} {g:FuncId} {x:A} {args:Array Operand} {ts:Array TypeId} (ho:o.op=.call {callee:=.value (.func g),args:=args,argTypes:=ts}) (hg:o.guard=none) (hc:Jr E (.func g) args.toList=some (g,x)) {l:List C6} (he:Ko E ops s o=some l):
  ∃s',QS s o.dst ⟨x,s.nx,s.o,1,[]⟩=some s'∧∀K:St→Prop,K s'→X0 l K:=by
 obtain⟨dst,op,type,pos,after,guard⟩:=o
 simp only at ho hg
 subst ho hg
 have e1:opE E s [] ⟨dst,.call {callee:=.value (.func g),args:=args,argTypes:=ts},type,pos,after,none⟩=some ⟨x,s.nx,s.o,1,[]⟩:=by
  show(match Agn E s [] (.func g) args.toList with
   |some (x,ps)=>some (Eff.mk x s.nx s.o 0 ps)
   |none=>Rp E s [] (.func g) args.toList)=_
  unfold Agn Rp
  rw[hc]
 have e2:SF E ops s ⟨dst,.call {callee:=.value (.func g),args:=args,argTypes:=ts},type,pos,after,none⟩=none:=by
  have:OP E s [] ⟨dst,.call {callee:=.value (.func g),args:=args,argTypes:=ts},type,pos,after,none⟩=none:=by
   show Agn E s [] (.func g) args.toList=_
   unfold Agn
   rw[hc]
  unfold SF
  simp only
  rw[this]
 have hcand:Ayt s ⟨dst,.call {callee:=.value (.func g),args:=args,argTypes:=ts},type,pos,after,none⟩=[]:=by
  obtain⟨_,ha,_⟩:=K9 hc
  unfold Ayt
  simp only
  rw[ha]
  rfl
 cases hp:QS s dst ⟨x,s.nx,s.o,1,[]⟩ with
 | none=>
  have e3:Kt E ops s ⟨dst,.call {callee:=.value (.func g),args:=args,argTypes:=ts},type,pos,after,none⟩=none:=by
   unfold Kt doE
   simp only
   rw[e1]
   simp only
   rw[hp]
  have e4:II E ops s ⟨dst,.call {callee:=.value (.func g),args:=args,argTypes:=ts},type,pos,after,none⟩=none:=by
   unfold II
   rw[e2]
   simp only
   unfold SU
   rw[e3,hcand]
   rfl
  unfold Ko at he
  rw[e4] at he
  cases he
 | some s'=>
  have e3:Kt E ops s ⟨dst,.call {callee:=.value (.func g),args:=args,argTypes:=ts},type,pos,after,none⟩=some [(none,1,s',[])]:=by
   unfold Kt doE
   simp only
   rw[e1]
   simp only
   rw[hp]
   rfl
  have e4:II E ops s ⟨dst,.call {callee:=.value (.func g),args:=args,argTypes:=ts},type,pos,after,none⟩=some (YT [(none,1,s',[])]):=by
   unfold II
   rw[e2]
   simp only
   unfold SU
   rw[e3]
  unfold Ko at he
  rw[e4] at he
  cases he
  exact⟨s',rfl,fun K hK=> .inl ⟨rfl,hK⟩⟩
theorem Aq0 {ops:List Oper} {o:Oper} {e:TypeId} {z:Value} (ho:o.op=.alloc e) (hg:o.guard=none) (hz:(E.P.info? e).bind (·.zero)=some z) {l:List C6} (he:Ko E ops s o=some l):
  ∃s',QS s o.dst ⟨.own s.nx 0,s.nx+1,(s.nx,some (.box e (toL z.cells.toList)))::s.o,1,[]⟩=some s'∧∀K:St→Prop,K s'→X0 l K:=by
 obtain⟨dst,op,type,pos,after,guard⟩:=o
 simp only at ho hg
 subst ho hg
 have e1:opE E s [] ⟨dst,.alloc e,type,pos,after,none⟩=some ⟨.own s.nx 0,s.nx+1,(s.nx,some (.box e (toL z.cells.toList)))::s.o,1,[]⟩:=by
  show Aaa E s e=_
  unfold Aaa
  rw[hz]
 have e2:SF E ops s ⟨dst,.alloc e,type,pos,after,none⟩=none:=rfl
 cases hp:QS s dst ⟨.own s.nx 0,s.nx+1,(s.nx,some (.box e (toL z.cells.toList)))::s.o,1,[]⟩ with
 | none=>
  have e3:Kt E ops s ⟨dst,.alloc e,type,pos,after,none⟩=none:=by
   unfold Kt doE
   simp only
   rw[e1]
   simp only
   rw[hp]
  have e4:II E ops s ⟨dst,.alloc e,type,pos,after,none⟩=none:=by
   unfold II
   rw[e2]
   simp only
   unfold SU
   rw[e3]
   rfl
  unfold Ko at he
  rw[e4] at he
  cases he
 | some s'=>
  have e3:Kt E ops s ⟨dst,.alloc e,type,pos,after,none⟩=some [(none,1,s',[])]:=by
   unfold Kt doE
   simp only
   rw[e1]
   simp only
   rw[hp]
   rfl
  have e4:II E ops s ⟨dst,.alloc e,type,pos,after,none⟩=some (YT [(none,1,s',[])]):=by
   unfold II
   rw[e2]
   simp only
   unfold SU
   rw[e3]
  unfold Ko at he
  rw[e4] at he
  cases he
  exact⟨s',rfl,fun K hK=>PB (.inl ⟨rfl,hK⟩)⟩
theorem Aw2 (ok:EnvOk E) (h:Rel Z F N s a R) {id:Nat} {ops:List Oper} {draw:Bool} (hW:∀u,LF u (Na ops)=true→Z.W u) {s':St} {ps:List Prop} (he:evR E ops draw s=some (s',ps)) (hp:∀p∈ps,p) {Q:Exit→Act→World→Prop}
  (hk:∀F' N' a' R',Rel Z F' N' s' a' R'→Q .normal a' R'):(Code.region id ops.toArray draw).wp E.P Q a R:=by
 have h00:WV [((none:Cnd),s)] (At (ID F N s a R (Na ops)) a R):=.inl ⟨rfl,F,N,h.start _⟩
 have hsub:Xk s [((none:Cnd),s)]:=⟨Sub.refl _,trivial⟩
 have hdst:∀o∈ops,∀d,o.dst=some d→(ID F N s a R (Na ops)).W d:=fun o ho d hd=>Am4 ho hd
 have J3:∀{l:List Gw} {a' R'},Xk s l→WV l (At (ID F N s a R (Na ops)) a' R')→s'=Qv (Na ops) s l→Q .normal a' R':=fun {l a' R'} hs ho e=>by
  obtain⟨F',N',hr⟩:=Ag9 h hs ho
  subst e
  exact hk F' N' a' R' (h.over hr hW)
 cases draw with
 |false=>
  unfold evR at he
  simp only at he
  split at he<;>first|(cases he;done)|skip
  rename_i l ps1 h1
  cases he
  exact wp_region_lit (A0j ok hdst h00 h1 hp fun a' R' ho=>J3 (Wm ok h1 hsub) ho rfl)
 | true =>
  have he':∃order,evO E ops order s=some (s',ps):=by
   unfold evR at he
   simp only at he
   split at he
   ·rename_i r hr
    cases he
    exact⟨_,hr⟩
   ·exact⟨_,he⟩
  clear he
  obtain⟨order,he⟩:=he'
  unfold evO at he
  split at he<;>first|(cases he;done)|skip
  rename_i ks l ps1 h1
  cases hB':Aiu ops.toArray order ks (Wj E ops order [(none,s)]) (fun j k=>Aur ops order j||Amr E ops order [(none,s)] j k)&&A7q ops.toArray order (Wj E ops order [(none,s)]) with
  |false=>rw[hB'] at he;cases he
  | true =>
   rw[hB'] at he
   cases he
   obtain⟨hB,hEop⟩:=Bool.and_eq_true_iff.1 hB'
   obtain⟨hc,hn,hsink⟩:=Avx hB
   obtain⟨hF,hat⟩:=Aze h1
   let Z0:=ID F N s a R (Na ops)
   have hov:∀{F1 N1 s0 A w F2 N2 s1 A2 w2},Rel Z0 F1 N1 s0 A w→Rel (ID F1 N1 s0 A w (Na ops)) F2 N2 s1 A2 w2→Rel Z0 F2 N2 s1 A2 w2:=fun h1 h2=>h1.over h2 fun _ hu=>hu
   have hearly:∀{k o},Wj E ops order [(none,s)] k=true→ops[order.getD k 0]?=some o→Aav E o=true∨(mkB o=true∧A4r E ops order [(none,s)] k o=true):=fun {k o} h1 h2=>by
    unfold Wj at h1
    rw[h2] at h1
    simp only at h1
    cases h3:Aav E o with
    |true=>exact .inl rfl
    |false=>
     rw[h3,cond_false] at h1
     cases h4:mkB o with
     |true=>rw[h4] at h1;exact .inr ⟨rfl,h1⟩
     |false=>rw[h4] at h1;cases h1
   refine A2a (S:=fun k X A w=>∃l1,stK E ops order [((none:Cnd),s)] k=some l1∧∃s0 F1 N1,Rel Z0 F1 N1 s0 A w∧Rsv E ops order Z0.R.heap.size k X A F1 N1 s0.o w∧WV l1 (fun x=>x=s0)) ok.wide hc ?_ ?_ (fun j k o o' d q1 q2 q3 q4 q5 q6=>A3n hEop j k o o' d q1 q2 q3 q4 q5 q6) ?_ ?_ (fun k X A w w' ⟨l1,g1,s0,F1,N1,g2,g3,g4⟩ hb=>⟨l1,g1,s0,F1,N1,g2.grow hb,A04 g3 hb,g4⟩) ⟨_,Ad3,s,F,N,h.start _,⟨fun _ _=>False,fun j v _ hx=>(by cases hx),fun i j u v b _ _ hx=>(by cases hx)⟩,.inl ⟨rfl,rfl⟩⟩ (fun X A w' ⟨l1,g1,s0,F1,N1,g2,g3,g4⟩=>?_)
   ·intro k X A w hk' hM ⟨l0,g1,s0,F1,N1,g2,g3,g4⟩ o ho
    obtain⟨l1,o1,l2,ps2,e1,e2,e4,e5,e6⟩:=hat k hk'
    have ho':ops[order.getD k 0]?=some o:=by simpa using ho
    have:o1=o:=Option.some.inj (e1.symm.trans ho')
    subst this
    obtain rfl:l1=l0:=Option.some.inj (e2.symm.trans g1)
    have hk0:ks.getD k 0=0:=by
     have hM':Nat.blt 0 (ks.getD k 0)=false:=hM
     cases hz:ks.getD k 0 with
     |zero=>rfl
     |succ m=>rw[hz] at hM';cases hM'
    rw[hk0] at e4
    obtain⟨v,r1,r2⟩:=UA (Z:=ID F1 N1 s0 A w (Na ops)) ok (hdst o1 (List.mem_of_getElem? ho')) e4 (fun p hm=>hp p (e5 p hm)) (QH (fun x hx=>by subst hx;exact⟨F1,N1,g2.start _⟩) g4)
    obtain⟨s1,⟨F2,N2,q1⟩,q2⟩:=Aci r1
    exact⟨v,⟨l2,e6,s1,F2,N2,hov g2 q1,Adu (ZX g3 ho' v) q1.st,q2⟩,r2⟩
   ·intro k X A w v hk' hE hX ⟨l0,g1,s0,F1,N1,g2,g3,g4⟩ o ho
    obtain⟨l1,o1,l2,ps2,e1,e2,e4,e5,e6⟩:=hat k hk'
    have ho':ops[order.getD k 0]?=some o:=by simpa using ho
    have:o1=o:=Option.some.inj (e1.symm.trans ho')
    subst this
    obtain rfl:l1=l0:=Option.some.inj (e2.symm.trans g1)
    obtain⟨G,gA,gB⟩:=g3
    obtain⟨b0,b5⟩:=gA k v (Nat.le_refl _) hX
    have rest:∀{F2:Nat→Prop} {N2:Nm} {o2:Objs},(∀b,F2 b→F1 b∨G k b)→(∀b,Foot N2 o2 b→Foot N1 s0.o b∨G k b)→Rsv E ops order Z0.R.heap.size (k+1) X (A.put o1.dst v) F2 N2 o2 w:=fun {F2 N2 o2} q1 q2=>by
     refine⟨G,fun j v' hj hx=>?_,fun i j u v' b hi hj=>gB i j u v' b (by omega) (by omega)⟩
     obtain⟨r1,r2⟩:=gA j v' (by omega) hx
     refine⟨Apd r1 (by omega) ho',fun b hb=>?_⟩
     obtain⟨t1,t2,t3,t4⟩:=r2 b hb
     have hne:¬G k b:=fun hk=>by
      have:=gB k j _ _ b (Nat.le_refl _) (by omega) hX hx hk hb
      omega
     exact⟨t1,t2,fun hf=>(q1 b hf).elim t3 hne,fun hf=>(q2 b hf).elim t4 hne⟩
    rcases hearly hE ho' with hE1|⟨hE1,hE2⟩
    rcases Am5 hE1 with⟨e,z,a1,a2,a3⟩|⟨f,x,args,ts,a1,a2,a3⟩
    ·rcases b0 with⟨g,e',z',b1,⟨op,b2,b3⟩,b4,b6,b9⟩|⟨_,_,_,_,_,⟨op,b2,b3⟩,_⟩|⟨_,_,op,b2,b3,_⟩
     ·have:op=o1:=Option.some.inj (b2.symm.trans ho')
      subst this
      rw[a1] at b3
      cases b3
      obtain rfl:z'=z:=Option.some.inj (b4.symm.trans a3)
      obtain⟨l3,c1,c2⟩:=LT e4 g4
      obtain⟨s1,c3,c4⟩:=Aq0 a1 a2 a3 c1
      obtain⟨t1,t2,t3,t4⟩:=b5 g ((b6 g).2 rfl)
      obtain⟨d1,d2,d3⟩:=A5h g2 t1 t2 t3 t4 b9
      subst b1
      have hrel:Rel Z0 F1 (N1.setB s0.nx g) s1 (A.put op.dst (.pointer (some ⟨g,0,none⟩))) w∧s1.o=(s0.nx,some (.box e (toL z'.cells.toList)))::s0.o:=by
       unfold QS at c3
       split at c3
       ·rename_i d hd
        cases hb:Nat.blt d s0.n with
        |false=>rw[hb] at c3;cases c3
        |true=>
         rw[hb] at c3
         cases c3
         rw[hd]
         exact⟨d1.put (x:=.own s0.nx 0) (Nat.le_of_ble_eq_true hb) (hdst op (List.mem_of_getElem? ho') d hd) _ ((Ab rfl).2 d2),rfl⟩
       ·rename_i hd
        cases c3
        rw[hd]
        exact⟨d1,rfl⟩
      refine⟨l2,e6,s1,F1,N1.setB s0.nx g,hrel.1,rest (fun b hb=> .inl hb) (fun b hb=>?_),c2 _ (c4 (fun x=>x=s1) rfl)⟩
      rw[hrel.2] at hb
      rcases d3 b hb with q|q
      ·exact .inr ((b6 b).2 q)
      ·exact .inl q
     ·have:op=o1:=Option.some.inj (b2.symm.trans ho')
      subst this
      rw[a1] at b3
      cases b3
     ·have:op=o1:=Option.some.inj (b2.symm.trans ho')
      subst this
      unfold mkB at b3
      rw[a1] at b3
      cases b3
    ·rcases b0 with⟨g,e',z',b1,⟨op,b2,b3⟩,b4,b6,b9⟩|⟨f',x',args',ts',N0,⟨op,b2,b3⟩,b4,b6⟩|⟨_,_,op,b2,b3,_⟩
     ·have:op=o1:=Option.some.inj (b2.symm.trans ho')
      subst this
      rw[a1] at b3
      cases b3
     ·have:op=o1:=Option.some.inj (b2.symm.trans ho')
      subst this
      rw[a1] at b3
      cases b3
      obtain rfl:x'=x:=congrArg Prod.snd (Option.some.inj (b4.symm.trans a3))
      obtain⟨l3,c1,c2⟩:=LT e4 g4
      obtain⟨s1,c3,c4⟩:=Amq a1 a2 a3 c1
      obtain⟨_,_,_,hfree,_⟩:=K9 a3
      obtain⟨d1,d2⟩:=A10 g2 b5 b6 hfree
      have hrel:Rel Z0 (fun b=>F1 b∨G k b) N1 s1 (A.put op.dst v) w∧s1.o=s0.o:=by
       unfold QS at c3
       split at c3
       ·rename_i d hd
        cases hb:Nat.blt d s0.n with
        |false=>rw[hb] at c3;cases c3
        |true=>
         rw[hb] at c3
         cases c3
         rw[hd]
         exact⟨d1.put (x:=x') (Nat.le_of_ble_eq_true hb) (hdst op (List.mem_of_getElem? ho') d hd) _ ((Ab d2.isPlain).2 d2),rfl⟩
       ·rename_i hd
        cases c3
        rw[hd]
        exact⟨d1,rfl⟩
      refine⟨l2,e6,s1,_,N1,hrel.1,rest (fun b hb=>hb) (fun b hb=>?_),c2 _ (c4 (fun x=>x=s1) rfl)⟩
      rw[hrel.2] at hb
      exact .inl hb
     ·have:op=o1:=Option.some.inj (b2.symm.trans ho')
      subst this
      unfold mkB at b3
      rw[a1] at b3
      cases b3
    ·-- what was made of values
     rcases b0 with⟨g,e',z',b1,⟨op,b2,b3⟩,b4,b6,b9⟩|⟨_,_,_,_,_,⟨op,b2,b3⟩,_⟩|⟨g,C,op,b2,b3,b4,b6,b7,b8,_⟩
     ·have:op=o1:=Option.some.inj (b2.symm.trans ho')
      subst this
      unfold mkB at hE1
      rw[b3] at hE1
      cases hE1
     ·have:op=o1:=Option.some.inj (b2.symm.trans ho')
      subst this
      unfold mkB at hE1
      rw[b3] at hE1
      cases hE1
     ·have:op=o1:=Option.some.inj (b2.symm.trans ho')
      subst this
      unfold A4r at hE2
      rw[g1] at hE2
      have hput:Bac E op l1=true:=(Bool.and_eq_true_iff.1 hE2).1
      have hput':=Auu (p:=fun s=>match mkE E s op with
       |some f=>isS (QS s op.dst f)
       |none=>false) g4 hput
      split at hput'<;>first|(cases hput';done)|skip
      rename_i f hf
      obtain⟨s1,c3,c4⟩:=A4c (ops:=ops) hf hput'
      obtain⟨l3,c1,c2⟩:=LT e4 g4
      obtain⟨C',ob,x,rfl,m2,m3⟩:=A6v g2 hf
      obtain rfl:C'=C:=by
       have h1:=m2 w
       rw[b4 w] at h1
       injection h1 with _ h1
       have h2:=congrArg World.heap h1
       have h3:w.heap.push C=w.heap.push C':=h2
       exact((Array.push_eq_push.1 h3).1).symm
      obtain⟨t1,t2,t3,t4⟩:=b5 g ((b7 g).2 rfl)
      obtain⟨m4,m5,m6⟩:=m3 g b8
      obtain⟨d1,d3⟩:=A8m g2 t1 t3 t4 m4 m6
      subst b6
      have hrel:Rel Z0 F1 (N1.both s0.nx g (mkV op.op g)) s1 (A.put op.dst (mkV op.op g)) w∧s1.o=(s0.nx,some ob)::s0.o:=by
       unfold QS at c3
       split at c3
       ·rename_i d hd
        cases hb:Nat.blt d s0.n with
        |false=>rw[hb] at c3;cases c3
        |true=>
         rw[hb] at c3
         cases c3
         rw[hd]
         exact⟨d1.put (x:=x) (Nat.le_of_ble_eq_true hb) (hdst op (List.mem_of_getElem? ho') d hd) _ ((Ab m5.isPlain).2 m5),rfl⟩
       ·rename_i hd
        cases c3
        rw[hd]
        exact⟨d1,rfl⟩
      refine⟨l2,e6,s1,F1,_,hrel.1,rest (fun b hb=> .inl hb) (fun b hb=>?_),c2 _ (c4 c1 (fun x=>x=s1) rfl)⟩
      rw[hrel.2] at hb
      rcases d3 b hb with q|q
      ·exact .inr ((b7 b).2 q)
      ·exact .inl q
   ·intro p k X A w hpk hk' hE ⟨l0,g1,s0,F1,N1,g2,g3,g4⟩ o ho hnw A' hA'
    have ho':ops[order.getD k 0]?=some o:=by simpa using ho
    obtain⟨G,gA,gB⟩:=g3
    -- what is new lies behind all that was
    have more:∀{v:Value} {w':World} {H:Nat→Prop},Below w.heap.size w w'→Avp E ops order p A k v H w'→(∀b,H b→w.heap.size≤b∧b <w'.heap.size)→Rsv E ops order Z0.R.heap.size p (X.set k v) A F1 N1 s0.o w':=fun {v w' H} hb hK hH=>by
     refine⟨fun j b=>if j=k then H b else G j b,fun j v' hj hx=>?_,fun i j u v' b hi hj hx hy p1' p2'=>?_⟩
     ·by_cases ej:j=k
      ·subst ej
       have hx':some v=some v':=by
        unfold Aside.set at hx
        rw[if_pos rfl] at hx
        exact hx
       cases hx'
       refine⟨by simp only[if_true];exact hK,fun b hb2=>?_⟩
       simp only[if_true] at hb2
       obtain⟨r1,r2⟩:=hH b hb2
       refine⟨Nat.le_trans g2.st.size r1,r2,fun hf=>?_,fun⟨i,ob,hl,hf⟩=>?_⟩
       ·have:=g2.hp.flt b hf
        omega
       ·have:=(g2.hp.ob i ob hl).2.lt hf
        omega
      ·unfold Aside.set at hx
       rw[if_neg ej] at hx
       obtain⟨q1,q2⟩:=gA j v' hj hx
       simp only[if_neg ej]
       refine⟨Ahu q1 fun b hb2=>hb.block b (q2 b hb2).2.1,fun b hb2=>?_⟩
       obtain⟨t1,t2,t3,t4⟩:=q2 b hb2
       exact⟨t1,Nat.lt_of_lt_of_le t2 hb.size,t3,t4⟩
     ·have p1:(if i=k then H b else G i b):=p1'
      have p2:(if j=k then H b else G j b):=p2'
      have old:∀{i u},i≠k→p≤i→(X.set k v) i=some u→G i b→b <w.heap.size:=fun {i u} hne hi hx hg=>by
       unfold Aside.set at hx
       rw[if_neg hne] at hx
       exact((gA i u hi hx).2 b hg).2.1
      by_cases ei:i=k
      ·by_cases ej:j=k
       ·rw[ei,ej]
       ·rw[if_pos ei] at p1
        rw[if_neg ej] at p2
        have:=(hH b p1).1
        have:=old ej hj hy p2
        omega
      ·by_cases ej:j=k
       ·rw[if_neg ei] at p1
        rw[if_pos ej] at p2
        have:=(hH b p2).1
        have:=old ei hi hx p1
        omega
       ·rw[if_neg ei] at p1
        rw[if_neg ej] at p2
        unfold Aside.set at hx hy
        rw[if_neg ei] at hx
        rw[if_neg ej] at hy
        exact gB i j u v' b hi hj hx hy p1 p2
    rcases hearly hE ho' with hE1|⟨hE1,hE2⟩
    rcases Am5 hE1 with⟨e,z,a1,a2,a3⟩|⟨f,x,args,ts,a1,a2,a3⟩
    ·refine⟨Ih a2 _,?_⟩
     have hrun:(execOp A'.eval o).run E.P w=.ok (.value (.pointer (some ⟨w.heap.size,0,none⟩))) (w.alloc (.cells z.cells.toList.toArray e (0,0))):=by
      obtain⟨dst,op,type,pos,after,guard⟩:=o
      simp only at a1
      subst a1
      exact Ft (Yx a3)
     rw[hrun]
     have hb:Below w.heap.size w (w.alloc (.cells z.cells.toList.toArray e (0,0))):=LI _
     exact⟨hb,l0,g1,s0,F1,N1,g2.grow hb,more (H:=fun b=>b=w.heap.size) hb (.inl ⟨w.heap.size,e,z,rfl,⟨o,ho',a1⟩,a3,fun _=>Iff.rfl,heap_alloc_new w _⟩) (fun b e=>by rw[e];exact⟨Nat.le_refl _,by simp⟩),g4⟩
    ·refine⟨Ih a2 _,?_⟩
     obtain⟨_,ha,hgo,hfree,k1,hk1,hC⟩:=K9 a3
     rw[Aan a1 ha hgo A' w]
     refine(ok.C _ _ _ _ _ _ _ _ _ hC (fun p hm=>by cases hm) (fun _=>False) N1 w [] ⟨fun _ h=>h.elim,fun i ob hi=>(by cases hi),fun i ob g hi=>(by cases hi),fun i j x y g hi=>(by cases hi),fun x hx=>(by rw[Aqq a3] at hx;cases hx)⟩ HL.nil).mono fun e R' ⟨y,F',N',e1,e2,e3,e4,e5⟩=>⟨y,e1,?_⟩
     have hb:=e5 hk1
     exact⟨hb,l0,g1,s0,F1,N1,g2.grow hb,more hb (.inr (.inl ⟨f,x,args,ts,N',⟨o,ho',a1⟩,a3,e4⟩)) (fun b hb2=>⟨by
      rcases e3.fnew b hb2 with q|⟨i,ob,hi,_⟩|q
      ·exact q.elim
      ·cases hi
      ·exact q,e2.flt b hb2⟩),g4⟩
    ·have hnwb:A0g ops order p k o=true:=by
      unfold A0g
      refine List.all_eq_true.2 fun i hi=>?_
      have hi':=List.mem_range.1 hi
      cases ho2:ops[order.getD (p+i) 0]? with
      |none=>rfl
      | some o'=>
       simp only
       cases hd:o'.dst with
       |none=>rfl
       |some d=>
        have:=hnw (p+i) (by omega) (by omega) o' d (by simpa using ho2) hd
        simp only[Bool.not_eq_true',List.contains_eq_mem]
        simpa using this
     unfold A4r at hE2
     have h7:=List.all_eq_true.1 (Bool.and_eq_true_iff.1 hE2).2 p (List.mem_range.2 (by omega))
     rw[hnwb,g1,Bool.not_true,Bool.false_or] at h7
     have h8:=Auu (p:=fun s=>isS (mkE E s o)) g4 h7
     cases hf:mkE E s0 o with
     |none=>simp only[hf] at h8;cases h8
     |some f=>
      obtain⟨C,ob,x,_,m2,_⟩:=A6v g2 hf
      obtain⟨_,n2,_,_⟩:=A6w hf
      refine⟨Ih n2 _,?_⟩
      rw[Ot (a:=A) (a':=A') (ops:=ops.toArray) o (Auo hE1) hA',m2 w]
      have hb:Below w.heap.size w (w.alloc C):=LI _
      exact⟨hb,l0,g1,s0,F1,N1,g2.grow hb,more (H:=fun b=>b=w.heap.size) hb (.inr (.inr ⟨w.heap.size,C,o,ho',hE1,m2,rfl,fun _=>Iff.rfl,heap_alloc_new w _,hnw⟩)) (fun b e=>by rw[e];exact⟨Nat.le_refl _,by simp⟩),g4⟩
   ·intro k X A w hk' hM hE ⟨l0,g1,s0,F1,N1,gr,gx,g4⟩ o ho
    have g2:WV l0 (At Z0 A w):=QH (fun x hx=>by subst hx;exact⟨F1,N1,gr⟩) g4
    have hstep:∀{l2:List Gw} {A2 w2},Rsv E ops order Z0.R.heap.size (k+1) X A2 F1 N1 s0.o w→stK E ops order [((none:Cnd),s)] (k+1)=some l2→WV l2 (At (ID F1 N1 s0 A w (Na ops)) A2 w2)→∃l1,stK E ops order [((none:Cnd),s)] (k+1)=some l1∧∃s0 F1 N1,Rel Z0 F1 N1 s0 A2 w2∧Rsv E ops order Z0.R.heap.size (k+1) X A2 F1 N1 s0.o w2∧WV l1 (fun x=>x=s0):=fun {l2 A2 w2} hx e6 r1=>by
     obtain⟨s1,⟨F2,N2,q1⟩,q2⟩:=Aci r1
     exact⟨l2,e6,s1,F2,N2,hov gr q1,Adu hx q1.st,q2⟩
    obtain⟨l1,o1,l2,ps2,e1,e2,e4,e5,e6⟩:=hat k hk'
    have ho':ops[order.getD k 0]?=some o:=by simpa using ho
    have:o1=o:=Option.some.inj (e1.symm.trans ho')
    subst this
    obtain rfl:l1=l0:=Option.some.inj (e2.symm.trans g1)
    rcases Wn (Z:=ID F1 N1 s0 A w (Na ops)) ok (hdst o1 (List.mem_of_getElem? ho')) e4 (fun p hm=>hp p (e5 p hm)) (QH (fun x hx=>by subst hx;exact⟨F1,N1,gr.start _⟩) g4) with⟨r1,r2⟩|⟨r1,r2⟩
    ·by_cases hex:1 <ks.getD k 0∧∃j,j <k∧Amr E ops order [(none,s)] j k=true
     ·have hcm:∀j,j <k→Amr E ops order [(none,s)] j k=true→∃o t x w' y,ops[order.getD j 0]?=some o∧o.op=.load t x∧(∀V,canA ops.toArray (fun k=>order.getD k 0) a V k=A→(canA ops.toArray (fun k=>order.getD k 0) a V j).eval x=A.eval x)∧(execOp A.eval o1).run E.P w=.ok .skip w'∧(Instr.loadAt t (A.eval x)).run E.P w=.ok y w∧
        ∀w1,Below w'.heap.size w' w1→(Instr.loadAt t (A.eval x)).run E.P w1=.ok y w1:=fun j hj hc=>by
       unfold Amr at hc
       split at hc<;>first|(cases hc;done)|skip
       rename_i oj o1' l1' hoj ho1 hl1
       obtain rfl:o1'=o1:=Option.some.inj (ho1.symm.trans ho')
       obtain rfl:l1'=l1:=Option.some.inj (hl1.symm.trans g1)
       cases hcl:Ams E oj o1' l1' with
       |false=>rw[hcl] at hc;cases hc
       | true=>
        rw[hcl] at hc
        simp only[cond_true] at hc
        obtain⟨s1,F1,N1,hr1,hp1⟩:=Amt hcl g2
        obtain⟨t,x,w',y,c1,c2,c3,c4,c5⟩:=A28 hr1 hp1
        refine⟨oj,t,x,w',y,hoj,c1,fun V hV=>?_,c3,c4,c5⟩
        rw[c1] at hc
        cases x<;>first|(cases hc;done)|skip
        rename_i x
        have hkeep:=V4 (ops:=ops.toArray) (ix:=fun k=>order.getD k 0) (a0:=a) (V:=V) (x:=x) (j:=j) (k - j) fun i hi o ho=>by
         have h7:=List.all_eq_true.1 hc i (List.mem_range.2 hi)
         have ho2:ops[order.getD (j+i) 0]?=some o:=by simpa using ho
         rw[ho2] at h7
         intro hd
         simp only[hd] at h7
         simp at h7
        rw[show j+(k - j)=k by omega,hV] at hkeep
        exact hkeep.symm
      obtain⟨hk2,j0,hj0,hc0⟩:=hex
      obtain⟨_,_,_,w',_,_,_,_,hrun,_,_⟩:=hcm j0 hj0 hc0
      have r2':=r2
      rw[hrun] at r2'
      obtain⟨_,q2⟩:=r2'
      refine .inl ⟨r1,?_⟩
      rw[hrun]
      refine⟨.inr fun j hj=>?_,hstep (ZX gx ho' _) e6 q2⟩
      ·rcases hsink k hk' (Nat.ble_eq_true_of_le hk2) j hj with h8|h8
       ·exact .inl h8
       ·rcases Bool.or_eq_true_iff.1 h8 with h8|h8
        ·exact .inr fun V _ hpend=>Ahj h8 hpend
        obtain⟨o,t,x,w'',y,d1,d2,d3,d4,d5,d6⟩:=hcm j hj h8
        obtain rfl:w''=w':=by rw[hrun] at d4;injection d4 with _ d4;exact d4.symm
        refine .inr fun V hV hpend o2 ho2=>?_
        have ho3:ops[order.getD j 0]?=some o2:=by simpa using ho2
        obtain rfl:o=o2:=Option.some.inj (d1.symm.trans ho3)
        have hex:∀w1,(execOp (canA ops.toArray (fun k=>order.getD k 0) a V j).eval o).run E.P w1=(do pure (.value (←Instr.loadAt t (A.eval x))):Sem Next).run E.P w1:=fun w1=>by
         obtain⟨dst,op,type,pos,after,guard⟩:=o
         simp only at d2
         subst d2
         show(do pure (.value (←Instr.loadAt t (Act.eval (canA ops.toArray (fun k=>order.getD k 0) a V j) x))):Sem Next).run E.P w1=_
         rw[d3 V hV]
        rcases hpend o ho2 with⟨p1,p2⟩|⟨p1,p2⟩
        ·refine .inl ⟨p1,fun w1 hw1=>?_⟩
         have p3:=p2 w (Below.refl _ _)
         rw[hex,Sem.run_bind,d5] at p3
         rw[hex,Sem.run_bind,d6 w1 hw1]
         obtain⟨_,p4⟩:=p3
         exact⟨rfl,p4⟩
        ·exact .inr ⟨p1,p2⟩
     ·refine .inl ⟨r1,CU r2 fun v w' ⟨q1,q2⟩=>⟨?_,hstep (ZX gx ho' _) e6 q2⟩⟩
      by_cases hk1:ks.getD k 0≤1
      ·exact .inl (q1 hk1)
      ·refine .inr fun j hj=>?_
       have h9:1 <ks.getD k 0:=by omega
       rcases hsink k hk' (Nat.ble_eq_true_of_le h9) j hj with h8|h8
       ·exact .inl h8
       ·rcases Bool.or_eq_true_iff.1 h8 with h8|h8
        ·exact .inr fun V _ hpend=>Ahj h8 hpend
        exact absurd ⟨h9,j,hj,h8⟩ hex
    ·exact .inr ⟨r1,hstep (ZX gx ho' _) e6 r2⟩
   ·rw[hF] at g1
    obtain rfl:=Option.some.inj g1
    exact J3 (Aje ok h1 hsub) (QH (fun x hx=>by subst hx;exact⟨F1,N1,g2⟩) g4) rfl
end
end Go.Proofs.YtifkbgkbajncjaaDoor
