/- made by a program (rowgen.py): WireDecodes: for every input the law returns true, and each argument reads behind the call as it read before. -/
import Derived.Test.YtifkbgkbajncjaaGreatDoorKWda

noncomputable section
namespace Go.Proofs.YtifkbgkbajncjaaGreatDoor
open Go.RowKit Go.MapKept
section
variable {E:Env} {Z:FG} {F:Nat→Prop} {N:Nm} {s:St} {a:Act} {R:World} {G:AQ}
theorem Ay2 {P:Program} {v:Value} {l:Ae} {src dst e:TypeId} (hv:∃a c,v=.slice a l.length c∧l.length≤c∧(0 <l.length→∃ad,a=some ad∧∀j b,l[j]?=some b→R.cell? (ad.add j)=some (BN b))) (hs:P.underlying src=some (.slice e)) (he:P.underlying e=some (.int .u8)) (hd:P.underlying dst=some .string):(convert src dst v).run P R=.ok (.string ⟨l.toArray⟩) R:=by
 obtain⟨A,c,rfl,_,hc⟩:=hv
 rw[run_convert_bytes_string R src dst e A _ c hs he hd]
 by_cases hn:0 <l.length
 ·obtain⟨ad,rfl,h5⟩:=hc hn
  have hl:=run_loadCells_list (P:=P) R ad (l.map BN) (fun j u hj=>by
   rw[List.getElem?_map] at hj
   cases hb:l[j]? with
   |none=>rw[hb] at hj;cases hj
   |some b=>rw[hb] at hj;cases hj;exact h5 j b hb)
  rw[List.length_map] at hl
  have e1:l.map BN=(l.map fun b=>(b.toNat:Int)).map (Value.int .u8):=by rw[List.map_map];rfl
  rw[e1] at hl
  rw[run_bytesToString R ad l.length c _ hl,foldl_push_bytes]
  have e2:(l.map fun b=>(b.toNat:Int)).map (fun n=>UInt8.ofNat n.toNat)=l:=by
   rw[List.map_map]
   exact(List.map_congr_left fun b _=>by show UInt8.ofNat ((b.toNat:Int).toNat)=id b;simp).trans (List.map_id l)
  rw[e2]
  simp
 ·obtain rfl:l=[]:=List.eq_nil_of_length_eq_zero (by omega)
  cases A with
  |none=>rfl
  |some ad=>
   have hl:=run_loadCells_list (P:=P) R ad [] (fun j u hj=>by cases hj)
   rw[show([]:Ae).length=0 from rfl,run_bytesToString R ad 0 c [] hl]
   rfl
theorem Blu (h:Rel Z F N s a R) (hG:P6 (BH a) G) {src dst:TypeId} {x:Operand} {z:A} {ps:List Prop} (he:Bc7 E s G src dst x=some (some (z,ps))) (hp:∀p∈ps,p):
  ∃y,Hv F N s.nx R z y∧∀R',Below R.heap.size R R'→(convert src dst (a.eval x)).run E.P R'=.ok y R':=by
 unfold Bc7 at he
 split at he<;>try (cases he;done)
 rename_i w hx
 split at he<;>try (cases he;done)
 rename_i l qs hl
 split at he<;>try (cases he;done)
 rename_i e hs hd
 split at he<;>try (cases he;done)
 rename_i hu
 cases he
 refine⟨_,Hv.v _,fun R' hb=>?_⟩
 obtain⟨aa,c,q1,q2,q3⟩:=Blv h.hp hl hp (BL h hG hx).2
 exact Ay2 ⟨aa,c,q1,q2,fun hp=>by
  obtain⟨ad,r1,r2⟩:=q3 hp
  exact⟨ad,r1,fun j b hj=>Ace hb (r2 j b hj)⟩⟩ hs hu hd
theorem A7j (h:Bp F N s.nx s.o R) {P:Program} {g:FuncId} {xs:List A} {vs:List Value} {k nx':Nat} {x:A} {o':AE} (hc:An P g xs s.nx s.o k x nx' o') (hv:HL F N s.nx R xs vs) {R':World} (hb:Below R.heap.size R R'):
  Calls P g vs.toArray R' fun e R''=>∃y F' N',e=.returned y∧Bp F' N' nx' o' R''∧Step F N s.nx s.o R' F' N' nx' o' R''∧Hv F' N' nx' R'' x y∧(k≤1→Below R'.heap.size R' R''):=by
 obtain⟨h1,h2⟩:=h.grow hb
 exact hc F N R' vs h1 (hv.step h2)
def A1w:List (ByteArray×Int)→List MapEntry→Prop
 | [],es=>es=[]
 |p::l,es=>∃e r,es=e::r∧e.key=.string p.1∧e.val=.int .i64 p.2∧A1w l r
theorem Bjr {nx:Nat}:∀{l:List (U .str×U .i64)} {es:List MapEntry},es.length=l.length→(∀(j:Nat) (p:U .str×U .i64) (e:MapEntry),l[j]?=some p→es[j]?=some e→e.key=B11 .str p.1∧Hv F N nx R (AA .i64 p.2) e.val)→A1w l es
 | [],es,h,_=>List.eq_nil_of_length_eq_zero h
 |p::l,[],h,_=>by cases h
 |p::l,e::r,h,k=>by
  obtain⟨h1,h2⟩:=k 0 p e rfl rfl
  exact⟨e,r,rfl,h1,Hv.v_inv (x:=.int .i64 p.2) h2,Bjr (by simpa using h) fun j q f hq hf=>k (j+1) q f hq hf⟩
theorem Bjs {nx:Nat}:∀{l:List (ByteArray×Int)} {es:List MapEntry},A1w l es→es.length=l.length∧∀(j:Nat) (p:U .str×U .i64) (e:MapEntry),l[j]?=some p→es[j]?=some e→e.key=B11 .str p.1∧Hv F N nx R (AA .i64 p.2) e.val
 | [],es,h=>by
  have h':es=[]:=h
  subst h'
  exact⟨rfl,fun j p e hp=>by cases hp⟩
 |p::l,es,⟨e,r,he,h1,h2,h3⟩=>by
  subst he
  obtain⟨g1,g2⟩:=Bjs (nx:=nx) h3
  refine⟨by simp[g1],fun j q f hq hf=>?_⟩
  cases j with
  |zero=>cases hq;cases hf;exact⟨h1,by rw[h2];exact Hv.v _⟩
  |succ j=>exact g2 j q f hq hf
theorem Ajp (b:ByteArray):∀{l:List (ByteArray×Int)} {es:List MapEntry} (j:Nat),A1w l es→
  (Instr.findNow .string (.string b) es j=some none∧MF l b=0∧∀n c,A1w (Aak l b n) (es++[⟨.string b,.int .i64 n,c⟩]))∨
  ∃k e,Instr.findNow .string (.string b) es j=some (some (j+k,.int .i64 (MF l b)))∧es[k]?=some e∧e.key=.string b∧∀n,A1w (Aak l b n) (es.modify k fun e=>{e with key:=.string b,val:=.int .i64 n})
 | [],es,j,h=>by
  have h':es=[]:=h
  subst h'
  exact .inl ⟨rfl,rfl,fun n c=>⟨_,_,rfl,rfl,rfl,rfl⟩⟩
 | p ::l,es,j,⟨e,r,he,h1,h2,h3⟩=>by
  subst he
  have hs:Instr.sameNow .string (.string b) e.key=some (b==p.1):=by rw[h1];rfl
  cases hb:(b==p.1) with
  | true=>
   rw[hb] at hs
   refine .inr ⟨0,e,?_,rfl,?_,fun n=>?_⟩
   ·simp only[Instr.findNow,hs]
    rw[h2]
    show _=some (some (j+0,Value.int .i64 (bif b==p.1 then p.2 else MF l b)))
    rw[hb]
    rfl
   ·rw[h1,(bytes_beq b p.1).1 hb]
   ·show A1w (bif b==p.1 then(b,n)::l else p::Aak l b n) _
    rw[hb]
    exact⟨_,_,rfl,rfl,rfl,h3⟩
  | false=>
   rw[hb] at hs
   have hf:MF (p::l) b=MF l b:=by show(bif b==p.1 then p.2 else MF l b)=_;rw[hb];rfl
   have hu:∀n,Aak (p::l) b n=p::Aak l b n:=fun n=>by show(bif b==p.1 then(b,n)::l else p::Aak l b n)=_;rw[hb];rfl
   rcases Ajp b (j+1) h3 with⟨g1,g2,g3⟩|⟨k,e',g1,g2,g3,g4⟩
   ·refine .inl ⟨by simp only[Instr.findNow,hs];exact g1,by rw[hf];exact g2,fun n c=>?_⟩
    rw[hu]
    exact⟨e,_,rfl,h1,h2,g3 n c⟩
   ·refine .inr ⟨k+1,e',?_,g2,g3,fun n=>?_⟩
    ·simp only[Instr.findNow,hs]
     rw[g1,hf]
     congr 3
     omega
    ·rw[hu]
     exact⟨e,_,rfl,h1,h2,g4 n⟩
theorem Bjq (h:Bp F N s.nx s.o R) {x:A} {y:Value} {i:Nat} {l:List (ByteArray×Int)} (he:Bwj s.o x=some (i,l)) (hx:Hv F N s.nx R x y):
  y=.map (some (N.b i))∧Ai i s.o=some (.map .str .i64 l)∧∃es clock,R.heap[N.b i]?=some (.map es.toArray clock)∧A1w l es:=by
 unfold Bwj at he
 split at he<;>try (cases he;done)
 split at he<;>try (cases he;done)
 rename_i hl
 cases he
 obtain⟨_,es,clock,h1,h2,h3⟩:=h.ob _ _ hl
 exact⟨hx.mp_inv.2,hl,es,clock,h1,Bjr h2 h3⟩
theorem Bji {t:TypeId} (h:A8x E t=true):∃k v,E.P.underlying t=some (.map k v)∧E.P.underlying k=some .string∧∀R,(zeroValue v).run E.P R=.ok (.int .i64 0) R:=by
 unfold A8x at h
 split at h<;>try (cases h;done)
 rename_i k v hu
 split at h<;>try (cases h;done)
 rename_i z hk hz
 obtain rfl:z=0:=of_decide_eq_true h
 refine⟨k,v,hu,hk,fun R=>?_⟩
 cases hi:E.P.info? v with
 |none=>rw[hi] at hz;cases hz
 |some i=>
  rw[hi] at hz
  have lj:i.zero=some (.int .i64 0):=hz
  simp[zeroValue,typeInfo,hi,lj]
theorem Bwg (h:Rel Z F N s a R) (hG:P6 (BH a) G) {t:TypeId} {m k:Operand} {z:A} {ps:List Prop} (he:Br1 E s G t m k=some (z,ps)):
  ∃v,Hv F N s.nx R z v∧∀R',Below R.heap.size R R'→(Instr.lookup t (a.eval m) (a.eval k) false).run E.P R'=.ok v R':=by
 unfold Br1 at he
 split at he<;>try (cases he;done)
 rename_i x b hm hk
 split at he<;>try (cases he;done)
 rename_i i l hi
 cases hq:A8x E t with
 |false=>rw[hq] at he;cases he
 |true=>
  rw[hq] at he
  cases he
  obtain⟨e1,_,es,clock,e2,e3⟩:=Bjq h.hp hi (BL h hG hm).2
  obtain⟨kt,vt,q1,q2,q3⟩:=Bji hq
  have e4:=EP h hG hk
  refine⟨_,Hv.v _,fun R' hb=>?_⟩
  have aq:=IR e2 hb
  have fe:IsKey .string (.string b):=trivial
  rw[e1,e4]
  rcases Ajp b 0 e3 with⟨g1,g2,_⟩|⟨j,e,g1,_,_,_⟩
  ·simp[Instr.lookup,run_underlying q1,MapKept.run_getObj_map aq,run_checkKey q2 fe,run_findKey q2 g1,q3,g2]
  ·simp[Instr.lookup,run_underlying q1,MapKept.run_getObj_map aq,run_checkKey q2 fe,run_findKey q2 g1]
theorem B0v (h:Rel Z F N s a R) (hG:P6 (BH a) G) {t:TypeId} {x:Operand} {z:A} {ps:List Prop} (he:B0u E s G t x=some (z,ps)) (hp:∀p∈ps,p):
  ∃v,Hv F N s.nx R z v∧∀R',(Instr.arrayAt t (a.eval x)).run E.P R'=.ok v R':=by
 unfold B0u at he
 split at he<;>try (cases he;done)
 rename_i n e c l hu hx
 cases hb:(c.one&&Nat.blt 0 n) with
 |false=>rw[hb] at he;cases he
 | true=>
  rw[hb] at he
  cases he
  rw[Bool.and_eq_true] at hb
  have hn:0 <n:=Nat.le_of_ble_eq_true hb.2
  have hle:n≤l.length:=hp _ (List.mem_singleton.2 rfl)
  obtain⟨ad0,cap,e1,e2,e3⟩:=(BL h hG hx).2.sl_inv
  obtain⟨ad,rfl,hf,hc⟩:=e3 (by omega)
  refine⟨.pointer (some ad),Hv.of_ref hf fun j y hy=>?_,fun R'=>?_⟩
  ·unfold Bqw at hy
   rw[List.getElem?_map] at hy
   cases hr:(List.range n)[j]? with
   |none=>rw[hr] at hy;cases hy
   |some k=>
    rw[hr] at hy
    cases hy
    have hk:=List.getElem?_eq_some_iff.1 hr
    obtain⟨hj,hk⟩:=hk
    rw[List.getElem_range] at hk
    subst hk
    have df:j <l.length:=by rw[List.length_range] at hj;omega
    have hg:l[j]?=some l[j]:=List.getElem?_eq_getElem df
    have hd:l.getD j (Av c)=l[j]:=by rw[List.getD_eq_getElem?_getD,hg];rfl
    have:=hc j l[j] hg 0 (.v (sv c l[j])) (by rw[Ai8 hb.1];rfl)
    rw[Bb3 hb.1,Nat.mul_one,add_zero] at this
    show ∃y,R.cell? (ad.add j)=some y∧Hv F N s.nx R (.v (sv c (l.getD j (Av c)))) y
    rw[hd]
    exact this
  ·rw[e1]
   have ae:¬l.length <n:=by omega
   simp[Instr.arrayAt,run_underlying hu,ae]
theorem Bhk (ok:EnvOk E) (h:Rel Z F N s a R) (hG:P6 (BH a) G) {o:Oper} {z:A} {ps:List Prop} (he:Bx3 E s G o=some (z,ps)) (hp:∀p∈ps,p):
  ∃v,Hv F N s.nx R z v∧∀R',Below R.heap.size R R'→Oper.quietUpon E.P (fun R''=>Below R'.heap.size R' R'') R' v ((execOp a.eval o).run E.P R'):=by
 have cb:∀{z:A} {ps:List Prop},Pt E s G o=some (z,ps)→∃v,Hv F N s.nx R z v∧∀R',Below R.heap.size R R'→Oper.quietUpon E.P (fun R''=>Below R'.heap.size R' R'') R' v ((execOp a.eval o).run E.P R'):=fun he=>by
  obtain⟨y,h1,h2⟩:=Agw h hG he
  exact⟨y,h1,fun R' _=>Ey (h2 R')⟩
 obtain⟨dst,op,type,pos,after,guard⟩:=o
 unfold Bx3 at he
 simp only at he
 split at he
 ·split at he<;>try (cases he;done)
  rename_i x _ _ hx
  cases he
  exact⟨_,(BL h hG hx).2,fun R' _=>Ey rfl⟩
 ·split at he<;>try (cases he;done)
  rename_i x _ _ hx
  cases he
  exact⟨_,(BL h hG hx).2,fun R' _=>Ey rfl⟩
 ·obtain⟨q,h1,h2⟩:=Bsl h hG he hp
  refine⟨_,h2,fun R' _=>Ey ?_⟩
  simp only[execOp,h1,asBool,Sem.run_bind,Sem.run_pure,Result.andThen_ok]
 ·rename_i x ix
  split at he
  ·rename_i r hr
   subst he
   unfold itE at hr
   split at hr<;>try (cases hr;done)
   rename_i q vs hx
   have hv:=(BL h hG hx).2
   generalize ha:a.eval x=y at hv
   cases hv with|it _ _ _ hy=>?_
   split at hr
   ·cases hr
    refine⟨_,Hv.v _,fun R' _=>Ey (DK ?_)⟩
    rw[ha,hy]
    cases q<;>simp[Instr.extract]
   ·rename_i k
    split at hr<;>try (cases hr;done)
    rename_i v hv
    cases hr
    have hq:q=true:=hp _ (List.mem_singleton.2 rfl)
    subst hq
    refine⟨_,Hv.v _,fun R' _=>Ey (DK ?_)⟩
    rw[ha,hy]
    simp[Instr.extract,hv]
  split at he
  ·rename_i z' hz
   cases he
   unfold A8f at hz
   split at hz<;>try (cases hz;done)
   rename_i xs hx
   obtain⟨vs,e1,h2⟩:=(BL h hG hx).2.tup_inv
   obtain⟨v,h3,h4⟩:=h2.get (Option.some.inj hz)
   refine⟨v,h4,fun R' _=>Ey (DK ?_)⟩
   rw[e1]
   simp[Instr.extract,h3]
  ·cases he
  ·exact cb he
 ·rename_i t x f
  split at he
  ·rename_i z' hz
   cases he
   unfold Bzj at hz
   split at hz<;>try (cases hz;done)
   rename_i cs hx
   obtain⟨vs,e1,h2⟩:=(BL h hG hx).2.agg_inv
   split at hz<;>try (cases hz;done)
   rename_i fs hu
   split at hz<;>try (cases hz;done)
   rename_i fd hf
   obtain⟨y,h3,h4⟩:=Btg (cs:=vs.toArray) (Option.some.inj hz) (by simpa using h2.drop fd.offset)
   refine⟨y,h3,fun R' _=>Ey (DK ?_)⟩
   rw[e1]
   have h5:=h4 R'
   simp only[Instr.field,Sem.run_bind,run_underlying hu,Result.andThen_ok,hf,asAgg,Sem.run_pure]
   exact h5
  ·cases he
  ·exact cb he
 ·rename_i t x f
  obtain⟨_,y,h1,h2⟩:=A8g h hG he
  exact⟨y,h1,fun R' _=>Ey (DK (h2 R'))⟩
 ·rename_i t x i
  obtain⟨_,y,h1,h2⟩:=Brf h hG he hp
  exact⟨y,h1,fun R' _=>Ey (DK (h2 R'))⟩
 ·rename_i t x
  obtain⟨y,h1,h2⟩:=Bjp h hG he hp
  exact⟨y,h1,fun R' hb=>Ey (DK (h2 R' hb))⟩
 ·rename_i t x lo hi mx
  obtain⟨y,h1,h2⟩:=Btl h hG rfl he hp
  exact⟨y,h1,fun R' _=>Ey (h2 R')⟩
 ·rename_i t parts
  obtain⟨y,h1,h2⟩:=Bpo h hG he
  exact⟨y,h1,fun R' _=>Ey (DK (h2 R'))⟩
 ·rename_i x
  split at he
  ·rename_i z' hz
   cases he
   unfold B57 at hz
   split at hz<;>try (cases hz;done)
   rename_i w hx
   cases hs:Bzt w with
   |false=>rw[hs] at hz;cases hz
   | true=>
    rw[hs] at hz
    obtain rfl:w=z:=Option.some.inj hz
    have hx':=(BL h hG hx).2
    refine⟨_,hx',fun R' _=>Ey ?_⟩
    have hc:(∃ad,a.eval x=.pointer (some ad))∨∃f vs us,a.eval x=.func (.func f) vs us:=by
     cases hsu:Bhf w with
     |true=>exact .inl (Awi hsu hx')
     | false=>
      cases w with
      |fn f0 l1 l2=>
       obtain⟨vs,us,e1,_⟩:=hx'.fn_inv
       exact .inr ⟨_,_,_,e1⟩
      |_=>exact absurd (hs.symm.trans hsu) (fun e=>nomatch e)
    rcases hc with⟨ad,e⟩|⟨f,vs,us,e⟩
    ·simp only[execOp,e];rfl
    ·simp only[execOp,e];rfl
  ·exact cb he
 ·rename_i t x i
  split at he
  ·rename_i r hr
   subst he
   unfold Btp at hr
   split at hr<;>try (cases hr;done)
   rename_i b k n hx hi
   split at hr<;>try (cases hr;done)
   rename_i hu
   obtain⟨rfl,hd⟩:=Gl (Option.some.inj hr)
   obtain⟨h0,h1⟩:=Le hd hp
   refine⟨_,Hv.v _,fun R' _=>Ey (DK ?_)⟩
   rw[EP h hG hx,EP h hG hi]
   have ae:n.toNat <b.size:=by omega
   have bu:n.toNat <b.data.toList.length:=by rw[Array.length_toList];exact ae
   have hb:b[n.toNat]?=some b.data.toList[n.toNat]:=by
    rw[getElem?_pos b n.toNat ae]
    rfl
   have ju:Bc5 b.data.toList n.toNat=.int .u8 (b.data.toList[n.toNat]).toNat:=by
    unfold Bc5 BN
    rw[List.getD_eq_getElem?_getD,List.getElem?_eq_getElem bu]
    rfl
   rw[ju]
   simp[Instr.index,asIntOf,run_underlying hu,h0,hb]
  ·split at he
   ·rename_i r hr
    subst he
    unfold Byx at hr
    split at hr<;>try (cases hr;done)
    rename_i c n l q k hx hi
    split at hr<;>try (cases hr;done)
    rename_i len e hu
    split at hr<;>try (cases hr;done)
    rename_i da bc
    cases hb:Nat.beq len n with
    |false=>rw[hb] at hr;cases hr
    | true=>
     rw[hb,cond_true] at hr
     obtain rfl:=Nat.eq_of_beq_eq_true hb
     obtain⟨rfl,hd⟩:=Gl (Option.some.inj hr)
     obtain⟨h0,h1⟩:=Le hd hp
     obtain⟨_,e2,e3⟩:=(BL h hG hx).2.av_inv
     refine⟨_,Hv.v _,fun R' _=>Ey (DK ?_)⟩
     rw[EP h hG hi,e3]
     have hn:k.toNat <l.length:=by omega
     obtain⟨d,hc⟩:∃d,l[k.toNat]?=some d:=⟨_,List.getElem?_eq_getElem hn⟩
     rw[show l.getD k.toNat (Av c)=d by rw[List.getD_eq_getElem?_getD,hc];rfl]
     unfold Aq0 at da
     unfold Gv at bc
     cases jy:E.P.info? e with
     |none=>rw[jy] at bc;cases bc
     | some inf=>
      rw[jy] at bc
      have lf:inf.size=1:=Option.some.inj bc
      cases hu2:E.P.underlying e with
      |none=>rw[hu2] at da;cases da
      |some d=>
       rw[hu2] at da
       cases d<;>first|(simp[Instr.index,asIntOf,part,isAgg,run_underlying hu,run_underlying hu2,sizeOf,typeInfo,jy,lf,h0,h1,hc];done)|(simp at da;done)
   ·exact cb he
 ·rename_i fn first captured
  split at he<;>try (cases he;done)
  rename_i z' hz
  cases he
  unfold By6 at hz
  split at hz<;>try (cases hz;done)
  split at hz<;>try (cases hz;done)
  rename_i f _ _ xs ys hx hy
  cases hz
  refine⟨.func (.func f) (first.map a.eval) (captured.map a.eval),?_,fun R' _=>Ey rfl⟩
  have:=Hv.of_fn (f:=f) (Ul h hG hx) (Ul h hG hy)
  rwa[←Array.toList_map,←Array.toList_map,Array.toArray_toList,Array.toArray_toList] at this
 ·rename_i f args ts
  unfold Azq at he
  split at he<;>try (cases he;done)
  split at he<;>try (cases he;done)
  rename_i k w nx' o' gz hr
  cases hk:Nat.ble k 1 with
  |false=>rw[hk] at he;cases he
  |true=>
   rw[hk] at he
   cases he
   obtain⟨g,xs,vs,h1,ae,h2,h3⟩:=Ar4 h hG (o:={dst,op:=.call {callee:=.value f,args,argTypes:=ts},type,pos,after,guard}) rfl hr
   refine⟨w,Hv.v _,fun R' hb=>?_⟩
   rw[h3 R']
   refine⟨rfl,(A7j h.hp (ok.C g xs s.nx s.o _ _ _ _ _ h1 ae hp) h2 hb).mono fun e R'' ⟨y,F',N',e1,_,_,e2,e3⟩=>?_⟩
   exact⟨by rw[e1,e2.v_inv],e3 (Nat.le_of_ble_eq_true hk)⟩
 ·rename_i args ts
  have RM:∀x,args.toList=[x]→∀aa n c t e,a.eval x=.slice aa n c→ts[0]?=some t→E.P.underlying t=some (.slice e)→∀R',Below R.heap.size R R'→Oper.quietUpon E.P (fun R''=>Below R'.heap.size R' R'') R' (.int .i64 n) ((execOp a.eval {dst,op:=.call {callee:=.builtin .len,args,argTypes:=ts},type,pos,after,guard}).run E.P R'):=fun x bx aa n c t e q1 ht hu R' _=>Ey (by
   have nk:args=#[x]:=by rw[←Array.toArray_toList (xs:=args),bx]
   have ha:args.map a.eval=#[.slice aa n c]:=by
    rw[nk]
    simp[q1]
   show(do let d ←resolve a.eval _ type;invoke d.target d.args:Sem Next).run E.P R'=_
   simp[resolve,invoke,builtin,Builtin.len_,ha,ht,run_underlying hu,goInt])
  split at he
  ·rename_i r hz
   subst he
   cases hz
  split at he
  ·rename_i z' hz
   cases he
   unfold B52 at hz
   split at hz<;>try (cases hz;done)
   rename_i x bx
   split at hz<;>try (cases hz;done)
   ·rename_i hx
    split at hz<;>try (cases hz;done)
    rename_i t ht
    split at hz<;>try (cases hz;done)
    rename_i e hu
    cases hz
    obtain⟨aa,q1⟩:=(BL h hG hx).2.nl_inv
    exact⟨_,Hv.v _,RM x bx aa 0 0 t e q1 ht hu⟩
   ·rename_i w hnl hx
    split at hz<;>try (cases hz;done)
    rename_i n f hv
    split at hz<;>try (cases hz;done)
    rename_i t ht
    split at hz<;>try (cases hz;done)
    rename_i e hu
    cases hz
    obtain⟨aa,c,q1,_,_⟩:=Blg h.hp hv (BL h hG hx).2
    exact⟨_,Hv.v _,RM x bx aa n c t e q1 ht hu⟩
  ·exact cb he
 ·rename_i args ts
  split at he
  ·rename_i v hv
   cases he
   refine⟨v,Hv.v _,fun R' _=>Ey ?_⟩
   have:=A0p (E:=E) h hG hv (.inl rfl) ts type (args.map fun| .const _=>true|_=>false) R'
   have ha:(args.toList.map a.eval).toArray=args.map a.eval:=by rw[←Array.toList_map,Array.toArray_toList]
   rw[ha] at this
   exact this
  ·exact cb he
 ·rename_i args ts
  split at he
  ·rename_i v hv
   cases he
   refine⟨v,Hv.v _,fun R' _=>Ey ?_⟩
   have:=A0p (E:=E) h hG hv (.inr rfl) ts type (args.map fun| .const _=>true|_=>false) R'
   have ha:(args.toList.map a.eval).toArray=args.map a.eval:=by rw[←Array.toList_map,Array.toArray_toList]
   rw[ha] at this
   exact this
  ·exact cb he
 ·rename_i src qn x
  split at he
  ·rename_i r hr
   subst he
   obtain⟨y,h1,h2⟩:=Blu h hG hr hp
   exact⟨y,h1,fun R' hb=>Ey (DK (h2 R' hb))⟩
  ·exact cb he
 ·rename_i t x y yt
  cases hn:Ai9 E s G t x y with
  |true=>
   rw[hn] at he
   cases he
   exact⟨_,Hv.v _,fun R' _=>Ey (DK (A8a h hG hn .eql (.inl rfl) R'))⟩
  | false=>
   rw[hn] at he
   simp only[cond_false] at he
   split at he
   ·rename_i b hb
    cases he
    exact⟨_,Hv.v _,fun R' _=>Ey (DK (Bqn ok h hG hb .eql (.inl rfl) R'))⟩
   ·cases he
   ·exact cb he
 ·rename_i t x y yt
  cases hn:Ai9 E s G t x y with
  |true=>
   rw[hn] at he
   cases he
   exact⟨_,Hv.v _,fun R' _=>Ey (DK (A8a h hG hn .neq (.inr rfl) R'))⟩
  | false=>
   rw[hn] at he
   simp only[cond_false] at he
   split at he
   ·rename_i b hb
    cases he
    exact⟨_,Hv.v _,fun R' _=>Ey (DK (Bqn ok h hG hb .neq (.inr rfl) R'))⟩
   ·cases he
   ·exact cb he
 ·obtain⟨v,h1,h2⟩:=Afo h hG rfl he hp
  exact⟨v,h1,fun R' _=>Ey (h2 R')⟩
 ·obtain⟨v,h1,h2⟩:=Afo h hG rfl he hp
  exact⟨v,h1,fun R' _=>Ey (h2 R')⟩
 ·obtain⟨v,h1,h2⟩:=Afo h hG rfl he hp
  exact⟨v,h1,fun R' _=>Ey (h2 R')⟩
 ·obtain⟨v,h1,h2⟩:=Afo h hG rfl he hp
  exact⟨v,h1,fun R' _=>Ey (h2 R')⟩
 ·obtain⟨v,h1,h2⟩:=B0y h hG rfl he hp
  exact⟨v,h1,fun R' _=>Ey (h2 R')⟩
 ·obtain⟨v,h1,h2⟩:=Bwg h hG he
  exact⟨v,h1,fun R' hb=>Ey (DK (h2 R' hb))⟩
 ·obtain⟨v,h1,h2⟩:=B0v h hG he hp
  exact⟨v,h1,fun R' _=>Ey (DK (h2 R'))⟩
 ·exact cb he
end
end Go.Proofs.YtifkbgkbajncjaaGreatDoor
namespace Go.Proofs.YtifkbgkbajncjaaGreatDoor
open Go.RowKit
section
variable {P:Program} {w:World}
theorem A5q (t u ty e:TypeId) (i:TypeInfo) (z:Value) {e':TypeId} (ht:P.underlying t=some (.slice e)) (hu:P.underlying u=some (.slice e')∨P.underlying u=some .string) (hi:P.info? e=some i) (hz:i.zero=some z) (b:Option Addr) (bj dd m:Nat) (x:Value) (olds news:List Value) (hold:(Builtin.firstCells i.size bj (.slice b bj dd)).run P w.drew=.ok olds.toArray w.drew) (hlen:(Builtin.lenOf x).run P w=.ok m w) (db:(Builtin.firstCells i.size m x).run P w.drew=.ok news.toArray w.drew) (_hg:dd <bj+m) (_h63:((bj+m:Nat):Int)≤9223372036854775807) (_hfit:Builtin.nextslicecap (bj+m) dd*i.bytes≤281474976710656):
  (Builtin.append_ #[t,u] ty #[.slice b bj dd,x]).run P w=
   .ok (.slice (some ⟨w.heap.size,0,none⟩) (bj+m) (grownCap w (bj+m) dd e))
    (w.drew.alloc (.cells (olds.toArray++news.toArray++Builtin.zeroCells z.cells (grownCap w (bj+m) dd e - (bj+m))) e)):=by
 have qq:¬(281474976710656 <Builtin.nextslicecap (bj+m) dd*i.bytes):=by omega
 have hn:¬(bj+m≤dd):=by omega
 have mc:¬(9223372036854775807 <(bj:Int)+(m:Int)):=by omega
 rcases hu with hu|hu<;>simp[Builtin.append_,run_underlying ht,run_underlying hu,sizeOf,typeInfo,zeroValue,hi,hz,hlen,hn,mc,qq,Question.forced,hold,db,newRow,grownCap]<;>rw[←List.append_toArray,Array.append_assoc]
theorem A5s (t u ty e:TypeId) (i:TypeInfo) {e':TypeId} (ht:P.underlying t=some (.slice e)) (hu:P.underlying u=some (.slice e')∨P.underlying u=some .string) (hi:P.info? e=some i) (g bj dd m:Nat) (x:Value) (cur:Array Value) (hg:w.heap[g]?=some (.cells cur e (0,0))) (news:List Value) (hlen:(Builtin.lenOf x).run P w=.ok m w) (db:(Builtin.firstCells i.size m x).run P w=.ok news.toArray w) (h1:∀u∈news,u.oneCell'=true) (fl:bj+m≤dd) (l9:bj*i.size+news.length≤cur.size):
  (Builtin.append_ #[t,u] ty #[.slice (some ⟨g,0,none⟩) bj dd,x]).run P w=
   .ok (.slice (some ⟨g,0,none⟩) (bj+m) dd) (w.setRow g (cur.toList.take (bj*i.size)++news++cur.toList.drop (bj*i.size+news.length)).toArray):=by
 have hst:=run_storeCells_at (P:=P) g (bj*i.size) e news 0 cur w hg (by simpa using l9) h1
 simp only[Nat.add_zero] at hst
 have e0:({block:=g,off:=0}:Addr).add (bj*i.size)=⟨g,bj*i.size,none⟩:=by rw[D7,Nat.zero_add]
 rcases hu with hu|hu<;>simp[Builtin.append_,run_underlying ht,run_underlying hu,sizeOf,typeInfo,hi,hlen,fl,db,storeCells,e0,hst]
theorem A5r (t u ty e:TypeId) (i:TypeInfo) {e':TypeId} (ht:P.underlying t=some (.slice e)) (hu:P.underlying u=some (.slice e')∨P.underlying u=some .string) (hi:P.info? e=some i) (b:Option Addr) (x:Value) (hlen:(Builtin.lenOf x).run P w=.ok 0 w) (db:(Builtin.firstCells i.size 0 x).run P w=.ok #[] w):
  (Builtin.append_ #[t,u] ty #[.slice b 0 0,x]).run P w=.ok (.slice b 0 0) w:=by
 rcases hu with hu|hu<;>cases b<;>simp[Builtin.append_,run_underlying ht,run_underlying hu,sizeOf,typeInfo,hi,hlen,db,storeCells]
end
def DT (F:Nat→Prop) (N:Nm) (nx:Nat) (R:World) (els:FY) (size:Nat) (zs:List Value):Prop:=
 zs.length=els.n*size∧∀k,k <els.n→HL F N nx R (els.nth k) ((zs.drop (k*size)).take size)
section
variable {F F':Nat→Prop} {N N':Nm} {nx nx':Nat} {R R':World} {size:Nat}
theorem DT.step (st:Ext F N nx R F' N' nx' R') {els:FY} {zs:List Value} (h:DT F N nx R els size zs):DT F' N' nx' R' els size zs:=⟨h.1,fun k hk=>(h.2 k hk).step st⟩
theorem DT.cat {els e1 e2:FY} {zs us:List Value} (h1:DT F N nx R e1 size zs) (h2:DT F N nx R e2 size us) (hn:els.n=e1.n+e2.n) (ha:∀k,k <e1.n→els.nth k=e1.nth k) (hb:∀k,k <e2.n→els.nth (e1.n+k)=e2.nth k):DT F N nx R els size (zs++us):=by
 refine⟨by rw[List.length_append,h1.1,h2.1,hn,Nat.add_mul],fun k hk=>?_⟩
 by_cases ae:k <e1.n
 ·rw[ha k ae]
  have hle:k*size+size≤zs.length:=by rw[h1.1,←Nat.succ_mul];exact Nat.mul_le_mul_right _ ae
  rw[List.drop_append_of_le_length (by omega),List.take_append_of_le_length (by rw[List.length_drop];omega)]
  exact h1.2 k ae
 ·have cy:k=e1.n+(k - e1.n):=by omega
  rw[cy,hb (k - e1.n) (by omega)]
  have:(e1.n+(k - e1.n))*size=zs.length+(k - e1.n)*size:=by rw[Nat.add_mul,h1.1]
  rw[this,List.drop_append]
  rw[List.drop_eq_nil_of_le (by omega),List.nil_append,show zs.length+(k - e1.n)*size - zs.length=(k - e1.n)*size by omega]
  exact h2.2 (k - e1.n) (by omega)
theorem DT.ty {c:TC} {els:FY} {l:List (U c)} {ps:List Prop} {zs:List Value} (h:DT F N nx R els size zs) (he:Af6 c els=some (l,ps)) (hp:∀p∈ps,p):DT F N nx R (.ty c l) size zs:=by
 obtain⟨h1,h2⟩:=Uj (F:=F) (N:=N) (nx:=nx) (R:=R) he hp
 have hn:(FY.ty c l).n=els.n:=h1
 exact⟨by rw[hn];exact h.1,fun k hk=>by rw[hn] at hk;exact h2 k hk _ (h.2 k hk)⟩
theorem DT.nil:DT F N nx R (.lst []) size []:=⟨by simp[FY.n],fun k hk=>by cases hk⟩
end
def A17:FY→FY→Option (FY×List Prop)
 | .lst xs,.lst ys=>some (.lst (xs++ys),[])
 | .ty c l,b=>match Af6 c b with
  |some (l',ps)=>some (.ty c (l++l'),ps)
  |none=>none
 | .lst xs,.ty c l=>match A70 c xs with
  |some (l',ps)=>some (.ty c (l'++l),ps)
  |none=>none
def FY.norm (tc:Option TC) (els:FY):FY×List Prop:=match els with
 | .lst cs=>match tc with
  |some c=>match A70 c cs with
   |some (l,ps)=>(.ty c l,ps)
   |none=>(els,[])
  |none=>(els,[])
 |_=>(els,[])
def Alu (lo n:Nat):FY→FY
 | .lst cs=> .lst ((cs.drop lo).take n)
 | .ty c l=> .ty c ((l.drop lo).take n)
def QZ (o:AE):FY→Bool
 | .lst cs=>cs.all fun x=>M3 x&&Qi o x
 | .ty _ _=>true
section
variable {F F':Nat→Prop} {N N':Nm} {nx nx':Nat} {R R':World} {size:Nat} {o:AE}
theorem A29 {xs ys:List (List A)} {k:Nat} (hk:k <xs.length):K7 (xs++ys) k=K7 xs k:=by
 rw[Fc,Fc,List.getD_eq_getElem?_getD,List.getD_eq_getElem?_getD,List.getElem?_append_left hk]
theorem Aw9 {xs ys:List (List A)} {k:Nat}:K7 (xs++ys) (xs.length+k)=K7 ys k:=by
 rw[Fc,Fc,List.getD_eq_getElem?_getD,List.getD_eq_getElem?_getD,List.getElem?_append_right (by omega)]
 congr 2
 omega
theorem Ao7 {c:TC} {l l':List (U c)} {k:Nat} (hk:k <l.length):(FY.ty c (l++l')).nth k=(FY.ty c l).nth k:=by
 show enc c _=enc c _
 rw[List.getD_eq_getElem?_getD,List.getD_eq_getElem?_getD,List.getElem?_append_left hk]
theorem Ah6 {c:TC} {l l':List (U c)} {k:Nat}:(FY.ty c (l++l')).nth (l.length+k)=(FY.ty c l').nth k:=by
 show enc c _=enc c _
 rw[List.getD_eq_getElem?_getD,List.getD_eq_getElem?_getD,List.getElem?_append_right (by omega)]
 congr 3
 omega
theorem Azr {e1 e2 els:FY} {ps:List Prop} {zs us:List Value} (he:A17 e1 e2=some (els,ps)) (hp:∀p∈ps,p) (h1:DT F N nx R e1 size zs) (h2:DT F N nx R e2 size us):els.n=e1.n+e2.n∧DT F N nx R els size (zs++us):=by
 unfold A17 at he
 split at he
 ·rename_i xs ys
  cases he
  have hn:(FY.lst (xs++ys)).n=(FY.lst xs).n+(FY.lst ys).n:=by simp[FY.n]
  exact⟨hn,h1.cat h2 hn (fun k hk=>A29 hk) fun k _=>Aw9⟩
 ·rename_i c l
  split at he<;>try (cases he;done)
  rename_i l' qs hl
  cases he
  have h3:=h2.ty hl hp
  have hn:(FY.ty c (l++l')).n=(FY.ty c l).n+(FY.ty c l').n:=by simp[FY.n]
  have ep:(FY.ty c l').n=e2.n:=(Uj (F:=F) (N:=N) (nx:=nx) (R:=R) hl hp).1
  exact⟨by rw[hn,ep],h1.cat h3 hn (fun k hk=>Ao7 hk) fun k _=>Ah6⟩
 ·rename_i xs c l
  split at he<;>try (cases he;done)
  rename_i l' qs hl
  cases he
  have h3:DT F N nx R (.ty c l') size zs:=h1.ty (els:=.lst xs) hl hp
  have hn:(FY.ty c (l'++l)).n=(FY.ty c l').n+(FY.ty c l).n:=by simp[FY.n]
  have ep:(FY.ty c l').n=(FY.lst xs).n:=(Zt (F:=F) (N:=N) (nx:=nx) (R:=R) hl hp).1
  exact⟨by rw[hn,ep],h3.cat h2 hn (fun k hk=>Ao7 hk) fun k _=>Ah6⟩
theorem Bj0 {tc:Option TC} {els els':FY} {ps:List Prop} {zs:List Value} (he:els.norm tc=(els',ps)) (hp:∀p∈ps,p) (h:DT F N nx R els size zs):els'.n=els.n∧DT F N nx R els' size zs:=by
 unfold FY.norm at he
 split at he
 ·split at he
  ·split at he
   ·rename_i l qs hl
    cases he
    exact⟨(Zt (F:=F) (N:=N) (nx:=nx) (R:=R) hl hp).1,h.ty (els:=.lst _) hl hp⟩
   ·cases he;exact⟨rfl,h⟩
  ·cases he;exact⟨rfl,h⟩
 ·cases he;exact⟨rfl,h⟩
theorem A1o {lo n:Nat} {els:FY} (h:lo+n≤els.n):(Alu lo n els).n=n:=by
 cases els<;>simp only[Alu,FY.n,List.length_take,List.length_drop] at h⊢<;>omega
theorem Bxq {lo n k:Nat} {els:FY} (hk:k <n):(Alu lo n els).nth k=els.nth (lo+k):=by
 cases els with
 |lst cs=>
  show K7 _ k=K7 _ _
  rw[Fc,Fc,List.getD_eq_getElem?_getD,List.getD_eq_getElem?_getD,List.getElem?_take,if_pos hk,List.getElem?_drop]
 |ty c l=>
  show enc c _=enc c _
  rw[List.getD_eq_getElem?_getD,List.getD_eq_getElem?_getD,List.getElem?_take,if_pos hk,List.getElem?_drop]
theorem DT.sub {lo n:Nat} {els:FY} {zs:List Value} (h:DT F N nx R els size zs) (hle:lo+n≤els.n):DT F N nx R (Alu lo n els) size ((zs.drop (lo*size)).take (n*size)):=by
 have hz:(lo+n)*size≤zs.length:=by rw[h.1];exact Nat.mul_le_mul_right _ hle
 rw[Nat.add_mul] at hz
 refine⟨by rw[A1o hle,List.length_take,List.length_drop];omega,fun k hk=>?_⟩
 rw[A1o hle] at hk
 rw[Bxq hk]
 have:=h.2 (lo+k) (by omega)
 have cy:k*size+size≤n*size:=by rw[←Nat.succ_mul];exact Nat.mul_le_mul_right _ hk
 rw[List.drop_take,List.take_take,List.drop_drop,←Nat.add_mul,Nat.min_eq_left (by omega)]
 exact this
theorem Bvp (o:AE) (c:TC) (d:U c):M3 (enc c d)=true∧Qi o (enc c d)=true:=by cases c<;>exact⟨rfl,rfl⟩
theorem Beu {els:FY} (h:QZ o els=true) {k:Nat} (hk:k <els.n):M3 (els.nth k)=true∧Qi o (els.nth k)=true:=by
 cases els with
 | lst cs=>
  have ak:k <cs.length:=hk
  have hm:cs[k]∈cs:=List.getElem_mem ak
  have:=(List.all_eq_true.1 h) _ hm
  have e:(FY.lst cs).nth k=cs[k]:=by
   show K7 cs k=_
   rw[Fc,List.getD_eq_getElem?_getD,List.getElem?_eq_getElem ak]
   rfl
  rw[e]
  simpa using this
 |ty c l=>exact Bvp o c _
theorem DT.one {els:FY} {zs:List Value} (hh:Bp F N nx o R) (h:DT F N nx R els size zs) (ho:QZ o els=true) (hs:0 <size):∀u∈zs,u.oneCell'=true:=fun u hu=>by
 obtain⟨m,hm,rfl⟩:=List.getElem_of_mem hu
 have ae:m / size <els.n:=(Nat.div_lt_iff_lt_mul hs).2 (by rw[←h.1];exact hm)
 obtain⟨h1,h2⟩:=Beu ho ae
 refine Agr hh h1 h2 (h.2 (m / size) ae) _ ?_
 have e:((zs.drop (m / size*size)).take size)[m % size]?=some zs[m]:=by
  rw[List.getElem?_take,if_pos (Nat.mod_lt _ hs),List.getElem?_drop]
  have:m / size*size+m % size=m:=by rw[Nat.mul_comm];exact Nat.div_add_mod m size
  rw[this]
  exact List.getElem?_eq_getElem hm
 exact List.mem_of_getElem? e
end
structure A6y (R:World) (v:Value) (size n:Nat) (zs:List Value):Prop where
 len:zs.length=n*size
 val:∃A c,v=.slice A n c∧n≤c
 cells:∀A m c,v=.slice A m c→0 <n→∃ad,A=some ad∧∀j u,zs[j]?=some u→R.cell? (ad.add j)=some u
def B2z (o:AE) (sz:Nat):A→Option (FY×List Prop)
 | .sq j=>match Ai j o with
  |some (.arr _ size els)=>bif Nat.beq size sz then(bif QZ o els then some (els,[]) else none) else none
  |_=>none
 | .vw j z lo n _=>match Ai j o with
  |some (.arr _ size els)=>bif Nat.beq z sz then(bif Nat.beq size sz then(bif QZ o els then some (Alu lo n els,[lo+n≤els.n]) else none) else none) else none
  |_=>none
 | .sl c l=>bif Nat.beq (size c) sz then some (.ty c l,[]) else none
 | .nl=>some (.lst [],[])
 | .v x=>bif E5 x then some (.lst [],[]) else none
 | .vr i base lo m=>match Ai i o with
  |some (.box _ cs)=>bif Nat.beq sz 1&&Nat.ble (base+lo+m) cs.length then(bif QZ o (.lst (((cs.drop (base+lo)).take m).map fun x=>[x])) then some (.lst (((cs.drop (base+lo)).take m).map fun x=>[x]),[]) else none) else none
  |_=>none
 |_=>none
section
variable {F:Nat→Prop} {N:Nm} {nx:Nat} {R:World} {o:AE}
theorem A8l {e:TypeId} {size n:Nat} {v:Value} {zs:List Value} (h:PE R e size v n zs):A6y R v size n zs:=by
 obtain⟨a,c,h1,h2⟩:=h.form
 refine⟨h.1,⟨a,c,h1,h2⟩,fun A m c' e hn=>?_⟩
 obtain⟨g,c2,q1,_,_,_,q5⟩:=Mp h hn
 rw[q1] at e
 cases e
 exact⟨_,rfl,fun j u hu=>by rw[D7,Nat.zero_add];exact q5 j u hu⟩
theorem B2y {c:TC} {l:List (U c)} {y:Value} (h:Hv F N nx R (.sl c l) y):∃zs,A6y R y (size c) l.length zs∧DT F N nx R (.ty c l) (size c) zs:=by
 obtain⟨a,cap,rfl,h1,h2⟩:=h.sl_inv
 by_cases hn:0 <l.length
 ·obtain⟨ad,rfl,_,h3⟩:=h2 hn
  have cell:∀m,m <l.length*size c→∃y,R.cell? (ad.add m)=some y:=fun m hm=>by
   have hs:0 <size c:=by
    rcases Nat.eq_zero_or_pos (size c) with h0|h0
    ·rw[h0] at hm;simp at hm
    ·exact h0
   have ae:m / size c <l.length:=(Nat.div_lt_iff_lt_mul hs).2 hm
   have hj:m % size c <(enc c l[m / size c]).length:=by rw[Adg];exact Nat.mod_lt _ hs
   obtain⟨y,hy,_⟩:=h3 _ _ (List.getElem?_eq_getElem ae) (m % size c) _ (List.getElem?_eq_getElem hj)
   rw[Fa] at hy
   have:m / size c*size c+m % size c=m:=by rw[Nat.mul_comm];exact Nat.div_add_mod m (size c)
   rw[this] at hy
   exact⟨y,hy⟩
  let zs:=(List.range (l.length*size c)).map fun m=>(R.cell? (ad.add m)).getD undef
  have hz:∀m u,zs[m]?=some u→R.cell? (ad.add m)=some u:=fun m u hu=>by
   have hm:m <l.length*size c:=by
    have:=(List.getElem?_eq_some_iff.1 hu).1
    simpa[zs] using this
   obtain⟨y,hy⟩:=cell m hm
   have e:zs[m]?=some ((R.cell? (ad.add m)).getD undef):=by simp[zs,hm]
   rw[e,hy] at hu
   rw[hy]
   exact hu
  have hlen:zs.length=l.length*size c:=by simp[zs]
  refine⟨zs,⟨hlen,⟨_,cap,rfl,h1⟩,fun A m c' e _=>?_⟩,hlen,fun k hk=>?_⟩
  ·cases e
   exact⟨ad,rfl,hz⟩
  ·have ak:k <l.length:=hk
   have hd:l[k]?=some (l.getD k (Av c)):=by rw[List.getD_eq_getElem?_getD,List.getElem?_eq_getElem ak];rfl
   have hle:k*size c+size c≤zs.length:=by rw[hlen,←Nat.succ_mul];exact Nat.mul_le_mul_right _ ak
   have mg:((zs.drop (k*size c)).take (size c)).length=(enc c (l.getD k (Av c))).length:=by
    rw[Adg,List.length_take,List.length_drop]
    omega
   refine HL.of mg fun j x v hx hv=>?_
   obtain⟨y,hy,yq⟩:=h3 k _ hd j x hx
   have:=hz _ _ (ZY hv)
   rw[Fa] at hy
   rw[hy] at this
   cases this
   exact yq
 ·have h0:l=[]:=List.eq_nil_of_length_eq_zero (by omega)
  subst h0
  exact⟨[],⟨by simp,⟨a,cap,rfl,Nat.zero_le _⟩,fun A m c' e hn=>absurd hn (Nat.lt_irrefl _)⟩,by simp[FY.n],fun k hk=>by cases hk⟩
theorem Bxo (hh:Bp F N nx o R) {sz:Nat} {x:A} {y:Value} {els:FY} {ps:List Prop} (he:B2z o sz x=some (els,ps)) (hp:∀p∈ps,p) (hx:Hv F N nx R x y) (hs:0 <sz):
  ∃zs,A6y R y sz els.n zs∧DT F N nx R els sz zs∧∀u∈zs,u.oneCell'=true:=by
 unfold B2z at he
 split at he<;>try (cases he;done)
 ·rename_i j
  split at he<;>try (cases he;done)
  rename_i e size els' hl
  cases hb:Nat.beq size sz with
  |false=>rw[hb] at he;cases he
  | true=>
   cases ho:QZ o els' with
   |false=>rw[hb,ho] at he;cases he
   |true=>
    rw[hb,ho] at he
    cases he
    obtain rfl:=Nat.eq_of_beq_eq_true hb
    obtain⟨_,zs,g1,g2⟩:=hh.ob j _ hl
    have hr:DT F N nx R els size zs:=⟨g1.1,g2⟩
    rw[hx.sq_inv.2]
    exact⟨zs,A8l g1,hr,hr.one hh ho hs⟩
 ·rename_i j z lo n f
  split at he<;>try (cases he;done)
  rename_i e size els' hl
  cases hb0:Nat.beq z sz with
  |false=>rw[hb0] at he;cases he
  |true=>
  cases hb:Nat.beq size sz with
  |false=>rw[hb0,hb] at he;cases he
  | true=>
   cases ho:QZ o els' with
   |false=>rw[hb0,hb,ho] at he;cases he
   | true=>
    rw[hb0,hb,ho] at he
    cases he
    obtain rfl:=Nat.eq_of_beq_eq_true hb
    obtain rfl:=Nat.eq_of_beq_eq_true hb0
    have hle:lo+n≤els'.n:=hp _ (List.mem_singleton.2 rfl)
    obtain⟨_,zs,g1,g2⟩:=hh.ob j _ hl
    have hr:DT F N nx R els' z zs:=⟨g1.1,g2⟩
    have mi:=hr.sub hle
    refine⟨_,⟨mi.1,?_,fun A m c e hn=>?_⟩,mi,fun u hu=>hr.one hh ho hs u (List.mem_of_mem_drop (List.mem_of_mem_take hu))⟩
    ·obtain⟨_,a,c,e1,e2,_⟩:=hx.vw_inv
     rw[A1o hle]
     exact⟨a,c,e1,e2⟩
    ·rw[A1o hle] at hn
     obtain⟨_,a,c',e1,e2,_,e4⟩:=hx.vw_inv
     rw[e1] at e
     cases e
     refine⟨_,e4 hn,fun i u hu=>?_⟩
     obtain⟨g,c2,q1,_,q3,_,q5⟩:=Mp g1 (by omega)
     rw[q3,D7,D7,Nat.zero_add]
     rw[List.getElem?_take] at hu
     split at hu<;>try (cases hu;done)
     rw[List.getElem?_drop] at hu
     exact q5 _ u hu
 ·rename_i c l
  cases hb:Nat.beq (size c) sz with
  |false=>rw[hb] at he;cases he
  |true=>
   rw[hb] at he
   cases he
   obtain rfl:=Nat.eq_of_beq_eq_true hb
   obtain⟨zs,g1,g2⟩:=B2y hx
   exact⟨zs,g1,g2,g2.one hh rfl hs⟩
 ·cases he
  obtain⟨a,rfl⟩:=hx.nl_inv
  exact⟨[],⟨by simp[FY.n],⟨a,0,rfl,Nat.le_refl _⟩,fun A m c e hn=>absurd hn (Nat.lt_irrefl _)⟩,.nil,fun u hu=>by cases hu⟩
 ·rename_i x
  cases hb:E5 x with
  |false=>rw[hb] at he;cases he
  |true=>
   rw[hb] at he
   cases he
   rw[hx.v_inv,G9 hb]
   exact⟨[],⟨by simp[FY.n],⟨none,0,rfl,Nat.le_refl _⟩,fun A m c e hn=>absurd hn (Nat.lt_irrefl _)⟩,.nil,fun u hu=>by cases hu⟩
 ·rename_i i base lo m
  split at he<;>try (cases he;done)
  rename_i e cs hl
  cases hb:(Nat.beq sz 1&&Nat.ble (base+lo+m) cs.length) with
  |false=>rw[hb] at he;cases he
  | true=>
   cases ho:QZ o (.lst (((cs.drop (base+lo)).take m).map fun x=>[x])) with
   |false=>rw[hb,ho] at he;cases he
   | true=>
    rw[hb,ho] at he
    cases he
    rw[Bool.and_eq_true] at hb
    obtain rfl:=Nat.eq_of_beq_eq_true hb.1
    have hle:=Nat.le_of_ble_eq_true hb.2
    obtain⟨_,vs,g1,g2⟩:=hh.ob i _ hl
    have hlen:=g1.length
    have hsub:=(g1.drop (base+lo)).take m
    have ma:∀j u,((vs.drop (base+lo)).take m)[j]?=some u→vs[base+lo+j]?=some u:=fun j u hj=>by
     rw[List.getElem?_take] at hj
     split at hj
     ·rw[List.getElem?_drop] at hj;exact hj
     ·cases hj
    have xa:((cs.drop (base+lo)).take m).length=m:=by rw[List.length_take,List.length_drop];omega
    have jg:((vs.drop (base+lo)).take m).length=m:=by rw[List.length_take,List.length_drop];omega
    generalize (cs.drop (base+lo)).take m=S at*
    generalize (vs.drop (base+lo)).take m=us at*
    have hr:DT F N nx R (.lst (S.map fun x=>[x])) 1 us:=by
     refine⟨by show us.length=(S.map fun x=>[x]).length*1;rw[List.length_map];omega,fun k hk=>?_⟩
     have hk:k <(S.map fun x=>[x]).length:=hk
     rw[List.length_map] at hk
     have e1:FY.nth (.lst (S.map fun x=>[x])) k=[S[k]]:=by
      show K7 (S.map fun x=>[x]) k=_
      rw[Fc,List.getD_eq_getElem?_getD,List.getElem?_map,List.getElem?_eq_getElem hk]
      rfl
     have ow:k <us.length:=by omega
     have e2:(us.drop (k*1)).take 1=[us[k]]:=by
      rw[Nat.mul_one,List.drop_eq_getElem_cons ow]
      rfl
     rw[e1,e2]
     exact HL.cons (hsub.at.2 k _ _ (List.getElem?_eq_getElem hk) (List.getElem?_eq_getElem ow)) HL.nil
    cases hx with
    |vr ad h h1=>
     refine⟨us,⟨hr.1,⟨some ad,m,by show Value.slice (some ad) m m=.slice (some ad) (S.map fun x=>[x]).length m;rw[List.length_map,xa],by show(S.map fun x=>[x]).length≤m;rw[List.length_map];omega⟩,fun A m' c' e hn=>?_⟩,hr,hr.one hh ho hs⟩
     cases e
     have hn:0 <(S.map fun x=>[x]).length:=hn
     rw[List.length_map] at hn
     refine⟨_,rfl,fun j u hj=>?_⟩
     rw[h1 (by omega),D7,D6 g2,List.getElem?_toArray]
     exact ma j u hj
end
section canon
def Hy (P:Program) (K:Value→World→Prop):Result Next→Prop
 | .ok (.value v) w'=>K v w'
 | .ok .skip w'=>K undef w'
 | .ok (.enter f args) w'=>Calls P f args w' fun e bp=>∃v,e=.returned v∧K v bp
 | .ok (.round l f tmps assign body) w'=>RoundIn Fence.wide 0 P l f tmps assign body w' fun e bp=>∃v,e=.returned v∧K v bp
 |_=>False
abbrev fR (r:Option Nat):Fence:={Fence.wide with round:=r}
def WPR (ir:Bool) (P:Program) (c:Code) (Q:Exit→Act→World→Prop) (a:Act) (w:World):Prop:=∀r,(ir=false→r=none)→c.wpIn (fR r) 0 P Q a w
theorem Bda {r:Option Nat} {n:Nat} {P:Program} {f:FuncId} {args:Array Value} {w:World} {R:Ending→World→Prop} (h:Calls P f args w R):CallsIn (fR r) n P f args w R:=callsIn_wide.2 h
theorem Bnx {P:Program} {K:Value→World→Prop} {o:Oper} {a:Act} {w:World} (r:Option Nat) (h:Hy P K ((execOp a.eval o).run P w)):o.semAt r a.eval=execOp a.eval o:=by
 refine Oper.semAt_eq _ _ _ fun c hc=>?_
 obtain⟨dst,op,type,pos,after,guard⟩:=o
 simp only at hc
 subst hc
 have h':Hy P K ((do pure (Next.defer (←resolve a.eval c type)):Sem Next).run P w):=h
 rw[Sem.run_bind] at h'
 cases hr:(resolve a.eval c type).run P w with
 |ok d w'=>rw[hr] at h';exact h'
 |halt x w'=>rw[hr] at h';exact h'
theorem Awr {P:Program} {o:Oper} {a:Act} {w:World} {K:Act→World→Prop} {Q:Exit→Act→World→Prop} (r:Option Nat) (h:Hy P (fun v w'=>K (a.put o.dst v) w') ((execOp a.eval o).run P w)):o.wpIn (fR r) 0 P a w K Q:=by
 refine⟨fun _ _=>trivial,?_⟩
 show o.uponIn (fR r) 0 P a K Q ((o.semAt r a.eval).run P w)
 rw[Bnx r h]
 generalize (execOp a.eval o).run P w=q at*
 cases q with
 |halt x w=>exact h.elim
 |ok n w=>
  cases n<;>simp only[Hy] at h<;>simp only[Oper.uponIn]
  case value u=>exact h
  case skip=>exact h
  case enter f args=>exact⟨fun hs=>(by cases hs),Bda (h.mono fun e bp ⟨v,he,hk⟩=>by subst he;exact hk)⟩
  case round l f tmps assign body=>exact⟨fun hs=>(by cases hs),RoundIn.mono (F:=fR r) h fun e bp ⟨v,he,hk⟩=>by subst he;exact hk⟩
def Bcj (P:Program) (ops:Array Oper) (i:Nat) (K:Act→World→Prop) (a:Act) (w:World):Prop:=match ops[i]? with
 |none=>K a w
 |some o=>if Region.wanted o (yielded ops a.tmps) then Hy P (fun v w'=>K (a.put o.dst v) w') ((execOp a.eval o).run P w) else K (a.put o.dst undef) w
theorem Buh {P:Program} {ops:Array Oper} {Q:Exit→Act→World→Prop} {i:Nat} {K:Act→World→Prop} {a:Act} {w:World} (r:Option Nat) (h:Bcj P ops i K a w):wpOpIn (fR r) 0 P ops Q i K a w:=by
 unfold Bcj at h
 unfold wpOpIn
 cases ho:ops[i]? with
 |none=>rw[ho] at h;exact h
 | some o=>
  rw[ho] at h
  simp only at h⊢
  split at h
  ·rename_i hw
   rw[if_pos hw]
   exact Awr r h
  ·rename_i hw
   rw[if_neg hw]
   exact⟨fun _ _=>trivial,h⟩
theorem Apf {P:Program} {ops:Array Oper} {Q:Exit→Act→World→Prop} {r:Option Nat} {Inv:Array Bool→Act→World→Prop} (hs:∀listed a w i,listed.size=ops.size→Inv listed a w→i∈Region.ready .any ops listed→Bcj P ops i (Inv (listed.setIfInBounds i true)) a w) (hf:∀listed a w,listed.size=ops.size→Inv listed a w→Region.ready .any ops listed=[]→Q .normal a w):
  ∀(fuel:Nat) (listed:Array Bool) (a:Act) (w:World),listed.size=ops.size→unl listed≤fuel→Inv listed a w→wpAnyIn (fR r) 0 P .any ops Q fuel listed a w
 | 0,listed,a,w,hz,hu,hi=>by
  have hr:Region.ready .any ops listed=[]:=by
   rw[List.eq_nil_iff_forall_not_mem]
   intro i hr
   have:=Ble (mem_ready.1 hr).1
   omega
  exact⟨hr,hf _ _ _ hz hi hr⟩
 |fuel+1,listed,a,w,hz,hu,hi=>by
  refine⟨fun h0=>hf _ _ _ hz hi h0,fun i hr=>?_⟩
  have hn:=Ble (mem_ready.1 hr).1
  exact wpOpIn_mono (fun a' w' h'=>Apf hs hf fuel _ a' w' (by simp[hz]) (by omega) h') (Buh r (hs _ _ _ _ hz hi hr))
theorem Aws {ir:Bool} {P:Program} {ops:Array Oper} {Q:Exit→Act→World→Prop} {id:Nat} {a:Act} {w:World} {Inv:Array Bool→Act→World→Prop} (hm:P.follows .mixedOrders=true) (h0:Inv (Array.replicate ops.size false) a {w with drawn:=w.drawn+1}) (hs:∀listed a w i,listed.size=ops.size→Inv listed a w→i∈Region.ready .any ops listed→Bcj P ops i (Inv (listed.setIfInBounds i true)) a w) (hf:∀listed a w,listed.size=ops.size→Inv listed a w→Region.ready .any ops listed=[]→Q .normal a w):WPR ir P (Code.region id ops true) Q a w:=
 fun _ _=>wpIn_region_any hm (Apf hs hf _ _ _ _ (by simp) (Ay9 _) h0)
def Qq (P:Program) (ops:Array Oper) (K:Act→World→Prop):List Oper→Act→World→Prop
 | [],a,w=>K a w
 |o::rest,a,w=>if Region.wanted o (yielded ops a.tmps) then Hy P (fun v w'=>Qq P ops K rest (a.put o.dst v) w') ((execOp a.eval o).run P w) else Qq P ops K rest (a.put o.dst undef) w
theorem Afm {P:Program} {ops:Array Oper} {Q:Exit→Act→World→Prop} (r:Option Nat):∀{l:List Oper} {a:Act} {w:World},Qq P ops (Q .normal) l a w→wpListIn (fR r) 0 P ops Q l a w
 | [],_,_,h=>h
 | o::rest,a,w,h=>by
  unfold Qq at h
  unfold wpListIn
  split at h
  ·rename_i hw
   rw[if_pos hw]
   exact Oper.wpIn_mono (fun a w h=>Afm r h) (Awr (K:=Qq P ops (Q .normal) rest) r h)
  ·rename_i hw
   rw[if_neg hw]
   exact⟨fun _ _=>trivial,Afm r h⟩
theorem Awt {ir:Bool} {P:Program} {Q:Exit→Act→World→Prop} {id:Nat} {l:List Oper} {a:Act} {w:World} (h:Qq P l.toArray (Q .normal) l a w):WPR ir P (Code.region id l.toArray false) Q a w:=fun r _=>wpIn_region_lit (Afm r h)
theorem DL {P:Program} {K K':Value→World→Prop} {r:Result Next} (h:Hy P K r) (hk:∀v w,K v w→K' v w):Hy P K' r:=by
 cases r with
 |halt x w=>exact h
 | ok n w=>
  cases n<;>first|exact h|(exact hk _ _ h)|skip
  case enter f args=>
   exact Calls.mono (P:=P) h fun e bp hh=>by
    obtain⟨v,he,hv⟩:=hh
    exact⟨v,he,hk _ _ hv⟩
  case round l f tmps assign body=>
   exact RoundIn.mono (F:=Fence.wide) h fun e bp hh=>by
    obtain⟨v,he,hv⟩:=hh
    exact⟨v,he,hk _ _ hv⟩
theorem Bul {P:Program} {o:Oper} {a:Act} {R:World} {v:Value} {K:Value→World→Prop} (h:Oper.quietUpon P (fun R'=>Below R.heap.size R R') R v ((execOp a.eval o).run P R)) (hk:∀R',Below R.heap.size R R'→K v R'):Hy P K ((execOp a.eval o).run P R):=by
 have hr:Below R.heap.size R R:=Below.refl _ _
 generalize (execOp a.eval o).run P R=r at*
 cases r with
 |halt x w=>exact h.elim
 | ok n w=>
  cases n<;>simp only[Oper.quietUpon] at h<;>simp only[Hy]
  case value u=>
   obtain⟨e1,e2⟩:=h
   rw[e1,e2]
   exact hk _ hr
  case skip=>
   obtain⟨e1,e2⟩:=h
   rw[e1,←e2]
   exact hk _ hr
  case enter f args=>
   obtain⟨e1,hc⟩:=h
   rw[e1]
   exact hc.mono fun e bp ⟨he,gk⟩=>⟨_,he,hk _ gk⟩
def Bel (seen:List Nat):List Edge→List Nat
 | []=>[]
 |e::r=>bif Region.binds .any e&&!(seen.any (Nat.beq e.on)) then e.on::Bel seen r else Bel seen r
def Avw (ops:Array Oper):Nat→List Nat→List Nat→List Nat
 |0,_,seen=>seen
 |_+1,[],seen=>seen
 |n+1,i::r,seen=>match ops[i]? with
  |some o=>Avw ops n (Bel seen o.after.toList++r) (Bel seen o.after.toList++seen)
  |none=>Avw ops n r seen
def Afg (ops:Array Oper) (i j:Nat):Bool:=Region.waitsFor .any ops i j||(Avw ops (ops.size+2) [i] []).any (Nat.beq j)
theorem Atw {seen:List Nat} {k:Nat}:∀{l:List Edge},k∈Bel seen l→∃e∈l,Region.binds .any e=true∧e.on=k
 | [],h=>by cases h
 | e::r,h=>by
  unfold Bel at h
  cases hc:(Region.binds .any e&&!(seen.any (Nat.beq e.on))) with
  | true=>
   rw[hc] at h
   rcases List.mem_cons.1 h with rfl|h
   ·exact⟨e,List.mem_cons_self ..,(Bool.and_eq_true_iff.1 hc).1,rfl⟩
   ·obtain⟨e',h1,h2⟩:=Atw h
    exact⟨e',List.mem_cons_of_mem _ h1,h2⟩
  |false=>
   rw[hc] at h
   obtain⟨e',h1,h2⟩:=Atw h
   exact⟨e',List.mem_cons_of_mem _ h1,h2⟩
theorem TQ {ops:Array Oper} {m:Nat} {listed:Array Bool} (hi:HeadInv .any ops m listed):∀(n:Nat) (fr seen:List Nat),
  (∀k∈fr,∀o,ops[k]?=some o→∀e∈o.after,Region.binds .any e=true→listed.getD e.on false=true)→(∀k∈seen,listed.getD k false=true)→∀k∈Avw ops n fr seen,listed.getD k false=true
 |0,_,_,_,h2,k,hk=>h2 k hk
 |_+1,[],_,_,h2,k,hk=>h2 k hk
 | n+1,i::r,seen,h1,h2,k,hk=>by
  unfold Avw at hk
  cases ho:ops[i]? with
  |none=>
   rw[ho] at hk
   exact TQ hi n r seen (fun k hk=>h1 k (List.mem_cons_of_mem _ hk)) h2 k hk
  | some o=>
   rw[ho] at hk
   have db:∀k∈Bel seen o.after.toList,listed.getD k false=true:=fun k hk=>by
    obtain⟨e,he,hb,rfl⟩:=Atw hk
    exact h1 i (List.mem_cons_self ..) o ho e (Array.mem_toList_iff.1 he) hb
   refine TQ hi n _ _ (fun k hk o' ho' e he hb=>?_) (fun k hk=>?_) k hk
   ·rcases List.mem_append.1 hk with hk|hk
    ·exact hi.closed k o' ho' (db k hk) e he hb
    ·exact h1 k (List.mem_cons_of_mem _ hk) o' ho' e he hb
   ·rcases List.mem_append.1 hk with hk|hk
    ·exact db k hk
    ·exact h2 k hk
theorem Ab3 {ops:Array Oper} {m:Nat} {listed:Array Bool} (hi:HeadInv .any ops m listed) {i j:Nat} {o:Oper} (h:Afg ops i j=true) (ho:ops[i]?=some o) (ai:∀e∈o.after,Region.binds .any e=true→listed.getD e.on false=true):listed.getD j false=true:=by
 rcases Bool.or_eq_true_iff.1 h with h1|h1
 ·exact Mr h1 ho ai
 ·obtain⟨k,hk,hb⟩:=List.any_eq_true.1 h1
  rw[Nat.eq_of_beq_eq_true hb]
  refine TQ hi _ [i] [] (fun k hk o' ho'=>?_) (fun k hk=>by cases hk) k hk
  obtain rfl:=List.mem_singleton.1 hk
  obtain rfl:=Option.some.inj (ho.symm.trans ho')
  exact ai
structure Azf (ops:Array Oper) (n:Nat) (ix:Nat→Nat) (M E:Nat→Bool):Prop where
 back:A7a ops=true
 nosel:Region.noSelect ops=true
 lt:∀k,k <n→ix k <ops.size
 inj:∀j k,j <k→k <n→ix j≠ix k
 sur:∀i,i <ops.size→∃k,k <n∧ix k=i
 dst:∀j k o o' d,j <k→k <n→ops[ix j]?=some o→ops[ix k]?=some o'→o.dst=some d→o'.dst≠some d
 ord:∀j k o o' d,j <k→k <n→ops[ix j]?=some o→ops[ix k]?=some o'→(o.dst=some d∧d∈o'.looksAt ops∨o'.dst=some d∧d∈o.looksAt ops)→Region.waitsFor .any ops (ix k) (ix j)=true
 mop:∀j k,j <k→k <n→M j=true→E k=false→Afg ops (ix k) (ix j)=true
 em:∀k,k <n→E k=true→M k=true
variable {P:Program} {ops:Array Oper} {n:Nat} {ix:Nat→Nat} {M E:Nat→Bool} {a0:Act}
def canA (ops:Array Oper) (ix:Nat→Nat) (a0:Act) (V:Nat→Value):Nat→Act
 |0=>a0
 |k+1=>(canA ops ix a0 V k).put ((ops[ix k]?).bind (·.dst)) (V k)
theorem QG {V V':Nat→Value}:∀{k},(∀j,j <k→V' j=V j)→canA ops ix a0 V' k=canA ops ix a0 V k
 |0,_=>rfl
 |k+1,h=>by
  unfold canA
  rw[QG fun j hj=>h j (by omega),h k (by omega)]
theorem Qt {V:Nat→Value}:∀k,(canA ops ix a0 V k).tmps.size=a0.tmps.size
 |0=>rfl
 |k+1=>by unfold canA;rw[X9,Qt k]
theorem Ama {V:Nat→Value}:∀k,(canA ops ix a0 V k).defers=a0.defers
 |0=>rfl
 |k+1=>by unfold canA;rw[SW,Ama k]
theorem Ua {V:Nat→Value} {x:Tmp} {j:Nat}:∀m,(∀i,i <m→∀o,ops[ix (j+i)]?=some o→o.dst≠some x)→(canA ops ix a0 V (j+m)).tmps.getD x undef=(canA ops ix a0 V j).tmps.getD x undef
 |0,_=>rfl
 | m+1,h=>by
  rw[←Ua m fun i hi=>h i (by omega)]
  show((canA ops ix a0 V (j+m)).put ((ops[ix (j+m)]?).bind (·.dst)) (V (j+m))).tmps.getD x undef=_
  cases ho:ops[ix (j+m)]? with
  |none=>rfl
  | some o=>
   have hd:=h m (by omega) o ho
   cases hdd:o.dst with
   |none=>simp[Act.put,hdd]
   |some d=>
    simp only[Option.bind_some,hdd]
    rw[GJ,if_neg]
    rintro⟨rfl,_⟩
    exact hd hdd
def Bo9 (ops:Array Oper) (ix:Nat→Nat) (p k:Nat) (o:Oper):Prop:=∀j,p≤j→j <k→∀o' d,ops[ix j]?=some o'→o'.dst=some d→d∉o.looksAt ops
theorem Bo9.canA {V:Nat→Value} {p k:Nat} {o:Oper} (h:Bo9 ops ix p k o) (hp:p≤k):∀t∈o.looksAt ops,(canA ops ix a0 V k).tmps.getD t undef=(canA ops ix a0 V p).tmps.getD t undef:=fun t ht=>by
 obtain⟨m,rfl⟩:=Nat.exists_eq_add_of_le hp
 exact Ua m fun i hi o' ho' hd=>h (p+i) (by omega) (by omega) o' t ho' hd ht
theorem Ar5 (ok:Azf ops n ix M E) {V:Nat→Value} {t:Nat}:∀k,k≤n→
  (∀j o,j <k→ops[ix j]?=some o→o.dst=some t→t <a0.tmps.size→(canA ops ix a0 V k).tmps.getD t undef=V j)∧
  ((∀j o,j <k→ops[ix j]?=some o→o.dst≠some t)→(canA ops ix a0 V k).tmps.getD t undef=a0.tmps.getD t undef)
 |0,_=>⟨fun j _ hj=>by omega,fun _=>rfl⟩
 | k +1,hk=>by
  obtain⟨h1,h2⟩:=Ar5 ok (V:=V) (t:=t) k (by omega)
  obtain⟨ok',j8⟩:∃o,ops[ix k]?=some o:=⟨_,Array.getElem?_eq_getElem (ok.lt k (by omega))⟩
  have fp:canA ops ix a0 V (k+1)=(canA ops ix a0 V k).put ok'.dst (V k):=by
   show(canA ops ix a0 V k).put ((ops[ix k]?).bind (·.dst)) (V k)=_
   rw[j8];rfl
  rw[fp]
  refine⟨fun j o hj ho hd ae=>?_,fun dc=>?_⟩
  ·by_cases di:j=k
   ·subst di
    have:o=ok':=Option.some.inj (ho.symm.trans j8)
    subst this
    rw[hd,GJ,if_pos ⟨rfl,by rw[Qt];exact ae⟩]
   ·have ao:=ok.dst j k o ok' t (by omega) (by omega) ho j8 hd
    rw[←h1 j o (by omega) ho hd ae]
    cases hdk:ok'.dst with
    |none=>rfl
    |some d=>
     rw[GJ,if_neg]
     rintro⟨rfl,_⟩
     exact ao hdk
  ·rw[←h2 fun j o hj ho=>dc j o (by omega) ho]
   have ao:=dc k ok' (by omega) j8
   cases hdk:ok'.dst with
   |none=>rfl
   |some d=>
    rw[GJ,if_neg]
    rintro⟨rfl,_⟩
    exact ao hdk
def QA (P:Program) (ops:Array Oper) (ix:Nat→Nat) (a0:Act) (V:Nat→Value) (w:World) (k:Nat):Prop:=∀o,ops[ix k]?=some o→
 (Region.wanted o (yielded ops (canA ops ix a0 V k).tmps)=true∧∀w',Below w.heap.size w w'→Oper.quietUpon P (fun bp=>Below w'.heap.size w' bp) w' (V k) ((execOp (canA ops ix a0 V k).eval o).run P w'))∨
 (Region.wanted o (yielded ops (canA ops ix a0 V k).tmps)=false∧V k=undef)
theorem QA.grow {V:Nat→Value} {w w1:World} {k:Nat} (h:QA P ops ix a0 V w k) (hb:Below w.heap.size w w1):QA P ops ix a0 V w1 k:=fun o ho=>by
 rcases h o ho with⟨h1,h2⟩|h1
 ·exact .inl ⟨h1,fun w' hw'=>h2 w' (hb.trans (hw'.mono hb.size))⟩
 ·exact .inr h1
theorem QA.congr {V V':Nat→Value} {w:World} {k:Nat} (h:QA P ops ix a0 V w k) (he:∀j,j≤k→V' j=V j):QA P ops ix a0 V' w k:=by
 unfold QA
 rw[QG fun j hj=>he j (by omega),he k (Nat.le_refl _)]
 exact h
abbrev Pi:=Nat→Option Value
def Pi.set (X:Pi) (k:Nat) (v:Value):Pi:=fun j=>if j=k then some v else X j
variable {S:Nat→Pi→Act→World→Prop}
variable (hq:∀k X A w,k <n→M k=false→S k X A w→∀o,ops[ix k]?=some o→∃v,S (k+1) X (A.put o.dst v) w∧
  ((Region.wanted o (yielded ops A.tmps)=true∧∀w',Below w.heap.size w w'→Oper.quietUpon P (fun bp=>Below w'.heap.size w' bp) w' v ((execOp A.eval o).run P w'))∨(Region.wanted o (yielded ops A.tmps)=false∧v=undef)))
 (hu:∀k X A w v,k <n→E k=true→X k=some v→S k X A w→∀o,ops[ix k]?=some o→S (k+1) X (A.put o.dst v) w)
include hq hu
theorem Afs (ok:Azf ops n ix M E) {w:World} {X:Pi} (L:Nat→Bool):∀(m p:Nat) (V:Nat→Value),n - p=m→p≤n→(∀k,p≤k→k <n→L k=true→E k=true∧X k=some (V k))→S p X (canA ops ix a0 V p) w→
  ∃p' V',p≤p'∧p'≤n∧(∀j,j <p→V' j=V j)∧(∀j,j <n→L j=true→V' j=V j)∧S p' X (canA ops ix a0 V' p') w∧(p'=n∨(p' <n∧M p'=true∧L p'=false))∧∀k,p≤k→k <p'→L k=false→QA P ops ix a0 V' w k
 |0,p,V,hm,hp,_,hS=>⟨p,V,Nat.le_refl _,hp,fun _ _=>rfl,fun _ _ _=>rfl,hS,.inl (by omega),fun k h1 h2=>by omega⟩
 | m +1,p,V,hm,hp,hL,hS=>by
  have j9:p <n:=by omega
  obtain⟨o,ho⟩:∃o,ops[ix p]?=some o:=⟨_,Array.getElem?_eq_getElem (ok.lt p j9)⟩
  cases hl:L p with
  | true=>
   obtain⟨hE,hX⟩:=hL p (Nat.le_refl _) j9 hl
   have q7:=hu p X _ w _ j9 hE hX hS o ho
   have e4:canA ops ix a0 V (p+1)=(canA ops ix a0 V p).put o.dst (V p):=by
    show(canA ops ix a0 V p).put ((ops[ix p]?).bind (·.dst)) (V p)=_
    rw[ho];rfl
   obtain⟨p',V',h1,h2,h3,ef,h4,h5,h6⟩:=Afs ok L m (p+1) V (by omega) (by omega) (fun k hk=>hL k (by omega)) (by rw[e4];exact q7)
   refine⟨p',V',by omega,h2,fun j hj=>h3 j (by omega),ef,h4,h5,fun k dj cy kp=>?_⟩
   by_cases pz:k=p
   ·subst pz;rw[hl] at kp;cases kp
   ·exact h6 k (by omega) cy kp
  |false=>
  cases hM:M p with
  |true=>exact⟨p,V,Nat.le_refl _,hp,fun _ _=>rfl,fun _ _ _=>rfl,hS,.inr ⟨j9,hM,hl⟩,fun k h1 h2=>by omega⟩
  | false=>
   obtain⟨v,q7,hv⟩:=hq p X _ w j9 hM hS o ho
   let V1:Nat→Value:=fun j=>if j=p then v else V j
   have e1:∀j,j≠p→V1 j=V j:=fun j hj=>if_neg hj
   have e2:V1 p=v:=if_pos rfl
   have e3:canA ops ix a0 V1 p=canA ops ix a0 V p:=QG fun j hj=>e1 j (by omega)
   have e4:canA ops ix a0 V1 (p+1)=(canA ops ix a0 V p).put o.dst v:=by
    show(canA ops ix a0 V1 p).put ((ops[ix p]?).bind (·.dst)) (V1 p)=_
    rw[e3,e2,ho];rfl
   obtain⟨p',V',h1,h2,h3,ef,h4,h5,h6⟩:=Afs ok L m (p+1) V1 (by omega) (by omega) (fun k hk me fg=>by rw[e1 k (by omega)];exact hL k (by omega) me fg) (by rw[e4];exact q7)
   refine⟨p',V',by omega,h2,fun j hj=>(h3 j (by omega)).trans (e1 j (by omega)),fun j hj j5=>(ef j hj j5).trans (e1 j fun e=>by rw[e,hl] at j5;cases j5),h4,h5,fun k dj cy kp=>?_⟩
   by_cases pz:k=p
   ·subst pz
    have hpd:QA P ops ix a0 V1 w k:=fun o' ho'=>by
     have:o'=o:=Option.some.inj (ho'.symm.trans ho)
     subst this
     rw[e3,e2]
     exact hv
    exact hpd.congr fun j hj=>h3 j (by omega)
   ·exact h6 k (by omega) cy kp
omit hq hu
structure A1s (P:Program) (ops:Array Oper) (n:Nat) (ix:Nat→Nat) (M E:Nat→Bool) (S:Nat→Pi→Act→World→Prop) (a0:Act) (listed:Array Bool) (a:Act) (w:World) (p:Nat) (V:Nat→Value) (X:Pi):Prop where
 inv:HeadInv .any ops ops.size listed
 le:p≤n
 st:S p X (canA ops ix a0 V p) w
 next:p=n∨(p <n∧M p=true∧listed.getD (ix p) false=false)
 pend:∀k,k <p→listed.getD (ix k) false=false→QA P ops ix a0 V w k
 rest:∀k,p≤k→k <n→listed.getD (ix k) false=true→E k=true∧X k=some (V k)
 defers:a.defers=a0.defers
 size:a.tmps.size=a0.tmps.size
 s1:∀k o d,k <n→ops[ix k]?=some o→o.dst=some d→d <a0.tmps.size→listed.getD (ix k) false=true→a.tmps.getD d undef=V k
 s2:∀d,(∀k o,k <n→ops[ix k]?=some o→listed.getD (ix k) false=true→o.dst≠some d)→a.tmps.getD d undef=a0.tmps.getD d undef
variable {listed:Array Bool} {a:Act} {w:World} {p:Nat} {V:Nat→Value} {X:Pi}
theorem A1s.slot (ok:Azf ops n ix M E) (h:A1s P ops n ix M E S a0 listed a w p V X) {k:Nat} {o:Oper} (hk:k <n) (ho:ops[ix k]?=some o) (mn:listed.getD (ix k) false=false)
  (ai:∀e∈o.after,Region.binds .any e=true→listed.getD e.on false=true) {t:Nat} (ht:t∈o.looksAt ops):a.tmps.getD t undef=(canA ops ix a0 V k).tmps.getD t undef:=by
 obtain⟨l1,l2⟩:=Ar5 ok (V:=V) (a0:=a0) (t:=t) k (by omega)
 by_cases hw:∃j o',j <n∧ops[ix j]?=some o'∧o'.dst=some t
 ·obtain⟨j,o',hj,ho',hd⟩:=hw
  have fq:∀j' o'',j' <n→ops[ix j']?=some o''→o''.dst=some t→j'=j:=by
   intro j' o'' df ij od
   rcases Nat.lt_trichotomy j' j with ae|heq|ig
   ·exact absurd hd (ok.dst j' j o'' o' t ae hj ij ho' od)
   ·exact heq
   ·exact absurd od (ok.dst j j' o' o'' t ig df ho' ij hd)
  rcases Nat.lt_or_ge j k with ae|dz
  ·have hl:=Mr (ok.ord j k o' o t ae hk ho' ho (.inl ⟨hd,ht⟩)) ho ai
   by_cases kc:t <a0.tmps.size
   ·rw[h.s1 j o' t hj ho' hd kc hl,l1 j o' ae ho' hd kc]
   ·have e1:a.tmps.getD t undef=undef:=by
     rw[Array.getD_eq_getD_getElem?,Array.getElem?_eq_none (by rw[h.size];exact Nat.le_of_not_lt kc)];rfl
    have e2:(canA ops ix a0 V k).tmps.getD t undef=undef:=by
     rw[Array.getD_eq_getD_getElem?,Array.getElem?_eq_none (by rw[Qt];exact Nat.le_of_not_lt kc)];rfl
    rw[e1,e2]
  ·have j5:listed.getD (ix j) false=false:=by
    by_cases di:j=k
    ·subst di;exact mn
    ·cases j5:listed.getD (ix j) false with
     |false=>rfl
     |true=>
      have pe:=ok.ord k j o o' t (by omega) hj ho ho' (.inr ⟨hd,ht⟩)
      have:=Mr pe ho' (h.inv.closed (ix j) o' ho' j5)
      rw[mn] at this
      cases this
   rw[h.s2 t fun j' o'' df ij bm ic=>by
    obtain rfl:=fq j' o'' df ij ic
    rw[j5] at bm
    cases bm]
   rw[l2 fun j' o'' df ij ic=>by
    have:=fq j' o'' (by omega) ij ic
    omega]
 ·rw[h.s2 t fun j o' hj ho' _ hd=>hw ⟨j,o',hj,ho',hd⟩]
  rw[l2 fun j o' hj ho' hd=>hw ⟨j,o',by omega,ho',hd⟩]
theorem A1s.put (ok:Azf ops n ix M E) (h:A1s P ops n ix M E S a0 listed a w p V X) {k:Nat} {o:Oper} (hk:k <n) (ho:ops[ix k]?=some o) (hr:ix k∈Region.ready .any ops listed) {v:Value} {w':World} {p':Nat} {V':Nat→Value} {X':Pi}
  (hle:p'≤n) (hst:S p' X' (canA ops ix a0 V' p') w') (hV:∀j,j <n→j≠k→listed.getD (ix j) false=true→V' j=V j) (hv:V' k=v)
  (dk:p'=n∨(p' <n∧M p'=true∧p'≠k∧listed.getD (ix p') false=false)) (bw:∀j,j <p'→j≠k→listed.getD (ix j) false=false→QA P ops ix a0 V' w' j)
  (fk:∀j,p'≤j→j <n→j=k∨listed.getD (ix j) false=true→E j=true∧X' j=some (V' j)):
  A1s P ops n ix M E S a0 (listed.setIfInBounds (ix k) true) (a.put o.dst v) w' p' V' X':=by
 have au:ix k <listed.size:=QT (mem_ready.1 hr).1
 have rz:∀j,j <n→ix j=ix k→j=k:=fun j hj e=>by
  rcases Nat.lt_trichotomy j k with ae|heq|ig
  ·exact absurd e (ok.inj j k ae hk)
  ·exact heq
  ·exact absurd e.symm (ok.inj k j ig hj)
 refine⟨h.inv.set hr (ok.lt k hk),hle,hst,?_,?_,fun j h1 h2 hl=>?_,by rw[SW,h.defers],by rw[X9,h.size],?_,?_⟩
 ·rcases dk with hn|⟨h1,h2,h3,h4⟩
  ·exact .inl hn
  ·exact .inr ⟨h1,h2,by rw[getD_set_ne false (fun e=>h3 (rz p' h1 e.symm))];exact h4⟩
 ·intro j hj hl
  have di:j≠k:=fun e=>by
   subst e
   rw[(GK au).2 (.inl rfl)] at hl
   cases hl
  refine bw j hj di ?_
  cases j5:listed.getD (ix j) false with
  |false=>rfl
  |true=>rw[(GK au).2 (.inr j5)] at hl;cases hl
 ·rcases(GK au).1 hl with e|e
  ·exact fk j h1 h2 (.inl (rz j h2 e))
  ·exact fk j h1 h2 (.inr e)
 ·intro j oj d hj hoj hd ae hl
  by_cases di:j=k
  ·subst di
   have:oj=o:=Option.some.inj (hoj.symm.trans ho)
   subst this
   rw[hd,GJ,if_pos ⟨rfl,by rw[h.size];exact ae⟩,hv]
  ·have bm:=((GK au).1 hl).resolve_left fun e=>di (rz j hj e)
   have ao:o.dst≠some d:=by
    rcases Nat.lt_or_ge j k with bu|dz
    ·exact ok.dst j k oj o d bu hk hoj ho hd
    ·intro ja
     exact ok.dst k j o oj d (by omega) hj ho hoj ja hd
   have hx:(a.put o.dst v).tmps.getD d undef=a.tmps.getD d undef:=by
    cases ja:o.dst with
    |none=>rfl
    |some e=>
     rw[GJ,if_neg]
     rintro⟨rfl,_⟩
     exact ao ja
   rw[hx,h.s1 j oj d hj hoj hd ae bm,hV j hj di bm]
 ·intro d dc
  have ao:o.dst≠some d:=dc k o hk ho ((GK au).2 (.inl rfl))
  have hx:(a.put o.dst v).tmps.getD d undef=a.tmps.getD d undef:=by
   cases ja:o.dst with
   |none=>rfl
   |some e=>
    rw[GJ,if_neg]
    rintro⟨rfl,_⟩
    exact ao ja
  rw[hx]
  exact h.s2 d fun j oj hj hoj hl=>dc j oj hj hoj ((GK au).2 (.inr hl))
theorem But {a b:Act} (hd:a.defers=b.defers) (hz:a.tmps.size=b.tmps.size) (ht:∀t,a.tmps.getD t undef=b.tmps.getD t undef):a=b:=by
 have:a.tmps=b.tmps:=by
  apply Array.ext hz
  intro i h1 h2
  have:=ht i
  simp only[Array.getD_eq_getD_getElem?,Array.getElem?_eq_getElem h1,Array.getElem?_eq_getElem h2,Option.getD_some] at this
  exact this
 cases a;cases b
 simp only at this hd
 subst this hd
 rfl
theorem Buk {ir:Bool} {id:Nat} {a:Act} {w:World} {Q:Exit→Act→World→Prop} (hm:P.follows .mixedOrders=true) (ok:Azf ops n ix M E) (hq:∀k X A w,k <n→M k=false→S k X A w→∀o,ops[ix k]?=some o→∃v,S (k+1) X (A.put o.dst v) w∧
   ((Region.wanted o (yielded ops A.tmps)=true∧∀w',Below w.heap.size w w'→Oper.quietUpon P (fun bp=>Below w'.heap.size w' bp) w' v ((execOp A.eval o).run P w'))∨(Region.wanted o (yielded ops A.tmps)=false∧v=undef))) (hu:∀k X A w v,k <n→E k=true→X k=some v→S k X A w→∀o,ops[ix k]?=some o→S (k+1) X (A.put o.dst v) w) (rm:∀j k o o' d,j <k→k <n→E j=true→E k=true→ops[ix j]?=some o→ops[ix k]?=some o'→o.dst=some d→d∉o'.looksAt ops) (he:∀p k X A w,p≤k→k <n→E k=true→S p X A w→∀o,ops[ix k]?=some o→Bo9 ops ix p k o→∀A':Act,(∀t∈o.looksAt ops,A'.tmps.getD t undef=A.tmps.getD t undef)→Region.wanted o (yielded ops A'.tmps)=true∧Hy P (fun v w'=>Below w.heap.size w w'∧S p (X.set k v) A w') ((execOp A'.eval o).run P w)) (sh:∀k X A w,k <n→M k=true→E k=false→S k X A w→∀o,ops[ix k]?=some o→(Region.wanted o (yielded ops A.tmps)=true∧Hy P (fun v w'=>(Below w.heap.size w w'∨∀j,j <k→Afg ops (ix k) (ix j)=true∨∀V,canA ops ix a V k=A→QA P ops ix a V w j→QA P ops ix a V w' j)∧S (k+1) X (A.put o.dst v) w') ((execOp A.eval o).run P w))∨
   (Region.wanted o (yielded ops A.tmps)=false∧S (k+1) X (A.put o.dst undef) w)) (hg:∀k X A w w',S k X A w→Below w.heap.size w w'→S k X A w') (h0:S 0 (fun _=>none) a w) (hF:∀X A w',S n X A w'→Q .normal A w'):WPR ir P (Code.region id ops true) Q a w:=by
 have ml:=Region.noSelect_spec ok.nosel
 refine Aws (Inv:=fun listed a' w'=>∃p V X,A1s P ops n ix M E S a listed a' w' p V X) hm ?_ ?_ ?_
 ·have nc:S 0 (fun _=>none) (canA ops ix a (fun _=>undef) 0) {w with drawn:=w.drawn+1}:=hg _ _ _ _ _ h0 ⟨rfl,rfl,rfl,Nat.le_refl _,fun _ _=>rfl⟩
  obtain⟨p,V,_,h2,_,_,h4,h5,h6⟩:=Afs hq hu ok (fun _=>false) n 0 (fun _=>undef) rfl (Nat.zero_le _) (fun k _ _ hl=>by cases hl) nc
  refine⟨p,V,_,⟨⟨by simp,fun j oj _ hl=>(by rw[getD_replicate_false] at hl;cases hl),fun t _ ht=>getD_in (by simpa using ht) (getD_replicate_false _ _)⟩,h2,h4,?_,fun k hk _=>h6 k (Nat.zero_le _) hk rfl,fun k _ _ hl=>(by rw[getD_replicate_false] at hl;cases hl),rfl,rfl,?_,fun _ _=>rfl⟩⟩
  ·rcases h5 with h|⟨h,h',_⟩
   ·exact .inl h
   ·exact .inr ⟨h,h',getD_replicate_false _ _⟩
  ·intro k o d _ _ _ _ hl
   rw[getD_replicate_false] at hl
   cases hl
 ·intro listed a' w' i hz hinv hr
  obtain⟨p,V,X,h⟩:=hinv
  obtain⟨mn,o,ho,ai⟩:=mem_ready.1 hr
  have hi:i <ops.size:=(Array.getElem?_eq_some_iff.1 ho).1
  obtain⟨k,hk,rfl⟩:=ok.sur i hi
  have pc:=getD_both mn
  have eh:∀t∈o.looksAt ops,a'.tmps.getD t undef=(canA ops ix a V k).tmps.getD t undef:=fun t ht=>h.slot ok hk ho pc ai ht
  have hex:execOp a'.eval o=execOp (canA ops ix a V k).eval o:=Vq o (fun cs b=>ml (ix k) o cs b ho) eh
  have hwn:=A54 (ops:=ops) o (by rw[h.size,Qt]:a'.tmps.size=(canA ops ix a V k).tmps.size) eh
  unfold Bcj
  simp only[ho]
  -- what is left when the next one comes up
  have jj:∀v X' bp,(∀j,j <n→X' j=X j∨j=k)→k=p→((∀j,j <k→listed.getD (ix j) false=false→∀V1,canA ops ix a V1 k=canA ops ix a V k→QA P ops ix a V1 w' j→QA P ops ix a V1 bp j))→S (k+1) X' ((canA ops ix a V k).put o.dst v) bp→∃p' V' X',A1s P ops n ix M E S a (listed.setIfInBounds (ix k) true) (a'.put o.dst v) bp p' V' X':=fun v X' bp xe pz hb hS=>by
   let V1:Nat→Value:=fun j=>if j=k then v else V j
   have e1:∀j,j≠k→V1 j=V j:=fun j hj=>if_neg hj
   have e2:V1 k=v:=if_pos rfl
   have e3:canA ops ix a V1 k=canA ops ix a V k:=QG fun j hj=>e1 j (by omega)
   have e4:canA ops ix a V1 (k+1)=(canA ops ix a V k).put o.dst v:=by
    show(canA ops ix a V1 k).put ((ops[ix k]?).bind (·.dst)) (V1 k)=_
    rw[e3,e2,ho];rfl
   have hL:∀j,k+1≤j→j <n→listed.getD (ix j) false=true→E j=true∧X' j=some (V1 j):=fun j h1 h2 h3=>by
    obtain⟨q1,q2⟩:=h.rest j (by omega) h2 h3
    rcases xe j h2 with q|q
    ·exact⟨q1,by rw[q,e1 j (by omega)];exact q2⟩
    ·omega
   obtain⟨p',V',g1,g2,g3,t6,g4,g5,g6⟩:=Afs hq hu ok (fun j=>listed.getD (ix j) false) (n - (k+1)) (k+1) V1 rfl (by omega) hL (by rw[e4];exact hS)
   refine⟨p',V',X',h.put ok hk ho hr g2 g4 (fun j hj ao hl=>(t6 j hj hl).trans (e1 j ao)) ((g3 k (by omega)).trans e2) ?_ (fun j hj ao hl=>?_) (fun j h1 h2 h3=>?_)⟩
   ·rcases g5 with h1|⟨h1,h2,h3⟩
    ·exact .inl h1
    ·exact .inr ⟨h1,h2,by omega,h3⟩
   ·rcases Nat.lt_or_ge j k with ae|dz
    ·exact(hb j ae hl V rfl (h.pend j (by omega) hl)).congr fun j' df=>(g3 j' (by omega)).trans (e1 j' (by omega))
    ·exact g6 j (by omega) hj hl
   ·rcases h3 with h3|h3
    ·omega
    ·obtain⟨q1,q2⟩:=hL j (by omega) h2 h3
     exact⟨q1,by rw[t6 j h2 h3];exact q2⟩
  rcases Nat.lt_trichotomy k p with ae|heq|ig
  ·have km:∀bp,Below w'.heap.size w' bp→∃p' V' X',A1s P ops n ix M E S a (listed.setIfInBounds (ix k) true) (a'.put o.dst (V k)) bp p' V' X':=fun bp hb=>
    ⟨p,V,X,h.put ok hk ho hr h.le (hg _ _ _ _ _ h.st hb) (fun _ _ _ _=>rfl) rfl (by
     rcases h.next with h1|⟨h1,h2,h3⟩
     ·exact .inl h1
     ·exact .inr ⟨h1,h2,by omega,h3⟩) (fun j hj ao hl=>(h.pend j hj hl).grow hb) fun j h1 h2 h3=>h.rest j h1 h2 (h3.resolve_left (by omega))⟩
   rcases h.pend k ae pc o ho with⟨h1,h2⟩|⟨h1,h2⟩
   ·rw[if_pos (hwn.trans h1)]
    refine Bul (v:=V k) ?_ km
    rw[hex]
    exact h2 w' (Below.refl _ _)
   ·rw[if_neg (by rw[hwn,h1];exact Bool.false_ne_true)]
    have:=km w' (Below.refl _ _)
    rw[h2] at this
    exact this
  ·subst heq
   have wz:M k=true:=by
    rcases h.next with h1|⟨_,h2,_⟩
    ·omega
    ·exact h2
   cases hEk:E k with
   | false=>
    have main:∀v bp,(Below w'.heap.size w' bp∨∀j,j <k→Afg ops (ix k) (ix j)=true∨∀V1,canA ops ix a V1 k=canA ops ix a V k→QA P ops ix a V1 w' j→QA P ops ix a V1 bp j)→S (k+1) X ((canA ops ix a V k).put o.dst v) bp→∃p' V' X',A1s P ops n ix M E S a (listed.setIfInBounds (ix k) true) (a'.put o.dst v) bp p' V' X':=fun v bp hb hS=>
     jj v X bp (fun _ _=> .inl rfl) rfl (fun j hj hl V1 xb hpd=>by
      rcases hb with hb|hb
      ·exact hpd.grow hb
      ·rcases hb j hj with hb|hb
       ·have:=Ab3 h.inv hb ho ai
        rw[hl] at this
        cases this
       ·exact hb V1 xb hpd) hS
    rcases sh k X _ w' hk wz hEk h.st o ho with⟨h1,h2⟩|⟨h1,h2⟩
    ·rw[if_pos (hwn.trans h1)]
     rw[hex]
     exact DL h2 fun v bp ⟨hb,hS⟩=>main v bp hb hS
    ·rw[if_neg (by rw[hwn,h1];exact Bool.false_ne_true)]
     exact main undef w' (.inl (Below.refl _ _)) h2
   |true=>
    obtain⟨h1,h2⟩:=he k k X _ w' (Nat.le_refl _) hk hEk h.st o ho (fun j q1 q2=>absurd q2 (by omega)) a' eh
    rw[if_pos h1]
    refine(DL h2 fun v bp ⟨hb,hS⟩=>jj v (X.set k v) bp (fun j _=>?_) rfl (fun j _ _ V1 _ hpd=>hpd.grow hb) (hu k (X.set k v) _ bp v hk hEk (if_pos rfl) hS o ho))
    by_cases e:j=k
    ·exact .inr e
    ·exact .inl (if_neg e)
  ·have dk:p <n∧M p=true∧listed.getD (ix p) false=false:=by
    rcases h.next with h1|h1
    ·omega
    ·exact h1
   cases hEk:E k with
   |false=>
    exfalso
    have:=Ab3 h.inv (ok.mop p k ig hk dk.2.1 hEk) ho ai
    rw[dk.2.2] at this
    cases this
   | true=>
    have hnw:Bo9 ops ix p k o:=fun j q1 q2 o' d ho' hd hm=>by
     have hl:=Mr (ok.ord j k o' o d q2 hk ho' ho (.inl ⟨hd,hm⟩)) ho ai
     exact rm j k o' o d q2 hk (h.rest j q1 (by omega) hl).1 hEk ho' ho hd hm
    obtain⟨h1,h2⟩:=he p k X _ w' (Nat.le_of_lt ig) hk hEk h.st o ho hnw a' (fun t ht=>(eh t ht).trans (hnw.canA (Nat.le_of_lt ig) t ht))
    rw[if_pos h1]
    refine(DL h2 fun v bp ⟨hb,hS⟩=>?_)
    let V1:Nat→Value:=fun j=>if j=k then v else V j
    have e1:∀j,j≠k→V1 j=V j:=fun j hj=>if_neg hj
    have e2:V1 k=v:=if_pos rfl
    have e3:canA ops ix a V1 p=canA ops ix a V p:=QG fun j hj=>e1 j (by omega)
    refine⟨p,V1,X.set k v,h.put ok hk ho hr h.le (by rw[e3];exact hS) (fun j _ ao _=>e1 j ao) e2 (.inr ⟨dk.1,dk.2.1,by omega,dk.2.2⟩) (fun j hj ao hl=>((h.pend j hj hl).grow hb).congr fun j' df=>e1 j' (by omega)) fun j h1 h2 h3=>?_⟩
    by_cases e:j=k
    ·subst e
     exact⟨hEk,by rw[e2];exact if_pos rfl⟩
    ·obtain⟨q1,q2⟩:=h.rest j h1 h2 (h3.resolve_left e)
     exact⟨q1,by rw[e1 j e];exact(if_neg e).trans q2⟩
 ·intro listed a' w' hz hinv hr
  obtain⟨p,V,X,h⟩:=hinv
  have ai:=Bct ok.back hz hr
  have j9:p=n:=by
   rcases h.next with h1|⟨h1,h2,h3⟩
   ·exact h1
   ·rw[ai (ix p) (ok.lt p h1)] at h3;cases h3
  subst j9
  have:a'=canA ops ix a V p:=But (by rw[h.defers,Ama]) (by rw[h.size,Qt]) fun t=>by
   obtain⟨l1,l2⟩:=Ar5 ok (V:=V) (a0:=a) (t:=t) p (Nat.le_refl _)
   by_cases hw:∃j o',j <p∧ops[ix j]?=some o'∧o'.dst=some t
   ·obtain⟨j,o',hj,ho',hd⟩:=hw
    by_cases kc:t <a.tmps.size
    ·rw[h.s1 j o' t hj ho' hd kc (ai _ (ok.lt j hj)),l1 j o' hj ho' hd kc]
    ·have e1:a'.tmps.getD t undef=undef:=by
      rw[Array.getD_eq_getD_getElem?,Array.getElem?_eq_none (by rw[h.size];exact Nat.le_of_not_lt kc)];rfl
     have e2:(canA ops ix a V p).tmps.getD t undef=undef:=by
      rw[Array.getD_eq_getD_getElem?,Array.getElem?_eq_none (by rw[Qt];exact Nat.le_of_not_lt kc)];rfl
     rw[e1,e2]
   ·rw[h.s2 t fun j o' hj ho' _ hd=>hw ⟨j,o',hj,ho',hd⟩,l2 fun j o' hj ho' hd=>hw ⟨j,o',hj,ho',hd⟩]
  rw[this]
  exact hF _ _ _ h.st
end canon
def A16 (ops:Array Oper) (order kinds:List Nat) (ea:Nat→Bool) (cm:Nat→Nat→Bool):Bool:=
 A7a ops&&Region.noSelect ops&&Nat.beq order.length ops.size&&(List.range ops.size).all (fun i=>order.contains i)&&order.all (fun i=>Nat.blt i ops.size)&&
 (List.range order.length).all (fun k=>!(ea k)||Nat.blt 0 (kinds.getD k 0))&&
 (List.range order.length).all fun k=>(List.range k).all fun j=>!(Nat.beq (order.getD j 0) (order.getD k 0))&&
  (!Nat.blt 0 (kinds.getD j 0)||(ea k||Afg ops (order.getD k 0) (order.getD j 0)))&&(!Nat.blt 1 (kinds.getD k 0)||(Afg ops (order.getD k 0) (order.getD j 0)||cm j k))&&
  match ops[order.getD j 0]?,ops[order.getD k 0]? with
  |some o,some o'=>(match o.dst with|some d=>o'.dst !=some d|none=>true)&&(!Bth ops o o'||Region.waitsFor .any ops (order.getD k 0) (order.getD j 0))
  |_,_=>true
def B1n (ops:Array Oper) (order:List Nat) (ea:Nat→Bool):Bool:=(List.range order.length).all fun k=>!(ea k)||(List.range k).all fun j=>!(ea j)||match ops[order.getD j 0]?,ops[order.getD k 0]? with
 |some o,some o'=>(match o.dst with|some d=>!((o'.looksAt ops).contains d)|none=>true)
 |_,_=>true
theorem Bvt {ops:Array Oper} {order:List Nat} {ea:Nat→Bool} (h:B1n ops order ea=true):∀j k o o' d,j <k→k <order.length→ea j=true→ea k=true→ops[order.getD j 0]?=some o→ops[order.getD k 0]?=some o'→o.dst=some d→d∉o'.looksAt ops:=fun j k o o' d di hk hj he ho ho' hd hm=>by
 have h1:=List.all_eq_true.1 h k (List.mem_range.2 hk)
 rw[he,Bool.not_true,Bool.false_or] at h1
 have h2:=List.all_eq_true.1 h1 j (List.mem_range.2 di)
 rw[hj,Bool.not_true,Bool.false_or,ho,ho'] at h2
 simp only[hd] at h2
 have h3:(o'.looksAt ops).contains d=true:=by simpa using hm
 rw[h3] at h2
 cases h2
theorem Bly {ops:Array Oper} {order kinds:List Nat} {ea:Nat→Bool} {cm:Nat→Nat→Bool} (h:A16 ops order kinds ea cm=true):Azf ops order.length (fun k=>order.getD k 0) (fun k=>Nat.blt 0 (kinds.getD k 0)) ea∧
  order.length=ops.size∧∀k,k <order.length→Nat.blt 1 (kinds.getD k 0)=true→∀j,j <k→Afg ops (order.getD k 0) (order.getD j 0)=true∨cm j k=true:=by
 simp only[A16,Bool.and_eq_true] at h
 obtain⟨⟨⟨⟨⟨⟨h1,h2⟩,h3⟩,h4⟩,h5⟩,wm⟩,h6⟩:=h
 have hp:∀j k,j <k→k <order.length→_:=fun j k di hk=>List.all_eq_true.1 (List.all_eq_true.1 h6 k (List.mem_range.2 hk)) j (List.mem_range.2 di)
 refine⟨⟨h1,h2,fun k hk=>?_,fun j k di hk e=>?_,fun i hi=>?_,fun j k o o' d di hk ho ho' hd=>?_,fun j k o o' d di hk ho ho' hc=>?_,fun j k di hk hm he=>?_,fun k hk he=>?_⟩,Nat.eq_of_beq_eq_true h3,fun k hk hs j di=>?_⟩
 ·have:=List.all_eq_true.1 h5 (order.getD k 0) (by rw[List.getD_eq_getElem?_getD,List.getElem?_eq_getElem hk];exact List.getElem_mem hk)
  exact Nat.le_of_ble_eq_true this
 ·have:=hp j k di hk
  simp only[Bool.and_eq_true] at this
  have h7:=this.1.1.1
  have e':order.getD j 0=order.getD k 0:=e
  rw[e'] at h7
  simp at h7
 ·have:=List.all_eq_true.1 h4 i (List.mem_range.2 hi)
  have hm:i∈order:=by simpa using this
  obtain⟨k,hk,he⟩:=List.getElem_of_mem hm
  exact⟨k,hk,by rw[List.getD_eq_getElem?_getD,List.getElem?_eq_getElem hk];exact he⟩
 ·have:=hp j k di hk
  simp only[Bool.and_eq_true,ho,ho'] at this
  have h7:=this.2.1
  simpa[hd] using h7
 ·have:=hp j k di hk
  simp only[Bool.and_eq_true,ho,ho'] at this
  have h7:=this.2.2
  have hs:Bth ops o o'=true:=by
   unfold Bth
   rcases hc with⟨hd,hm⟩|⟨hd,hm⟩
   ·simp[hd,hm]
   ·simp[hd,hm]
  simpa[hs] using h7
 ·have:=hp j k di hk
  simp only[Bool.and_eq_true] at this
  have h7:=this.1.1.2
  have ky:Nat.blt 0 (kinds.getD j 0)=true:=hm
  rw[ky,he] at h7
  exact h7
 ·have h7:=List.all_eq_true.1 wm k (List.mem_range.2 hk)
  rw[he] at h7
  exact h7
 ·have:=hp j k di hk
  simp only[Bool.and_eq_true] at this
  have h7:=this.1.2
  rw[hs] at h7
  simpa using h7
structure T6 where
 x:A
 nx:Nat
 o:AE
 k:Nat
 ps:List Prop
def EK (F:Nat→Prop) (N:Nm) (nx:Nat) (o:AE) (R:World) (f:T6) (v:Value) (R':World):Prop:=
 ∃F' N',Bp F' N' f.nx f.o R'∧Step F N nx o R F' N' f.nx f.o R'∧Hv F' N' f.nx R' f.x v∧(f.k≤1→Below R.heap.size R R')
section
variable {F:Nat→Prop} {N:Nm} {nx:Nat} {o:AE} {R R':World}
theorem Pj (ob:Obj):Below R.heap.size R (R.alloc ob):=(Below.refl _ _).alloc (Nat.le_refl _) _
theorem HL.up {N':Nm} {nx':Nat} {xs:List A} {vs:List Value} (st:Ext F N nx R F N' nx' R') (h:HL F N nx R xs vs):HL F N' nx' R' xs vs:=h.step st
theorem Asp (h:Bp F N nx o R) {ob:Ob} {B:Obj} {k:Nat} {ps:List Prop} {x:A} {v:Value} (aw:∀N' g,foot N' nx ob g→g=N'.b nx) (gb:Ext F N nx R F (N.setB nx R.heap.size) (nx+1) (R.alloc B)→(R.alloc B).heap[(N.setB nx R.heap.size).b nx]?=some B→Zo F (N.setB nx R.heap.size) (nx+1) (R.alloc B) nx ob) (hx:Hv F (N.setB nx R.heap.size) (nx+1) (R.alloc B) x v):
  EK F N nx o R ⟨x,nx+1,(nx,some ob)::o,k,ps⟩ v (R.alloc B):=by
 have hb:(R.alloc B).heap[(N.setB nx R.heap.size).b nx]?=some B:=by
  show(R.alloc B).heap[Kq N.b nx R.heap.size nx]?=_
  rw[C2]
  exact heap_alloc_new R _
 have ao:∀i,i <nx→(N.setB nx R.heap.size).b i=N.b i:=fun i hi=>EF _ _ (by omega)
 obtain⟨h1,h2⟩:=h.upd (R':=R.alloc B) (N':=N.setB nx R.heap.size) (nx':=nx+1) (o':=(nx,some ob)::o) (i0:=nx) (ob0:=ob) (T:=fun _=>False) rfl rfl rfl (by simp)
  (fun g hg=>hg.elim) (fun g hg _=>Below.heap_alloc R _ g hg) (by omega) ao (fun _ _=>rfl)
  (fun i aj hi hl=>by rw[AG,if_neg hi] at hl;exact⟨hl,fun _ _ hf=>hf.elim⟩)
  (fun aj hl=>by rw[AG,if_pos rfl] at hl;exact(Option.some.inj hl).symm) (by omega) (fun st=>gb st hb)
  (fun g hg=> .inl (by rw[aw _ g hg];show R.heap.size≤Kq N.b nx R.heap.size nx;rw[C2];exact Nat.le_refl _))
 exact⟨F,N.setB nx R.heap.size,h1,h2,hx,fun _=>Pj _⟩
theorem Bdz (h:Bp F N nx o R) {i:Nat} {ob aj:Ob} {B B0:Obj} {ps:List Prop} {x:A} {v:Value} (hl:Ai i o=some ob) (hf:foot N i ob (N.b i)) (fw:∀g,foot N i aj g→g=N.b i) (hb:R.heap[N.b i]?=some B0) (gb:{R with heap:=R.heap.setIfInBounds (N.b i) B}.heap[N.b i]?=some B→Zo F N nx {R with heap:=R.heap.setIfInBounds (N.b i) B} i aj) (hx:Hv F N nx {R with heap:=R.heap.setIfInBounds (N.b i) B} x v):
  EK F N nx o R ⟨x,nx,(i,some aj)::o,2,ps⟩ v {R with heap:=R.heap.setIfInBounds (N.b i) B}:=by
 have hi:=(h.ob i _ hl).1
 have ae:=KA hb
 have su:{R with heap:=R.heap.setIfInBounds (N.b i) B}.heap[N.b i]?=some B:=by simp[ae]
 obtain⟨h1,h2⟩:=h.upd (R':={R with heap:=R.heap.setIfInBounds (N.b i) B}) (N':=N) (nx':=nx) (o':=(i,some aj)::o) (i0:=i) (ob0:=aj) (T:=fun g=>g=N.b i) rfl rfl rfl (by simp)
  (fun g hg=>⟨i,_,hl,by rw[show g=N.b i from hg];exact hf⟩) (fun g _ hg=>by have ao:¬N.b i=g:=fun e=>hg e.symm;simp[ao]) (Nat.le_refl _) (fun _ _=>rfl) (fun _ _=>rfl)
  (fun j pf hj bm=>by
   rw[AG,if_neg hj] at bm
   refine⟨bm,fun g hg e=>hj ?_⟩
   have e':g=N.b i:=e
   subst e'
   exact h.sep j i pf _ _ bm hl hg hf)
  (fun pf bm=>by rw[AG,if_pos rfl] at bm;exact(Option.some.inj bm).symm) hi
  (fun _=>gb su) (fun g hg=> .inr (fw g hg))
 exact⟨F,N,h1,h2,hx,fun hk=>by cases hk with|step hk=>cases hk⟩
theorem Bqi (h:Bp F N nx o R) {cs:List A} {vs:List Value} (hc:HL F N nx R cs vs) (e:TypeId) (k:Nat) (ps:List Prop):
  EK F N nx o R ⟨.own nx 0,nx+1,(nx,some (.box e cs))::o,k,ps⟩ (.pointer (some ⟨R.heap.size,0,none⟩)) (R.alloc (.cells vs.toArray e (0,0))):=by
 refine Asp h (fun N' g hg=>hg) (fun st hb=>⟨vs,hc.step st,hb⟩) ?_
 have:(⟨R.heap.size,0,none⟩:Addr)=⟨(N.setB nx R.heap.size).b nx,0,none⟩:=by
  show _=(⟨Kq N.b nx R.heap.size nx,0,none⟩:Addr)
  rw[C2]
 rw[this]
 exact .own (by omega)
def Ai5 (o:AE):Option Nat→AE
 |none=>o
 |some i=>(i,none)::o
theorem A9a {d:Option Nat} {i:Nat} {ob:Ob} (h:Ai i (Ai5 o d)=some ob):Ai i o=some ob∧d≠some i:=by
 cases d with
 |none=>exact⟨h,fun e=>by cases e⟩
 |some j=>
  have h':Ai i ((j,none)::o)=some ob:=h
  rw[AG] at h'
  by_cases e:i=j
  ·rw[if_pos e] at h';cases h'
  ·rw[if_neg e] at h';exact⟨h',fun e'=>e (Option.some.inj e').symm⟩
theorem A2v (h:Bp F N nx o R) {d:Option Nat} {e:TypeId} {size:Nat} {els:FY} {zs:List Value} {v:Value} {k:Nat} {ps:List Prop} (nj:R'.os=R.os) (d9:R'.tape=R.tape) (ik:R'.output=R.output) (bc:R.heap.size≤R'.heap.size) (hd:∀i,d=some i→∃e' s' els',Ai i o=some (.arr e' s' els')) (keep:∀g,g <R.heap.size→(∀i,d=some i→Hz (N.q i)≠some g)→R'.heap[g]?=R.heap[g]?) (gd:PE R' e size v els.n zs) (hels:DT F N nx R els size zs) (db:∀g,Hz v=some g→R.heap.size≤g∨∃i,d=some i∧Hz (N.q i)=some g) (hk:k≤1→d=none):
  EK F N nx o R ⟨.sq nx,nx+1,(nx,some (.arr e size els))::Ai5 o d,k,ps⟩ v R':=by
 let T:Nat→Prop:=fun g=>∃i,d=some i∧Hz (N.q i)=some g
 have hq:(N.setQ nx v).q nx=v:=C2 _ _ _
 have ao:∀i,i <nx→(N.setQ nx v).q i=N.q i:=fun i hi=>EF _ _ (by omega)
 have lk:∀g,g <R.heap.size→¬T g→R'.heap[g]?=R.heap[g]?:=fun g hg ht=>keep g hg fun i hi hb=>ht ⟨i,hi,hb⟩
 obtain⟨h1,h2⟩:=h.upd (R':=R') (N':=N.setQ nx v) (nx':=nx+1) (o':=(nx,some (.arr e size els))::Ai5 o d) (i0:=nx) (ob0:=.arr e size els) (T:=T) nj d9 ik bc
  (fun g ⟨i,hi,hg⟩=>by obtain⟨e',s',els',hl⟩:=hd i hi;exact⟨i,_,hl,hg⟩) lk (by omega) (fun _ _=>rfl) ao
  (fun i aj hi hl=>by
   rw[AG,if_neg hi] at hl
   obtain⟨g1,g2⟩:=A9a hl
   refine⟨g1,fun g hg ⟨j,hj,hb⟩=>?_⟩
   obtain⟨e',s',els',bm⟩:=hd j hj
   have:=h.sep i j aj _ g g1 bm hg hb
   subst this
   exact g2 hj)
  (fun aj hl=>by rw[AG,if_pos rfl] at hl;exact(Option.some.inj hl).symm) (by omega)
  (fun st=>⟨zs,by rw[hq];exact gd,(hels.step st).2⟩)
  (fun g hg=>by
   have ah:Hz ((N.setQ nx v).q nx)=some g:=hg
   rw[hq] at ah
   exact db g ah)
 refine⟨F,N.setQ nx v,h1,h2,?_,fun ak=>⟨nj,d9,ik,bc,fun g hg=>lk g hg fun⟨i,hi,_⟩=>by rw[hk ak] at hi;cases hi⟩⟩
 have:=Hv.sq (F:=F) (N:=N.setQ nx v) (nx:=nx+1) (R:=R') (i:=nx) (by omega)
 rwa[hq] at this
theorem A2u (h:Bp F N nx o R) {i:Nat} {e:TypeId} {ob:Ob} {bl:List A} {us us':List Value} {ps:List Prop} (hl:Ai i o=some ob) (hf:∀g,g=N.b i→foot N i ob g) (hc':HW F N nx R bl us') (hb:R.heap[N.b i]?=some (.cells us.toArray e (0,0))) {x:A} {v:Value} (hx:∀R',Ext F N nx R F N nx R'→Hv F N nx R' x v):
  EK F N nx o R ⟨x,nx,(i,some (.rcd e bl))::o,2,ps⟩ v (R.setRow (N.b i) us'.toArray):=by
 have hi:=(h.ob i _ hl).1
 obtain⟨h1,h2⟩:=h.upd (R':=R.setRow (N.b i) us'.toArray) (N':=N) (nx':=nx) (o':=(i,some (.rcd e bl))::o) (i0:=i) (ob0:=.rcd e bl) (T:=fun g=>g=N.b i) rfl rfl rfl (by simp)
  (fun g hg=>⟨i,_,hl,hf g hg⟩) (fun g _ hg=>setRow_other R _ g _ (fun e=>hg e)) (Nat.le_refl _) (fun _ _=>rfl) (fun _ _=>rfl)
  (fun j aj hj bm=>by
   rw[AG,if_neg hj] at bm
   refine⟨bm,fun g hg e=>hj ?_⟩
   subst e
   exact h.sep j i aj _ _ bm hl hg (hf _ rfl))
  (fun aj bm=>by rw[AG,if_pos rfl] at bm;exact(Option.some.inj bm).symm) hi
  (fun st=>⟨us',hc'.step st,setRow_heap R _ _ _ e _ hb⟩) (fun g hg=> .inr hg)
 exact⟨F,N,h1,h2,hx _ (h2.ext h),fun hk=>by cases hk with|step hk=>cases hk⟩
theorem Asq (h:Bp F N nx o R) {i:Nat} {e:TypeId} {xs bl:List A} {us us':List Value} {ps:List Prop} (hl:Ai i o=some (.rcd e xs)) (hc':HW F N nx R bl us') (hb:R.heap[N.b i]?=some (.cells us.toArray e (0,0))) {x:A} {v:Value} (hx:∀R',Ext F N nx R F N nx R'→Hv F N nx R' x v):
  EK F N nx o R ⟨x,nx,(i,some (.rcd e bl))::o,2,ps⟩ v (R.setRow (N.b i) us'.toArray):=
 A2u h hl (fun _ hg=>hg) hc' hb hx
theorem Bdy (h:Bp F N nx o R) {i:Nat} {e:TypeId} {cs dx:List A} {vs vs':List Value} {ps:List Prop} (hl:Ai i o=some (.box e cs)) (hc':HL F N nx R dx vs') (hb:R.heap[N.b i]?=some (.cells vs.toArray e (0,0))):
  EK F N nx o R ⟨.v undef,nx,(i,some (.box e dx))::o,2,ps⟩ undef (R.setRow (N.b i) vs'.toArray):=by
 have hi:=(h.ob i _ hl).1
 obtain⟨h1,h2⟩:=h.upd (R':=R.setRow (N.b i) vs'.toArray) (N':=N) (nx':=nx) (o':=(i,some (.box e dx))::o) (i0:=i) (ob0:=.box e dx) (T:=fun g=>g=N.b i) rfl rfl rfl (by simp)
  (fun g hg=>⟨i,_,hl,hg⟩) (fun g _ hg=>setRow_other R _ g _ (fun e=>hg e)) (Nat.le_refl _) (fun _ _=>rfl) (fun _ _=>rfl)
  (fun j aj hj bm=>by
   rw[AG,if_neg hj] at bm
   refine⟨bm,fun g hg e=>hj ?_⟩
   subst e
   exact h.sep j i aj _ _ bm hl hg rfl)
  (fun aj bm=>by rw[AG,if_pos rfl] at bm;exact(Option.some.inj bm).symm) hi
  (fun st=>⟨vs',hc'.step st,setRow_heap R _ _ _ e _ hb⟩) (fun g hg=> .inr hg)
 exact⟨F,N,h1,h2,.v _,fun hk=>by cases hk with|step hk=>cases hk⟩
theorem B1i (h:Bp F N nx o R) {i:Nat} {e:TypeId} {size:Nat} {els els':FY} {nt:List Value} {ps:List Prop} (hl:Ai i o=some (.arr e size els)) (nj:R'.os=R.os) (d9:R'.tape=R.tape) (ik:R'.output=R.output) (bc:R.heap.size≤R'.heap.size) (keep:∀g,g <R.heap.size→Hz (N.q i)≠some g→R'.heap[g]?=R.heap[g]?) (gd:PE R' e size (N.q i) els'.n nt) (hels:DT F N nx R els' size nt) {v:Value} {x:A} (hx:∀F' N',Hv F' N' nx R' x v):
  EK F N nx o R ⟨x,nx,(i,some (.arr e size els'))::o,2,ps⟩ v R':=by
 have hi:=(h.ob i _ hl).1
 obtain⟨h1,h2⟩:=h.upd (R':=R') (N':=N) (nx':=nx) (o':=(i,some (.arr e size els'))::o) (i0:=i) (ob0:=.arr e size els') (T:=fun g=>Hz (N.q i)=some g) nj d9 ik bc
  (fun g hg=>⟨i,_,hl,hg⟩) keep (Nat.le_refl _) (fun _ _=>rfl) (fun _ _=>rfl)
  (fun j aj hj bm=>by
   rw[AG,if_neg hj] at bm
   exact⟨bm,fun g hg e=>hj (h.sep j i aj _ g bm hl hg e)⟩)
  (fun aj bm=>by rw[AG,if_pos rfl] at bm;exact(Option.some.inj bm).symm) hi
  (fun st=>⟨nt,gd,(hels.step st).2⟩) (fun g hg=> .inr hg)
 exact⟨F,N,h1,h2,hx F N,fun hk=>by cases hk with|step hk=>cases hk⟩
theorem Az0 {i k:Nat}:∀{cs:List A},(∀(p:Nat) (c:TC) (l:List (U c)),cs[p]?≠some (.sl c l))→Xr i k cs=cs
 | [],_=>rfl
 |x::r,h=>by
  have hr:=Az0 (i:=i) (k:=k) (cs:=r) fun p c l=>h (p+1) c l
  cases x<;>first|exact absurd rfl (h 0 _ _)|(unfold Xr;rw[hr])
theorem HL.own {i k:Nat} {y:Value} (hi:i <nx) (hy:y=fam (N.q i) (k+1)):∀{cs:List A} {vs:List Value} {col:Nat},(∀(p:Nat) (c:TC) (l:List (U c)),cs[p]?=some (.sl c l)→p=col)→(∃(c:TC) (l:List (U c)),cs[col]?=some (.sl c l))→HL F N nx R cs vs→HL F N nx R (Xr i k cs) (vs.set col y)
 | [],_,col,_,⟨c,l,h⟩,_=>by cases col<;>cases h
 |x::r,_,0,h1,⟨c,l,h2⟩,h=>by
  obtain⟨w,ws,rfl,_,h4⟩:=h.inv
  cases h2
  have:Xr i k r=r:=Az0 fun p c l hp=>by have:=h1 (p+1) c l hp;omega
  show HL F N nx R (.iv i k::Xr i k r) (y::ws)
  rw[this,hy]
  exact HL.cons (.iv hi) h4
 |x::r,_,col+1,h1,⟨c,l,h2⟩,h=>by
  obtain⟨w,ws,rfl,h3,h4⟩:=h.inv
  have ih:=HL.own hi hy (cs:=r) (col:=col) (fun p c l hp=>by have:=h1 (p+1) c l hp;omega) ⟨c,l,h2⟩ h4
  cases x<;>first|(have:=h1 0 _ _ rfl;omega)|(unfold Xr;exact HL.cons h3 ih)
theorem HL.moved {N':Nm} {nx' i i' k:Nat} (st:Ext F N nx R F N' nx' R') (bq:i' <nx') (hf:fam (N'.q i') (k+1)=fam (N.q i) (k+1)):∀{cs:List A} {vs:List Value},HL F N nx R (Xr i k cs) vs→HL F N' nx' R' (Xr i' k cs) vs
 | [],_,h=>by rw[h.inv0];exact HL.nil
 | x::r,vs,h=>by
  cases x
  case sl c l=>
   obtain⟨w,ws,rfl,h1,h2⟩:=h.inv
   rw[h1.iv_inv.2,←hf]
   exact HL.cons (.iv bq) (HL.moved st bq hf h2)
  all_goals
   obtain⟨w,ws,rfl,h1,h2⟩:=h.inv
   exact HL.cons (h1.step st) (HL.moved st bq hf h2)
theorem Bmd (h:Bp F N nx o R) (hb:Below R.heap.size R R') {x:A} {v:Value} {k:Nat} {ps:List Prop} (_hlt:R.heap.size <R'.heap.size) (hx:Hv (fun g=>F g∨g=R.heap.size) N nx R' x v):EK F N nx o R ⟨x,nx,o,k,ps⟩ v R':=by
 have st:Step F N nx o R (fun g=>F g∨g=R.heap.size) N nx o R':=
  ⟨Nat.le_refl _,fun _ _=>rfl,fun _ _=>rfl,fun _ h=> .inl h,fun g hg=>by
   rcases hg with hg|hg
   ·exact .inl hg
   ·exact .inr (.inr (by omega)),fun _ h=> .inl h,hb.os,hb.tape,hb.output,hb.size,fun g hg _=>hb.block g hg⟩
 have ft:=st.ext h
 refine⟨_,N,⟨fun g hg=>?_,fun i ob hi=>⟨(h.ob i ob hi).1,(h.ob i ob hi).2.step ft (h.ob i ob hi).1 fun g hg=>hb.block g ((h.ob i ob hi).2.lt hg)⟩,fun i ob g hi hg hf=>?_,h.sep,h.gl.step ft⟩,st,hx,fun _=>hb⟩
 ·rcases hg with hg|hg
  ·exact Nat.lt_of_lt_of_le (h.flt g hg) hb.size
  ·omega
 ·rcases hf with hf|hf
  ·exact h.ff i ob g hi hg hf
  ·have:=(h.ob i ob hi).2.lt hg;omega
end
theorem Bm5 {zs vs:List Value} {k size off:Nat} (_h1:off+vs.length≤size) (_h2:k*size+size≤zs.length) (j:Nat):
  ((zs.take (k*size+off)++vs++zs.drop (k*size+off+vs.length)).drop (j*size)).take size=
   if j=k then((zs.drop (k*size)).take size).take off++vs++((zs.drop (k*size)).take size).drop (off+vs.length) else(zs.drop (j*size)).take size:=by
 have get:∀m,(zs.take (k*size+off)++vs++zs.drop (k*size+off+vs.length))[m]?=if m <k*size+off then zs[m]? else if m <k*size+off+vs.length then vs[m - (k*size+off)]? else zs[m]?:=fun m=>by
  rw[List.append_assoc,List.getElem?_append,List.length_take,Nat.min_eq_left (by omega)]
  by_cases c1:m <k*size+off
  ·rw[if_pos c1,if_pos c1,List.getElem?_take,if_pos c1]
  ·rw[if_neg c1,if_neg c1,List.getElem?_append]
   by_cases c2:m <k*size+off+vs.length
   ·rw[if_pos (by omega),if_pos c2]
   ·rw[if_neg (by omega),if_neg c2,List.getElem?_drop]
    congr 1
    omega
 apply List.ext_getElem?
 intro m
 rw[List.getElem?_take,List.getElem?_drop]
 by_cases hm:m <size
 ·rw [if_pos hm,get]
  by_cases hj:j=k
  ·subst hj
   rw[if_pos rfl,List.append_assoc,List.getElem?_append,List.length_take,List.length_take,List.length_drop]
   have hlen:min off (min size (zs.length - j*size))=off:=by omega
   rw[hlen]
   by_cases c1:m <off
   ·rw[if_pos (by omega),if_pos c1,List.getElem?_take,if_pos c1,List.getElem?_take,if_pos hm,List.getElem?_drop]
   ·rw[if_neg (by omega),if_neg c1,List.getElem?_append]
    by_cases c2:m <off+vs.length
    ·rw[if_pos (by omega),if_pos (by omega)]
     congr 1
     omega
    ·rw[if_neg (by omega),if_neg (by omega),List.getElem?_drop,List.getElem?_take,if_pos (by omega),List.getElem?_drop]
     congr 1
     omega
  ·rw[if_neg hj,List.getElem?_take,if_pos hm,List.getElem?_drop]
   rcases Nat.lt_or_gt_of_ne hj with ae|ig
   ·have:j*size+size≤k*size:=by rw[←Nat.succ_mul];exact Nat.mul_le_mul_right _ ae
    rw[if_pos (by omega)]
   ·have:k*size+size≤j*size:=by rw[←Nat.succ_mul];exact Nat.mul_le_mul_right _ ig
    rw[if_neg (by omega),if_neg (by omega)]
 ·rw[if_neg hm]
  symm
  rw[List.getElem?_eq_none]
  by_cases hj:j=k
  ·rw[if_pos hj]
   simp only[List.length_append,List.length_take,List.length_drop]
   omega
  ·rw[if_neg hj,List.length_take]
   omega
def Bha (k off:Nat) (us:List A):FY→Option (FY×List Prop)
 | .lst cs=>some (.lst (cs.set k (A9x off us (K7 cs k))),[])
 | .ty c l=>match dec c (A9x off us (enc c (l.getD k (Av c)))) with
  |some (d,ps)=>some (.ty c (l.set k d),ps)
  |none=>none
section
variable {F:Nat→Prop} {N:Nm} {nx:Nat} {R:World} {size:Nat}
theorem Bn0 {k off:Nat} {us:List A} {vs:List Value} {els els':FY} {ps:List Prop} {zs:List Value} (he:Bha k off us els=some (els',ps)) (hp:∀p∈ps,p) (hr:DT F N nx R els size zs) (hu:HL F N nx R us vs) (hk:k <els.n) (ho:off+vs.length≤size):els'.n=els.n∧DT F N nx R els' size (zs.take (k*size+off)++vs++zs.drop (k*size+off+vs.length)):=by
 have hle:k*size+size≤zs.length:=by rw[hr.1,←Nat.succ_mul];exact Nat.mul_le_mul_right _ hk
 have hlen:(zs.take (k*size+off)++vs++zs.drop (k*size+off+vs.length)).length=zs.length:=by
  simp only[List.length_append,List.length_take,List.length_drop]
  omega
 have ca:=HL.put (off:=off) hu (hr.2 k hk)
 have main:els'.n=els.n→(∀j,j <els.n→j≠k→els'.nth j=els.nth j)→HL F N nx R (els'.nth k) (((zs.drop (k*size)).take size).take off++vs++((zs.drop (k*size)).take size).drop (off+vs.length))→
   els'.n=els.n∧DT F N nx R els' size (zs.take (k*size+off)++vs++zs.drop (k*size+off+vs.length)):=fun hn hj fe=>by
  refine⟨hn,by rw[hlen,hr.1,hn],fun j r9=>?_⟩
  rw[hn] at r9
  rw[Bm5 ho hle]
  by_cases e:j=k
  ·subst e
   rw[if_pos rfl]
   exact fe
  ·rw[if_neg e,hj j r9 e]
   exact hr.2 j r9
 unfold Bha at he
 split at he
 ·rename_i cs
  cases he
  refine main (by simp[FY.n]) (fun j hj e=>?_) ?_
  ·show K7 _ j=K7 _ j
   simp only[Fc,List.getD_eq_getElem?_getD]
   rw[List.getElem?_set_ne (fun e'=>e e'.symm)]
  ·show HL F N nx R (K7 _ k) _
   have ak:k <cs.length:=hk
   rw[Fc,List.getD_eq_getElem?_getD,List.getElem?_set_self ak]
   exact ca
 ·rename_i c l
  split at he<;>try (cases he;done)
  rename_i d qs hd
  cases he
  refine main (by simp[FY.n]) (fun j hj e=>?_) ?_
  ·show enc c _=enc c _
   rw[List.getD_eq_getElem?_getD,List.getD_eq_getElem?_getD,List.getElem?_set_ne (fun e'=>e e'.symm)]
  ·show HL F N nx R (enc c _) _
   have ak:k <l.length:=hk
   rw[List.getD_eq_getElem?_getD,List.getElem?_set_self ak]
   exact Aiu hd hp _ ca
end
section
variable {P:Program} {w:World}
theorem Bww {e:TypeId} {size n:Nat} {v:Value} {zs:List Value} (h:PE w e size v n zs) (_hn:0 <n):∃g cap cur,v=.slice (some ⟨g,0,none⟩) n (cap+1)∧w.heap[g]?=some (.cells cur e (0,0))∧n≤cap+1∧cap+1≤maxLen∧cur.size=(cap+1)*size∧cur.toList.take (n*size)=zs:=by
 rcases h.2 with⟨_,_,h0⟩|h2
 ·omega
 ·exact h2
theorem Bwx {e:TypeId} {size n g cap o:Nat} {cur:Array Value} {zs vs:List Value} (_hz:zs.length=n*size) (hg:w.heap[g]?=some (.cells cur e (0,0))) (hn:n≤cap+1) (hm:cap+1≤maxLen) (hs:cur.size=(cap+1)*size) (ht:cur.toList.take (n*size)=zs) (_ho:o+vs.length≤n*size):
  PE (w.setRow g (cur.toList.take o++vs++cur.toList.drop (o+vs.length)).toArray) e size (.slice (some ⟨g,0,none⟩) n (cap+1)) n (zs.take o++vs++zs.drop (o+vs.length)):=by
 have hle:n*size≤cur.toList.length:=by rw[Array.length_toList,hs];exact Nat.mul_le_mul_right _ hn
 refine⟨?_,.inr ⟨g,cap,_,rfl,setRow_heap w g cur _ e _ hg,hn,hm,?_,?_⟩⟩
 ·simp only[List.length_append,List.length_take,List.length_drop]
  omega
 ·simp only[List.size_toArray,List.length_append,List.length_take,List.length_drop,Array.length_toList]
  rw[Array.length_toList] at hle
  omega
 ·show List.take (n*size) (cur.toList.take o++vs++cur.toList.drop (o+vs.length))=_
  rw[←ht,List.append_assoc,List.append_assoc,List.take_append,List.take_take,List.length_take,Nat.min_eq_left (by omega:o≤cur.toList.length),Nat.min_eq_right (by omega:o≤n*size)]
  rw[List.take_append,List.take_of_length_le (by omega:vs.length≤n*size - o),List.take_take,Nat.min_eq_left (by omega:o≤n*size)]
  congr 2
  rw[List.take_drop,List.drop_take]
  congr 1
  rw[List.drop_take]
  congr 1
  omega
theorem Awa {y:Value} {size m:Nat} {us:List Value} (h:A6y w y size m us) {w':World} (hc:∀ad v,w.cell? ad=some v→w'.cell? ad=some v):(Builtin.lenOf y).run P w'=.ok m w'∧∀k,k≤m→(Builtin.firstCells size k y).run P w'=.ok (us.take (k*size)).toArray w':=by
 obtain⟨A,c,rfl,h1⟩:=h.val
 refine⟨rfl,fun k hk=>?_⟩
 have hl:=h.len
 cases A with
 | none=>
  have hm:m=0∨0 <m:=by omega
  rcases hm with hm|hm
  ·subst hm
   have:us=[]:=List.eq_nil_of_length_eq_zero (by simpa using hl)
   subst this
   simp[Builtin.firstCells]
  ·obtain⟨ad,e,_⟩:=h.cells _ _ _ rfl hm
   cases e
 | some ad=>
  have hle:k*size≤us.length:=by rw[hl];exact Nat.mul_le_mul_right _ hk
  have gq:=run_loadCells_list (P:=P) w' ad (us.take (k*size)) (fun j u hj=>by
   have hm:0 <m:=by
    rcases Nat.eq_zero_or_pos m with h0|h0
    ·subst h0
     have:us=[]:=List.eq_nil_of_length_eq_zero (by simpa using hl)
     subst this
     rw[List.take_nil] at hj
     cases j<;>cases hj
    ·exact h0
   obtain⟨ad',e,cq⟩:=h.cells _ _ _ rfl hm
   cases e
   rw[List.getElem?_take] at hj
   split at hj<;>try (cases hj;done)
   exact hc _ _ (cq j u hj))
  rw[List.length_take,Nat.min_eq_left hle] at gq
  simp[Builtin.firstCells,gq]
end
theorem Oy:∀{l:List A} {j:Nat} {x:A},freeL l=true→l[j]?=some x→x.free=true
 | [],j,x,_,h=>by cases j<;>cases h
 |y::r,0,x,hf,h=>by cases h;unfold freeL at hf;rw[Bool.and_eq_true] at hf;exact hf.1
 |y::r,j+1,x,hf,h=>by unfold freeL at hf;rw[Bool.and_eq_true] at hf;exact Oy (l:=r) hf.2 h
theorem A78 (c:TC) (d:U c):∀x∈enc c d,x.free=true:=fun x hx=>by
 have:=Uk c d x hx
 cases x<;>first|(unfold A.free;rfl)|exact this.elim
section
variable {F:Nat→Prop} {N N':Nm} {nx nx':Nat} {R:World}
theorem Hv.free {x:A} {y:Value} (h:Hv F N nx R x y):x.free=true→Hv F N' nx' R x y:=by
 induction h with
 |v x=>intro _;exact .v x
 | @sl c l a cap ad h1 h2 h3 h4 ih=>intro _;exact .sl ad h1 h2 h3 fun i d j x y hd hx hy=>ih i d j x y hd hx hy (A78 c d x (List.mem_of_getElem? hx))
 | @ref l ad h1 h2 h3 ih=>intro hf;unfold A.free at hf;exact .ref ad h1 h2 fun j x y hx hy=>ih j x y hx hy (Oy hf hx)
 |own h=>intro hf;unfold A.free at hf;cases hf
 |ownx h=>intro hf;unfold A.free at hf;cases hf
 |sq h=>intro hf;unfold A.free at hf;cases hf
 |dq h=>intro hf;unfold A.free at hf;cases hf
 |iv h=>intro hf;unfold A.free at hf;cases hf
 |de h=>intro hf;unfold A.free at hf;cases hf
 |ie h=>intro hf;unfold A.free at hf;cases hf
 |vw h=>intro hf;unfold A.free at hf;cases hf
 |el h=>intro hf;unfold A.free at hf;cases hf
 |mp h=>intro hf;unfold A.free at hf;cases hf
 |nl a=>intro _;exact .nl a
 |it q vs y h=>intro hf;unfold A.free at hf;cases hf
 |fn vs us h1 _ h3 _ jh ji=>intro hf;unfold A.free at hf;rw[Bool.and_eq_true] at hf;exact .fn vs us h1 (fun j x v hx hv=>jh j x v hx hv (Oy hf.1 hx)) h3 fun j x v hx hv=>ji j x v hx hv (Oy hf.2 hx)
 |agg vs h1 _ ih=>intro hf;unfold A.free at hf;exact .agg vs h1 fun j x v hx hv=>ih j x v hx hv (Oy hf hx)
 |tup vs h1 _ ih=>intro hf;unfold A.free at hf;exact .tup vs h1 fun j x v hx hv=>ih j x v hx hv (Oy hf hx)
 |dead y=>intro hf;unfold A.free at hf;cases hf
 |av h1 h2=>intro _;exact .av h1 h2
 |rv vs h1 _ h3 ih=>intro hf;unfold A.free at hf;exact .rv vs h1 (fun j x v hx hv=>ih j x v hx hv (Oy hf hx)) h3
 |vr ad h h1=>intro hf;unfold A.free at hf;cases hf
 |vd h=>intro hf;unfold A.free at hf;cases hf
 |yl h=>intro hf;unfold A.free at hf;cases hf
theorem HL.free:∀{xs:List A} {vs:List Value},freeL xs=true→HL F N nx R xs vs→HL F N' nx' R xs vs
 | [],_,_,h=>h
 |x::r,_,hf,⟨v,vs,h1,h2,h3⟩=>by unfold freeL at hf;rw[Bool.and_eq_true] at hf;exact⟨v,vs,h1,h2.free hf.1,HL.free hf.2 h3⟩
theorem Bp.noObj {o:AE} (h:Bp F N nx o R):Bp F N' nx' [] R:=⟨h.flt,(fun i ob hi=>by cases hi),(fun i ob g hi=>by cases hi),(fun i j x y g hi=>by cases hi),h.gl⟩
end
theorem Bp.widen {F F':Nat→Prop} {N N':Nm} {nx:Nat} {o:AE} {R R':World} (h:Bp F N nx o R) (hp:Bp F' N' 0 [] R') (st:Step F N 0 [] R F' N' 0 [] R'):Bp F' N nx o R'∧Step F N nx o R F' N nx o R':=
 h.frame (o1:=[]) (o1':=[]) (fun i ob hi=>by cases hi) ⟨Nat.le_refl _,fun _ _=>rfl,fun _ _=>rfl,st.f,st.fnew,fun g ⟨i,ob,hi,_⟩=>(by cases hi),st.os,st.tape,st.output,st.size,st.keep⟩ hp.noObj fun i ob hi=> .inr ⟨hi,rfl⟩
theorem Bxm {α:Type} {vs L:List α} {base k m:Nat} {y:α} (_hk:k <m) (_hlen:L.length=m) (_hb:base+m≤vs.length) (h:∀j,j <m→vs[base+j]?=L[j]?):
  vs.take (base+k)++[y]++vs.drop (base+k+1)=vs.take base++L.set k y++vs.drop (base+m):=by
 have hL:L=(vs.drop base).take m:=by
  refine List.ext_getElem? fun j=>?_
  rw[List.getElem?_take]
  by_cases hj:j <m
  ·rw[if_pos hj,List.getElem?_drop,h j hj]
  ·rw[if_neg hj,List.getElem?_eq_none (by omega)]
 subst hL
 refine List.ext_getElem? fun j=>?_
 simp only[List.getElem?_append,List.length_append,List.length_take,List.length_drop,List.length_set,List.length_singleton,List.getElem?_take,List.getElem?_drop,List.getElem?_set]
 rcases Nat.lt_or_ge j base with h1|h1
 ·rw[if_pos (by omega),if_pos (by omega),if_pos (by omega),if_pos (by omega),if_pos (by omega),if_pos (by omega)]
 ·rcases Nat.lt_or_ge j (base+m) with h2|h2
  ·rcases Nat.lt_trichotomy j (base+k) with h3|h3|h3
   ·rw[if_pos (by omega),if_pos (by omega),if_pos (by omega),if_pos (by omega),if_neg (by omega),if_neg (by omega),if_pos (by omega)]
    congr 1;omega
   ·subst h3
    rw[if_pos (by omega),if_neg (by omega),if_pos (by omega),if_neg (by omega),if_pos (by omega),if_pos (by omega),show base+k - min (base+k) vs.length=0 by omega]
    rfl
   ·rw[if_neg (by omega),if_pos (by omega),if_neg (by omega),if_neg (by omega),if_pos (by omega)]
    congr 1;omega
  ·rw[if_neg (by omega),if_neg (by omega)]
   congr 1;omega
def KC (size:Nat):Nat→List A→List (List A)
 |0,_=>[]
 |n+1,l=>l.take size::KC size n (l.drop size)
theorem O5 (size:Nat):∀(n:Nat) (l:List A),(KC size n l).length=n
 |0,_=>rfl
 |n+1,l=>by unfold KC;rw[List.length_cons,O5 size n]
theorem Acp (size:Nat):∀(n:Nat) (l:List A) (k:Nat),k <n→K7 (KC size n l) k=(l.drop (k*size)).take size
 |0,_,_,h=>by cases h
 |n+1,l,0,_=>by unfold KC;simp[K7]
 |n+1,l,k+1,h=>by
  unfold KC
  show K7 (KC size n (l.drop size)) k=_
  rw[Acp size n _ k (by omega),List.drop_drop,Nat.succ_mul,Nat.add_comm]
def A1g (P:Program) (e:TypeId) (sz:Nat):Bool:=match P.info? e with
 |some i=>match i.zero with
  |some z=>Nat.beq i.size sz&&(Nat.beq z.cells.size sz&&(Nat.ble 1 sz&&Nat.ble i.bytes 256))
  |none=>false
 |none=>false
theorem Bb2 {P:Program} {e:TypeId} {sz:Nat} (h:A1g P e sz=true):∃i z,P.info? e=some i∧i.zero=some z∧i.size=sz∧z.cells.size=sz∧0 <sz∧i.bytes≤256:=by
 unfold A1g at h
 split at h<;>try (cases h;done)
 rename_i i hi
 split at h<;>try (cases h;done)
 rename_i z hz
 simp only[Bool.and_eq_true] at h
 obtain⟨h1,h2,h3,h4⟩:=h
 exact⟨i,z,hi,hz,Nat.eq_of_beq_eq_true h1,Nat.eq_of_beq_eq_true h2,Nat.le_of_ble_eq_true h3,Nat.le_of_ble_eq_true h4⟩
def cellsOf (s:St) (G:AQ) (v:Operand):Option (List A):=match s.ev G v with
 |some x=>match Aci x with
  |some us=>bif Qi s.o us then(bif M3 us then some us else none) else none
  |none=>none
 |none=>none
def Af (n:Nat):Prop:=n≤549755813888
instance (n:Nat):Decidable (Af n):=inferInstanceAs (Decidable (n≤549755813888))
def Arx (E:Env) (s:St) (e:TypeId):Option T6:=match(E.P.info? e).bind (·.zero) with
 |some z=>some ⟨.own s.nx 0,s.nx+1,(s.nx,some (.box e (toL z.cells.toList)))::s.o,1,[]⟩
 |none=>none
def Bzm:A→Option (List A)
 | .av c n l=>some [.av c n l]
 | .rv xs=>some xs
 |_=>none
def Bpn (s:St) (G:AQ) (e:TypeId) (v:Operand):Option T6:=match s.ev G v with
 | some x=>match Aci x with
  |some us=>bif Qi s.o us then some ⟨.own s.nx 0,s.nx+1,(s.nx,some (.box e us))::s.o,1,[]⟩ else none
  |none=>match Bzm x with
   |some xs=>some ⟨.own s.nx 0,s.nx+1,(s.nx,some (.rcd e xs))::s.o,1,[]⟩
   |none=>none
 |none=>none
def B6j (c:TC) (n:Nat) (l:List (U c)):(c':TC)→Nat→List (U c')→Option (List (U c')×List Prop):=fun c' m _=>match TC.same c c' with
 |some h=>bif Nat.beq n m then some (RQ h.down l,[]) else none
 |none=>none
def B6h (u:A) (len k:Nat):(c:TC)→Nat→List (U c)→Option (List (U c)×List Prop):=fun c n l=>bif Nat.beq n len then(match dec c [u] with
 |some (d,ps)=>some (l.set k d,(k <n)::ps)
 |none=>none) else none
def Bss (c:TC) (m:Nat) (l':List (U c)) (len k:Nat):(c':TC)→Nat→List (U c')→Option (List (U c')×List Prop):=fun c' n l=>match TC.same c c' with
 |some h=>bif Nat.beq n len then some (l.take k++(RQ h.down l'++l.drop (k+m)),[k+m≤n]) else none
 |none=>none
theorem Bwk {vs M:List Value} {base n:Nat} (hM:(vs.drop base).take n=M) (k m:Nat) (_hkm:k+m≤n):vs.take (base+k)=vs.take base++M.take k∧vs.drop (base+k+m)=M.drop (k+m)++vs.drop (base+n):=by
 constructor
 ·rw[←hM,List.take_add,List.take_take,Nat.min_eq_left (by omega)]
 ·rw[←hM,List.drop_take,List.drop_drop]
  have e:vs.drop (base+n)=(vs.drop (base+(k+m))).drop (n - (k+m)):=by rw[List.drop_drop];congr 1;omega
  rw[e,List.take_append_drop,Nat.add_assoc]
def ivN (o:AE):List A→Option (List Prop)
 | []=>some []
 |x::r=>bif M3 [x]&&Qi o [x] then ivN o r else none
theorem Brm {F:Nat→Prop} {N:Nm} {nx:Nat} {o:AE} {R:World} (h:Bp F N nx o R):∀{xs:List A} {vs:List Value} {ps:List Prop},ivN o xs=some ps→(∀p∈ps,p)→HL F N nx R xs vs→∀c∈vs,c.oneCell'=true
 | [],_,_,_,_,hl,c,hc=>by rw[hl.inv0] at hc;cases hc
 | x::r,_,ps,hi,hp,hl,c,hc=>by
  obtain⟨v,vs,rfl,h3,h4⟩:=hl.inv
  unfold ivN at hi
  ·cases hb:(M3 [x]&&Qi o [x]) with
   |false=>rw[hb] at hi;cases hi
   |true=>
    rw[hb] at hi
    rw[Bool.and_eq_true] at hb
    rcases List.mem_cons.1 hc with rfl|hc
    ·exact Agr h hb.1 hb.2 (HL.cons h3 HL.nil) _ (List.mem_cons_self ..)
    ·exact Brm h hi hp h4 c hc
def Bk9 (E:Env) (s:St) (G:AQ) (t:TypeId) (x v:Operand):Option T6:=match s.ev G v,s.ev G x with
 | some (.av c n l),some (.own i off)=>match Ai i s.o,Gv E.P t with
  |some (.rcd e xs),some m=>bif Nat.beq m n then(match VZ (B6j c n l) xs off with
   |some (bl,ps)=>some ⟨.v undef,s.nx,(i,some (.rcd e bl))::s.o,2,ps⟩
   |none=>none) else none
  |some (.box e cs),some m=>bif Nat.beq off 0&&(Nat.beq m n&&Nat.beq m cs.length) then some ⟨.v undef,s.nx,(i,some (.rcd e [.av c n l]))::s.o,2,[]⟩ else none
  |_,_=>none
 | some (.av c n l),some (.ownx i base len k)=>match Ai i s.o,Gv E.P t with
  |some (.rcd e xs),some m=>bif Nat.beq m n then(match VZ (Bss c n l len k) xs base with
   |some (bl,ps)=>some ⟨.v undef,s.nx,(i,some (.rcd e bl))::s.o,2,ps⟩
   |none=>none) else none
  |_,_=>none
 |some (.rv ys),some (.own i 0)=>match Ai i s.o,Gv E.P t with
  |some (.rcd e xs),some m=>bif Nat.beq m (Ah8 ys)&&Nat.beq m (Ah8 xs) then some ⟨.v undef,s.nx,(i,some (.rcd e ys))::s.o,2,[]⟩ else none
  |some (.box e cs),some m=>bif Nat.beq m (Ah8 ys)&&Nat.beq m cs.length then some ⟨.v undef,s.nx,(i,some (.rcd e ys))::s.o,2,[]⟩ else none
  |_,_=>none
 |some (.agg us),some (.own i off)=>match Ai i s.o,Gv E.P t,ivN s.o us with
  |some (.box e cs),some m,some ps=>bif Nat.beq m us.length&&Nat.ble (off+us.length) cs.length then some ⟨.v undef,s.nx,(i,some (.box e (A9x off us cs)))::s.o,2,ps⟩ else none
  |_,_,_=>none
 |_,_=>none
def Bg9 (E:Env) (s:St) (G:AQ) (t:TypeId) (x v:Operand):Option T6:=
 match cellsOf s G v with
 | some us=>match Gv E.P t with
  | some n=>bif Nat.beq n us.length then(match s.ev G x with
   | some (.own i off)=>match Ai i s.o with
    |some (.box e cs)=>bif Nat.ble (off+n) cs.length then some ⟨.v undef,s.nx,(i,some (.box e (A9x off us cs)))::s.o,2,[]⟩ else none
    |some (.rcd e xs)=>bif Nat.ble off (Ah8 xs) then(match A5f us xs off with
     |some (bl,ps)=>some ⟨.v undef,s.nx,(i,some (.rcd e bl))::s.o,2,ps⟩
     |none=>none) else none
    |_=>none
   | some (.ownx i base len k)=>match Ai i s.o with
    |some (.box e cs)=>match us with
     | [u]=>bif Nat.ble (base+len) cs.length then some ⟨.v undef,s.nx,(i,some (.box e (A9x base (Bnz k u 0 ((cs.drop base).take len)) cs)))::s.o,2,[k <len]⟩ else none
     |_=>none
    | some (.rcd e xs)=>match us with
     | [u]=>match VZ (B6h u len k) xs base with
      |some (bl,ps)=>some ⟨.v undef,s.nx,(i,some (.rcd e bl))::s.o,2,ps⟩
      |none=>none
     |_=>none
    |_=>none
   | some (.el i k sz off)=>match Ai i s.o with
    |some (.arr e size els)=>bif Nat.beq size sz then(bif Nat.ble (off+n) size then(match Bha k off us els with
     |some (els',ps)=>some ⟨.v undef,s.nx,(i,some (.arr e size els'))::s.o,2,(k <els.n)::ps⟩
     |none=>none) else none) else none
    |_=>none
   |_=>none) else none
  |none=>none
 |none=>Bk9 E s G t x v
def Bnt (z:List A):Nat→List A
 |0=>[]
 |n+1=>z++Bnt z n
def Bc6:Nat→Nat→Ae→List A
 |_,0,_=>[]
 |k,n+1,l=> .v (BN (l.getD k 0))::Bc6 (k+1) n l
def Bdd:A→Option (List A)
 | .av .u8 n l=>bif Nat.ble n 64 then some (Bc6 0 n l) else none
 |x=>Aci x
def A3v (s:St) (G:AQ):List (Nat×Operand)→Option (List (Nat×List A))
 | []=>some []
 | (i,o)::r=>match s.ev G o with
  | some x=>match Bdd x with
   |some us=>bif Qi s.o us then(match A3v s G r with
    |some l=>some ((i,us)::l)
    |none=>none) else none
   |none=>none
  |none=>none
theorem Azp {F:Nat→Prop} {N:Nm} {nx:Nat} {R:World}:∀(k n:Nat) (l:Ae),k+n=l.length→HL F N nx R (Bc6 k n l) ((l.drop k).map (sv .u8))
 |k,0,l,h=>by
  rw[List.drop_eq_nil_of_le (by omega)]
  exact HL.nil
 |k,n+1,l,h=>by
  rw[List.drop_eq_getElem_cons (by omega),List.map_cons]
  refine HL.cons ?_ (Azp (k+1) n l (by omega))
  have:l.getD k 0=l[k]:=by rw[List.getD_eq_getElem?_getD,List.getElem?_eq_getElem (by omega)];rfl
  rw[this]
  exact .v _
theorem Blz {F:Nat→Prop} {N:Nm} {nx:Nat} {o:AE} {R:World} (h:Bp F N nx o R) {x:A} {us:List A} {y:Value} (hc:Bdd x=some us) (hs:Qi o us=true) (hx:Hv F N nx R x y):HL F N nx R us y.cells.toList:=by
 unfold Bdd at hc
 split at hc
 ·rename_i n l
  cases hb:Nat.ble n 64 with
  |false=>rw[hb] at hc;cases hc
  |true=>
   rw[hb] at hc
   cases hc
   obtain⟨_,e1,rfl⟩:=hx.av_inv
   have:=Azp (F:=F) (N:=N) (nx:=nx) (R:=R) 0 n l (by omega)
   simpa[Value.cells] using this
 ·exact Ub h hc hs hx
theorem Ajy {E:Env} {Z:FG} {F:Nat→Prop} {N:Nm} {s:St} {a:Act} {R:World} {G:AQ} (h:Rel Z F N s a R) (hG:P6 (BH a) G):∀{l:List (Nat×Operand)} {ps:List (Nat×List A)},A3v s G l=some ps→A1x F N s.nx R ps (l.map fun(i,x)=>(i,a.eval x))
 | [],ps,he=>by cases he;rfl
 | (i,o)::r,ps,he=>by
  unfold A3v at he
  split at he<;>try (cases he;done)
  rename_i x hx
  split at he<;>try (cases he;done)
  rename_i us fy
  cases hs:Qi s.o us with
  |false=>rw[hs] at he;cases he
  |true=>
   rw[hs] at he
   simp only[cond_true] at he
   split at he<;>try (cases he;done)
   rename_i l' hl
   cases he
   exact⟨_,_,rfl,Blz h.hp fy hs (BL h hG hx).2,Ajy (E:=E) h hG hl⟩
def T9 (E:Env) (s:St) (G:AQ) (t:TypeId) (len:Nat) (parts:List (Nat×Operand)):Option T6:=
 match E.P.underlying t with
 | some (.slice e)=>match E.P.info? e with
  | some i=>match i.zero with
   |some z=>match A3v s G parts with
    | some ps=>bif Nat.ble (len*i.size) 16777216 then(bif Nat.beq z.cells.size i.size then(bif Nat.ble 1 i.size then
      (match A8h (fun k=>some (k*i.size,i.size)) (Bnt (toL z.cells.toList) len) ps with
      |some cs=>bif QZ s.o (.lst (KC i.size len cs)) then(bif Nat.beq len 0 then some ⟨.nl,s.nx,s.o,1,[]⟩ else some ⟨.sq s.nx,s.nx+1,(s.nx,some (.arr e i.size (.lst (KC i.size len cs))))::s.o,1,[]⟩) else none
      |none=>none) else none) else none) else none
    |none=>none
   |none=>none
  |none=>none
 |_=>none
def Arh (E:Env) (s:St) (G:AQ) (t:TypeId) (len cap:Operand):Option T6:=
 match E.P.underlying t with
 | some (.slice e)=>match E.tc e with
  |some c=>match s.raw G len,s.raw G cap with
   | some (.int _ l),some (.int _ m)=>bif A1g E.P e (size c) then
     some ⟨.sq s.nx,s.nx+1,(s.nx,some (.arr e (size c) (.ty c (List.replicate l.toNat (Av c)))))::s.o,1,[0≤l∧l≤m∧m≤549755813888]⟩ else none
   |_,_=>none
  |none=>none
 |_=>none
def Bp3 (o:AE) (e:TypeId) (sz:Nat):A→Option (Option Nat×FY)
 | .sq i=>match Ai i o with
  |some (.arr e' size els)=>bif Nat.beq e' e then(bif Nat.beq size sz then some (some i,els) else none) else none
  |_=>none
 | .nl=>some (none,.lst [])
 | .v x=>bif E5 x then some (none,.lst []) else none
 |_=>none
def Brk (d:Option TypeDesc):Bool:=match d with
 |some .string=>true
 |_=>false
def B10 (d:Option TypeDesc):Bool:=match d with
 |some (.slice _)=>true
 |_=>false
def Br8 (E:Env) (s:St) (G:AQ) (u:TypeId) (sz:Nat) (y:Operand):Option (FY×List Prop):=
 bif Brk (E.P.underlying u) then(match s.raw G y with
  |some (.string b)=>bif Nat.beq sz 1 then some (.ty .u8 b.data.toList,[]) else none
  |_=>none)
 else bif B10 (E.P.underlying u) then(match s.ev G y with
  |some y'=>B2z s.o sz y'
  |none=>none) else none
def Buz (E:Env) (s:St) (G:AQ) (t u:TypeId) (x y:Operand):Option T6:=
 match E.P.underlying t with
 | some (.slice e)=>match Gv E.P e with
  | some sz=>bif A1g E.P e sz then(match Br8 E s G u sz y with
   | some (b,ps)=>match s.ev G x with
    | some (.vw i z lo n true)=>match Ai i s.o with
     | some (.arr _ size els)=>bif Nat.beq z sz then(bif Nat.beq size sz then(match A17 (Alu lo n els) b with
      |some (r,qs)=>match r.norm (E.tc e) with
       |(r',rs)=>some ⟨.sq s.nx,s.nx+1,(s.nx,some (.arr e sz r'))::s.o,1,(lo+n≤els.n∧0 <b.n∧Af (n+b.n))::(ps++(qs++rs))⟩
      |none=>none) else none) else none
     |_=>none
    | some x'=>match Bp3 s.o e sz x' with
     | some (d,a)=>match A17 a b with
      |some (r,qs)=>match r.norm (E.tc e) with
       |(r',rs)=>some ⟨.sq s.nx,s.nx+1,(s.nx,some (.arr e sz r'))::Ai5 s.o d,bif d.isSome then 2 else 1,Af (a.n+b.n)::(ps++(qs++rs))⟩
      |none=>none
     |none=>none
    |none=>none
   |none=>none) else none
  |none=>none
 |_=>none
def B5a (_:Env) (_:St) (_:AQ) (_ _:TypeId) (_ _:Operand):Option T6:=none
def Z1 (E:Env) (s:St) (G:AQ) (src dst:TypeId) (x:Operand):Option T6:=
 match E.P.underlying src,E.P.underlying dst with
 |some .string,some (.slice e)=>match E.P.underlying e,s.raw G x with
  |some (.int .u8),some (.string b)=>some ⟨.sl .u8 b.data.toList,s.nx,s.o,1,[]⟩
  |_,_=>none
 |_,_=>none
def Bhx (E:Env) (s:St) (G:AQ) (f:Operand) (args:List Operand):Option Arr:=match s.ev G f with
 | some (.yl i)=>match Ai i s.o with
  |some (.lp fn b _ _ _)=>match Agb s G args with
   |some xs=>E.C (ylK+(fn*1000+b)) (.yl i::xs) s.nx s.o
   |none=>none
  |_=>none
 |_=>none
def Zr (E:Env) (s:St) (G:AQ) (f:Operand) (args:List Operand):Option T6:=match ND E f args with
 |some (_,x)=>some ⟨x,s.nx,s.o,1,[]⟩
 | none=>match Al9 E s G f args with
  |some (k,x,nx',o',ps)=>some ⟨x,nx',o',bif Nat.ble k 1 then 1 else 2,ps⟩
  |none=>match Bhx E s G f args with
   |some (_,x,nx',o',ps)=>some ⟨x,nx',o',2,ps⟩
   |none=>none
def A5c (E:Env) (s:St) (G:AQ) (t:TypeId) (x:Operand):Option T6:=match E.P.underlying t,s.raw G x with
 |some .string,some (.string b)=>some ⟨.own s.nx 0,s.nx+1,(s.nx,some (.sit b 0))::s.o,1,[]⟩
 |_,_=>none
def Bjy (s:St) (G:AQ) (it:Operand):Option T6:=match s.ev G it with
 |some (.own i off)=>bif Nat.beq off 0 then(match Ai i s.o with
  |some (.sit b pos)=>some ⟨.it (decide (pos <b.size)) [.int .i64 (pos:Nat),.int .i32 ((Utf8.decode b pos).1:Nat)],s.nx,(i,some (.sit b (bif decide (pos <b.size) then pos+(Utf8.decode b pos).2 else pos)))::s.o,2,[]⟩
  |_=>none) else none
 |_=>none
def A3j (E:Env) (s:St) (t:TypeId):Option T6:=bif A8x E t then some ⟨.mp s.nx,s.nx+1,(s.nx,some (.map .str .i64 []))::s.o,1,[]⟩ else none
def A3c (E:Env) (s:St) (G:AQ) (t:TypeId) (m k x:Operand):Option T6:=match s.ev G m,s.raw G k,s.raw G x with
 |some y,some (.string b),some (.int .i64 n)=>match Bwj s.o y with
  |some (i,l)=>bif A8x E t then some ⟨.v undef,s.nx,(i,some (.map .str .i64 (Aak l b n)))::s.o,2,[]⟩ else none
  |none=>none
 |_,_,_=>none
def Bmc (E:Env) (s:St) (G:AQ) (o:Oper):Option T6:=
 match o.op with
 | .alloc e=>Arx E s e
 | .box e v=>Bpn s G e v
 | .store t x v=>Bg9 E s G t x v
 | .buildSlice t len parts=>T9 E s G t len parts.toList
 | .makeSlice t len cap=>Arh E s G t len cap
 | .convert src dst x=>Z1 E s G src dst x
 | .call {callee:=.builtin .append,args,argTypes}=>match args.toList,argTypes.toList with
  | [x,y],[t,u]=>Buz E s G t u x y
  |_,_=>none
 | .call {callee:=.builtin .copy,args,argTypes}=>match args.toList,argTypes.toList with
  | [x,y],[t,u]=>B5a E s G t u x y
  |_,_=>none
 | .call {callee:=.value f,args, .. }=>Zr E s G f args.toList
 | .range t x=>A5c E s G t x
 | .next it true=>Bjy s G it
 | .makeMap t none=>A3j E s t
 | .mapUpdate t m k x=>A3c E s G t m k x
 |_=>none
def Atk:Op→Bool
 | .alloc _=>true
 | .box _ _=>true
 | .store _ _ _=>true
 | .buildSlice _ _ _=>true
 | .makeSlice _ _ _=>true
 | .call {callee:=.builtin .append, .. }=>true
 | .call {callee:=.builtin .copy, .. }=>true
 | .range _ _=>true
 | .next _ _=>true
 | .makeMap _ _=>true
 | .mapUpdate _ _ _ _=>true
 |_=>false
def opE (E:Env) (s:St) (G:AQ) (o:Oper):Option T6:=
 bif Atk o.op then Bmc E s G o else match Bx3 E s G o with
  |some (x,ps)=>some ⟨x,s.nx,s.o,0,ps⟩
  |none=>Bmc E s G o
section
variable {E:Env} {Z:FG} {F:Nat→Prop} {N:Nm} {s:St} {a:Act} {R:World} {G:AQ}
theorem Ar7 (h:Rel Z F N s a R) (hG:P6 (BH a) G) {v:Operand} {us:List A} (he:cellsOf s G v=some us):HL F N s.nx R us (a.eval v).cells.toList∧∀c∈(a.eval v).cells.toList,c.oneCell'=true:=by
 unfold cellsOf at he
 split at he<;>try (cases he;done)
 rename_i x hx
 split at he<;>try (cases he;done)
 rename_i us' hc
 cases h1:Qi s.o us' with
 |false=>rw[h1] at he;cases he
 | true=>
  cases h2:M3 us' with
  |false=>rw[h1,h2] at he;cases he
  |true=>
   rw[h1,h2] at he
   cases he
   have:=Ub h.hp hc h1 (BL h hG hx).2
   exact⟨this,Agr h.hp h2 h1 this⟩
theorem Bxl (h:Rel Z F N s a R) (hG:P6 (BH a) G) {t:TypeId} {x v:Operand} {f:T6} (he:Bk9 E s G t x v=some f) (hp:∀p∈f.ps,p):
  ∃R',(Instr.storeAt t (a.eval x) (a.eval v)).run E.P R=.ok () R'∧EK F N s.nx s.o R f undef R':=by
 unfold Bk9 at he
 split at he<;>try (cases he;done)
 ·rename_i c n l i off hv hx
  have hx':=(BL h hG hx).2.own_inv
  obtain⟨e1,e2,e3⟩:=(BL h hG hv).2.av_inv
  split at he<;>try (cases he;done)
  rotate_left
  ·rename_i e cs m hl hm
   cases hb:(Nat.beq off 0&&(Nat.beq m n&&Nat.beq m cs.length)) with
   |false=>rw[hb] at he;cases he
   | true=>
    rw[hb] at he
    cases he
    rw[Bool.and_eq_true,Bool.and_eq_true] at hb
    obtain rfl:=Nat.eq_of_beq_eq_true hb.1
    obtain rfl:=Nat.eq_of_beq_eq_true hb.2.1
    have w2:=Nat.eq_of_beq_eq_true hb.2.2
    obtain⟨_,vs,g1,g2⟩:=h.hp.ob i _ hl
    have ec:(a.eval v).cells.toList=l.map (sv c):=by rw[e3];simp[Value.cells]
    have hlen:(a.eval v).cells.toList.length=m:=by rw[ec,List.length_map,e2]
    have l2:=g1.length
    have af:=FD (P:=E.P) (t:=t) hx'.2 g2 (by rw[hm,hlen]) (by omega) (fun w hw=>by
     rw[ec] at hw
     obtain⟨d,_,rfl⟩:=List.mem_map.1 hw
     exact A5z e1 d)
    rw[hlen,ec,List.take_zero,List.nil_append,List.drop_of_length_le (by omega),List.append_nil] at af
    have hw:HW F N s.nx R [.av c m l] (l.map (sv c)):=⟨.agg (l.map (sv c)).toArray,[],by simp[Value.cells],.av e1 e2,fun e=>(by cases e),rfl⟩
    exact⟨_,af,A2u h.hp hl (fun _ hg=>hg) hw g2 fun _ _=> .v _⟩
  rename_i e xs m hl hm
  cases hb:Nat.beq m n with
  |false=>rw[hb] at he;cases he
  | true=>
   rw[hb,cond_true] at he
   obtain rfl:=Nat.eq_of_beq_eq_true hb
   split at he<;>try (cases he;done)
   rename_i bl ps hr
   cases he
   obtain⟨_,vs,g1,g2⟩:=h.hp.ob i _ hl
   obtain⟨c',m',l1,l',q1,q2,q3,q4,_,q6⟩:=UQ g1 hr
   unfold B6j at q1
   split at q1<;>try (cases q1;done)
   rename_i hh _
   obtain⟨hh⟩:=hh
   subst hh
   cases az:Nat.beq m m' with
   |false=>rw[az] at q1;cases q1
   | true=>
    rw[az] at q1
    cases q1
    obtain rfl:=Nat.eq_of_beq_eq_true az
    have ec:(a.eval v).cells.toList=l.map (sv c):=by rw[e3];simp[Value.cells]
    have hlen:(a.eval v).cells.toList.length=m:=by rw[ec,List.length_map,e2]
    have af:=FD (P:=E.P) (t:=t) hx'.2 g2 (by rw[hm,hlen]) (by omega) (fun w hw=>by
     rw[ec] at hw
     obtain⟨d,_,rfl⟩:=List.mem_map.1 hw
     exact A5z q2 d)
    rw[hlen,ec] at af
    exact⟨_,af,Asq h.hp hl (q6 e2) g2 fun _ _=> .v _⟩
 ·rename_i c n l i base len k hv hx
  have hx':=(BL h hG hx).2.ownx_inv
  obtain⟨e1,e2,e3⟩:=(BL h hG hv).2.av_inv
  split at he<;>try (cases he;done)
  rename_i e xs m hl hm
  cases hb:Nat.beq m n with
  |false=>rw[hb] at he;cases he
  | true=>
   rw[hb,cond_true] at he
   obtain rfl:=Nat.eq_of_beq_eq_true hb
   split at he<;>try (cases he;done)
   rename_i bl ps hr
   cases he
   obtain⟨_,vs,g1,g2⟩:=h.hp.ob i _ hl
   obtain⟨c',m',l1,l',q1,q2,q3,q4,q5,q6⟩:=UQ g1 hr
   unfold Bss at q1
   split at q1<;>try (cases q1;done)
   rename_i hh _
   obtain⟨hh⟩:=hh
   subst hh
   cases az:Nat.beq m' len with
   |false=>rw[az] at q1;cases q1
   | true=>
    rw[az] at q1
    cases q1
    obtain rfl:=Nat.eq_of_beq_eq_true az
    have hk:k+m≤m':=hp _ (List.mem_cons_self ..)
    have ec:(a.eval v).cells.toList=l.map (sv c):=by rw[e3];simp[Value.cells]
    have hlen:(a.eval v).cells.toList.length=m:=by rw[ec,List.length_map,e2]
    have af:=FD (P:=E.P) (t:=t) hx'.2 g2 (by rw[hm,hlen]) (by omega) (fun w hw=>by
     rw[ec] at hw
     obtain⟨d,_,rfl⟩:=List.mem_map.1 hw
     exact A5z q2 d)
    rw[hlen,ec] at af
    have hM:(vs.drop base).take m'=l1.map (sv c):=by
     refine List.ext_getElem? fun j=>?_
     rw[List.getElem?_take,List.getElem?_map]
     by_cases hj:j <m'
     ·rw[if_pos hj,List.getElem?_drop,List.getElem?_eq_getElem (by omega:j <l1.length),q5 j _ (List.getElem?_eq_getElem (by omega:j <l1.length))]
      rfl
     ·rw[if_neg hj,List.getElem?_eq_none (by omega)]
      rfl
    obtain⟨w1,w2⟩:=Bwk hM k m hk
    have e5:vs.take (base+k)++l.map (sv c)++vs.drop (base+k+m)=vs.take base++(l1.take k++(l++l1.drop (k+m))).map (sv c)++vs.drop (base+m'):=by
     rw[w1,w2,List.map_append,List.map_append,List.map_take,List.map_drop]
     simp[List.append_assoc]
    rw[e5] at af
    exact⟨_,af,Asq h.hp hl (q6 (by rw[List.length_append,List.length_append,List.length_take,List.length_drop];show min k l1.length+(l.length+(l1.length - (k+m)))=m';omega)) g2 fun _ _=> .v _⟩
 ·rename_i ys i hv hx
  have hx':=(BL h hG hx).2.own_inv
  obtain⟨us,e1,e2⟩:=(BL h hG hv).2.rv_inv
  split at he<;>try (cases he;done)
  rotate_left
  ·rename_i e cs m hl hm
   cases hb:(Nat.beq m (Ah8 ys)&&Nat.beq m cs.length) with
   |false=>rw[hb] at he;cases he
   |true=>
    rw[hb] at he
    cases he
    rw[Bool.and_eq_true] at hb
    have w1:=Nat.eq_of_beq_eq_true hb.1
    have w2:=Nat.eq_of_beq_eq_true hb.2
    obtain⟨_,vs,g1,g2⟩:=h.hp.ob i _ hl
    have ec:(a.eval v).cells.toList=us:=by rw[e1];simp[Value.cells]
    have l1:=e2.len
    have l2:=g1.length
    have af:=FD (P:=E.P) (t:=t) hx'.2 g2 (by rw[hm,ec];congr 1;omega) (by rw[ec];omega) (by rw[ec];exact e2.one)
    rw[ec,List.take_zero,List.nil_append,List.drop_of_length_le (by omega),List.append_nil] at af
    exact⟨_,af,A2u h.hp hl (fun _ hg=>hg) e2 g2 fun _ _=> .v _⟩
  rename_i e xs m hl hm
  cases hb:(Nat.beq m (Ah8 ys)&&Nat.beq m (Ah8 xs)) with
  |false=>rw[hb] at he;cases he
  |true=>
   rw[hb] at he
   cases he
   rw[Bool.and_eq_true] at hb
   have w1:=Nat.eq_of_beq_eq_true hb.1
   have w2:=Nat.eq_of_beq_eq_true hb.2
   obtain⟨_,vs,g1,g2⟩:=h.hp.ob i _ hl
   have ec:(a.eval v).cells.toList=us:=by rw[e1];simp[Value.cells]
   have l1:=e2.len
   have l2:=g1.len
   have af:=FD (P:=E.P) (t:=t) hx'.2 g2 (by rw[hm,ec];congr 1;omega) (by rw[ec];omega) (by rw[ec];exact e2.one)
   rw[ec,List.take_zero,List.nil_append,List.drop_of_length_le (by omega),List.append_nil] at af
   exact⟨_,af,Asq h.hp hl e2 g2 fun _ _=> .v _⟩
 ·rename_i us i off hv hx
  have hx':=(BL h hG hx).2.own_inv
  obtain⟨vy,e1,e2⟩:=(BL h hG hv).2.agg_inv
  split at he<;>try (cases he;done)
  rename_i e cs m ps hl hm hi
  cases hb:(Nat.beq m us.length&&Nat.ble (off+us.length) cs.length) with
  |false=>rw[hb] at he;cases he
  |true=>
   rw[hb] at he
   cases he
   rw[Bool.and_eq_true] at hb
   have w1:=Nat.eq_of_beq_eq_true hb.1
   have w2:=Nat.le_of_ble_eq_true hb.2
   obtain⟨_,vs,g1,g2⟩:=h.hp.ob i _ hl
   have ec:(a.eval v).cells.toList=vy:=by rw[e1];simp[Value.cells]
   have h1:∀c∈(a.eval v).cells.toList,c.oneCell'=true:=by rw[ec];exact Brm h.hp hi hp e2
   have hu:HL F N s.nx R us (a.eval v).cells.toList:=by rw[ec];exact e2
   have hlen:=hu.length
   have lh:=g1.length
   exact⟨_,FD hx'.2 g2 (by rw[hm];congr 1;omega) (by omega) h1,Bdy h.hp hl (HL.put hu g1) g2⟩
theorem B2w (h:Rel Z F N s a R) (hG:P6 (BH a) G) {t:TypeId} {x v:Operand} {f:T6} (he:Bg9 E s G t x v=some f) (hp:∀p∈f.ps,p):
  ∃R',(Instr.storeAt t (a.eval x) (a.eval v)).run E.P R=.ok () R'∧EK F N s.nx s.o R f undef R':=by
 unfold Bg9 at he
 split at he
 rotate_left
 ·exact Bxl h hG he hp
 rename_i us fy
 obtain⟨hu,h1⟩:=Ar7 h hG fy
 have hlen:=hu.length
 split at he<;>try (cases he;done)
 rename_i n hn
 cases hb:Nat.beq n us.length with
 |false=>rw[hb] at he;cases he
 | true=>
  rw[hb] at he
  obtain rfl:=Nat.eq_of_beq_eq_true hb
  simp only[cond_true] at he
  rw[←hlen] at hn
  split at he<;>try (cases he;done)
  ·rename_i i off hx
   have hx':=(BL h hG hx).2.own_inv
   split at he<;>try (cases he;done)
   rotate_left
   ·rename_i e xs hl
    cases az:Nat.ble off (Ah8 xs) with
    |false=>rw[az] at he;cases he
    |true=>
     rw[az,cond_true] at he
     split at he<;>try (cases he;done)
     rename_i bl ps hr
     cases he
     have hle:=Nat.le_of_ble_eq_true az
     obtain⟨_,vs,g1,g2⟩:=h.hp.ob i _ hl
     obtain⟨g3,g4⟩:=A1a hu h1 g1 hr hp (by rw[g1.len];exact hle)
     exact⟨_,FD hx'.2 g2 hn g3 h1,Asq h.hp hl g4 g2 fun _ _=> .v _⟩
   rename_i e cs hl
   cases az:Nat.ble (off+us.length) cs.length with
   |false=>rw[az] at he;cases he
   |true=>
    rw[az] at he
    cases he
    have hle:=Nat.le_of_ble_eq_true az
    obtain⟨_,vs,g1,g2⟩:=h.hp.ob i _ hl
    have lh:=g1.length
    refine⟨_,FD hx'.2 g2 hn (by omega) h1,Bdy h.hp hl (HL.put hu g1) g2⟩
  ·rename_i i base len k hx
   have hx':=(BL h hG hx).2.ownx_inv
   split at he<;>try (cases he;done)
   rotate_left
   ·rename_i e xs hl
    split at he<;>try (cases he;done)
    rename_i u
    split at he<;>try (cases he;done)
    rename_i bl ps hr
    cases he
    obtain⟨_,vs,g1,g2⟩:=h.hp.ob i _ hl
    obtain⟨c,m,l,l',q1,q2,q3,q4,q5,q6⟩:=UQ g1 hr
    unfold B6h at q1
    cases hb:Nat.beq m len with
    |false=>rw[hb] at q1;cases q1
    | true=>
     rw[hb,cond_true] at q1
     obtain rfl:=Nat.eq_of_beq_eq_true hb
     split at q1<;>try (cases q1;done)
     rename_i d qs hd
     cases q1
     have hk:k <m:=hp _ (List.mem_cons_self ..)
     obtain⟨y,ys,hy,s7,hu2⟩:=hu.inv
     have mu:=hu2.inv0
     subst mu
     have h5:=Aiu hd (fun p hm=>hp p (List.mem_cons_of_mem _ hm)) _ (HL.cons s7 HL.nil)
     rw[Ai8 q2] at h5
     obtain⟨v',vs',w1,w2,_⟩:=h5.inv
     have hw:y=sv c d:=by
      cases w1
      exact w2.v_inv
     have af:=FD (P:=E.P) hx'.2 g2 hn (by rw[hy];simp;omega) h1
     rw[hy] at af
     have e1:vs.take (base+k)++[y]++vs.drop (base+k+[y].length)=vs.take base++(l.set k d).map (sv c)++vs.drop (base+m):=by
      show vs.take (base+k)++[y]++vs.drop (base+k+1)=_
      rw[List.map_set,←hw]
      exact Bxm hk (by rw[List.length_map];exact q3) q4 fun j hj=>by
       rw[List.getElem?_map,List.getElem?_eq_getElem (by omega:j <l.length),q5 j _ (List.getElem?_eq_getElem (by omega:j <l.length))]
       rfl
     rw[e1] at af
     exact⟨_,af,Asq h.hp hl (q6 (by rw[List.length_set];exact q3)) g2 fun _ _=> .v _⟩
   rename_i e cs hl
   split at he<;>try (cases he;done)
   rename_i u
   cases az:Nat.ble (base+len) cs.length with
   |false=>rw[az] at he;cases he
   | true=>
    rw[az] at he
    cases he
    have hle:=Nat.le_of_ble_eq_true az
    have hk:k <len:=hp _ (List.mem_singleton.2 rfl)
    obtain⟨_,vs,g1,g2⟩:=h.hp.ob i _ hl
    have lh:=g1.length
    obtain⟨y,ys,hy,s7,hu2⟩:=hu.inv
    have mu:=hu2.inv0
    subst mu
    have ml:=Bk8 s7 ((g1.drop base).take len) (Nat.zero_le k) (by rw[List.length_take,List.length_drop];omega)
    have ca:=HL.put (off:=base) ml g1
    rw[Nat.sub_zero] at ca
    have mg:(((vs.drop base).take len).take k++[y]++((vs.drop base).take len).drop (k+1)).length=len:=by
     simp only[List.length_append,List.length_take,List.length_drop,List.length_cons,List.length_nil]
     omega
    rw[mg] at ca
    have af:=FD (P:=E.P) hx'.2 g2 hn (by rw[hy];simp;omega) h1
    rw[hy] at af
    have e1:vs.take (base+k)++[y]++vs.drop (base+k+[y].length)=vs.take base++(((vs.drop base).take len).take k++[y]++((vs.drop base).take len).drop (k+1))++vs.drop (base+len):=by
     rw[List.take_take,Nat.min_eq_left (by omega),List.drop_take,List.drop_drop]
     have e2:vs.take (base+k)=vs.take base++(vs.drop base).take k:=by rw[List.take_add]
     have e3:vs.drop (base+(k+1))=(vs.drop (base+(k+1))).take (len - (k+1))++vs.drop (base+len):=by
      have:=(List.take_append_drop (len - (k+1)) (vs.drop (base+(k+1)))).symm
      rwa[List.drop_drop,show base+(k+1)+(len - (k+1))=base+len by omega] at this
     rw[e2,show base+k+[y].length=base+(k+1) by simp;omega]
     conv=>lhs;rw[e3]
     simp[List.append_assoc]
    rw[e1] at af
    exact⟨_,af,Bdy h.hp hl ca g2⟩
  ·rename_i i k sz off hx
   have hx':=(BL h hG hx).2.el_inv
   split at he<;>try (cases he;done)
   rename_i e size els hl
   cases az:Nat.beq size sz with
   |false=>rw[az] at he;cases he
   |true=>
   cases hb3:Nat.ble (off+us.length) size with
   |false=>rw[az,hb3] at he;cases he
   | true=>
    rw[az,hb3] at he
    simp only[cond_true] at he
    split at he<;>try (cases he;done)
    rename_i els' qs hels
    cases he
    obtain rfl:=Nat.eq_of_beq_eq_true az
    have hle:=Nat.le_of_ble_eq_true hb3
    have hk:k <els.n:=hp _ (List.mem_cons_self ..)
    obtain⟨_,zs,g1,g2⟩:=h.hp.ob i _ hl
    have hr:DT F N s.nx R els size zs:=⟨g1.1,g2⟩
    obtain⟨r1,r2⟩:=Bn0 hels (fun p hm=>hp p (List.mem_cons_of_mem _ hm)) hr hu hk (by omega)
    obtain⟨g,cap,cur,q1,q2,q3,q4,q5,q6⟩:=Bww g1 (by omega)
    have fe:k*size+size≤els.n*size:=by rw[←Nat.succ_mul];exact Nat.mul_le_mul_right _ hk
    have gd:=Bwx (w:=R) (o:=k*size+off) (vs:=(a.eval v).cells.toList) g1.1 q2 q3 q4 q5 q6 (by omega)
    rw[←q1,←r1] at gd
    have hcur:els.n*size≤cur.toList.length:=by rw[Array.length_toList,q5];exact Nat.mul_le_mul_right _ q3
    have d8:a.eval x=.pointer (some ⟨g,k*size+off,none⟩):=by
     rw[hx'.2]
     show Value.pointer (some ((IN (N.q i)).add _))=_
     rw[q1]
     show Value.pointer (some ((⟨g,0,none⟩:Addr).add _))=_
     rw[D7,Nat.zero_add]
    have af:=FD (P:=E.P) (R:=R) (cs:=cur.toList) d8 (by simpa using q2) hn (by omega) h1
    refine⟨_,af,B1i (R':=R.setRow g (cur.toList.take (k*size+off)++(a.eval v).cells.toList++cur.toList.drop (k*size+off+(a.eval v).cells.toList.length)).toArray) h.hp hl rfl rfl rfl (by simp) (fun g' _ ah=>setRow_other R _ g' _ (fun e=>?_)) gd r2 fun _ _=> .v _⟩
    subst e
    rw[q1] at ah
    exact ah rfl
theorem A5i {F:Nat→Prop} {N:Nm} {nx:Nat} {R:World} {z:List A} {zs:List Value} (h:HL F N nx R z zs):∀n,HL F N nx R (Bnt z n) ((List.replicate n zs).flatten)
 |0=>HL.nil
 |n+1=>by
  unfold Bnt
  rw[List.replicate_succ,List.flatten_cons]
  exact h.append (A5i h n)
theorem Tu (z:Array Value):∀n,(madeCells z (n*z.size)).toList=(List.replicate n z.toList).flatten:=fun n=>by
 apply List.ext_getElem?
 intro m
 by_cases hm:m <n*z.size
 ·have hz:0 <z.size:=by
   rcases Nat.eq_zero_or_pos z.size with h0|h0
   ·rw[h0] at hm;simp at hm
   ·exact h0
  have sg:=Nat.mod_lt m hz
  have e1:(madeCells z (n*z.size)).toList[m]?=some z[m % z.size]:=by
   have:(madeCells z (n*z.size))[m]?=some (z[m % z.size]!):=by simp[madeCells,hm]
   rw[Array.getElem?_toList,this]
   simp[sg]
  rw[e1]
  have key:∀(k i:Nat),i <k*z.size→((List.replicate k z.toList).flatten)[i]?=some (z[i % z.size]'(Nat.mod_lt _ hz)):=by
   intro k
   induction k with
   |zero=>intro i hi;simp at hi
   | succ k ih=>
    intro i hi
    rw[List.replicate_succ,List.flatten_cons,List.getElem?_append]
    by_cases ae:i <z.toList.length
    ·rw[if_pos ae]
     have bu:i <z.size:=by simpa using ae
     simp[bu,Nat.mod_eq_of_lt bu]
    ·rw[if_neg ae]
     have dz:z.size≤i:=by simpa using ae
     rw[Nat.succ_mul] at hi
     rw[show z.toList.length=z.size by simp,ih (i - z.size) (by omega)]
     congr 1
     have:(i - z.size) % z.size=i % z.size:=by
      conv=>rhs;rw[show i=(i - z.size)+z.size by omega,Nat.add_mod_right]
     simp only[this]
  exact(key n m hm).symm
 ·rw[List.getElem?_eq_none (by rw[Array.length_toList,size_madeCells];omega),List.getElem?_eq_none]
  simp only[List.length_flatten,List.map_replicate,Array.length_toList,List.sum_replicate_nat]
  omega
theorem Ao4 {P:Program} {t e:TypeId} {i:TypeInfo} {z:Value} {len:Nat} {parts:List (Nat×Value)} (hu:P.underlying t=some (.slice e)) (hi:P.info? e=some i) (hz:i.zero=some z) (_hs:len*i.size≤16777216) {arr:Array Value} (hf:Instr.fill (fun k=>some (k*i.size,i.size)) (madeCells z.cells (len*i.size)) parts=some arr) (R:World):
  (Instr.buildSlice t len parts.toArray).run P R=.ok (.slice (some ⟨R.heap.size,0,none⟩) len len) (R.alloc (.cells arr e (0,0))):=by
 have g1:¬len*i.size >2^24:=by omega
 have fw:Instr.fill (fun k=>some (k*i.size,i.size)) (Array.map (fun k=>z.cells[k % z.cells.size]!) (Array.range (len*i.size))) parts=some arr:=hf
 by_cases g2:len*i.size=0
 ·have nm:∀f:Nat→Value,Array.map f (Array.range 0)=#[]:=fun f=>Array.eq_empty_of_size_eq_zero (by simp)
  rw[g2,nm] at fw
  simp[Instr.buildSlice,run_underlying hu,sizeOf,typeInfo,hi,g2,nm,fw,newRow]
 ·simp only[Instr.buildSlice,Sem.run_bind,run_underlying hu,Result.andThen_ok,sizeOf,typeInfo,run_program,hi,Sem.run_pure,g1,g2,if_false,zeroValue,hz,fw]
  simp[newRow]
theorem A9f (h:Rel Z F N s a R) (hG:P6 (BH a) G) {u:TypeId} {sz:Nat} {y:Operand} {b:FY} {ps:List Prop} (he:Br8 E s G u sz y=some (b,ps)) (hp:∀p∈ps,p) (hs:0 <sz):
  (∃e',E.P.underlying u=some (.slice e')∨E.P.underlying u=some .string)∧∃us,DT F N s.nx R b sz us∧(∀v∈us,v.oneCell'=true)∧
   ∀R',(∀ad v,R.cell? ad=some v→R'.cell? ad=some v)→(Builtin.lenOf (a.eval y)).run E.P R'=.ok b.n R'∧∀k,k≤b.n→(Builtin.firstCells sz k (a.eval y)).run E.P R'=.ok (us.take (k*sz)).toArray R':=by
 unfold Br8 at he
 cases h1:Brk (E.P.underlying u) with
 | true=>
  rw[h1] at he
  simp only[cond_true] at he
  split at he<;>try (cases he;done)
  rename_i bs hb
  cases hb1:Nat.beq sz 1 with
  |false=>rw[hb1] at he;cases he
  | true=>
   rw[hb1] at he
   cases he
   obtain rfl:=Nat.eq_of_beq_eq_true hb1
   have hu:E.P.underlying u=some .string:=by
    unfold Brk at h1
    split at h1<;>try (cases h1;done)
    rename_i hh
    exact hh
   refine⟨⟨0,.inr hu⟩,bs.data.toList.map BN,⟨by simp[FY.n],fun k hk=>?_⟩,fun v hv=>?_,fun R' _=>?_⟩
   ·have ak:k <bs.data.toList.length:=hk
    show HL F N s.nx R (enc .u8 (bs.data.toList.getD k 0)) _
    rw[Nat.mul_one]
    have e1:((bs.data.toList.map BN).drop k).take 1=[BN (bs.data.toList.getD k 0)]:=by
     rw[List.drop_eq_getElem_cons (by simpa using ak),List.take_succ_cons,List.take_zero,List.getElem_map,List.getD_eq_getElem?_getD,List.getElem?_eq_getElem ak]
     rfl
    rw[e1]
    exact HL.cons (.v _) HL.nil
   ·obtain⟨b,_,rfl⟩:=List.mem_map.1 hv
    rfl
   ·rw[EP h hG hb]
    refine⟨by simp only[Builtin.lenOf,Sem.run_pure];rfl,fun k hk=>?_⟩
    have ak:k≤bs.data.toList.length:=hk
    simp only[Builtin.firstCells,Sem.run_pure]
    congr 1
    apply Array.ext'
    rw[Nat.mul_one,Array.toList_map]
    have:(bs.extract 0 k).data.toList=bs.data.toList.take k:=by
     rw[ByteArray.data_extract,Array.toList_extract,List.extract_eq_take_drop]
     simp
    rw[this,List.map_take]
    rfl
 | false=>
  rw[h1] at he
  simp only[cond_false] at he
  cases h2:B10 (E.P.underlying u) with
  |false=>rw[h2] at he;cases he
  | true=>
   rw[h2] at he
   simp only[cond_true] at he
   split at he<;>try (cases he;done)
   rename_i y' hy
   have hu:∃e',E.P.underlying u=some (.slice e'):=by
    unfold B10 at h2
    split at h2<;>try (cases h2;done)
    rename_i e' hh
    exact⟨e',hh⟩
   obtain⟨e',hu⟩:=hu
   obtain⟨us,g1,g2,g3⟩:=Bxo h.hp he hp (BL h hG hy).2 hs
   exact⟨⟨e',.inl hu⟩,us,g2,g3,fun R' hc=>Awa g1 hc⟩
end
section
variable {E:Env} {Z:FG} {F:Nat→Prop} {N:Nm} {s:St} {a:Act} {R:World} {G:AQ}
theorem XV {w:World} {e:TypeId} {sz n cap:Nat} {cur:Array Value} {zs:List Value} (hz:zs.length=n*sz) (hc:cur.size=cap*sz) (hm:cap≤maxLen) (hn:n≤cap) (ht:cur.toList.take (n*sz)=zs) {g:Nat} (hg:w.heap[g]?=some (.cells cur e (0,0))):
  PE w e sz (.slice (some ⟨g,0,none⟩) n cap) n zs:=by
 cases cap with
 |zero=>
  have:n=0:=by omega
  subst this
  exact⟨hz,.inl ⟨_,rfl,rfl⟩⟩
 |succ c=>exact⟨hz,.inr ⟨g,c,cur,rfl,hg,hn,hm,hc,ht⟩⟩
theorem A68 {t u ty e e':TypeId} {i:TypeInfo} {z:Value} (ht:E.P.underlying t=some (.slice e)) (hu:E.P.underlying u=some (.slice e')∨E.P.underlying u=some .string) (hi:E.P.info? e=some i) (hz:i.zero=some z) (ke:z.cells.size=i.size) (ju:i.bytes≤256) {b:Option Addr} {n cap m:Nat} {x:Value} {zs us:List Value} (hzl:zs.length=n*i.size) (jg:us.length=m*i.size) (hold:(Builtin.firstCells i.size n (.slice b n cap)).run E.P R.drew=.ok zs.toArray R.drew) (hlen:(Builtin.lenOf x).run E.P R=.ok m R) (db:(Builtin.firstCells i.size m x).run E.P R.drew=.ok us.toArray R.drew) (hg:cap <n+m) (lx:Af (n+m)):
  ∃v' R',(Builtin.append_ #[t,u] ty #[.slice b n cap,x]).run E.P R=.ok v' R'∧PE R' e i.size v' (n+m) (zs++us)∧Below R.heap.size R R'∧∀g,Hz v'=some g→R.heap.size≤g:=by
 have re:n+m≤549755813888:=lx
 have az:(n+m)*i.bytes≤140737488355328:=Nat.le_trans (Nat.mul_le_mul re ju) (by decide)
 have af:=A5q (P:=E.P) (w:=R) t u ty e i z ht hu hi hz b n cap m x zs us hold hlen db hg (by omega) (growslice_fits hg az)
 refine⟨_,_,af,?_,((Below.refl _ R).drew).trans ⟨rfl,rfl,rfl,by simp,fun k hk=>Below.heap_alloc R.drew _ k hk⟩,fun g hg=>?_⟩
 ·have dz:=grownCap_ge R (n+m) cap e
  have jn:maxLen=9223372036854775807:=rfl
  have oa:grownCap R (n+m) cap e≤maxLen:=grownCap_le_maxLen R (n+m) cap e (by omega)
  refine XV (cur:=zs.toArray++us.toArray++Builtin.zeroCells z.cells (grownCap R (n+m) cap e - (n+m))) ?_ ?_ oa dz ?_ (heap_alloc_new R.drew _)
  ·rw[List.length_append,hzl,jg,Nat.add_mul]
  ·simp only[Array.size_append,List.size_toArray,size_zeroCells,ke,hzl,jg,←Nat.add_mul]
   congr 1
   omega
  ·simp only[Array.toList_append]
   have:(n+m)*i.size=(zs++us).length:=by rw[List.length_append,hzl,jg,Nat.add_mul]
   rw[this]
   exact List.take_left
 ·generalize grownCap R (n+m) cap e=c at hg
  cases c with
  |zero=>cases hg
  |succ c=>cases hg;exact Nat.le_refl _
theorem Zu {ad:Addr} {v:Value} (h:R.cell? ad=some v):R.drew.cell? ad=some v:=h
def Bof (E:Env) (R:World) (t u ty e:TypeId) (sz:Nat) (v0 x:Value) (k:Nat) (zs:List Value):Prop:=∃v' R',(Builtin.append_ #[t,u] ty #[v0,x]).run E.P R=.ok v' R'∧PE R' e sz v' k zs∧R'.os=R.os∧R'.tape=R.tape∧R'.output=R.output∧R.heap.size≤R'.heap.size∧
   (∀g,g <R.heap.size→Hz v0≠some g→R'.heap[g]?=R.heap[g]?)∧∀g,Hz v'=some g→R.heap.size≤g∨Hz v0=some g
theorem Bu0 {t u ty e e':TypeId} {i:TypeInfo} {z:Value} (ht:E.P.underlying t=some (.slice e)) (hu:E.P.underlying u=some (.slice e')∨E.P.underlying u=some .string) (hi:E.P.info? e=some i) (hz:i.zero=some z) (ke:z.cells.size=i.size) (ju:i.bytes≤256) {v0:Value} {n m:Nat} {x:Value} {zs us:List Value} (h0:PE R e i.size v0 n zs) (jg:us.length=m*i.size) (h1:∀v∈us,v.oneCell'=true) (hx:∀R',(∀ad v,R.cell? ad=some v→R'.cell? ad=some v)→(Builtin.lenOf x).run E.P R'=.ok m R'∧∀k,k≤m→(Builtin.firstCells i.size k x).run E.P R'=.ok (us.take (k*i.size)).toArray R') (lx:Af (n+m)):
  Bof E R t u ty e i.size v0 x (n+m) (zs++us):=by
 obtain⟨hl1,hf1⟩:=hx R fun _ _ h=>h
 obtain⟨_,hf2⟩:=hx R.drew fun _ _ h=>Zu h
 have ot:us.take (m*i.size)=us:=by rw[←jg];exact List.take_length
 have om:=hf1 m (Nat.le_refl _)
 have jb:=hf2 m (Nat.le_refl _)
 rw[ot] at om jb
 have grow:∀b cap,v0=.slice b n cap→(Builtin.firstCells i.size n (.slice b n cap)).run E.P R.drew=.ok zs.toArray R.drew→cap <n+m→Bof E R t u ty e i.size v0 x (n+m) (zs++us):=fun b cap e0 hold ae=>by
  obtain⟨v',R',g1,g2,g3,g4⟩:=A68 (R:=R) (E:=E) (ty:=ty) ht hu hi hz ke ju h0.1 jg hold hl1 jb ae lx
  rw[←e0] at g1
  exact⟨v',R',g1,g2,g3.os,g3.tape,g3.output,g3.size,fun g hg _=>g3.block g hg,fun g hg=> .inl (g4 g hg)⟩
 have ld:=(Awa (P:=E.P) (A8l h0) (w':=R.drew) fun _ _ h=>Zu h).2 n (Nat.le_refl _)
 have mv:zs.take (n*i.size)=zs:=by rw[←h0.1];exact List.take_length
 rw[mv] at ld
 rcases h0.2 with⟨b,e0,n0⟩|⟨g,cap,cur,e0,q2,q3,q4,q5,q6⟩
 ·subst n0
  by_cases hm:m=0
  ·subst hm
   have fy:us=[]:=List.eq_nil_of_length_eq_zero (by simpa using jg)
   subst fy
   have:=A5r (P:=E.P) (w:=R) t u ty e i ht hu hi b x hl1 (by simpa using hf1 0 (Nat.le_refl _))
   rw[←e0] at this
   exact⟨v0,R,this,by simpa using h0,rfl,rfl,rfl,Nat.le_refl _,fun _ _ _=>rfl,fun g hg=> .inr hg⟩
  ·rw[e0] at ld
   exact grow b 0 e0 ld (by omega)
 ·by_cases fl:n+m≤cap+1
  ·have l9:n*i.size+us.length≤cur.size:=by rw[jg,q5,←Nat.add_mul];exact Nat.mul_le_mul_right _ fl
   have af:=A5s (P:=E.P) (w:=R) t u ty e i ht hu hi g n (cap+1) m x cur q2 us hl1 om h1 fl l9
   rw[←e0] at af
   refine⟨_,_,af,?_,rfl,rfl,rfl,by simp,fun g' _ ah=>setRow_other R _ g' _ (fun e=>ah (by subst e;rw[e0];rfl)),fun g' ah=> .inr (by rw[e0];exact ah)⟩
   refine XV (by rw[List.length_append,h0.1,jg,Nat.add_mul]) ?_ q4 fl ?_ (setRow_heap R g cur _ e _ q2)
   ·simp only[List.size_toArray,List.length_append,List.length_take,List.length_drop,Array.length_toList]
    omega
   ·show List.take ((n+m)*i.size) (cur.toList.take (n*i.size)++us++cur.toList.drop (n*i.size+us.length))=_
    rw[q6]
    have:(n+m)*i.size=(zs++us).length:=by rw[List.length_append,h0.1,jg,Nat.add_mul]
    rw[this]
    exact List.take_left
  ·rw[e0] at ld
   exact grow _ _ e0 ld (by omega)
theorem Bvj (h:Bp F N s.nx s.o R) {e:TypeId} {sz:Nat} {x:A} {v:Value} {d:Option Nat} {els:FY} (he:Bp3 s.o e sz x=some (d,els)) (hx:Hv F N s.nx R x v):
  ∃zs,PE R e sz v els.n zs∧DT F N s.nx R els sz zs∧(∀i,d=some i→(∃e' s' els',Ai i s.o=some (.arr e' s' els'))∧v=N.q i)∧(d=none→Hz v=none):=by
 unfold Bp3 at he
 split at he<;>try (cases he;done)
 ·rename_i i
  split at he<;>try (cases he;done)
  rename_i e' size els' hl
  cases hb:Nat.beq e' e with
  |false=>rw[hb] at he;cases he
  | true=>
   cases az:Nat.beq size sz with
   |false=>rw[hb,az] at he;cases he
   |true=>
    rw[hb,az] at he
    cases he
    obtain rfl:=Nat.eq_of_beq_eq_true hb
    obtain rfl:=Nat.eq_of_beq_eq_true az
    obtain⟨_,zs,g1,g2⟩:=h.ob i _ hl
    rw[hx.sq_inv.2]
    exact⟨zs,g1,⟨g1.1,g2⟩,(fun j hj=>by cases hj;exact⟨⟨_,_,_,hl⟩,rfl⟩),fun e=>by cases e⟩
 ·cases he
  obtain⟨b,rfl⟩:=hx.nl_inv
  exact⟨[],⟨by simp[FY.n],.inl ⟨b,rfl,rfl⟩⟩,.nil,(fun j hj=>by cases hj),fun _=>by cases b<;>rfl⟩
 ·rename_i x
  cases hb:E5 x with
  |false=>rw[hb] at he;cases he
  |true=>
   rw[hb] at he
   cases he
   rw[hx.v_inv,G9 hb]
   exact⟨[],⟨by simp[FY.n],.inl ⟨none,rfl,rfl⟩⟩,.nil,(fun j hj=>by cases hj),fun _=>rfl⟩
theorem B0q (h:Rel Z F N s a R) (hG:P6 (BH a) G) {t u ty:TypeId} {x y:Operand} {f:T6} (he:Buz E s G t u x y=some f) (hp:∀p∈f.ps,p):
  ∃v R',(Builtin.append_ #[t,u] ty #[a.eval x,a.eval y]).run E.P R=.ok v R'∧EK F N s.nx s.o R f v R':=by
 unfold Buz at he
 split at he<;>try (cases he;done)
 rename_i e ht
 split at he<;>try (cases he;done)
 rename_i sz bc
 cases hsd:A1g E.P e sz with
 |false=>rw[hsd] at he;cases he
 | true=>
  rw[hsd] at he
  simp only[cond_true] at he
  obtain⟨i,z,hi,hz,rfl,ke,cf,ju⟩:=Bb2 hsd
  split at he<;>try (cases he;done)
  rename_i b ps hb
  split at he
  ·rename_i j z' lo n hx
   obtain⟨_,aa,cap,q1,q2,q3,q4⟩:=(BL h hG hx).2.vw_inv
   split at he<;>try (cases he;done)
   rename_i e0 size els hl
   cases hb0:Nat.beq z' i.size with
   |false=>rw[hb0] at he;cases he
   |true=>
   cases hb1:Nat.beq size i.size with
   |false=>rw[hb0,hb1] at he;cases he
   | true=>
    rw[hb0,hb1] at he
    simp only[cond_true] at he
    split at he<;>try (cases he;done)
    rename_i r qs l4
    cases he
    generalize hnorm:r.norm (E.tc e)=nn at*
    obtain⟨r',rs⟩:=nn
    obtain rfl:=Nat.eq_of_beq_eq_true hb0
    obtain rfl:=Nat.eq_of_beq_eq_true hb1
    obtain⟨hle,u5,lx⟩:=hp _ (List.mem_cons_self ..)
    have d7:∀p∈ps,p:=fun p hm=>hp p (List.mem_cons_of_mem _ (List.mem_append.2 (.inl hm)))
    have fi:∀p∈qs,p:=fun p hm=>hp p (List.mem_cons_of_mem _ (List.mem_append.2 (.inr (List.mem_append.2 (.inl hm)))))
    have o3:∀p∈rs,p:=fun p hm=>hp p (List.mem_cons_of_mem _ (List.mem_append.2 (.inr (List.mem_append.2 (.inr hm)))))
    obtain⟨⟨e',hu⟩,us,g1,g2,g3⟩:=A9f h hG hb d7 cf
    obtain⟨_,zs,r1,r2⟩:=h.hp.ob j _ hl
    have hr:DT F N s.nx R els i.size zs:=⟨r1.1,r2⟩
    have hsub:=hr.sub hle
    obtain⟨c1,c2⟩:=Azr l4 fi hsub g1
    obtain⟨d1,d2⟩:=Bj0 hnorm o3 c2
    rw[A1o hle] at c1
    obtain⟨hl1,_⟩:=g3 R fun _ _ h=>h
    obtain⟨_,hf2⟩:=g3 R.drew fun _ _ h=>Zu h
    have rq:us.take (b.n*i.size)=us:=by rw[←g1.1];exact List.take_length
    have jb:=hf2 b.n (Nat.le_refl _)
    rw[rq] at jb
    have hflat:A6y R (.slice aa n cap) i.size n ((zs.drop (lo*i.size)).take (n*i.size)):=⟨by rw[hsub.1,A1o hle],⟨aa,cap,rfl,q2⟩,fun A m c e hn=>by
     cases e
     refine⟨_,q4 hn,fun k v hv=>?_⟩
     obtain⟨g,c2,p1,_,p3,_,p5⟩:=Mp r1 (by omega)
     rw[p3,D7,D7,Nat.zero_add]
     rw[List.getElem?_take] at hv
     split at hv<;>try (cases hv;done)
     rw[List.getElem?_drop] at hv
     exact p5 _ v hv⟩
    have ld:=(Awa (P:=E.P) hflat (w':=R.drew) fun _ _ h=>Zu h).2 n (Nat.le_refl _)
    rw[List.take_take,Nat.min_self] at ld
    have hcap:cap=n:=q3 rfl
    obtain⟨v',R',k1,k2,k3,k4⟩:=A68 (R:=R) (E:=E) (ty:=ty) ht hu hi hz ke ju hflat.len g1.1 ld hl1 jb (by omega) lx
    rw[q1]
    refine⟨v',R',k1,?_⟩
    have da:=A2v (k:=1) (ps:=(lo+n≤els.n∧0 <b.n∧Af (n+b.n))::(ps++(qs++rs))) (d:=none) (e:=e) (els:=r') (v:=v') h.hp k3.os k3.tape k3.output k3.size (fun _ e=>by cases e) (fun g hg _=>k3.block g hg) (by rw[d1,c1];exact k2) d2 (fun g hg=> .inl (k4 g hg)) (fun _=>rfl)
    exact da
  ·rename_i x' yh hx
   split at he<;>try (cases he;done)
   rename_i d els hd
   split at he<;>try (cases he;done)
   rename_i r qs l4
   cases he
   generalize hnorm:r.norm (E.tc e)=nn at*
   obtain⟨r',rs⟩:=nn
   have lx:Af (els.n+b.n):=hp _ (List.mem_cons_self ..)
   have d7:∀p∈ps,p:=fun p hm=>hp p (List.mem_cons_of_mem _ (List.mem_append.2 (.inl hm)))
   have fi:∀p∈qs,p:=fun p hm=>hp p (List.mem_cons_of_mem _ (List.mem_append.2 (.inr (List.mem_append.2 (.inl hm)))))
   have o3:∀p∈rs,p:=fun p hm=>hp p (List.mem_cons_of_mem _ (List.mem_append.2 (.inr (List.mem_append.2 (.inr hm)))))
   obtain⟨⟨e',hu⟩,us,g1,g2,g3⟩:=A9f h hG hb d7 cf
   obtain⟨zs,r1,r2,r3,r4⟩:=Bvj h.hp hd (BL h hG hx).2
   obtain⟨c1,c2⟩:=Azr l4 fi r2 g1
   obtain⟨d1,d2⟩:=Bj0 hnorm o3 c2
   obtain⟨v',R',k1,k2,k3,k4,k5,k6,k7,k8⟩:=Bu0 (E:=E) (ty:=ty) ht hu hi hz ke ju r1 g1.1 g2 g3 lx
   refine⟨v',R',k1,A2v h.hp k3 k4 k5 k6 (fun j hj=>(r3 j hj).1) (fun g hg hn=>k7 g hg fun e=>?_) (by rw[d1,c1];exact k2) d2 (fun g hg=>?_) (fun hk=>?_)⟩
   ·cases d with
    |none=>rw[r4 rfl] at e;cases e
    |some j=>
     rw[(r3 j rfl).2] at e
     exact hn j rfl e
   ·rcases k8 g hg with h1|h1
    ·exact .inl h1
    ·cases d with
     |none=>rw[r4 rfl] at h1;cases h1
     |some j=>exact .inr ⟨j,rfl,by rw[←(r3 j rfl).2];exact h1⟩
   ·cases d with
    |none=>rfl
    |some j=>cases hk with|step hk=>cases hk
  ·cases he
theorem Ajc:∀{ps:List (Nat×Value)} {A0 arr:Array Value} {pl:Nat→Option (Nat×Nat)},Instr.fill pl A0 ps=some arr→arr.size=A0.size
 | [],A0,arr,pl,hf=>by simp only[Instr.fill] at hf;cases hf;rfl
 | (k,v)::r,A0,arr,pl,hf=>by
  unfold Instr.fill at hf
  split at hf<;>try (cases hf;done)
  split at hf
  ·cases hf
  ·rw[Ajc hf]
   have key:∀(l:List (Value×Nat)) (off:Nat) (c:Array Value),(l.foldl (fun(c:Array Value) (p:Value×Nat)=>c.setIfInBounds (off+p.2) p.1) c).size=c.size:=by
    intro l
    induction l with
    |nil=>intro off c;rfl
    |cons p r ih=>intro off c;rw[List.foldl_cons,ih];simp
   rw[←Array.foldl_toList]
   exact key _ _ _
theorem Bc4 (h:Rel Z F N s a R) (hG:P6 (BH a) G) {t:TypeId} {len:Nat} {parts:Array (Nat×Operand)} {f:T6} (he:T9 E s G t len parts.toList=some f):
  ∃v R',(Instr.buildSlice t len (parts.map fun(i,x)=>(i,a.eval x))).run E.P R=.ok v R'∧EK F N s.nx s.o R f v R':=by
 unfold T9 at he
 split at he<;>try (cases he;done)
 rename_i e hu
 split at he<;>try (cases he;done)
 rename_i i hi
 split at he<;>try (cases he;done)
 rename_i z hz
 split at he<;>try (cases he;done)
 rename_i ps cu
 cases h1:Nat.ble (len*i.size) 16777216 with
 |false=>rw[h1] at he;cases he
 |true=>
 cases h2:Nat.beq z.cells.size i.size with
 |false=>rw[h1,h2] at he;cases he
 |true=>
 cases h3:Nat.ble 1 i.size with
 |false=>rw[h1,h2,h3] at he;cases he
 | true=>
  rw[h1,h2,h3] at he
  simp only[cond_true] at he
  split at he<;>try (cases he;done)
  rename_i cs cn
  cases h4:QZ s.o (.lst (KC i.size len cs)) with
  |false=>rw[h4] at he;cases he
  | true=>
   rw[h4] at he
   simp only[cond_true] at he
   have g1:=Nat.le_of_ble_eq_true h1
   have g2:=Nat.eq_of_beq_eq_true h2
   have g3:0 <i.size:=Nat.le_of_ble_eq_true h3
   have cz:=Ajy (E:=E) h hG cu
   have nm:HL F N s.nx R (Bnt (toL z.cells.toList) len) (madeCells z.cells (len*i.size)).toList:=by
    rw[←g2,Tu]
    exact A5i (HL.toL _) len
   obtain⟨arr,q1,q2⟩:=Xs cn cz nm
   have hl:(parts.map fun(i,x)=>(i,a.eval x))=(parts.toList.map fun(i,x)=>(i,a.eval x)).toArray:=by rw[←Array.toList_map,Array.toArray_toList]
   have af:=Ao4 hu hi hz g1 q1 R
   rw[←hl] at af
   refine⟨_,_,af,?_⟩
   cases h5:Nat.beq len 0 with
   |true=>
    rw[h5] at he
    cases he
    obtain rfl:=Nat.eq_of_beq_eq_true h5
    have hb:Below R.heap.size R (R.alloc (.cells arr e (0,0))):=Pj _
    exact⟨F,N,(h.hp.grow hb).1,Step.of_below hb,.nl _,fun _=>hb⟩
   |false=>
   rw[h5] at he
   cases he
   have fa:arr.size=len*i.size:=by rw[Ajc q1,size_madeCells]
   have da:DT F N s.nx R (.lst (KC i.size len cs)) i.size arr.toList:=by
    have hn:(FY.lst (KC i.size len cs)).n=len:=O5 _ _ _
    refine⟨by rw[hn,Array.length_toList,fa],fun k hk=>?_⟩
    rw[hn] at hk
    show HL F N s.nx R (K7 (KC i.size len cs) k) _
    rw[Acp _ _ _ _ hk]
    exact(q2.drop _).take _
   have hn:(FY.lst (KC i.size len cs)).n=len:=O5 _ _ _
   have jn:len≤maxLen:=by
    have h5:len≤len*i.size:=Nat.le_mul_of_pos_right _ g3
    have jn:maxLen=9223372036854775807:=rfl
    omega
   refine A2v (d:=none) (v:=.slice (some ⟨R.heap.size,0,none⟩) len len) h.hp rfl rfl rfl (by simp) (fun _ e=>by cases e) (fun g hg _=>Below.heap_alloc R _ g hg) ?_ da (fun g hg=> .inl ?_) (fun _=>rfl)
   ·rw[hn]
    exact XV (by rw[Array.length_toList,fa]) fa jn (Nat.le_refl _) (List.take_of_length_le (by rw[Array.length_toList,fa];exact Nat.le_refl _)) (heap_alloc_new R _)
   ·cases len with
    |zero=>cases hg
    |succ n=>cases hg;exact Nat.le_refl _
theorem Bmu (ok:EnvOk E) (h:Rel Z F N s a R) (hG:P6 (BH a) G) {t:TypeId} {len cap:Operand} {f:T6} (he:Arh E s G t len cap=some f) (hp:∀p∈f.ps,p):
  ∃v R',(Instr.makeSlice t (a.eval len) (a.eval cap)).run E.P R=.ok v R'∧EK F N s.nx s.o R f v R':=by
 unfold Arh at he
 split at he<;>try (cases he;done)
 rename_i e hu
 split at he<;>try (cases he;done)
 rename_i c hc
 split at he<;>try (cases he;done)
 rename_i k1 l k2 m hl hm
 cases hsd:A1g E.P e (size c) with
 |false=>rw[hsd] at he;cases he
 | true=>
  rw[hsd] at he
  cases he
  obtain⟨i,z,hi,hz,lf,ke,cf,ju⟩:=Bb2 hsd
  obtain⟨i',bq,_,_,z',lj,yu⟩:=ok.tc e c hc
  rw[hi] at bq
  cases bq
  rw[hz] at lj
  cases lj
  obtain⟨h0,h1,h2⟩:=hp _ (List.mem_singleton.2 rfl)
  have rh:(i.bytes:Int)*m≤281474976710656:=by
   have a1:(i.bytes:Int)*m≤256*m:=Int.mul_le_mul_of_nonneg_right (by omega) (by omega)
   omega
  have af:=run_make (P:=E.P) R t e i z hu hi hz k1 k2 l m h0 h1 rh (by omega)
  rw[EP h hG hl,EP h hG hm]
  refine⟨_,_,af,?_⟩
  have hn:(FY.ty c (List.replicate l.toNat (Av c))).n=l.toNat:=by simp[FY.n]
  have hzl:z.cells.toList.length=size c:=by rw[Array.length_toList,ke]
  have oy:∀n,(madeCells z.cells (n*i.size)).toList=(List.replicate n z.cells.toList).flatten:=fun n=>by
   rw[lf,←ke]
   exact Tu _ _
  have gn:∀n,((List.replicate n z.cells.toList).flatten).length=n*size c:=fun n=>by
   simp only[List.length_flatten,List.map_replicate,hzl,List.sum_replicate_nat]
  have o7:∀(k n:Nat),k≤n→((List.replicate n z.cells.toList).flatten).take (k*size c)=(List.replicate k z.cells.toList).flatten:=fun k n me=>by
   have:List.replicate n z.cells.toList=List.replicate k z.cells.toList++List.replicate (n - k) z.cells.toList:=by rw[List.replicate_append_replicate];congr 1;omega
   rw[this,List.flatten_append]
   have e1:k*size c=((List.replicate k z.cells.toList).flatten).length:=(gn k).symm
   rw[e1]
   exact List.take_left
  have oe:∀(k n:Nat),k≤n→((List.replicate n z.cells.toList).flatten).drop (k*size c)=(List.replicate (n - k) z.cells.toList).flatten:=fun k n me=>by
   have:List.replicate n z.cells.toList=List.replicate k z.cells.toList++List.replicate (n - k) z.cells.toList:=by rw[List.replicate_append_replicate];congr 1;omega
   rw[this,List.flatten_append]
   have e1:k*size c=((List.replicate k z.cells.toList).flatten).length:=(gn k).symm
   rw[e1]
   exact List.drop_left
  have da:DT F N s.nx R (.ty c (List.replicate l.toNat (Av c))) (size c) ((List.replicate l.toNat z.cells.toList).flatten):=by
   refine⟨by rw[hn,gn],fun k hk=>?_⟩
   rw[hn] at hk
   rw[oe k _ (by omega),show l.toNat - k=(l.toNat - k - 1)+1 by omega,List.replicate_succ,List.flatten_cons,show size c=z.cells.toList.length from hzl.symm,List.take_left]
   show HL F N s.nx R (enc c _) _
   rw[List.getD_eq_getElem?_getD,List.getElem?_replicate,if_pos hk]
   exact yu F N s.nx R
  refine A2v (d:=none) (v:=.slice (some ⟨R.heap.size,0,none⟩) l.toNat m.toNat) h.hp rfl rfl rfl (by simp) (fun _ e=>by cases e) (fun g hg _=>Below.heap_alloc R _ g hg) ?_ da (fun g hg=> .inl ?_) (fun _=>rfl)
  ·rw[hn]
   have jn:maxLen=9223372036854775807:=rfl
   refine XV (cur:=madeCells z.cells (m.toNat*i.size)) (gn _) (by rw[size_madeCells,lf]) (by omega) (by omega) ?_ (heap_alloc_new R _)
   rw[oy]
   exact o7 _ _ (by omega)
  ·generalize m.toNat=c at hg
   cases c with
   |zero=>cases hg
   |succ n=>cases hg;exact Nat.le_refl _
end
end Go.Proofs.YtifkbgkbajncjaaGreatDoor
namespace Go.Proofs.YtifkbgkbajncjaaGreatDoor
open Go.RowKit Go.MapKept
section
variable {F:Nat→Prop} {N:Nm} {nx:Nat} {R:World} {size:Nat}
end
section
variable {E:Env} {Z:FG} {F:Nat→Prop} {N:Nm} {s:St} {a:Act} {R:World} {G:AQ}
theorem Bb7 (h:Rel Z F N s a R) (hG:P6 (BH a) G) {src dst:TypeId} {x:Operand} {f:T6} (he:Z1 E s G src dst x=some f):
  ∃v R',(convert src dst (a.eval x)).run E.P R=.ok v R'∧EK F N s.nx s.o R f v R':=by
 unfold Z1 at he
 split at he<;>try (cases he;done)
 rename_i e hs hd
 split at he<;>try (cases he;done)
 rename_i b hu hx
 cases he
 have af:=run_bytes_of_string (P:=E.P) R src dst e b hs hd hu
 rw[EP h hG hx]
 refine⟨_,_,af,Bmd (R':=R.drew.alloc _) h.hp (((Below.refl _ R).drew).trans ⟨rfl,rfl,rfl,by simp,fun k hk=>Below.heap_alloc R.drew _ k hk⟩) (by simp) ?_⟩
 have hlen:b.data.toList.length=b.size:=by simp
 have dz:=grownCap_ge R b.size 0 e
 have main:Hv (fun g=>F g∨g=R.heap.size) N s.nx (R.drew.alloc (.cells (bytesRow b (grownCap R b.size 0 e)) e ((bytesRow b (grownCap R b.size 0 e)).size,(bytesRow b (grownCap R b.size 0 e)).size+1))) (.sl .u8 b.data.toList) (.slice (some ⟨R.heap.size,0,none⟩) b.data.toList.length (grownCap R b.size 0 e)):=by
  refine Hv.of_sl (by rw[hlen];exact dz) fun hn=>⟨_,rfl,.inr rfl,fun k d hd=>?_⟩
  refine HC.cons.2 ⟨⟨BN d,?_,.v _⟩,HC.nil⟩
  rw[D7,show size .u8=1 from rfl,Nat.mul_one,Nat.zero_add]
  have hk:k <b.data.toList.length:=(List.getElem?_eq_some_iff.1 hd).1
  have ly:(R.drew.alloc (.cells (bytesRow b (grownCap R b.size 0 e)) e ((bytesRow b (grownCap R b.size 0 e)).size,(bytesRow b (grownCap R b.size 0 e)).size+1))).heap[R.heap.size]?=some (.cells (bytesRow b (grownCap R b.size 0 e)) e ((bytesRow b (grownCap R b.size 0 e)).size,(bytesRow b (grownCap R b.size 0 e)).size+1)):=heap_alloc_new R.drew _
  unfold World.cell?
  simp only[ly]
  have e1:(bytesRow b (grownCap R b.size 0 e))[k]?=some (BN d):=by
   unfold bytesRow
   rw[Array.getElem?_append_left (by rw[hlen] at hk;simpa using hk),Array.getElem?_map]
   have:b.data[k]?=some d:=by rw[←Array.getElem?_toList];exact hd
   rw[this]
   rfl
  simpa using e1
 rw[hlen] at main
 exact main
theorem QN {f:Operand} {args:List Operand} {g:FuncId} {x:A} (h:ND E f args=some (g,x)):f=.func g∧args=[]∧Xy E.P g=true∧x.free=true∧∃k,k≤1∧E.C g [] 0 []=some (k,x,0,[],[]):=by
 unfold ND at h
 split at h<;>try (cases h;done)
 split at h<;>try (cases h;done)
 rename_i g' k x' hg hc
 cases hb:(Nat.ble k 1&&x'.free)&&Arm with
 |false=>rw[hb] at h;cases h
 |true=>
  rw[hb] at h
  cases h
  rw[Bool.and_eq_true,Bool.and_eq_true] at hb
  exact⟨rfl,rfl,hg,hb.1.2,k,Nat.le_of_ble_eq_true hb.1.1,hc⟩
theorem Bdf {f:Operand} {args:List Operand} {g:FuncId} {x:A} (h:ND E f args=some (g,x)):Aay=[]:=by
 unfold ND at h
 split at h<;>try (cases h;done)
 split at h<;>try (cases h;done)
 cases hn:Aay with
 |nil=>rfl
 | cons x r=>
  have:Arm=false:=by
   unfold Arm
   rw[hn]
  rw[this,Bool.and_false] at h
  cases h
theorem Asb {o:Oper} {g:FuncId} {args:Array Operand} {ts:Array TypeId} (ho:o.op=.call {callee:=.value (.func g),args,argTypes:=ts}) (ha:args.toList=[]) (hg:Xy E.P g=true) (A':Act) (R':World):(execOp A'.eval o).run E.P R'=.ok (.enter g #[]) R':=by
 obtain rfl:args=#[]:=by
  apply Array.ext'
  exact ha
 obtain⟨dst,op,type,pos,after,guard⟩:=o
 simp only at ho
 subst ho
 show(do let d ←resolve A'.eval _ type;invoke d.target d.args:Sem Next).run E.P R'=_
 have hr:(resolve A'.eval {callee:=.value (.func g),args:=#[],argTypes:=ts} type)=pure {target:=.fn (.func g) #[],args:=#[]}:=by
  simp[resolve,Deferred.ofValue,Act.eval]
 rw[hr]
 simp only[Sem.run_bind,Sem.run_pure,Result.andThen_ok,invoke]
 exact Av7 hg _ R'
theorem Bc8 (ok:EnvOk E) (h:Rel Z F N s a R) (hG:P6 (BH a) G) {o:Oper} {g:Operand} {args:Array Operand} {ts:Array TypeId} (ho:o.op=.call {callee:=.value g,args,argTypes:=ts}) {f:T6} (he:Zr E s G g args.toList=some f) (hp:∀p∈f.ps,p):
  Hy E.P (fun v R'=>EK F N s.nx s.o R f v R') ((execOp a.eval o).run E.P R):=by
 unfold Zr at he
 split at he
 ·rename_i g' x hc
  cases he
  obtain⟨rfl,ha,hg,hf,k,hk,hC⟩:=QN hc
  rw[Asb ho ha hg a R]
  refine(ok.C _ _ _ _ _ _ _ _ _ hC (Arf hg) (fun p hm=>by cases hm) F N R [] h.hp.noObj HL.nil).mono fun e R' ⟨y,F',N',e1,e2,e3,e4,e5⟩=>?_
  obtain⟨q1,q2⟩:=h.hp.widen e2 e3
  exact⟨y,e1,F',N,q1,q2,e4.free hf,fun _=>e5 hk⟩
 split at he
 ·rename_i k x nx' o' ps hr
  cases he
  obtain⟨fn,xs,vs,h1,ae,h2,h3⟩:=Ar4 h hG ho hr
  rw[h3 R]
  refine(ok.C fn xs s.nx s.o _ _ _ _ _ h1 ae hp F N R vs h.hp h2).mono fun e R' ⟨y,F',N',e1,e2,e3,e4,e5⟩=>⟨y,e1,F',N',e2,e3,e4,fun hk=>e5 ?_⟩
  cases hb:Nat.ble k 1 with
  |true=>exact Nat.le_of_ble_eq_true hb
  |false=>
   have ak:(bif Nat.ble k 1 then 1 else 2)≤1:=hk
   rw[hb] at ak
   cases ak with|step ak=>cases ak
 ·split at he<;>try (cases he;done)
  rename_i k x nx' o' ps hr
  cases he
  unfold Bhx at hr
  split at hr<;>try (cases hr;done)
  rename_i i iw
  split at hr<;>try (cases hr;done)
  split at hr<;>try (cases hr;done)
  rename_i xs s9
  have hal:=Ul h hG s9
  have hv:=(BL h hG iw).2
  generalize hw:a.eval g=w at hv
  cases hv with
  | yl hi=>
   obtain⟨fn,tmps,assign,body,hy,hR⟩:=ok.Y _ i xs s.nx s.o _ _ _ _ _ hr (Nat.ble_eq_true_of_le (Nat.le_add_right _ _)) hp F N R _ h.hp hi hal
   have af:(execOp a.eval o).run E.P R=.ok (.round (N.b i) fn tmps assign body) R:=by
    obtain⟨dst,op,type,pos,after,guard⟩:=o
    simp only at ho
    subst ho
    show(do let d ←resolve a.eval _ type;invoke d.target d.args:Sem Next).run E.P R=_
    have hr:(resolve a.eval {callee:=.value g,args:=args,argTypes:=ts} type)=pure {target:=.fn (.yield (N.b i)) #[],args:=#[]++args.map a.eval}:=by
     simp only[resolve,hw,Deferred.ofValue]
    rw[hr]
    simp only[Sem.run_bind,Sem.run_pure,Result.andThen_ok,invoke]
    have bx:#[]++args.map a.eval=(args.toList.map a.eval).toArray:=by
     apply Array.ext'
     simp
    rw[bx]
    exact hy
   rw[af]
   exact RoundIn.mono (F:=Fence.wide) hR fun e R' ⟨y,F',N',e1,e2,e3,e4,e5⟩=>⟨y,e1,F',N',e2,e3,e4,fun hk=>by cases hk with|step hk=>cases hk⟩
theorem Hi {α:Type} {P:Program} {R R':World} {m:Sem α} {f:α→Next} {x:α} (h:m.run P R=.ok x R'):((do pure (f (←m)):Sem Next)).run P R=.ok (f x) R':=by
 simp[h]
theorem Ph {P:Program} {K:Value→World→Prop} {v:Value} {R':World} {r:Result Next} (h:r=.ok (.value v) R') (hk:K v R'):Hy P K r:=by
 rw[h]
 exact hk
theorem Bsx (h:Rel Z F N s a R) (hG:P6 (BH a) G) {t:TypeId} {x:Operand} {f:T6} (he:A5c E s G t x=some f):
  ∃v R',(Instr.range t (a.eval x)).run E.P R=.ok v R'∧EK F N s.nx s.o R f v R':=by
 unfold A5c at he
 split at he<;>try (cases he;done)
 rename_i b hu hx
 cases he
 have e:=EP h hG hx
 refine⟨.pointer (some ⟨R.heap.size,0,none⟩),R.alloc (.stringIter b 0),?_,?_⟩
 ·rw[e]
  simp[Instr.range,run_underlying hu]
 ·refine Asp h.hp (fun N' g hg=>hg) (fun _ hb=>hb) ?_
  have:(⟨R.heap.size,0,none⟩:Addr)=⟨(N.setB s.nx R.heap.size).b s.nx,0,none⟩:=by
   show _=(⟨Kq N.b s.nx R.heap.size s.nx,0,none⟩:Addr)
   rw[C2]
  rw[this]
  exact .own (by omega)
theorem Bwm (h:Rel Z F N s a R) (hG:P6 (BH a) G) {it:Operand} {ty:TypeId} {f:T6} (he:Bjy s G it=some f):
  ∃v R',(Instr.next (a.eval it) true ty).run E.P R=.ok v R'∧EK F N s.nx s.o R f v R':=by
 unfold Bjy at he
 split at he<;>try (cases he;done)
 rename_i i off hx
 have hx':=(BL h hG hx).2.own_inv
 cases h0:Nat.beq off 0 with
 |false=>rw[h0] at he;cases he
 | true=>
  rw[h0] at he
  simp only[cond_true] at he
  obtain rfl:=Nat.eq_of_beq_eq_true h0
  split at he<;>try (cases he;done)
  rename_i b pos hl
  cases he
  have hb:R.heap[N.b i]?=some (.stringIter b pos):=(h.hp.ob _ _ hl).2
  by_cases hp:pos <b.size
  ·refine⟨.tuple #[.bool true,.int .i64 (pos:Nat),.int .i32 ((Utf8.decode b pos).1:Nat)],{R with heap:=R.heap.setIfInBounds (N.b i) (.stringIter b (pos+(Utf8.decode b pos).2))},?_,?_⟩
   ·rw[hx'.2]
    simp[Instr.next,getObj,setObj,Sem.run,hb,hp,goInt]
   ·rw[decide_eq_true hp]
    exact Bdz h.hp hl rfl (fun g hg=>hg) hb (fun hs=>hs) (.it true _ _ rfl)
  ·refine⟨.tuple #[.bool false],{R with heap:=R.heap.setIfInBounds (N.b i) (.stringIter b pos)},?_,?_⟩
   ·have o6:R.heap.setIfInBounds (N.b i) (.stringIter b pos)=R.heap:=by
     have ae:=KA hb
     have hv:R.heap[N.b i]=.stringIter b pos:=(Array.getElem?_eq_some_iff.1 hb).2
     apply Array.ext_getElem?
     intro j
     by_cases hj:N.b i=j
     ·subst hj;simp[ae,hv]
     ·simp[hj]
    rw[hx'.2,o6]
    simp[Instr.next,getObj,Sem.run,hb,hp]
   ·rw[decide_eq_false hp]
    exact Bdz h.hp hl rfl (fun g hg=>hg) hb (fun hs=>hs) (.it false _ _ rfl)
theorem Br7 (h:Rel Z F N s a R) {t:TypeId} {f:T6} (he:A3j E s t=some f):∃v R',(Instr.makeMap t none).run E.P R=.ok v R'∧EK F N s.nx s.o R f v R':=by
 unfold A3j at he
 cases hk:A8x E t with
 |false=>rw[hk] at he;cases he
 | true=>
  rw[hk] at he
  cases he
  refine⟨.map (some R.heap.size),R.alloc (.map #[] 0),by simp[Instr.makeMap],?_⟩
  refine Asp h.hp (fun N' g hg=>hg) (fun _ hb=>⟨[],0,hb,rfl,fun j p e hp=>by cases hp⟩) ?_
  have:(some R.heap.size:Option Nat)=some ((N.setB s.nx R.heap.size).b s.nx):=by
   show _=some (Kq N.b s.nx R.heap.size s.nx)
   rw[C2]
  rw[this]
  exact .mp (by omega)
theorem Br6 (h:Rel Z F N s a R) (hG:P6 (BH a) G) {t:TypeId} {m k x:Operand} {f:T6} (he:A3c E s G t m k x=some f):
  ∃R',(Instr.mapUpdate t (a.eval m) (a.eval k) (a.eval x)).run E.P R=.ok () R'∧EK F N s.nx s.o R f undef R':=by
 unfold A3c at he
 split at he<;>try (cases he;done)
 rename_i y b n hm hk hx
 split at he<;>try (cases he;done)
 rename_i i l hi
 cases hq:A8x E t with
 |false=>rw[hq] at he;cases he
 | true=>
  rw[hq] at he
  cases he
  obtain⟨e1,hl,es,clock,e2,e3⟩:=Bjq h.hp hi (BL h hG hm).2
  obtain⟨kt,vt,q1,q2,q3⟩:=Bji hq
  have fe:IsKey .string (.string b):=trivial
  rw[e1,EP h hG hk,EP h hG hx]
  have mk:∀{es':List MapEntry} {c:Nat},A1w (Aak l b n) es'→EK F N s.nx s.o R ⟨.v undef,s.nx,(i,some (.map .str .i64 (Aak l b n)))::s.o,2,[]⟩ undef {R with heap:=R.heap.setIfInBounds (N.b i) (.map es'.toArray c)}:=fun {es' c} hr=>
   Bdz h.hp hl rfl (fun g hg=>hg) e2 (fun hs=>by
    obtain⟨g1,g2⟩:=Bjs (F:=F) (N:=N) (R:={R with heap:=R.heap.setIfInBounds (N.b i) (.map es'.toArray c)}) (nx:=s.nx) hr
    exact⟨es',c,hs,g1,g2⟩) (.v _)
  rcases Ajp b 0 e3 with⟨g1,_,g3⟩|⟨j,e,g1,g2,g3,g4⟩
  ·refine⟨_,?_,mk (g3 n clock) (c:=clock+1)⟩
   simp[Instr.mapUpdate,run_underlying q1,MapKept.run_getObj_map e2,run_checkKey q2 fe,run_findKey q2 g1,run_setObj_map _ e2]
  ·refine⟨_,?_,mk (g4 n) (c:=clock)⟩
   have hj:es[0+j]?=some e:=by rw[Nat.zero_add];exact g2
   simp[Instr.mapUpdate,run_underlying q1,MapKept.run_getObj_map e2,run_checkKey q2 fe,run_findKey q2 g1,g2,g3,run_keyThatStays fe,run_setObj_map _ e2]
theorem Bme {nx:Nat} {o:AE} (h:Bp F N nx o R) {cs:List A} {vs:List Value} (hc:HW F N nx R cs vs) (e:TypeId) (k:Nat) (ps:List Prop):
  EK F N nx o R ⟨.own nx 0,nx+1,(nx,some (.rcd e cs))::o,k,ps⟩ (.pointer (some ⟨R.heap.size,0,none⟩)) (R.alloc (.cells vs.toArray e (0,0))):=by
 refine Asp h (fun N' g hg=>hg) (fun st hb=>⟨vs,hc.step st,hb⟩) ?_
 have:(⟨R.heap.size,0,none⟩:Addr)=⟨(N.setB nx R.heap.size).b nx,0,none⟩:=by
  show _=(⟨Kq N.b nx R.heap.size nx,0,none⟩:Addr)
  rw[C2]
 rw[this]
 exact .own (by omega)
theorem Bbp {nx:Nat} {x:A} {y:Value} {xs:List A} (h:Bzm x=some xs) (hv:Hv F N nx R x y):HW F N nx R xs y.cells.toList:=by
 cases x<;>try (cases h;done)
 ·cases h
  exact⟨y,[],by simp,hv,fun e=>(by cases e),rfl⟩
 ·cases h
  obtain⟨us,rfl,hw⟩:=hv.rv_inv
  simpa[Value.cells] using hw
theorem Bqh (ok:EnvOk E) (h:Rel Z F N s a R) (hG:P6 (BH a) G) {o:Oper} {f:T6} (he:Bmc E s G o=some f) (hp:∀p∈f.ps,p):
  Hy E.P (fun v R'=>EK F N s.nx s.o R f v R') ((execOp a.eval o).run E.P R):=by
 have hcall:=fun {g args ts} (ho:o.op=.call {callee:=.value g,args,argTypes:=ts})=>Bc8 (f:=f) ok h hG ho
 obtain⟨dst,op,type,pos,after,guard⟩:=o
 unfold Bmc at he
 simp only at he
 split at he
 ·rename_i e
  unfold Arx at he
  split at he<;>try (cases he;done)
  rename_i z hz
  cases he
  exact Ph (Hi (Ao3 hz)) (Bqi h.hp (HL.toL _) e 1 [])
 ·rename_i e v
  unfold Bpn at he
  split at he<;>try (cases he;done)
  rename_i x hx
  split at he
  ·rename_i us fy
   cases hs:Qi s.o us with
   |false=>rw[hs] at he;cases he
   |true=>
    rw[hs] at he
    cases he
    exact Ph (Hi ZW) (Bqi h.hp (Ub h.hp fy hs (BL h hG hx).2) e 1 [])
  ·split at he<;>try (cases he;done)
   rename_i xs hr
   cases he
   exact Ph (Hi ZW) (Bme h.hp (Bbp hr (BL h hG hx).2) e 1 [])
 ·rename_i t x v
  obtain⟨R',h1,h2⟩:=B2w h hG he hp
  have:(execOp a.eval {dst,op:=.store t x v,type,pos,after,guard}).run E.P R=.ok .skip R':=by
   show(do Instr.storeAt t (a.eval x) (a.eval v);pure Next.skip:Sem Next).run E.P R=_
   simp[h1]
  rw[this]
  exact h2
 ·rename_i t len parts
  obtain⟨v,R',h1,h2⟩:=Bc4 h hG he
  exact Ph (Hi h1) h2
 ·rename_i t len cap
  obtain⟨v,R',h1,h2⟩:=Bmu ok h hG he hp
  exact Ph (Hi h1) h2
 ·rename_i src qn x
  obtain⟨v,R',h1,h2⟩:=Bb7 h hG he
  exact Ph (Hi h1) h2
 ·rename_i args ts
  split at he<;>try (cases he;done)
  rename_i x y t u ha ht
  have xf:args=#[x,y]:=by rw[←Array.toArray_toList (xs:=args),ha]
  have sy:ts=#[t,u]:=by rw[←Array.toArray_toList (xs:=ts),ht]
  subst xf sy
  obtain⟨v,R',h1,h2⟩:=B0q (ty:=type) h hG he hp
  refine Ph ?_ h2
  show(do let d ←resolve a.eval _ type;invoke d.target d.args:Sem Next).run E.P R=_
  simp[resolve,invoke,builtin,h1]
 ·split at he<;>cases he
 ·rename_i g args ts
  exact hcall rfl he hp
 ·rename_i t x
  obtain⟨v,R',h1,h2⟩:=Bsx h hG he
  exact Ph (Hi h1) h2
 ·rename_i it
  obtain⟨v,R',h1,h2⟩:=Bwm (E:=E) (ty:=type) h hG he
  exact Ph (Hi h1) h2
 ·rename_i t
  obtain⟨v,R',h1,h2⟩:=Br7 h he
  exact Ph (Hi h1) h2
 ·rename_i t m k x
  obtain⟨R',h1,h2⟩:=Br6 h hG he
  have:(execOp a.eval {dst,op:=.mapUpdate t m k x,type,pos,after,guard}).run E.P R=.ok .skip R':=by
   show(do Instr.mapUpdate t (a.eval m) (a.eval k) (a.eval x);pure Next.skip:Sem Next).run E.P R=_
   simp[h1]
  rw[this]
  exact h2
 ·cases he
theorem B6b (ok:EnvOk E) (h:Rel Z F N s a R) (hG:P6 (BH a) G) {o:Oper} {f:T6} (he:opE E s G o=some f) (hp:∀p∈f.ps,p):
  Hy E.P (fun v R'=>EK F N s.nx s.o R f v R') ((execOp a.eval o).run E.P R):=by
 unfold opE at he
 cases hl:Atk o.op with
 |true=>rw[hl] at he;exact Bqh ok h hG he hp
 | false=>
  rw[hl] at he
  simp only[cond_false] at he
  split at he
  ·rename_i x ps hv
   cases he
   obtain⟨v,h1,h2⟩:=Bhk ok h hG hv hp
   have h3:=h2 R (Below.refl _ _)
   have RM:∀R',Below R.heap.size R R'→EK F N s.nx s.o R ⟨x,s.nx,s.o,0,ps⟩ v R':=fun R' hb=>by
    obtain⟨g1,g2⟩:=h.hp.grow hb
    exact⟨F,N,g1,Step.of_below hb,h1.step g2,fun _=>hb⟩
   generalize (execOp a.eval o).run E.P R=r at*
   cases r with
   |halt x w=>exact h3.elim
   | ok n w=>
    cases n<;>simp only[Oper.quietUpon] at h3<;>simp only[Hy]
    case value u=>
     obtain⟨e1,e2⟩:=h3
     rw[e1,e2]
     exact RM R (Below.refl _ _)
    case skip=>
     obtain⟨e1,e2⟩:=h3
     rw[e1,←e2]
     exact RM R (Below.refl _ _)
    case enter f args=>
     obtain⟨e1,hc⟩:=h3
     rw[e1]
     exact hc.mono fun e bp ⟨he,gk⟩=>⟨v,he,RM _ gk⟩
  ·exact Bqh ok h hG he hp
end
end Go.Proofs.YtifkbgkbajncjaaGreatDoor
namespace Go.Proofs.YtifkbgkbajncjaaGreatDoor
open Go.RowKit
def ivA (c:TC) (l:List (U c)) (k:Nat):A:=match B7m c (l.getD k (Av c)) with
 |some ⟨c',l'⟩=> .sl c' l'
 |none=> .dead
mutual
def Mz (i:Nat) (dp:Bool) (c:TC) (l:List (U c)):A→A
 | .sq j=>bif Nat.beq j i then(bif dp then .dead else .sl c l) else .sq j
 | .vw j sz lo n f=>bif Nat.beq j i then(bif dp then .dead else bif Nat.beq sz (size c) then .sl c ((l.drop lo).take n) else .dead) else .vw j sz lo n f
 | .dq j=>bif Nat.beq j i then(bif dp then .sl c l else .dead) else .dq j
 | .iv j k=>bif Nat.beq j i then(bif dp then ivA c l k else .dead) else .iv j k
 | .de j k sz off=>bif Nat.beq j i then .dead else .de j k sz off
 | .ie j k m sz off=>bif Nat.beq j i then .dead else .ie j k m sz off
 | .el j k sz off=>bif Nat.beq j i then .dead else .el j k sz off
 | .fn f xs ys=> .fn f (fzL i dp c l xs) (fzL i dp c l ys)
 | .agg xs=> .agg (fzL i dp c l xs)
 | .tup xs=> .tup (fzL i dp c l xs)
 | .ref xs=> .ref (fzL i dp c l xs)
 | .opt u b x=> .opt u b (Mz i dp c l x)
 | .v x=> .v x
 | .sl c' l'=> .sl c' l'
 | .own j o=> .own j o
 | .ownx j b n k=> .ownx j b n k
 | .mp j=> .mp j
 | .nl=> .nl
 | .it q vs=> .it q vs
 | .dead=> .dead
 | .av c' n l'=> .av c' n l'
 | .rv xs=> .rv (fzL i dp c l xs)
 | .vr j b lo m=> .vr j b lo m
 | .vd j b m n=> .vd j b m n
 | .yl j=> .yl j
def fzL (i:Nat) (dp:Bool) (c:TC) (l:List (U c)):List A→List A
 | []=>[]
 |x::r=>Mz i dp c l x::fzL i dp c l r
end
mutual
def inA (i n:Nat):A→List Prop
 | .vw j _ lo m _=>bif Nat.beq j i then[lo+m≤n] else[]
 | .iv j k=>bif Nat.beq j i then[k <n] else[]
 | .fn _ xs ys=>inL i n xs++inL i n ys
 | .agg xs=>inL i n xs
 | .tup xs=>inL i n xs
 | .ref xs=>inL i n xs
 | .rv xs=>inL i n xs
 | .opt _ _ x=>inA i n x
 |_=>[]
def inL (i n:Nat):List A→List Prop
 | []=>[]
 |x::r=>inA i n x++inL i n r
end
theorem Qa {i:Nat} {dp:Bool} {c:TC} {l:List (U c)}:∀{xs:List A} {j:Nat} {x:A},(fzL i dp c l xs)[j]?=some x→∃y,xs[j]?=some y∧x=Mz i dp c l y
 | [],j,x,h=>by unfold fzL at h;cases j<;>cases h
 |y::r,0,x,h=>by unfold fzL at h;cases h;exact⟨y,rfl,rfl⟩
 |y::r,j+1,x,h=>by unfold fzL at h;exact Qa (xs:=r) h
theorem Oz {i:Nat} {dp:Bool} {c:TC} {l:List (U c)}:∀xs:List A,(fzL i dp c l xs).length=xs.length
 | []=>by unfold fzL;rfl
 |y::r=>by unfold fzL;rw[List.length_cons,List.length_cons,Oz r]
theorem Vy {i n:Nat}:∀{xs:List A} {j:Nat} {x:A},xs[j]?=some x→∀p∈inA i n x,p∈inL i n xs
 | [],j,x,h=>by cases j<;>cases h
 |y::r,0,x,h=>by cases h;intro p hp;unfold inL;exact List.mem_append.2 (.inl hp)
 |y::r,j+1,x,h=>by intro p hp;unfold inL;exact List.mem_append.2 (.inr (Vy (xs:=r) h p hp))
theorem Bjf {i:Nat} {dp:Bool} {c:TC} {l:List (U c)} {x:A} (h:Oq (Mz i dp c l x)=false):Oq x=false:=by
 cases x<;>first|rfl|(unfold Mz at h;exact h)
theorem B1j {i:Nat} {dp:Bool} {c:TC} {l:List (U c)} (c':TC) (d:U c'):∀x∈enc c' d,Mz i dp c l x=x:=fun x hx=>by
 have:=Uk c' d x hx
 cases x<;>first|(unfold Mz;rfl)|exact this.elim
theorem B1k {i n:Nat} (c':TC) (d:U c'):∀x∈enc c' d,inA i n x=[]:=fun x hx=>by
 have:=Uk c' d x hx
 cases x<;>first|(unfold inA;rfl)|exact this.elim
section
variable {F F':Nat→Prop} {N:Nm} {nx:Nat} {R:World}
theorem Ext.wide (h:∀g,F g→F' g):Ext F N nx R F' N nx R:=⟨Nat.le_refl _,fun _ _=>rfl,fun _ _=>rfl,h,fun _ _=>rfl⟩
theorem B1x {i:Nat} {dp:Bool} {c:TC} {l:List (U c)} (da:dp=false→Hv F' N nx R (.sl c l) (N.q i)) (d8:dp=false→0 <l.length→∃ad,ad=IN (N.q i)∧F' ad.block∧∀(k:Nat) (d:U c),l[k]?=some d→HC F' N nx R (enc c d) (ad.add (k*size c))) (l7:dp=true→Hv F' N nx R (.sl c l) (fam (N.q i) 0)) (xw:dp=true→∀k,k <l.length→Hv F' N nx R (ivA c l k) (fam (N.q i) (k+1))) (hF:∀g,F g→F' g) {x:A} {y:Value} (h:Hv F N nx R x y):(∀p∈inA i l.length x,p)→Hv F' N nx R (Mz i dp c l x) y:=by
 induction h with
 |v x=>intro _;unfold Mz;exact .v x
 | @sl c' l' a cap ad h1 h2 h3 h4 ih=>
  intro _
  unfold Mz
  refine .sl ad h1 (fun hn=>⟨(h2 hn).1,hF _ (h2 hn).2⟩) h3 (fun k d j x y hd hx hy=>?_)
  have hm:=List.mem_of_getElem? hx
  have:=ih k d j x y hd hx hy (fun p hp=>by rw[B1k c' d x hm] at hp;cases hp)
  rwa[B1j c' d x hm] at this
 | @ref xs ad h1 h2 h3 ih=>
  intro hp
  unfold Mz
  unfold inA at hp
  refine .ref ad (hF _ h1) (fun j x hx=>?_) (fun j x y hx hy=>?_)
  ·obtain⟨z,hz,rfl⟩:=Qa hx;exact h2 j z hz
  ·obtain⟨z,hz,rfl⟩:=Qa hx;exact ih j z y hz hy fun p hm=>hp p (Vy hz p hm)
 |own h=>intro _;unfold Mz;exact .own h
 |ownx h=>intro _;unfold Mz;exact .ownx h
 | @sq j h=>
  intro _
  unfold Mz
  cases hb:Nat.beq j i with
  |true=>
   obtain rfl:=Nat.eq_of_beq_eq_true hb
   cases dp with
   |true=>exact .dead _
   |false=>exact da rfl
  |false=>exact .sq h
 | @vw j sz lo n f a cap h h1 h2 h3=>
  intro hp
  unfold Mz
  cases hb:Nat.beq j i with
  |false=>exact .vw h h1 h2 h3
  | true=>
   obtain rfl:=Nat.eq_of_beq_eq_true hb
   cases dp with
   |true=>exact .dead _
   |false=>
   cases az:Nat.beq sz (size c) with
   |false=>exact .dead _
   | true=>
    obtain rfl:=Nat.eq_of_beq_eq_true az
    unfold inA at hp
    rw[hb] at hp
    have hle:lo+n≤l.length:=hp _ (List.mem_singleton.2 rfl)
    have hlen:((l.drop lo).take n).length=n:=by rw[List.length_take,List.length_drop];omega
    have main:Hv F' N nx R (.sl c ((l.drop lo).take n)) (.slice a ((l.drop lo).take n).length cap):=by
     refine Hv.of_sl (by omega) fun hn=>?_
     rw[hlen] at hn
     obtain⟨ad,e1,e2,e3⟩:=d8 rfl (by omega)
     refine⟨ad.add (lo*size c),by rw[h3 hn,e1],by rw[IQ];exact e2,fun k d hd=>?_⟩
     rw[Fa,←Nat.add_mul]
     refine e3 (lo+k) d ?_
     rw[List.getElem?_take] at hd
     split at hd<;>try (cases hd;done)
     rwa[List.getElem?_drop] at hd
    rw[hlen] at main
    exact main
 | @el j k sz off h=>
  intro _
  unfold Mz
  cases hb:Nat.beq j i with
  |false=>exact .el h
  |true=>exact .dead _
 | @dq j h=>
  intro _
  unfold Mz
  cases hb:Nat.beq j i with
  |false=>exact .dq h
  |true=>
   obtain rfl:=Nat.eq_of_beq_eq_true hb
   cases dp with
   |true=>exact l7 rfl
   |false=>exact .dead _
 | @iv j k h=>
  intro hp
  unfold Mz
  cases hb:Nat.beq j i with
  |false=>exact .iv h
  | true=>
   obtain rfl:=Nat.eq_of_beq_eq_true hb
   cases dp with
   |true=>
    unfold inA at hp
    rw[hb] at hp
    exact xw rfl k (hp _ (List.mem_singleton.2 rfl))
   |false=>exact .dead _
 | @de j k sz off h=>
  intro _
  unfold Mz
  cases hb:Nat.beq j i with
  |false=>exact .de h
  |true=>exact .dead _
 | @ie j k m sz off h=>
  intro _
  unfold Mz
  cases hb:Nat.beq j i with
  |false=>exact .ie h
  |true=>exact .dead _
 |mp h=>intro _;unfold Mz;exact .mp h
 |nl a=>intro _;unfold Mz;exact .nl a
 |it q vs y h=>intro _;unfold Mz;exact .it q vs y h
 | fn vs us h1 _ h3 _ jh ji=>
  intro hp
  unfold Mz
  unfold inA at hp
  exact .fn vs us (by rw[Oz];exact h1) (fun j x v hx hv=>by obtain⟨z,hz,rfl⟩:=Qa hx;exact jh j z v hz hv fun p hm=>hp p (List.mem_append.2 (.inl (Vy hz p hm)))) (by rw[Oz];exact h3)
   (fun j x v hx hv=>by obtain⟨z,hz,rfl⟩:=Qa hx;exact ji j z v hz hv fun p hm=>hp p (List.mem_append.2 (.inr (Vy hz p hm))))
 |agg vs h1 _ ih=>
  intro hp
  unfold Mz
  unfold inA at hp
  exact .agg vs (by rw[Oz];exact h1) (fun j x v hx hv=>by obtain⟨z,hz,rfl⟩:=Qa hx;exact ih j z v hz hv fun p hm=>hp p (Vy hz p hm))
 |tup vs h1 _ ih=>
  intro hp
  unfold Mz
  unfold inA at hp
  exact .tup vs (by rw[Oz];exact h1) (fun j x v hx hv=>by obtain⟨z,hz,rfl⟩:=Qa hx;exact ih j z v hz hv fun p hm=>hp p (Vy hz p hm))
 |dead y=>intro _;unfold Mz;exact .dead y
 |av h1 h2=>intro _;unfold Mz;exact .av h1 h2
 |rv vs h1 _ h3 ih=>
  intro hp
  unfold Mz
  unfold inA at hp
  refine .rv vs (by rw[Oz];exact h1) (fun j x v hx hv=>by obtain⟨z,hz,rfl⟩:=Qa hx;exact ih j z v hz hv fun p hm=>hp p (Vy hz p hm)) (fun j x v hx hv hi=>?_)
  obtain⟨z,hz,rfl⟩:=Qa hx
  exact h3 j z v hz hv (Bjf hi)
 |vr ad h h1=>intro _;unfold Mz;exact .vr ad h h1
 |vd h=>intro _;unfold Mz;exact .vd h
 |yl h=>intro _;unfold Mz;exact .yl h
theorem Bq1 {i:Nat} {dp:Bool} {c:TC} {l:List (U c)} {n:Nat} (hf:∀{x:A} {y:Value},Hv F N nx R x y→(∀p∈inA i n x,p)→Hv F' N nx R (Mz i dp c l x) y):∀{xs:List A} {us:List Value},HW F N nx R xs us→(∀p∈inL i n xs,p)→HW F' N nx R (fzL i dp c l xs) us
 | [],_,h,_=>by unfold fzL;exact h
 |x::r,_,⟨v,t,h1,h2,h3,h4⟩,hp=>by
  unfold fzL
  unfold inL at hp
  exact⟨v,t,h1,hf h2 fun p hm=>hp p (List.mem_append.2 (.inl hm)),fun hi=>h3 (Bjf hi),Bq1 hf h4 fun p hm=>hp p (List.mem_append.2 (.inr hm))⟩
theorem A23 {i:Nat} {dp:Bool} {c:TC} {l:List (U c)} {n:Nat} (hf:∀{x:A} {y:Value},Hv F N nx R x y→(∀p∈inA i n x,p)→Hv F' N nx R (Mz i dp c l x) y):∀{xs:List A} {vs:List Value},HL F N nx R xs vs→(∀p∈inL i n xs,p)→HL F' N nx R (fzL i dp c l xs) vs
 | [],_,h,_=>by unfold fzL;exact h
 |x::r,_,⟨v,vs,h1,h2,h3⟩,hp=>by
  unfold fzL
  unfold inL at hp
  exact⟨v,vs,h1,hf h2 fun p hm=>hp p (List.mem_append.2 (.inl hm)),A23 hf h3 fun p hm=>hp p (List.mem_append.2 (.inr hm))⟩
end
section
variable {F F':Nat→Prop} {N:Nm} {nx:Nat} {R:World} {tm:Nat→Value}
theorem Bq0 {i:Nat} {dp:Bool} {c:TC} {l:List (U c)} {n:Nat} (fz:∀{x:A} {y:Value},Hv F N nx R x y→(∀p∈inA i n x,p)→Hv F' N nx R (Mz i dp c l x) y):∀{x:A} {y:Value},HS F N nx R tm x y→(∀p∈inA i n x,p)→HS F' N nx R tm (Mz i dp c l x) y
 | .opt u b x,_,h,hp=>by
  unfold inA at hp
  unfold Mz
  simp only[HS] at h⊢
  exact⟨fun hb=>Bq0 fz (h.1 hb) hp,h.2⟩
 | .sq j,_,h,hp=>(Ac (by unfold Mz;cases Nat.beq j i<;>cases dp<;>rfl)).2 (fz ((Ac rfl).1 h) hp)
 | .vw j z _ _ _,_,h,hp=>(Ac (by unfold Mz;cases Nat.beq j i<;>cases dp<;>first|rfl|(cases Nat.beq z (size c)<;>rfl))).2 (fz ((Ac rfl).1 h) hp)
 | .el j _ _ _,_,h,hp=>(Ac (by unfold Mz;cases Nat.beq j i<;>rfl)).2 (fz ((Ac rfl).1 h) hp)
 | .dq j,_,h,hp=>(Ac (by unfold Mz;cases Nat.beq j i<;>cases dp<;>rfl)).2 (fz ((Ac rfl).1 h) hp)
 | .iv j k,_,h,hp=>(Ac (by unfold Mz;cases Nat.beq j i<;>cases dp<;>first|rfl|(unfold ivA;split<;>rfl))).2 (fz ((Ac rfl).1 h) hp)
 | .de j _ _ _,_,h,hp=>(Ac (by unfold Mz;cases Nat.beq j i<;>rfl)).2 (fz ((Ac rfl).1 h) hp)
 | .ie j _ _ _ _,_,h,hp=>(Ac (by unfold Mz;cases Nat.beq j i<;>rfl)).2 (fz ((Ac rfl).1 h) hp)
 | .v _,_,h,hp=>(Ac (by unfold Mz;rfl)).2 (fz ((Ac rfl).1 h) hp)
 | .sl _ _,_,h,hp=>(Ac (by unfold Mz;rfl)).2 (fz ((Ac rfl).1 h) hp)
 | .ref _,_,h,hp=>(Ac (by unfold Mz;rfl)).2 (fz ((Ac rfl).1 h) hp)
 | .own _ _,_,h,hp=>(Ac (by unfold Mz;rfl)).2 (fz ((Ac rfl).1 h) hp)
 | .ownx _ _ _ _,_,h,hp=>(Ac (by unfold Mz;rfl)).2 (fz ((Ac rfl).1 h) hp)
 | .mp _,_,h,hp=>(Ac (by unfold Mz;rfl)).2 (fz ((Ac rfl).1 h) hp)
 | .nl,_,h,hp=>(Ac (by unfold Mz;rfl)).2 (fz ((Ac rfl).1 h) hp)
 | .it _ _,_,h,hp=>(Ac (by unfold Mz;rfl)).2 (fz ((Ac rfl).1 h) hp)
 | .fn _ _ _,_,h,hp=>(Ac (by unfold Mz;rfl)).2 (fz ((Ac rfl).1 h) hp)
 | .agg _,_,h,hp=>(Ac (by unfold Mz;rfl)).2 (fz ((Ac rfl).1 h) hp)
 | .tup _,_,h,hp=>(Ac (by unfold Mz;rfl)).2 (fz ((Ac rfl).1 h) hp)
 | .dead,_,h,hp=>(Ac (by unfold Mz;rfl)).2 (fz ((Ac rfl).1 h) hp)
 | .av _ _ _,_,h,hp=>(Ac (by unfold Mz;rfl)).2 (fz ((Ac rfl).1 h) hp)
 | .rv _,_,h,hp=>(Ac (by unfold Mz;rfl)).2 (fz ((Ac rfl).1 h) hp)
 | .vr _ _ _ _,_,h,hp=>(Ac (by unfold Mz;rfl)).2 (fz ((Ac rfl).1 h) hp)
 | .vd _ _ _ _,_,h,hp=>(Ac (by unfold Mz;rfl)).2 (fz ((Ac rfl).1 h) hp)
 | .yl _,_,h,hp=>(Ac (by unfold Mz;rfl)).2 (fz ((Ac rfl).1 h) hp)
end
def fzT (i:Nat) (dp:Bool) (c:TC) (l:List (U c)):Gc→Gc
 | []=>[]
 |(k,x)::r=>(k,Mz i dp c l x)::fzT i dp c l r
def inT (i n:Nat):Gc→List Prop
 | []=>[]
 |(_,x)::r=>inA i n x++inT i n r
def Aw7 (i:Nat) (dp:Bool) (c:TC) (l:List (U c)):List (List A)→List (List A)
 | []=>[]
 |x::r=>fzL i dp c l x::Aw7 i dp c l r
def Brd (i n:Nat):List (List A)→List Prop
 | []=>[]
 |x::r=>inL i n x++Brd i n r
def Bqz (i:Nat) (dp:Bool) (c:TC) (l:List (U c)):Ob→Ob
 | .box e cs=> .box e (fzL i dp c l cs)
 | .arr e sz (.lst cs)=> .arr e sz (.lst (Aw7 i dp c l cs))
 | .arr e sz (.ty c' l')=> .arr e sz (.ty c' l')
 | .map k v m=> .map k v m
 | .sit s p=> .sit s p
 | .deep e c' l'=> .deep e c' l'
 | .rcd e xs=> .rcd e (fzL i dp c l xs)
 | .abs m c' l'=> .abs m c' l'
 | .lp f b us cs k=> .lp f b us (fzL i dp c l cs) k
def Bre (i n:Nat):Ob→List Prop
 | .box _ cs=>inL i n cs
 | .lp _ _ _ cs _=>inL i n cs
 | .rcd _ xs=>inL i n xs
 | .arr _ _ (.lst cs)=>Brd i n cs
 |_=>[]
def fzO (i:Nat) (dp:Bool) (c:TC) (l:List (U c)):AE→AE
 | []=>[]
 |(k,x)::r=>(k,bif Nat.beq k i then none else(match x with
  |some ob=>some (Bqz i dp c l ob)
  |none=>none))::fzO i dp c l r
def inO (i n:Nat):AE→List Prop
 | []=>[]
 |(_,some ob)::r=>Bre i n ob++inO i n r
 |(_,none)::r=>inO i n r
def MG:AE→List Nat
 | []=>[]
 |(k,_)::r=>k::MG r
theorem Lc {i:Nat}:∀{A B:AE},i∉MG A→Ai i (A++B)=Ai i B
 | [],_,_=>rfl
 |(k,x)::r,B,h=>by
  have hk:Nat.beq k i=false:=Ary fun e=>h (by rw[e];exact List.mem_cons_self ..)
  show(bif Nat.beq k i then x else Ai i (r++B))=Ai i B
  rw[hk]
  exact Lc fun hm=>h (List.mem_cons_of_mem _ hm)
theorem XH {i:Nat}:∀{A B:AE},i∈MG A→Ai i (A++B)=Ai i A
 | [],_,h=>by cases h
 | (k,x)::r,B,h=>by
  show(bif Nat.beq k i then x else Ai i (r++B))=(bif Nat.beq k i then x else Ai i r)
  cases hb:Nat.beq k i with
  |true=>rfl
  |false=>
   rcases List.mem_cons.1 h with rfl|h
   ·simp at hb
   ·exact XH h
theorem As4 {i:Nat} {dp:Bool} {c:TC} {l:List (U c)}:∀{o:AE},MG (fzO i dp c l o)=MG o
 | []=>rfl
 |(k,x)::r=>by
  show k::MG (fzO i dp c l r)=k::MG r
  rw[As4]
def frA (i:Nat) (c:TC) (l:List (U c)):A→A
 | .vr j base lo m=>bif Nat.beq j i&&Nat.beq base 0 then .sl c ((l.drop lo).take m) else .vr j base lo m
 |x=>x
def irA (i n:Nat):A→List Prop
 | .vr j base lo m=>bif Nat.beq j i&&Nat.beq base 0 then[lo+m≤n] else[]
 |_=>[]
def frT (i:Nat) (c:TC) (l:List (U c)):Gc→Gc
 | []=>[]
 |(k,x)::r=>(k,frA i c l x)::frT i c l r
def irT (i n:Nat):Gc→List Prop
 | []=>[]
 |(_,x)::r=>irA i n x++irT i n r
theorem A9b {i:Nat} {c:TC} {l:List (U c)} {u:Nat} {x:A}:∀{t:Gc},DV u (frT i c l t)=some x→∃y,DV u t=some y∧x=frA i c l y∧∀n,∀p∈irA i n y,p∈irT i n t
 | [],h=>by cases h
 | (k,y)::r,h=>by
  have h':(bif Nat.beq k u then some (frA i c l y) else DV u (frT i c l r))=some x:=h
  show ∃z,(bif Nat.beq k u then some y else DV u r)=some z∧_∧∀n,∀p∈irA i n z,p∈irA i n y++irT i n r
  cases hb:Nat.beq k u with
  |true=>rw[hb] at h';cases h';exact⟨y,rfl,rfl,fun n p hp=>List.mem_append.2 (.inl hp)⟩
  |false=>
   rw[hb] at h'
   obtain⟨z,h1,h2,h3⟩:=A9b h'
   exact⟨z,h1,h2,fun n p hp=>List.mem_append.2 (.inr (h3 n p hp))⟩
def ZB (E:Env) (i:Nat) (s:St):Option (St×List Prop):=match Ai i s.o with
 | some (.arr e sz els)=>match E.tc e with
  |some c=>bif Nat.beq sz (size c) then(match Af6 c els with
   |some (l,ps)=>some ({s with t:=fzT i false c l s.t,o:=fzO i false c l s.o++s.o},ps++(inT i l.length s.t++inO i l.length s.o))
   |none=>none) else none
  |none=>none
 |some (.rcd _ [.av c n l])=>some ({s with t:=frT i c l s.t,o:=(i,none)::s.o},irT i n s.t)
 |_=>none
theorem A9c {i:Nat} {dp:Bool} {c:TC} {l:List (U c)} {u:Nat} {x:A}:∀{t:Gc},DV u (fzT i dp c l t)=some x→∃y,DV u t=some y∧x=Mz i dp c l y∧∀n,∀p∈inA i n y,p∈inT i n t
 | [],h=>by cases h
 | (k,y)::r,h=>by
  have h':(bif Nat.beq k u then some (Mz i dp c l y) else DV u (fzT i dp c l r))=some x:=h
  show ∃z,(bif Nat.beq k u then some y else DV u r)=some z∧_∧∀n,∀p∈inA i n z,p∈inA i n y++inT i n r
  cases hb:Nat.beq k u with
  |true=>rw[hb] at h';cases h';exact⟨y,rfl,rfl,fun n p hp=>List.mem_append.2 (.inl hp)⟩
  |false=>
   rw[hb] at h'
   obtain⟨z,h1,h2,h3⟩:=A9c h'
   exact⟨z,h1,h2,fun n p hp=>List.mem_append.2 (.inr (h3 n p hp))⟩
theorem A0j {i:Nat} {dp:Bool} {c:TC} {l:List (U c)} {j:Nat} {ob:Ob}:∀{o:AE},Ai j (fzO i dp c l o)=some ob→∃aj,Ai j o=some aj∧ob=Bqz i dp c l aj∧j≠i∧∀n,∀p∈Bre i n aj,p∈inO i n o
 | [],h=>by cases h
 | (k,x)::r,h=>by
  have h':(bif Nat.beq k j then(bif Nat.beq k i then none else(match x with|some ob=>some (Bqz i dp c l ob)|none=>none)) else Ai j (fzO i dp c l r))=some ob:=h
  show ∃aj,(bif Nat.beq k j then x else Ai j r)=some aj∧_∧_∧_
  cases hb:Nat.beq k j with
  | true=>
   rw[hb] at h'
   cases hi:Nat.beq k i with
   |true=>rw[hi] at h';cases h'
   | false=>
    rw[hi] at h'
    obtain rfl:=Nat.eq_of_beq_eq_true hb
    cases x with
    |none=>cases h'
    |some aj=>
     cases h'
     exact⟨aj,rfl,rfl,fun e=>by subst e;simp at hi,fun n p hp=>by show p∈Bre i n aj++inO i n r;exact List.mem_append.2 (.inl hp)⟩
  |false=>
   rw[hb] at h'
   obtain⟨aj,h1,h2,h3,h4⟩:=A0j h'
   refine⟨aj,h1,h2,h3,fun n p hp=>?_⟩
   cases x with
   |none=>exact h4 n p hp
   |some y=>exact List.mem_append.2 (.inr (h4 n p hp))
theorem Uz {i:Nat} {dp:Bool} {c:TC} {l:List (U c)} {j:Nat} {ob:Ob} {o:AE} (h:Ai j (fzO i dp c l o++o)=some ob):∃aj,Ai j o=some aj∧ob=Bqz i dp c l aj∧j≠i∧∀n,∀p∈Bre i n aj,p∈inO i n o:=by
 by_cases hk:j∈MG o
 ·rw[XH (by rw[As4];exact hk)] at h
  exact A0j h
 ·rw[Lc (by rw[As4];exact hk)] at h
  have:=Lc (A:=o) (B:=[]) hk
  rw[List.append_nil] at this
  rw[this] at h
  cases h
theorem A8o {i:Nat} {dp:Bool} {c:TC} {l:List (U c)}:∀(cs:List (List A)) (k:Nat),K7 (Aw7 i dp c l cs) k=fzL i dp c l (K7 cs k)
 | [],k=>by unfold Aw7;cases k<;>(unfold K7;unfold fzL;rfl)
 |x::r,0=>by unfold Aw7;rfl
 |x::r,k+1=>by unfold Aw7;exact A8o r k
theorem Xw {i:Nat} {dp:Bool} {c:TC} {l:List (U c)}:∀(cs:List (List A)),(Aw7 i dp c l cs).length=cs.length
 | []=>by unfold Aw7;rfl
 |x::r=>by unfold Aw7;rw[List.length_cons,List.length_cons,Xw r]
theorem A8u {i n:Nat}:∀(cs:List (List A)) (k:Nat),∀p∈inL i n (K7 cs k),p∈Brd i n cs
 | [],k,p,hp=>by cases k<;>(unfold K7 at hp;unfold inL at hp;cases hp)
 |x::r,0,p,hp=>by unfold Brd;exact List.mem_append.2 (.inl hp)
 |x::r,k+1,p,hp=>by unfold Brd;exact List.mem_append.2 (.inr (A8u r k p hp))
section
variable {E:Env} {Z:FG} {F:Nat→Prop} {N:Nm} {s s':St} {a:Act} {R:World}
theorem Adh {i:Nat} {ps:List Prop} (he:ZB E i s=some (s',ps)):s'.n=s.n∧∃d,s'.o=d++s.o:=by
 unfold ZB at he
 split at he<;>try (cases he;done)
 ·split at he<;>try (cases he;done)
  rename_i e sz els hl _ c hc
  cases hb:Nat.beq sz (size c) with
  |false=>rw[hb] at he;cases he
  |true=>
   rw[hb] at he
   simp only[cond_true] at he
   split at he<;>try (cases he;done)
   cases he
   exact⟨rfl,_,rfl⟩
 ·cases he
  exact⟨rfl,[(i,none)],rfl⟩
theorem Bd5 (h:Rel Z F N s a R) {i n:Nat} {e:TypeId} {c:TC} {l:List (U c)} (hl:Ai i s.o=some (.rcd e [.av c n l])) (hp:∀p∈irT i n s.t,p):
  Rel Z (fun g=>F g∨g=N.b i) N {s with t:=frT i c l s.t,o:=(i,none)::s.o} a R:=by
 have hF:∀g,F g→(F g∨g=N.b i):=fun g hg=> .inl hg
 have hw:Ext F N s.nx R (fun g=>F g∨g=N.b i) N s.nx R:=Ext.wide hF
 obtain⟨_,us,q1,q2⟩:=h.hp.ob i _ hl
 obtain⟨v,t,e1,q3,_,q4⟩:=q1
 obtain rfl:t=[]:=q4
 have kv:∀{j ob},Ai j ((i,none)::s.o)=some ob→j≠i∧Ai j s.o=some ob:=fun {j ob} hj=>by
  rw[AG] at hj
  by_cases nh:j=i
  ·rw[if_pos nh] at hj;cases hj
  ·rw[if_neg nh] at hj;exact⟨nh,hj⟩
 have hst:Step F N s.nx s.o R (fun g=>F g∨g=N.b i) N s.nx ((i,none)::s.o) R:=⟨Nat.le_refl _,fun _ _=>rfl,fun _ _=>rfl,hF,fun g hg=>by
  rcases hg with hg|hg
  ·exact .inl hg
  ·exact .inr (.inl ⟨i,_,hl,hg⟩),fun g ⟨j,ob,h1,h2⟩=> .inl ⟨j,ob,(kv h1).2,h2⟩,rfl,rfl,rfl,Nat.le_refl _,fun _ _ _=>rfl⟩
 refine⟨h.defers,h.size,fun u x hu=>?_,⟨fun g hg=>?_,fun j np hj=>?_,fun j np g hj hg hf=>?_,fun j k x y g hj hk hx hy=>?_,h.hp.gl.step hw⟩,h.st.trans hst,h.tm⟩
 ·obtain⟨y,h1,rfl,h3⟩:=A9b hu
  have hy:=h.slots u y h1
  cases y<;>first|exact hy.step hw|skip
  rename_i j base lo m
  have hv:=(Ac (x:=.vr j base lo m) rfl).1 hy
  rw[show frA i c l (.vr j base lo m)=(bif Nat.beq j i&&Nat.beq base 0 then .sl c ((l.drop lo).take m) else .vr j base lo m) from rfl]
  cases hb:(Nat.beq j i&&Nat.beq base 0) with
  |false=>exact hy.step hw
  | true=>
   have au:∀p∈(bif Nat.beq j i&&Nat.beq base 0 then[lo+m≤n] else[]),p∈irT i n s.t:=h3 n
   rw[hb] at au
   have hlm:lo+m≤n:=hp _ (au _ (List.mem_singleton.2 rfl))
   rw[Bool.and_eq_true] at hb
   obtain rfl:=Nat.eq_of_beq_eq_true hb.1
   obtain rfl:=Nat.eq_of_beq_eq_true hb.2
   rw[cond_true]
   refine(Ac (x:=.sl c ((l.drop lo).take m)) rfl).2 ?_
   generalize BH a u=w at hv⊢
   cases hv with
   | vr ad hi h1=>
    cases q3 with
    | av k1 k2=>
     have hlen:((l.drop lo).take m).length=m:=by rw[List.length_take,List.length_drop];omega
     have main:Hv (fun g=>F g∨g=N.b j) N s.nx R (.sl c ((l.drop lo).take m)) (.slice (some ad) ((l.drop lo).take m).length m):=by
      refine Hv.of_sl (by omega) fun hn=>?_
      rw[hlen] at hn
      have xg:=h1 hn
      subst xg
      refine⟨_,rfl,.inr rfl,fun k d hd j' x hx=>?_⟩
      rw[Bb3 k1,Nat.mul_one] at*
      rw[Ai8 k1] at hx
      cases j' with
      |succ j'=>cases hx
      |zero=>
       cases hx
       refine⟨sv c d,?_,.v _⟩
       rw[add_zero,D7,D6 q2,e1]
       rw[List.getElem?_take] at hd
       split at hd<;>try (cases hd;done)
       rw[List.getElem?_drop] at hd
       simp[Value.cells,hd]
     rw[hlen] at main
     exact main
 ·rcases hg with hg|hg
  ·exact h.hp.flt g hg
  ·exact(h.hp.ob i _ hl).2.lt hg
 ·obtain⟨h1,h2⟩:=kv hj
  obtain⟨k1,k2⟩:=h.hp.ob j np h2
  exact⟨k1,k2.step hw k1 fun _ _=>rfl⟩
 ·obtain⟨h1,h2⟩:=kv hj
  rcases hf with hf|hf
  ·exact h.hp.ff j np g h2 hg hf
  ·exact h1 (h.hp.sep j i np _ g h2 hl hg hf)
 ·exact h.hp.sep j k x y g (kv hj).2 (kv hk).2 hx hy
theorem A8n (h:Rel Z F N s a R) {i:Nat} {ob:Ob} (hl:Ai i s.o=some ob) {dp:Bool} {c:TC} {l:List (U c)} (fz:∀{x:A} {y:Value},Hv F N s.nx R x y→(∀p∈inA i l.length x,p)→Hv (fun g=>F g∨foot N i ob g) N s.nx R (Mz i dp c l x) y) (fi:∀p∈inT i l.length s.t,p) (o3:∀p∈inO i l.length s.o,p):Rel Z (fun g=>F g∨foot N i ob g) N {s with t:=fzT i dp c l s.t,o:=fzO i dp c l s.o++s.o} a R:=by
 have hF:∀g,F g→(F g∨foot N i ob g):=fun g hg=> .inl hg
 have hw:Ext F N s.nx R (fun g=>F g∨foot N i ob g) N s.nx R:=Ext.wide hF
 have wc:∀{x:A} {y:Value},HS F N s.nx R (BH a) x y→(∀p∈inA i l.length x,p)→HS (fun g=>F g∨foot N i ob g) N s.nx R (BH a) (Mz i dp c l x) y:=fun hx jd=>Bq0 fz hx jd
 have aw:∀{j aj g},Ai j s.o=some aj→foot N j (Bqz i dp c l aj) g→foot N j aj g:=fun {j aj g} _ hg=>by
  cases aj with
  |arr e' s' els'=>cases els'<;>exact hg
  |_=>exact hg
 have hst:Step F N s.nx s.o R (fun g=>F g∨foot N i ob g) N s.nx (fzO i dp c l s.o++s.o) R:=⟨Nat.le_refl _,fun _ _=>rfl,fun _ _=>rfl,hF,fun g hg=>by
  rcases hg with hg|hg
  ·exact .inl hg
  ·exact .inr (.inl ⟨i,_,hl,hg⟩),fun g ⟨j,ob,h1,h2⟩=>by
  obtain⟨aj,h3,rfl,_,_⟩:=Uz h1
  exact .inl ⟨j,aj,h3,aw h3 h2⟩,rfl,rfl,rfl,Nat.le_refl _,fun _ _ _=>rfl⟩
 refine⟨h.defers,h.size,fun u x hu=>?_,⟨fun g hg=>?_,fun j np hj=>?_,fun j np g hj hg hf=>?_,fun j k x y g hj hk hx hy=>?_,h.hp.gl.step hw⟩,h.st.trans hst,h.tm⟩
 ·obtain⟨y,h1,rfl,h3⟩:=A9c hu
  exact wc (h.slots u y h1) fun p hm=>fi p (h3 _ p hm)
 ·rcases hg with hg|hg
  ·exact h.hp.flt g hg
  ·exact(h.hp.ob i ob hl).2.lt hg
 ·obtain⟨aj,h1,rfl,h3,h4⟩:=Uz hj
  obtain⟨k1,k2⟩:=h.hp.ob j aj h1
  refine⟨k1,?_⟩
  have au:∀p∈Bre i l.length aj,p:=fun p hm=>o3 p (h4 _ p hm)
  cases aj with
  |box e' cs=>
   obtain⟨vs,q1,q2⟩:=k2
   exact⟨vs,A23 (fun hx jd=>fz hx jd) q1 au,q2⟩
  | arr e' s' els'=>
   cases els' with
   |ty c' l'=>exact k2.step hw k1 fun _ _=>rfl
   |lst cs=>
    obtain⟨nt,q1,q2⟩:=k2
    refine⟨nt,by simpa[FY.n,Xw] using q1,fun k hk=>?_⟩
    have ak:k <cs.length:=by simpa[FY.n,Xw] using hk
    show HL _ N s.nx R (K7 (Aw7 i dp c l cs) k) _
    rw[A8o]
    exact A23 (fun hx jd=>fz hx jd) (q2 k ak) fun p hm=>au p (A8u cs k p hm)
  |map k v m=>exact k2.step hw k1 fun _ _=>rfl
  |sit st pos=>exact k2
  |deep e' c' l'=>exact k2.step hw k1 fun _ _=>rfl
  |abs m c' l'=>exact k2.step hw k1 fun _ _=>rfl
  |lp f b us cs k=>
   obtain⟨vs,q1,q2⟩:=k2
   exact⟨vs,A23 (fun hx jd=>fz hx jd) q1 au,q2⟩
  |rcd e' xs=>
   obtain⟨us,q1,q2⟩:=k2
   exact⟨us,Bq1 (fun hx jd=>fz hx jd) q1 au,q2⟩
 ·obtain⟨aj,h1,rfl,h3,_⟩:=Uz hj
  have ah:=aw h1 hg
  rcases hf with hf|hf
  ·exact h.hp.ff j aj g h1 ah hf
  ·exact h3 (h.hp.sep j i aj _ g h1 hl ah hf)
 ·obtain⟨x',h1,rfl,_,_⟩:=Uz hj
  obtain⟨y',h2,rfl,_,_⟩:=Uz hk
  exact h.hp.sep j k x' y' g h1 h2 (aw h1 hx) (aw h2 hy)
theorem A1h {F':Nat→Prop} {nx:Nat} {e:TypeId} {c:TC} {l:List (U c)} {v:Value} {zs:List Value} (g1:PE R e (size c) v l.length zs) (hr:∀k,k <l.length→HL F' N nx R (enc c (l.getD k (Av c))) ((zs.drop (k*size c)).take (size c))) (hF:∀g,Hz v=some g→F' g):
  Hv F' N nx R (.sl c l) v∧(0 <l.length→∃ad,ad=IN v∧F' ad.block∧∀(k:Nat) (d:U c),l[k]?=some d→HC F' N nx R (enc c d) (ad.add (k*size c))):=by
 have d8:0 <l.length→∃ad,ad=IN v∧F' ad.block∧∀(k:Nat) (d:U c),l[k]?=some d→HC F' N nx R (enc c d) (ad.add (k*size c)):=fun cf=>by
  obtain⟨g,cap,q1,_,q3,q4,q5⟩:=Mp g1 cf
  refine⟨_,rfl,by rw[q3];exact hF _ q4,fun k d hd=>?_⟩
  rw[q3,D7,Nat.zero_add]
  intro j x hx
  have hk:k <l.length:=(List.getElem?_eq_some_iff.1 hd).1
  have xq:l.getD k (Av c)=d:=by rw[List.getD_eq_getElem?_getD,hd];rfl
  have h3:=hr k hk
  rw[xq] at h3
  obtain⟨v,hv,ft⟩:=h3.get hx
  exact⟨v,by rw[D7];exact q5 _ v (ZY hv),ft⟩
 refine⟨?_,d8⟩
 obtain⟨aa,cap,e1,e2⟩:=g1.form
 rw[e1]
 refine Hv.of_sl e2 fun cf=>?_
 obtain⟨ad,q1,q2,q3⟩:=d8 cf
 obtain⟨g,i6,r1,_,r3,_,_⟩:=Mp g1 cf
 refine⟨ad,?_,q2,q3⟩
 rw[e1] at r1
 cases r1
 rw[q1,e1]
 rfl
theorem Az5 (h:Rel Z F N s a R) {i:Nat} {ps:List Prop} (he:ZB E i s=some (s',ps)) (hp:∀p∈ps,p):∃F',Rel Z F' N s' a R:=by
 unfold ZB at he
 split at he<;>try (cases he;done)
 ·rename_i e sz els hl
  split at he<;>try (cases he;done)
  rename_i c hc
  cases hb:Nat.beq sz (size c) with
  |false=>rw[hb] at he;cases he
  |true=>
   rw[hb] at he
   simp only[cond_true] at he
   split at he<;>try (cases he;done)
   rename_i l qs pb
   cases he
   obtain rfl:=Nat.eq_of_beq_eq_true hb
   have d7:∀p∈qs,p:=fun p hm=>hp p (List.mem_append.2 (.inl hm))
   obtain⟨hi,zs,g1,g2⟩:=h.hp.ob i _ hl
   have hr:DT F N s.nx R (.ty c l) (size c) zs:=(show DT F N s.nx R els (size c) zs from⟨g1.1,g2⟩).ty pb d7
   have hn:l.length=els.n:=(Uj (F:=F) (N:=N) (nx:=s.nx) (R:=R) pb d7).1
   have hF:∀g,F g→(F g∨foot N i (.arr e (size c) els) g):=fun g hg=> .inl hg
   rw[←hn] at g1
   obtain⟨q1,q2⟩:=A1h (F':=fun g=>F g∨foot N i (.arr e (size c) els) g) (N:=N) (nx:=s.nx) g1 (fun k hk=>(hr.2 k hk).step (Ext.wide hF)) (fun g hg=> .inr hg)
   exact⟨_,A8n h hl (fun hx=>B1x (fun _=>q1) (fun _=>q2) (fun e=>by cases e) (fun e=>by cases e) hF hx) (fun p hm=>hp p (List.mem_append.2 (.inr (List.mem_append.2 (.inl hm))))) fun p hm=>hp p (List.mem_append.2 (.inr (List.mem_append.2 (.inr hm))))⟩
 ·rename_i e c n l hl
  cases he
  exact⟨_,Bd5 h hl hp⟩
end
def eqN (g:Bool) (k k':Nat):Nat:=bif Nat.beq k k' then k else bif g then k else k'
theorem B1q (g:Bool) (k k':Nat):eqN g k k'=bif g then k else k':=by
 unfold eqN
 cases h:Nat.beq k k' with
 |false=>rfl
 |true=>
  obtain rfl:=Nat.eq_of_beq_eq_true h
  cases g<;>rfl
def W0 (s:St):Nat→Nat→Bool→AQ
 |0,u,b=>[(u,b)]
 |n+1,u,b=>(u,b)::match s.get u with
  |some (.opt v c _)=>W0 s n v c
  |_=>[]
def Vw (s:St) (G:AQ):AQ→List Prop
 | []=>[]
 | (u,b)::r=>match s.get u with
  |some x=>match x.strip G with
   |some (.v (.bool g))=>(g=b)::Vw s G r
   |_=>Vw s G r
  |none=>Vw s G r
def B1y:List Prop→Prop→Prop
 | [],p=>p
 |q::r,p=>q→B1y r p
def Us (qs:List Prop):List Prop→List Prop
 | []=>[]
 |p::r=>B1y qs p::Us qs r
theorem Bi6:∀{qs:List Prop} {p:Prop},B1y qs p→(∀q∈qs,q)→p
 | [],_,h,_=>h
 |q::r,_,h,hq=>Bi6 (h (hq q (by simp))) fun q' h'=>hq q' (by simp[h'])
theorem NK {qs:List Prop}:∀{ps:List Prop},(∀p∈Us qs ps,p)→(∀q∈qs,q)→∀p∈ps,p
 | [],_,_,_,h=>by cases h
 |p::r,hp,hq,p',hm=>by
  rcases List.mem_cons.1 hm with rfl|hm
  ·exact Bi6 (hp _ (List.mem_cons_self ..)) hq
  ·exact NK (ps:=r) (fun p h=>hp p (List.mem_cons_of_mem _ h)) hq p' hm
section
variable {Z:FG} {F:Nat→Prop} {N:Nm} {s:St} {a:Act} {R:World}
theorem A8t {u v:Nat} {b c:Bool} {G:AQ} (h:inG u b ((v,c)::G)=true):(u=v∧b=c)∨inG u b G=true:=by
 unfold inG at h
 cases hk:Nat.beq v u with
 |false=>rw[hk] at h;exact .inr h
 |true=>
  rw[hk] at h
  simp only[cond_true] at h
  cases hb:Aww c b with
  |false=>rw[hb] at h;exact .inr h
  |true=>exact .inl ⟨(Nat.eq_of_beq_eq_true hk).symm,(Zq hb).symm⟩
theorem A9q (h:Rel Z F N s a R) {u v:Nat} {b c:Bool} {x:A} (hg:s.get u=some (.opt v c x)) (hu:BH a u=.bool b):BH a v=.bool c:=by
 have hh:=h.slots u _ hg
 simp only[HS] at hh
 by_cases hc:BH a v=.bool c
 ·exact hc
 ·have:=hh.2 hc
  rw[hu] at this
  cases this
theorem ZE (h:Rel Z F N s a R):∀(n u:Nat) (b:Bool),BH a u=.bool b→P6 (BH a) (W0 s n u b)
 |0,u,b,hu,v,c,hv=>by
  rcases A8t hv with⟨rfl,rfl⟩|h'
  ·exact hu
  ·cases h'
 | n+1,u,b,hu,v,c,hv=>by
  unfold W0 at hv
  rcases A8t hv with⟨rfl,rfl⟩|h'
  ·exact hu
  ·split at h'
   ·rename_i v' c' x hg
    exact ZE h n v' c' (A9q h hg hu) v c h'
   ·cases h'
theorem Uu (h:Rel Z F N s a R) {G:AQ} (hG:P6 (BH a) G):∀{l:AQ},(∀e∈l,BH a e.1=.bool e.2)→∀q∈Vw s G l,q
 | [],_,_,hq=>by cases hq
 | (u,b)::r,hl,q,hq=>by
  have hr:∀e∈r,BH a e.1=.bool e.2:=fun e he=>hl e (List.mem_cons_of_mem _ he)
  unfold Vw at hq
  split at hq
  ·rename_i x hx
   split at hq
   ·rename_i g hg
    rcases List.mem_cons.1 hq with rfl|hq
    ·obtain⟨_,h2⟩:=Awh hG hg (h.slots u x hx)
     have h3:=hl (u,b) (List.mem_cons_self ..)
     rw[h2.v_inv] at h3
     injection h3
    ·exact Uu h hG hr q hq
   ·exact Uu h hG hr q hq
  ·exact Uu h hG hr q hq
theorem As1 (h:Rel Z F N s a R):∀(n u:Nat) (b:Bool),BH a u=.bool b→∀e∈W0 s n u b,BH a e.1=.bool e.2
 |0,u,b,hu,e,he=>by
  obtain rfl:=List.mem_singleton.1 he
  exact hu
 | n+1,u,b,hu,e,he=>by
  unfold W0 at he
  rcases List.mem_cons.1 he with rfl|he
  ·exact hu
  ·split at he
   ·rename_i v' c' x hg
    exact As1 h n v' c' (A9q h hg hu) e he
   ·cases he
end
structure Mv where
 l:Option Nat
 r:Option Nat
 m:Nat
 d:Bool
abbrev Mvs:=List Mv
def isO (i:Nat):Option Nat→Bool
 |some j=>Nat.beq j i
 |none=>false
theorem A27 {i:Nat} {o:Option Nat} (h:isO i o=true):o=some i:=by
 cases o with
 |none=>cases h
 |some j=>rw[Nat.eq_of_beq_eq_true h]
def Bt6 (i:Nat):Mvs→Bool
 | []=>false
 |e::r=>bif isO i e.l then true else Bt6 i r
def Bt7 (i:Nat):Mvs→Bool
 | []=>false
 |e::r=>bif isO i e.r then true else Bt7 i r
def isNone:Option Nat→Bool
 |none=>true
 |_=>false
def A8j (i j:Nat):Mvs→Option Nat
 | []=>none
 |e::r=>bif isO i e.l&&isO j e.r then some e.m else A8j i j r
def A8k (d:Bool) (j:Nat):Mvs→Option Nat
 | []=>none
 |e::r=>bif isNone e.l&&(isO j e.r&&Aww e.d d) then some e.m else A8k d j r
def A8i (d:Bool) (i:Nat):Mvs→Option Nat
 | []=>none
 |e::r=>bif isO i e.l&&(isNone e.r&&Aww e.d d) then some e.m else A8i d i r
def Bjh (d:Bool) (o:AE) (i:Nat):Bool:=match Ai i o with
 |some (.arr _ _ _)=>!d
 |some (.deep _ _ _)=>d
 |some (.abs _ _ _)=>d
 |_=>false
abbrev Z6:=Mvs×Nat
def B41 (d:Bool) (o1 o2:AE) (i j:Nat) (c:Z6):Z6:=bif Nat.beq i j then c else
 bif Bt6 i c.1||Bt7 j c.1 then c else bif Bjh d o1 i&&Bjh d o2 j then(⟨some i,some j,c.2,d⟩::c.1,c.2+1) else c
def B42 (d:Bool) (o2:AE) (j:Nat) (c:Z6):Z6:=bif Bt7 j c.1 then c else bif Bjh d o2 j then(⟨none,some j,c.2,d⟩::c.1,c.2+1) else c
def B40 (d:Bool) (o1:AE) (i:Nat) (c:Z6):Z6:=bif Bt6 i c.1 then c else bif Bjh d o1 i then(⟨some i,none,c.2,d⟩::c.1,c.2+1) else c
def Tm (f:A→A→Z6→Z6):List A→List A→Z6→Z6
 |x::xs,y::ys,c=>Tm f xs ys (f x y c)
 |_,_,c=>c
def Aat (o1 o2:AE):Nat→A→A→Z6→Z6
 |0,_,_,c=>c
 |d+1,x,y,c=>match x,y with
  | .sq i,.sq j=>B41 false o1 o2 i j c
  | .v x,.sq j=>bif E5 x then B42 false o2 j c else c
  | .sq i,.v y=>bif E5 y then B40 false o1 i c else c
  | .dq i,.dq j=>B41 true o1 o2 i j c
  | .v x,.dq j=>bif E5 x then B42 true o2 j c else c
  | .dq i,.v y=>bif E5 y then B40 true o1 i c else c
  | .agg xs,.agg ys=>Tm (Aat o1 o2 d) xs ys c
  | .tup xs,.tup ys=>Tm (Aat o1 o2 d) xs ys c
  | .fn _ xs us,.fn _ ys ws=>Tm (Aat o1 o2 d) us ws (Tm (Aat o1 o2 d) xs ys c)
  | .v (.agg xs),.agg ys=>Tm (Aat o1 o2 d) (toL xs.toList) ys c
  | .agg xs,.v (.agg ys)=>Tm (Aat o1 o2 d) xs (toL ys.toList) c
  | .v (.tuple xs),.tup ys=>Tm (Aat o1 o2 d) (toL xs.toList) ys c
  | .tup xs,.v (.tuple ys)=>Tm (Aat o1 o2 d) xs (toL ys.toList) c
  |_,_=>c
def Tv (M:Mvs):Nat→Bool→A→A→A
 |0,_,_,_=> .dead
 | d+1,g,x,y=>match(bif Agg x y then TR x else x),(bif Agg x y then TR y else y) with
  | .sq i,.sq j=>bif Nat.beq i j then .sq i else match A8j i j M with
   |some m=> .sq m
   |none=> .dead
  | .v x,.sq j=>bif E5 x then(match A8k false j M with
   |some m=> .sq m
   |none=> .dead) else .dead
  | .sq i,.v y=>bif E5 y then(match A8i false i M with
   |some m=> .sq m
   |none=> .dead) else .dead
  | .dq i,.dq j=>bif Nat.beq i j then .dq i else match A8j i j M with
   |some m=> .dq m
   |none=> .dead
  | .v x,.dq j=>bif E5 x then(match A8k true j M with
   |some m=> .dq m
   |none=> .dead) else .dead
  | .dq i,.v y=>bif E5 y then(match A8i true i M with
   |some m=> .dq m
   |none=> .dead) else .dead
  | .agg xs,.agg ys=>T7 (Eh (Tv M d g) g xs ys)
  | .tup xs,.tup ys=> .tup (Eh (Tv M d g) g xs ys)
  | .fn f xs us,.fn h ys ws=>bif Nat.beq f h then .fn f (Eh (Tv M d g) g xs ys) (Eh (Tv M d g) g us ws) else .dead
  | .vw i sz lo n _,.vw j jk vh n' _=>bif Nat.beq i j then(bif Nat.beq sz jk then .vw i sz (bif g then lo else vh) (bif g then n else n') false else .dead) else .dead
  | .el i k sz off,.el j k' jk br=>bif Nat.beq i j then(bif Nat.beq sz jk then(bif Nat.beq off br then .el i (bif g then k else k') sz off else .dead) else .dead) else .dead
  |x,y=>OB 4 g x y
def OC (M:Mvs) (g:Bool) (x y:A):A:=Tv M 5 g x y
def B2c (d:Bool):Value:=bif d then .agg #[.slice none 0 0] else .slice none 0 0
def A60 (N:Nm) (nx:Nat) (jr:Mv→Option Nat) (M:Mvs):Prop:=∀e∈M,e.m <nx∧(∀i,jr e=some i→i <nx∧N.q e.m=N.q i)∧(jr e=none→N.q e.m=B2c e.d)
def Bhb (g:Bool):Mv→Option Nat:=bif g then Mv.l else Mv.r
section
variable {F:Nat→Prop} {N:Nm} {nx:Nat} {R:World} {g:Bool} {M:Mvs}
theorem Aje {i j m:Nat}:∀{M:Mvs},A8j i j M=some m→∃e∈M,e.l=some i∧e.r=some j∧e.m=m
 | [],h=>by cases h
 | e::r,h=>by
  unfold A8j at h
  cases hb:(isO i e.l&&isO j e.r) with
  |true=>
   rw[hb] at h
   cases h
   rw[Bool.and_eq_true] at hb
   exact⟨e,List.mem_cons_self ..,A27 hb.1,A27 hb.2,rfl⟩
  |false=>
   rw[hb] at h
   obtain⟨e',h1,h2⟩:=Aje (M:=r) h
   exact⟨e',List.mem_cons_of_mem _ h1,h2⟩
theorem A0b {o:Option Nat} (h:isNone o=true):o=none:=by cases o<;>first|rfl|cases h
theorem Ajf {d:Bool} {j m:Nat}:∀{M:Mvs},A8k d j M=some m→∃e∈M,e.l=none∧e.r=some j∧e.m=m∧e.d=d
 | [],h=>by cases h
 | e::r,h=>by
  unfold A8k at h
  cases hb:(isNone e.l&&(isO j e.r&&Aww e.d d)) with
  |true=>
   rw[hb] at h
   cases h
   rw[Bool.and_eq_true,Bool.and_eq_true] at hb
   exact⟨e,List.mem_cons_self ..,A0b hb.1,A27 hb.2.1,rfl,Zq hb.2.2⟩
  |false=>
   rw[hb] at h
   obtain⟨e',h1,h2⟩:=Ajf (M:=r) h
   exact⟨e',List.mem_cons_of_mem _ h1,h2⟩
theorem Ajd {d:Bool} {j m:Nat}:∀{M:Mvs},A8i d j M=some m→∃e∈M,e.l=some j∧e.r=none∧e.m=m∧e.d=d
 | [],h=>by cases h
 | e::r,h=>by
  unfold A8i at h
  cases hb:(isO j e.l&&(isNone e.r&&Aww e.d d)) with
  |true=>
   rw[hb] at h
   cases h
   rw[Bool.and_eq_true,Bool.and_eq_true] at hb
   exact⟨e,List.mem_cons_self ..,A27 hb.1,A0b hb.2.1,rfl,Zq hb.2.2⟩
  |false=>
   rw[hb] at h
   obtain⟨e',h1,h2⟩:=Ajd (M:=r) h
   exact⟨e',List.mem_cons_of_mem _ h1,h2⟩
theorem Hv.sq_as {i m:Nat} {v:Value} (h:Hv F N nx R (.sq i) v) (hm:m <nx) (e:N.q m=N.q i):Hv F N nx R (.sq m) v:=by
 rw[h.sq_inv.2,←e]
 exact .sq hm
theorem Hv.dq_as {i m:Nat} {v:Value} (h:Hv F N nx R (.dq i) v) (hm:m <nx) (e:N.q m=N.q i):Hv F N nx R (.dq m) v:=by
 rw[h.dq_inv.2,←e]
 exact .dq hm
theorem A0o (hM:A60 N nx (Bhb g) M):∀(d:Nat) {x y:A} {v:Value},Hv F N nx R (bif g then x else y) v→Hv F N nx R (Tv M d g x y) v
 |0,_,_,_,_=> .dead _
 | d +1,x,y,v,h=>by
  have ih:∀{x y v},Hv F N nx R (bif g then x else y) v→Hv F N nx R (Tv M d g x y) v:=fun h=>A0o hM d h
  have h':Hv F N nx R (bif g then(bif Agg x y then TR x else x) else(bif Agg x y then TR y else y)) v:=by
   cases Agg x y with
   |false=>exact h
   |true=>cases g<;>exact A1j h
  unfold Tv
  generalize (bif Agg x y then TR x else x)=x' at*
  generalize (bif Agg x y then TR y else y)=y' at*
  clear h
  have h:=h'
  clear h'
  split
  ·rename_i i j
   cases h1:Nat.beq i j with
   |true=>
    obtain rfl:=Nat.eq_of_beq_eq_true h1
    cases g<;>exact h
   | false=>
    simp only[cond_false]
    split
    ·rename_i m hm
     obtain⟨e,h2,h3,h4,rfl⟩:=Aje hm
     obtain⟨k1,k2,_⟩:=hM e h2
     cases g with
     |true=>exact Hv.sq_as h k1 (k2 i h3).2
     |false=>exact Hv.sq_as h k1 (k2 j h4).2
    ·exact .dead _
  ·rename_i x j
   cases hx:E5 x with
   |false=>exact .dead _
   | true=>
    obtain rfl:=G9 hx
    simp only[cond_true]
    split
    ·rename_i m hm
     obtain⟨e,h2,h3,h4,rfl,h9⟩:=Ajf hm
     obtain⟨k1,k2,k3⟩:=hM e h2
     cases g with
     |true=>
      have k4:=k3 h3
      rw[h9] at k4
      rw[h.v_inv,show Value.slice none 0 0=N.q e.m from k4.symm]
      exact .sq k1
     |false=>exact Hv.sq_as h k1 (k2 j h4).2
    ·exact .dead _
  ·rename_i i y
   cases hx:E5 y with
   |false=>exact .dead _
   | true=>
    obtain rfl:=G9 hx
    simp only[cond_true]
    split
    ·rename_i m hm
     obtain⟨e,h2,h3,h4,rfl,h9⟩:=Ajd hm
     obtain⟨k1,k2,k3⟩:=hM e h2
     cases g with
     |true=>exact Hv.sq_as h k1 (k2 i h3).2
     |false=>
      have k4:=k3 h4
      rw[h9] at k4
      rw[h.v_inv,show Value.slice none 0 0=N.q e.m from k4.symm]
      exact .sq k1
    ·exact .dead _
  ·rename_i i j
   cases h1:Nat.beq i j with
   |true=>
    obtain rfl:=Nat.eq_of_beq_eq_true h1
    cases g<;>exact h
   | false=>
    simp only[cond_false]
    split
    ·rename_i m hm
     obtain⟨e,h2,h3,h4,rfl⟩:=Aje hm
     obtain⟨k1,k2,_⟩:=hM e h2
     cases g with
     |true=>exact Hv.dq_as h k1 (k2 i h3).2
     |false=>exact Hv.dq_as h k1 (k2 j h4).2
    ·exact .dead _
  ·rename_i x j
   cases hx:E5 x with
   |false=>exact .dead _
   | true=>
    obtain rfl:=G9 hx
    simp only[cond_true]
    split
    ·rename_i m hm
     obtain⟨e,h2,h3,h4,rfl,h9⟩:=Ajf hm
     obtain⟨k1,k2,k3⟩:=hM e h2
     cases g with
     |true=>
      have k4:=k3 h3
      rw[h9] at k4
      have l7:Hv F N nx R (.dq e.m) (fam (N.q e.m) 0):=.dq k1
      have hf:fam (N.q e.m) 0=.slice none 0 0:=by rw[k4];rfl
      rw[hf] at l7
      rw[h.v_inv]
      exact l7
     |false=>exact Hv.dq_as h k1 (k2 j h4).2
    ·exact .dead _
  ·rename_i i y
   cases hx:E5 y with
   |false=>exact .dead _
   | true=>
    obtain rfl:=G9 hx
    simp only[cond_true]
    split
    ·rename_i m hm
     obtain⟨e,h2,h3,h4,rfl,h9⟩:=Ajd hm
     obtain⟨k1,k2,k3⟩:=hM e h2
     cases g with
     |true=>exact Hv.dq_as h k1 (k2 i h3).2
     |false=>
      have k4:=k3 h4
      rw[h9] at k4
      have l7:Hv F N nx R (.dq e.m) (fam (N.q e.m) 0):=.dq k1
      have hf:fam (N.q e.m) 0=.slice none 0 0:=by rw[k4];rfl
      rw[hf] at l7
      rw[h.v_inv]
      exact l7
    ·exact .dead _
  ·rename_i xs ys
   have h':Hv F N nx R (.agg (bif g then xs else ys)) v:=by cases g<;>exact h
   obtain⟨vs,rfl,h2⟩:=h'.agg_inv
   exact U4 (Gx ih h2)
  ·rename_i xs ys
   have h':Hv F N nx R (.tup (bif g then xs else ys)) v:=by cases g<;>exact h
   obtain⟨vs,rfl,h2⟩:=h'.tup_inv
   exact Hv.of_tup (Gx ih h2)
  ·rename_i f xs us h0 ys ws
   cases h1:Nat.beq f h0 with
   |false=>exact .dead _
   |true=>
    obtain rfl:=Nat.eq_of_beq_eq_true h1
    have h':Hv F N nx R (.fn f (bif g then xs else ys) (bif g then us else ws)) v:=by cases g<;>exact h
    obtain⟨vs,ks,rfl,h2,h3⟩:=h'.fn_inv
    exact Hv.of_fn (Gx ih h2) (Gx ih h3)
  ·rename_i i sz lo n f j jk vh n' f'
   cases h1:Nat.beq i j with
   |false=>exact .dead _
   | true=>
    cases h2:Nat.beq sz jk with
    |false=>exact .dead _
    | true=>
     obtain rfl:=Nat.eq_of_beq_eq_true h1
     obtain rfl:=Nat.eq_of_beq_eq_true h2
     cases g with
     |true=>
      obtain⟨k1,a,c,rfl,k2,_,k4⟩:=h.vw_inv
      exact .vw k1 k2 (fun e=>by cases e) k4
     |false=>
      obtain⟨k1,a,c,rfl,k2,_,k4⟩:=h.vw_inv
      exact .vw k1 k2 (fun e=>by cases e) k4
  ·rename_i i k sz off j k' jk br
   cases h1:Nat.beq i j with
   |false=>exact .dead _
   | true=>
    cases h2:Nat.beq sz jk with
    |false=>exact .dead _
    | true=>
     cases h3:Nat.beq off br with
     |false=>exact .dead _
     |true=>
      obtain rfl:=Nat.eq_of_beq_eq_true h1
      obtain rfl:=Nat.eq_of_beq_eq_true h2
      obtain rfl:=Nat.eq_of_beq_eq_true h3
      cases g<;>exact h
  ·exact ZG 4 h
theorem UA (hM:A60 N nx (Bhb g) M) {x y:A} {v:Value} (h:Hv F N nx R (bif g then x else y) v):Hv F N nx R (OC M g x y) v:=by
 exact A0o hM 5 h
end
def Atp (M:Mvs) (g:Bool):FY→FY→Option FY
 | .ty c l,.ty c' l'=>match TC.same c' c with
  |some h=>some (.ty c (bif g then l else RQ h.down l'))
  |none=>none
 | .lst cs,.ty c l=>match A70 c cs with
  |some (l',[])=>some (.ty c (bif g then l' else l))
  |_=>none
 | .ty c l,.lst cs=>match A70 c cs with
  |some (l',[])=>some (.ty c (bif g then l else l'))
  |_=>none
 | .lst xs,.lst ys=>bif Nat.beq xs.length ys.length then some (.lst ((xs.zip ys).map fun p=>Eh (OC M g) g p.1 p.2)) else none
def Bju (M:Mvs) (g:Bool) (x y:A):Option A:=match x,y with
 | .av c n l,.av c' n' l'=>match TC.same c' c with
  |some h=>bif Nat.beq n n' then some (.av c n (bif g then l else RQ h.down l')) else none
  |none=>none
 |x,y=>bif Oq x||Oq y||Oq (OC M g x y) then none else some (OC M g x y)
def Ark (M:Mvs) (g:Bool):List A→List A→Option (List A)
 | [],[]=>some []
 | x::xs,y::ys=>match Ark M g xs ys with
  |some r=>match Bju M g x y with
   |some z=>some (z::r)
   |none=>none
  |none=>none
 |_,_=>none
def z0:TC→Value→Bool
 | .u8,.int .u8 n=>n==0
 | .u32,.int .u32 n=>n==0
 | .i64,.int .i64 n=>n==0
 | .bool,.bool b=>!b
 |_,_=>false
def Acd (c:TC):List A→Bool
 | []=>true
 | .v x::r=>z0 c x&&Acd c r
 |_=>false
theorem B6t {c:TC} {x:Value} (h:z0 c x=true):x=sv c (Av c):=by
 unfold z0 at h
 split at h<;>try (cases h;done)
 ·rw[eq_of_beq h];rfl
 ·rw[eq_of_beq h];rfl
 ·rw[eq_of_beq h];rfl
 ·rename_i b
  cases b with
  |true=>cases h
  |false=>rfl
theorem Awv {F:Nat→Prop} {N:Nm} {nx:Nat} {R:World} {c:TC}:∀{cs:List A} {vs:List Value},HL F N nx R cs vs→Acd c cs=true→vs=(List.replicate cs.length (Av c)).map (sv c)
 | [],_,h,_=>h.inv0
 |x::r,vs,h,hz=>by
  obtain⟨v,us,rfl,h1,h2⟩:=h.inv
  cases x<;>try (cases hz;done)
  unfold Acd at hz
  rw[Bool.and_eq_true] at hz
  rw[List.length_cons,List.replicate_succ,List.map_cons,←Awv h2 hz.2,h1.v_inv,B6t hz.1]
theorem Bcl {F:Nat→Prop} {N:Nm} {nx:Nat} {R:World} {i:Nat} {e:TypeId} {c:TC} {n:Nat} {cs:List A} (h:Zo F N nx R i (.box e cs)) (hb:(Nat.beq cs.length n&&(c.one&&Acd c cs))=true):Zo F N nx R i (.rcd e [.av c n (List.replicate n (Av c))]):=by
 simp only[Bool.and_eq_true] at hb
 obtain⟨b1,b2,b3⟩:=hb
 obtain rfl:=Nat.eq_of_beq_eq_true b1
 obtain⟨vs,h1,h2⟩:=h
 refine⟨vs,⟨.agg ((List.replicate cs.length (Av c)).map (sv c)).toArray,[],?_,.av b2 (by rw[List.length_replicate]),fun e=>(by cases e),rfl⟩,h2⟩
 rw[Awv h1 b3]
 simp[Value.cells]
def A9g:List Nat→List Nat→Bool
 | [],[]=>true
 |x::r,y::t=>Nat.beq x y&&A9g r t
 |_,_=>false
theorem A9h:∀{x y:List Nat},A9g x y=true→x=y
 | [],[],_=>rfl
 | [],_::_,h=>by cases h
 |_::_,[],h=>by cases h
 |x::r,y::t,h=>by
  unfold A9g at h
  rw[Bool.and_eq_true] at h
  rw[Nat.eq_of_beq_eq_true h.1,A9h h.2]
def A3f (M:Mvs) (g:Bool):Ob→Ob→Option Ob
 | .box e cs,.box e' dx=>bif Nat.beq e e' then some (.box e (Eh (OC M g) g cs dx)) else none
 | .arr e sz els,.arr e' jk els'=>bif Nat.beq e e' then(bif Nat.beq sz jk then(match Atp M g els els' with
  |some r=>some (.arr e sz r)
  |none=>none) else none) else none
 | .map k v l,.map k' v' l'=>match TC.same k' k,TC.same v' v with
  |some h,some h'=>some (.map k v (bif g then l else(h.down▸h'.down▸l':List (U k×U v))))
  |_,_=>none
 | .sit b p,.sit b' p'=>some (.sit (bif g then b else b') (bif g then p else p'))
 | .deep e c l,.deep e' c' l'=>match TC.same c' c with
  |some h=>bif Nat.beq e e' then some (.deep e c (bif g then l else RQ h.down l')) else none
  |none=>none
 | .rcd e xs,.rcd e' bl=>bif Nat.beq e e' then(match Ark M g xs bl with
  |some r=>some (.rcd e r)
  |none=>none) else none
 | .abs m c l,.abs m' c' l'=>match TC.same c' c with
  |some h=>bif Nat.beq m m' then some (.abs m c (bif g then l else RQ h.down l')) else none
  |none=>none
 | .box e cs,.rcd e' [.av c n l]=>bif Nat.beq e e'&&(Nat.beq cs.length n&&(c.one&&Acd c cs)) then some (.rcd e [.av c n (bif g then List.replicate n (Av c) else l)]) else none
 | .rcd e' [.av c n l],.box e cs=>bif Nat.beq e e'&&(Nat.beq cs.length n&&(c.one&&Acd c cs)) then some (.rcd e [.av c n (bif g then l else List.replicate n (Av c))]) else none
 | .lp f b us cs k,.lp f' b' us' dx k'=>bif Nat.beq f f'&&(Nat.beq b b'&&A9g us us') then some (.lp f b us (Eh (OC M g) g cs dx) (eqN g k k')) else none
 |_,_=>none
section
variable {F:Nat→Prop} {N:Nm} {nx:Nat} {R:World} {g:Bool} {M:Mvs} {size:Nat}
theorem Atq (hM:A60 N nx (Bhb g) M):∀{xs ys r:List A} {us:List Value},Ark M g xs ys=some r→HW F N nx R (bif g then xs else ys) us→HW F N nx R r us
 | [],[],_,_,he,h=>by cases he;cases g<;>exact h
 | [],_::_,_,_,he,_=>by cases he
 |_::_,[],_,_,he,_=>by cases he
 | x::xs,y::ys,r,us,he,h=>by
  unfold Ark at he
  split at he<;>try (cases he;done)
  rename_i t ht
  split at he<;>try (cases he;done)
  rename_i z hz
  cases he
  obtain⟨v,ts,h1,h2,h3,h4⟩:HW F N nx R ((bif g then x else y)::(bif g then xs else ys)) us:=by cases g<;>exact h
  refine⟨v,ts,h1,?_⟩
  have fk:=Atq hM ht h4
  unfold Bju at hz
  split at hz
  ·rename_i c n l c' n' l'
   split at hz<;>try (cases hz;done)
   rename_i hh _
   obtain⟨hh⟩:=hh
   subst hh
   cases hb:Nat.beq n n' with
   |false=>rw[hb] at hz;cases hz
   |true=>
    rw[hb] at hz
    cases hz
    obtain rfl:=Nat.eq_of_beq_eq_true hb
    exact⟨by cases g<;>exact h2,fun e=>(by cases e),fk⟩
  ·cases hb:Oq x||Oq y||Oq (OC M g x y) with
   |true=>rw[hb] at hz;cases hz
   |false=>
    rw[hb] at hz
    cases hz
    refine⟨UA hM h2,fun _=>h3 ?_,fk⟩
    rw[Bool.or_eq_false_iff,Bool.or_eq_false_iff] at hb
    cases g
    ·exact hb.1.2
    ·exact hb.1.1
theorem A9e (hM:A60 N nx (Bhb g) M) {x y r:FY} {zs:List Value} (he:Atp M g x y=some r) (h:DT F N nx R (bif g then x else y) size zs):r.n=(bif g then x else y).n∧DT F N nx R r size zs:=by
 unfold Atp at he
 split at he
 ·rename_i c l c' l'
  split at he<;>try (cases he;done)
  rename_i h1 _
  obtain⟨h1⟩:=h1
  subst h1
  cases he
  cases g<;>exact⟨rfl,h⟩
 ·rename_i cs c l
  split at he<;>try (cases he;done)
  rename_i l' hl
  cases he
  cases g with
  |false=>exact⟨rfl,h⟩
  |true=>exact⟨(Zt (F:=F) (N:=N) (nx:=nx) (R:=R) hl (fun p hp=>by cases hp)).1,DT.ty (els:=.lst cs) h hl (fun p hp=>by cases hp)⟩
 ·rename_i c l cs
  split at he<;>try (cases he;done)
  rename_i l' hl
  cases he
  cases g with
  |true=>exact⟨rfl,h⟩
  |false=>exact⟨(Zt (F:=F) (N:=N) (nx:=nx) (R:=R) hl (fun p hp=>by cases hp)).1,DT.ty (els:=.lst cs) h hl (fun p hp=>by cases hp)⟩
 ·rename_i xs ys
  cases hb:Nat.beq xs.length ys.length with
  |false=>rw[hb] at he;cases he
  | true=>
   rw[hb] at he
   cases he
   have hlen:=Nat.eq_of_beq_eq_true hb
   have hz:((xs.zip ys).map fun p=>Eh (OC M g) g p.1 p.2).length=xs.length:=by rw[List.length_map,List.length_zip];omega
   have hn:(FY.lst ((xs.zip ys).map fun p=>Eh (OC M g) g p.1 p.2)).n=(bif g then FY.lst xs else FY.lst ys).n:=by
    show List.length _=_
    rw[hz]
    cases g with
    |true=>rfl
    |false=>exact hlen
   refine⟨hn,by rw[hn];exact h.1,fun k hk=>?_⟩
   rw[hn] at hk
   have h2:=h.2 k hk
   have uz:k <xs.length:=by cases g with
    |true=>exact hk
    |false=>have:k <ys.length:=hk;omega
   have u3:k <ys.length:=by omega
   show HL F N nx R (K7 _ k) _
   rw[Fc,List.getD_eq_getElem?_getD,List.getElem?_map]
   have e1:(xs.zip ys)[k]?=some (xs[k],ys[k]):=by
    rw[List.getElem?_zip_eq_some]
    exact⟨List.getElem?_eq_getElem uz,List.getElem?_eq_getElem u3⟩
   rw[e1]
   show HL F N nx R (Eh (OC M g) g xs[k] ys[k]) _
   refine Gx (fun hh=>UA hM hh) ?_
   have e2:(bif g then FY.lst xs else FY.lst ys).nth k=bif g then xs[k] else ys[k]:=by
    cases g with
    |true=>show K7 xs k=xs[k];rw[Fc,List.getD_eq_getElem?_getD,List.getElem?_eq_getElem uz];rfl
    |false=>show K7 ys k=ys[k];rw[Fc,List.getD_eq_getElem?_getD,List.getElem?_eq_getElem u3];rfl
   rw[e2] at h2
   exact h2
theorem Bei (hM:A60 N nx (Bhb g) M) {i:Nat} {x y r:Ob} (he:A3f M g x y=some r):(Zo F N nx R i (bif g then x else y)→Zo F N nx R i r)∧∀gg,foot N i r gg↔foot N i (bif g then x else y) gg:=by
 unfold A3f at he
 split at he<;>try (cases he;done)
 ·rename_i e cs e' dx
  cases hb:Nat.beq e e' with
  |false=>rw[hb] at he;cases he
  |true=>
   rw[hb] at he
   cases he
   obtain rfl:=Nat.eq_of_beq_eq_true hb
   refine⟨fun h=>?_,fun gg=>by cases g<;>exact Iff.rfl⟩
   have h':Zo F N nx R i (.box e (bif g then cs else dx)):=by cases g<;>exact h
   obtain⟨vs,h1,h2⟩:=h'
   exact⟨vs,Gx (fun hh=>UA hM hh) h1,h2⟩
 ·rename_i e sz els e' jk els'
  cases hb:Nat.beq e e' with
  |false=>rw[hb] at he;cases he
  | true=>
   cases az:Nat.beq sz jk with
   |false=>rw[hb,az] at he;cases he
   |true=>
    rw[hb,az] at he
    simp only[cond_true] at he
    split at he<;>try (cases he;done)
    rename_i r' hr
    cases he
    obtain rfl:=Nat.eq_of_beq_eq_true hb
    obtain rfl:=Nat.eq_of_beq_eq_true az
    refine⟨fun h=>?_,fun gg=>by cases g<;>exact Iff.rfl⟩
    have h':Zo F N nx R i (.arr e sz (bif g then els else els')):=by cases g<;>exact h
    obtain⟨zs,h1,h2⟩:=h'
    obtain⟨k1,k2⟩:=A9e hM hr ⟨h1.1,h2⟩
    exact⟨zs,by rw[k1];exact h1,k2.2⟩
 ·rename_i k v l k' v' l'
  split at he<;>try (cases he;done)
  rename_i h1 h2 _ _
  obtain⟨h1⟩:=h1
  obtain⟨h2⟩:=h2
  subst h1 h2
  cases he
  exact⟨fun h=>by cases g<;>exact h,fun gg=>by cases g<;>exact Iff.rfl⟩
 ·cases he
  exact⟨fun h=>by cases g<;>exact h,fun gg=>by cases g<;>exact Iff.rfl⟩
 ·rename_i e c l e' c' l'
  split at he<;>try (cases he;done)
  rename_i h1 _
  obtain⟨h1⟩:=h1
  subst h1
  cases hb:Nat.beq e e' with
  |false=>rw[hb] at he;cases he
  |true=>
   rw[hb] at he
   cases he
   obtain rfl:=Nat.eq_of_beq_eq_true hb
   exact⟨fun h=>by cases g<;>exact h,fun gg=>by cases g<;>exact Iff.rfl⟩
 ·rename_i e xs e' bl
  cases hb:Nat.beq e e' with
  |false=>rw[hb] at he;cases he
  |true=>
   rw[hb] at he
   simp only[cond_true] at he
   split at he<;>try (cases he;done)
   rename_i r' hr
   cases he
   obtain rfl:=Nat.eq_of_beq_eq_true hb
   refine⟨fun h=>?_,fun gg=>by cases g<;>exact Iff.rfl⟩
   have h':Zo F N nx R i (.rcd e (bif g then xs else bl)):=by cases g<;>exact h
   obtain⟨us,h1,h2⟩:=h'
   exact⟨us,Atq hM hr h1,h2⟩
 ·rename_i m c l m' c' l'
  split at he<;>try (cases he;done)
  rename_i h1 _
  obtain⟨h1⟩:=h1
  subst h1
  cases hb:Nat.beq m m' with
  |false=>rw[hb] at he;cases he
  |true=>
   rw[hb] at he
   cases he
   obtain rfl:=Nat.eq_of_beq_eq_true hb
   exact⟨fun h=>by cases g<;>exact h,fun gg=>by cases g<;>exact Iff.rfl⟩
 ·rename_i e cs e' c n l
  cases hb:(Nat.beq e e'&&(Nat.beq cs.length n&&(c.one&&Acd c cs))) with
  |false=>rw[hb] at he;cases he
  |true=>
   rw[hb] at he
   cases he
   rw[Bool.and_eq_true] at hb
   obtain rfl:=Nat.eq_of_beq_eq_true hb.1
   refine⟨fun h=>?_,fun gg=>by cases g<;>exact Iff.rfl⟩
   cases g with
   |true=>exact Bcl h hb.2
   |false=>exact h
 ·rename_i e' c n l e cs
  cases hb:(Nat.beq e e'&&(Nat.beq cs.length n&&(c.one&&Acd c cs))) with
  |false=>rw[hb] at he;cases he
  |true=>
   rw[hb] at he
   cases he
   rw[Bool.and_eq_true] at hb
   obtain rfl:=Nat.eq_of_beq_eq_true hb.1
   refine⟨fun h=>?_,fun gg=>by cases g<;>exact Iff.rfl⟩
   cases g with
   |true=>exact h
   |false=>exact Bcl h hb.2
 ·rename_i f b us cs k f' b' us' dx k'
  cases hb:(Nat.beq f f'&&(Nat.beq b b'&&A9g us us')) with
  |false=>rw[hb] at he;cases he
  |true=>
   rw[hb] at he
   cases he
   rw[Bool.and_eq_true,Bool.and_eq_true] at hb
   obtain rfl:=Nat.eq_of_beq_eq_true hb.1
   obtain rfl:=Nat.eq_of_beq_eq_true hb.2.1
   obtain rfl:=A9h hb.2.2
   refine⟨fun h=>?_,fun gg=>by cases g<;>exact Iff.rfl⟩
   rw[B1q]
   have h':Zo F N nx R i (.lp f b us (bif g then cs else dx) (bif g then k else k')):=by cases g<;>exact h
   obtain⟨vs,h1,h2⟩:=h'
   exact⟨vs,Gx (fun hh=>UA hM hh) h1,h2⟩
end
def mvS (jr nq:Mv→Option Nat) (oo:AE):Mvs→Nat→AE→Option (Nat×AE)
 | [],nx,o=>some (nx,o)
 | e ::r,nx,o=>match mvS jr nq oo r nx o with
  | some (nx',o')=>bif Nat.ble nx' e.m then(match jr e with
   |some i=>match Ai i o' with
    |some (.arr t sz els)=>bif Nat.blt i nx' then some (e.m+1,(i,none)::(e.m,some (.arr t sz els))::o') else none
    |some (.deep t c l)=>bif Nat.blt i nx' then some (e.m+1,(i,none)::(e.m,some (.deep t c l))::o') else none
    |some (.abs t c l)=>bif Nat.blt i nx' then some (e.m+1,(i,none)::(e.m,some (.abs t c l))::o') else none
    |_=>none
   | none=>match nq e with
    | some j=>match Ai j oo with
     |some (.arr t sz _)=>bif e.d then none else some (e.m+1,(e.m,some (.arr t sz (.lst [])))::o')
     |some (.deep t c _)=>match Bic c with
      |some _=>bif e.d then some (e.m+1,(e.m,some (.deep t c []))::o') else none
      |none=>none
     |_=>none
    |none=>none) else none
  |none=>none
section
variable {F:Nat→Prop} {N:Nm} {nx:Nat} {o:AE} {R:World}
theorem Bp.move (h:Bp F N nx o R) {i m:Nat} {ob0:Ob} (hl:Ai i o=some ob0) (hm:nx≤m) (gb:Ext F N nx R F (N.setQ m (N.q i)) (m+1) R→(N.setQ m (N.q i)).q m=N.q i→Zo F N nx R i ob0→Zo F (N.setQ m (N.q i)) (m+1) R m ob0) (qp:(N.setQ m (N.q i)).q m=N.q i→∀g,foot (N.setQ m (N.q i)) m ob0 g→foot N i ob0 g):
  Bp F (N.setQ m (N.q i)) (m+1) ((i,none)::(m,some ob0)::o) R∧Step F N nx o R F (N.setQ m (N.q i)) (m+1) ((i,none)::(m,some ob0)::o) R:=by
 have hq:∀k,k <nx→(N.setQ m (N.q i)).q k=N.q k:=fun k hk=>EF N.q _ (by omega)
 have cg:(N.setQ m (N.q i)).q m=N.q i:=C2 N.q m _
 have st:Ext F N nx R F (N.setQ m (N.q i)) (m+1) R:=⟨by omega,fun _ _=>rfl,hq,fun _ h=>h,fun _ _=>rfl⟩
 have bf:∀k ob,Ai k ((i,none)::(m,some ob0)::o)=some ob→(k=m∧k≠i∧ob=ob0)∨(k≠m∧k≠i∧Ai k o=some ob):=fun k ob hk=>by
  rw[AG] at hk
  by_cases gp:k=i
  ·rw[if_pos gp] at hk;cases hk
  ·rw[if_neg gp,AG] at hk
   by_cases iy:k=m
   ·rw[if_pos iy] at hk;cases hk;exact .inl ⟨iy,gp,rfl⟩
   ·rw[if_neg iy] at hk;exact .inr ⟨iy,gp,hk⟩
 have fm:=qp cg
 have fo:∀k ob g,Ai k o=some ob→foot (N.setQ m (N.q i)) k ob g→foot N k ob g:=fun k ob g hk hg=>(ER st (h.ob k ob hk).1).1 hg
 refine⟨⟨h.flt,fun k ob hk=>?_,fun k ob g hk hg=>?_,fun j k x y g hj hk hx hy=>?_,h.gl⟩,by omega,fun _ _=>rfl,hq,fun _ h=>h,fun _ h=> .inl h,fun g ⟨k,ob,hk,hg⟩=>?_,rfl,rfl,rfl,Nat.le_refl _,fun _ _ _=>rfl⟩
 ·rcases bf k ob hk with⟨rfl,_,rfl⟩|⟨_,_,ak⟩
  ·exact⟨Nat.lt_succ_self _,gb st cg (h.ob i _ hl).2⟩
  ·obtain⟨h1,h2⟩:=h.ob k ob ak
   exact⟨by omega,h2.step st h1 fun _ _=>rfl⟩
 ·rcases bf k ob hk with⟨rfl,_,rfl⟩|⟨_,_,ak⟩
  ·exact h.ff i _ g hl (fm g hg)
  ·exact h.ff k ob g ak (fo k ob g ak hg)
 ·rcases bf j x hj with⟨rfl,nh,rfl⟩|⟨ux,nh,df⟩
  ·rcases bf k y hk with⟨rfl,_,_⟩|⟨iy,gp,ak⟩
   ·rfl
   ·exact absurd (h.sep i k _ y g hl ak (fm g hx) (fo k y g ak hy)).symm gp
  ·rcases bf k y hk with⟨rfl,gp,rfl⟩|⟨iy,gp,ak⟩
   ·exact absurd (h.sep j i x _ g df hl (fo j x g df hx) (fm g hy)) nh
   ·exact h.sep j k x y g df ak (fo j x g df hx) (fo k y g ak hy)
 ·rcases bf k ob hk with⟨rfl,_,rfl⟩|⟨_,_,ak⟩
  ·exact .inl ⟨i,_,hl,fm g hg⟩
  ·exact .inl ⟨k,ob,ak,fo k ob g ak hg⟩
theorem Bp.moveR (h:Bp F N nx o R) {i m:Nat} {t:TypeId} {sz:Nat} {els:FY} (hl:Ai i o=some (.arr t sz els)) (hm:nx≤m):
  Bp F (N.setQ m (N.q i)) (m+1) ((i,none)::(m,some (.arr t sz els))::o) R∧Step F N nx o R F (N.setQ m (N.q i)) (m+1) ((i,none)::(m,some (.arr t sz els))::o) R:=
 h.move hl hm (fun st cg ⟨zs,h1,h2⟩=>⟨zs,by rw[cg];exact h1,fun j hj=>(h2 j hj).step st⟩) fun cg g hg=>by
  have ah:Hz ((N.setQ m (N.q i)).q m)=some g:=hg
  rw[cg] at ah
  exact ah
theorem Bp.moveD (h:Bp F N nx o R) {i m:Nat} {t:TypeId} {c:TC} {l:List (U c)} (hl:Ai i o=some (.deep t c l)) (hm:nx≤m):
  Bp F (N.setQ m (N.q i)) (m+1) ((i,none)::(m,some (.deep t c l))::o) R∧Step F N nx o R F (N.setQ m (N.q i)) (m+1) ((i,none)::(m,some (.deep t c l))::o) R:=
 h.move hl hm (fun st cg ⟨col,c',zs,h1,h2,h3,h4,h5⟩=>⟨col,c',zs,h1,by rw[cg];exact h2,fun k d hd=>(h3 k d hd).moved st (Nat.lt_succ_self _) (by rw[cg]),fun k d hd=>by
   obtain⟨l',e',us,k1,k2,k3⟩:=h4 k d hd
   exact⟨l',e',us,k1,by rw[cg];exact k2,fun j hj=>(k3 j hj).step st⟩,by rw[cg];exact h5⟩) fun cg g ⟨k,hk,hg⟩=>⟨k,hk,by rw[cg] at hg;exact hg⟩
theorem Bp.moveA (h:Bp F N nx o R) {i m:Nat} {t:Nat} {c:TC} {l:List (U c)} (hl:Ai i o=some (.abs t c l)) (hm:nx≤m):
  Bp F (N.setQ m (N.q i)) (m+1) ((i,none)::(m,some (.abs t c l))::o) R∧Step F N nx o R F (N.setQ m (N.q i)) (m+1) ((i,none)::(m,some (.abs t c l))::o) R:=
 h.move hl hm (fun _ cg ⟨hh,h1,h2⟩=>⟨hh,by rw[cg];exact h1,by rw[cg];exact h2⟩) fun cg g ⟨k,hg⟩=>⟨k,by rw[cg] at hg;exact hg⟩
theorem Bp.nilG (h:Bp F N nx o R) {m:Nat} {ob0:Ob} (v:Value) (hm:nx≤m) (gb:(N.setQ m v).q m=v→Zo F (N.setQ m v) (m+1) R m ob0) (qp:(N.setQ m v).q m=v→∀g,¬foot (N.setQ m v) m ob0 g):
  Bp F (N.setQ m v) (m+1) ((m,some ob0)::o) R∧Step F N nx o R F (N.setQ m v) (m+1) ((m,some ob0)::o) R:=by
 have hq:∀k,k <nx→(N.setQ m v).q k=N.q k:=fun k hk=>EF N.q _ (by omega)
 have cg:(N.setQ m v).q m=v:=C2 N.q m _
 have st:Ext F N nx R F (N.setQ m v) (m+1) R:=⟨by omega,fun _ _=>rfl,hq,fun _ h=>h,fun _ _=>rfl⟩
 have bf:∀k ob,Ai k ((m,some ob0)::o)=some ob→(k=m∧ob=ob0)∨(k≠m∧Ai k o=some ob):=fun k ob hk=>by
  rw[AG] at hk
  by_cases iy:k=m
  ·rw[if_pos iy] at hk;cases hk;exact .inl ⟨iy,rfl⟩
  ·rw[if_neg iy] at hk;exact .inr ⟨iy,hk⟩
 have fm:=qp cg
 have fo:∀k ob g,Ai k o=some ob→foot (N.setQ m v) k ob g→foot N k ob g:=fun k ob g hk hg=>(ER st (h.ob k ob hk).1).1 hg
 refine⟨⟨h.flt,fun k ob hk=>?_,fun k ob g hk hg=>?_,fun j k x y g hj hk hx hy=>?_,h.gl⟩,by omega,fun _ _=>rfl,hq,fun _ h=>h,fun _ h=> .inl h,fun g ⟨k,ob,hk,hg⟩=>?_,rfl,rfl,rfl,Nat.le_refl _,fun _ _ _=>rfl⟩
 ·rcases bf k ob hk with⟨rfl,rfl⟩|⟨_,ak⟩
  ·exact⟨Nat.lt_succ_self _,gb cg⟩
  ·obtain⟨h1,h2⟩:=h.ob k ob ak
   exact⟨by omega,h2.step st h1 fun _ _=>rfl⟩
 ·rcases bf k ob hk with⟨rfl,rfl⟩|⟨_,ak⟩
  ·exact absurd hg (fm g)
  ·exact h.ff k ob g ak (fo k ob g ak hg)
 ·rcases bf j x hj with⟨rfl,rfl⟩|⟨ux,df⟩
  ·exact absurd hx (fm g)
  ·rcases bf k y hk with⟨rfl,rfl⟩|⟨iy,ak⟩
   ·exact absurd hy (fm g)
   ·exact h.sep j k x y g df ak (fo j x g df hx) (fo k y g ak hy)
 ·rcases bf k ob hk with⟨rfl,rfl⟩|⟨_,ak⟩
  ·exact absurd hg (fm g)
  ·exact .inl ⟨k,ob,ak,fo k ob g ak hg⟩
theorem Bp.nilRow (h:Bp F N nx o R) {m:Nat} (t:TypeId) (sz:Nat) {els:FY} (he:els.n=0) (hm:nx≤m):
  Bp F (N.setQ m (.slice none 0 0)) (m+1) ((m,some (.arr t sz els))::o) R∧Step F N nx o R F (N.setQ m (.slice none 0 0)) (m+1) ((m,some (.arr t sz els))::o) R:=
 h.nilG _ hm (fun cg=>⟨[],by rw[cg];exact⟨by rw[he];simp,.inl ⟨none,rfl,he⟩⟩,fun j hj=>absurd hj (by omega)⟩) fun cg g hg=>by
  have ah:Hz ((N.setQ m (.slice none 0 0)).q m)=some g:=hg
  rw[cg] at ah
  cases ah
theorem Bp.nilD (h:Bp F N nx o R) {m:Nat} (t:TypeId) {c:TC} {cc:Nat×TC} (hc:Bic c=some cc) (hm:nx≤m):
  Bp F (N.setQ m (B2c true)) (m+1) ((m,some (.deep t c []))::o) R∧Step F N nx o R F (N.setQ m (B2c true)) (m+1) ((m,some (.deep t c []))::o) R:=
 h.nilG _ hm (fun cg=>⟨cc.1,cc.2,[],hc,by rw[cg];exact⟨by simp,.inl ⟨none,rfl,rfl⟩⟩,(fun k d hd=>by cases k<;>cases hd),(fun k d hd=>by cases k<;>cases hd),fun k k' g hk ak _ _=>by simp at hk ak;omega⟩) fun cg g ⟨k,hk,hg⟩=>by
  rw[cg] at hg
  obtain rfl:k=0:=by simp at hk;omega
  cases hg
theorem Bek (h:Bp F N nx o R) {jr nq:Mv→Option Nat} {oo:AE}:∀{M:Mvs} {nx':Nat} {o':AE},mvS jr nq oo M nx o=some (nx',o')→
  ∃N',Bp F N' nx' o' R∧Step F N nx o R F N' nx' o' R∧A60 N' nx' jr M∧∃d,o'=d++o
 | [],nx',o',he=>by cases he;exact⟨N,h,.refl,(fun e he=>by cases he),[],rfl⟩
 | e :: r,nx',o',he=>by
  unfold mvS at he
  split at he<;>try (cases he;done)
  rename_i nx1 o1 h1
  obtain⟨N1,k1,k2,k3,d,k4⟩:=Bek h h1
  cases hb:Nat.ble nx1 e.m with
  |false=>rw[hb] at he;cases he
  | true=>
   rw[hb] at he
   simp only[cond_true] at he
   have hm:=Nat.le_of_ble_eq_true hb
   split at he
   ·rename_i i hi
    split at he<;>try (cases he;done)
    ·rename_i t sz els hl
     cases ae:Nat.blt i nx1 with
     |false=>rw[ae] at he;cases he
     | true=>
      rw[ae] at he
      cases he
      have au:i <nx1:=Nat.le_of_ble_eq_true ae
      obtain⟨q1,q2⟩:=k1.moveR hl hm
      refine⟨_,q1,k2.trans q2,fun e' cd=>?_,(i,none)::(e.m,some (.arr t sz els))::d,by rw[k4];rfl⟩
      rcases List.mem_cons.1 cd with rfl|cd
      ·refine⟨Nat.lt_succ_self _,fun i' bq=>?_,fun hn=>?_⟩
       ·rw[hi] at bq
        cases bq
        refine⟨by omega,?_⟩
        show Kq N1.q e'.m (N1.q i) e'.m=Kq N1.q e'.m (N1.q i) i
        rw[C2,EF N1.q _ (by omega)]
       ·rw[hi] at hn;cases hn
      ·obtain⟨g1,g2,g3⟩:=k3 e' cd
       refine⟨by omega,fun i' bq=>?_,fun hn=>?_⟩
       ·obtain⟨g4,g5⟩:=g2 i' bq
        refine⟨by omega,?_⟩
        show Kq N1.q e.m (N1.q i) e'.m=Kq N1.q e.m (N1.q i) i'
        rw[EF N1.q _ (by omega:e'.m≠e.m),EF N1.q _ (by omega:i'≠e.m)]
        exact g5
       ·show Kq N1.q e.m (N1.q i) e'.m=_
        rw[EF N1.q _ (by omega:e'.m≠e.m)];exact g3 hn
    ·rename_i t c l hl
     cases ae:Nat.blt i nx1 with
     |false=>rw[ae] at he;cases he
     | true=>
      rw[ae] at he
      cases he
      have au:i <nx1:=Nat.le_of_ble_eq_true ae
      obtain⟨q1,q2⟩:=k1.moveD hl hm
      refine⟨_,q1,k2.trans q2,fun e' cd=>?_,(i,none)::(e.m,some (.deep t c l))::d,by rw[k4];rfl⟩
      rcases List.mem_cons.1 cd with rfl|cd
      ·refine⟨Nat.lt_succ_self _,fun i' bq=>?_,fun hn=>?_⟩
       ·rw[hi] at bq
        cases bq
        refine⟨by omega,?_⟩
        show Kq N1.q e'.m (N1.q i) e'.m=Kq N1.q e'.m (N1.q i) i
        rw[C2,EF N1.q _ (by omega)]
       ·rw[hi] at hn;cases hn
      ·obtain⟨g1,g2,g3⟩:=k3 e' cd
       refine⟨by omega,fun i' bq=>?_,fun hn=>?_⟩
       ·obtain⟨g4,g5⟩:=g2 i' bq
        refine⟨by omega,?_⟩
        show Kq N1.q e.m (N1.q i) e'.m=Kq N1.q e.m (N1.q i) i'
        rw[EF N1.q _ (by omega:e'.m≠e.m),EF N1.q _ (by omega:i'≠e.m)]
        exact g5
       ·show Kq N1.q e.m (N1.q i) e'.m=_
        rw[EF N1.q _ (by omega:e'.m≠e.m)];exact g3 hn
    ·rename_i t c l hl
     cases ae:Nat.blt i nx1 with
     |false=>rw[ae] at he;cases he
     | true=>
      rw[ae] at he
      cases he
      have au:i <nx1:=Nat.le_of_ble_eq_true ae
      obtain⟨q1,q2⟩:=k1.moveA hl hm
      refine⟨_,q1,k2.trans q2,fun e' cd=>?_,(i,none)::(e.m,some (.abs t c l))::d,by rw[k4];rfl⟩
      rcases List.mem_cons.1 cd with rfl|cd
      ·refine⟨Nat.lt_succ_self _,fun i' bq=>?_,fun hn=>?_⟩
       ·rw[hi] at bq
        cases bq
        refine⟨by omega,?_⟩
        show Kq N1.q e'.m (N1.q i) e'.m=Kq N1.q e'.m (N1.q i) i
        rw[C2,EF N1.q _ (by omega)]
       ·rw[hi] at hn;cases hn
      ·obtain⟨g1,g2,g3⟩:=k3 e' cd
       refine⟨by omega,fun i' bq=>?_,fun hn=>?_⟩
       ·obtain⟨g4,g5⟩:=g2 i' bq
        refine⟨by omega,?_⟩
        show Kq N1.q e.m (N1.q i) e'.m=Kq N1.q e.m (N1.q i) i'
        rw[EF N1.q _ (by omega:e'.m≠e.m),EF N1.q _ (by omega:i'≠e.m)]
        exact g5
       ·show Kq N1.q e.m (N1.q i) e'.m=_
        rw[EF N1.q _ (by omega:e'.m≠e.m)];exact g3 hn
   ·rename_i hi
    split at he<;>try (cases he;done)
    rename_i j hj
    split at he<;>try (cases he;done)
    ·rename_i t sz els hl
     cases hed:e.d with
     |true=>rw[hed] at he;cases he
     | false=>
      rw[hed] at he
      cases he
      obtain⟨q1,q2⟩:=k1.nilRow t sz (els:=.lst []) rfl hm
      refine⟨_,q1,k2.trans q2,fun e' cd=>?_,(e.m,some (.arr t sz (.lst [])))::d,by rw[k4];rfl⟩
      rcases List.mem_cons.1 cd with rfl|cd
      ·refine⟨Nat.lt_succ_self _,fun i' bq=>?_,fun hn=>?_⟩
       ·rw[hi] at bq;cases bq
       ·rw[hed];exact C2 N1.q _ _
      ·obtain⟨g1,g2,g3⟩:=k3 e' cd
       refine⟨by omega,fun i' bq=>?_,fun hn=>?_⟩
       ·obtain⟨g4,g5⟩:=g2 i' bq
        refine⟨by omega,?_⟩
        show Kq N1.q e.m _ e'.m=Kq N1.q e.m _ i'
        rw[EF N1.q _ (by omega:e'.m≠e.m),EF N1.q _ (by omega:i'≠e.m)]
        exact g5
       ·show Kq N1.q e.m _ e'.m=_
        rw[EF N1.q _ (by omega:e'.m≠e.m)];exact g3 hn
    ·rename_i t c l hl
     split at he<;>try (cases he;done)
     rename_i cc nz
     cases hed:e.d with
     |false=>rw[hed] at he;cases he
     | true=>
      rw[hed] at he
      cases he
      obtain⟨q1,q2⟩:=k1.nilD t nz hm
      refine⟨_,q1,k2.trans q2,fun e' cd=>?_,(e.m,some (.deep t c []))::d,by rw[k4];rfl⟩
      rcases List.mem_cons.1 cd with rfl|cd
      ·refine⟨Nat.lt_succ_self _,fun i' bq=>?_,fun hn=>?_⟩
       ·rw[hi] at bq;cases bq
       ·rw[hed];exact C2 N1.q _ _
      ·obtain⟨g1,g2,g3⟩:=k3 e' cd
       refine⟨by omega,fun i' bq=>?_,fun hn=>?_⟩
       ·obtain⟨g4,g5⟩:=g2 i' bq
        refine⟨by omega,?_⟩
        show Kq N1.q e.m _ e'.m=Kq N1.q e.m _ i'
        rw[EF N1.q _ (by omega:e'.m≠e.m),EF N1.q _ (by omega:i'≠e.m)]
        exact g5
       ·show Kq N1.q e.m _ e'.m=_
        rw[EF N1.q _ (by omega:e'.m≠e.m)];exact g3 hn
end
def QS (u:Nat):List Nat→Bool
 | []=>false
 |k::r=>bif Nat.beq k u then true else QS u r
def Bl7 (W:List Nat):A→Bool
 | .opt k _ x=>bif QS k W then true else Bl7 W x
 |_=>false
def XF (W:List Nat):Gc→Gc
 | []=>[]
 |(k,x)::r=>(bif Bl7 W x then(k,.dead) else(k,x))::XF W r
def Ato (M:Mvs) (g:Bool):Option A→Option A→A
 |some x,some y=>OC M g x y
 |_,_=> .dead
def A3h (M:Mvs) (g:Bool) (t1 t2:Gc):List Nat→Gc
 | []=>[]
 |u::r=>(u,Ato M g (DV u t1) (DV u t2))::A3h M g t1 t2 r
def Arj (M:Mvs) (g:Bool):Option Ob→Option Ob→Option Ob
 |some x,some y=>A3f M g x y
 |_,_=>none
def ZH (M:Mvs) (g:Bool) (o1 o2:AE):List Nat→AE
 | []=>[]
 |i::r=>(i,Arj M g (Ai i o1) (Ai i o2))::ZH M g o1 o2 r
def Bie (o1 o2:AE) (t1 t2:Gc):List Nat→Z6→Z6
 | [],c=>c
 |u::r,c=>match DV u t1,DV u t2 with
  |some x,some y=>Bie o1 o2 t1 t2 r (Aat o1 o2 5 x y c)
  |_,_=>Bie o1 o2 t1 t2 r c
def Bid (o1 o2:AE):List Nat→Z6→Z6
 | [],c=>c
 |i::r,c=>match Ai i o1,Ai i o2 with
  |some (.box _ cs),some (.box _ dx)=>Bid o1 o2 r (Tm (Aat o1 o2 5) cs dx c)
  |_,_=>Bid o1 o2 r c
def Ajs (o:AE) (k:Nat):List Nat:=MG (o.take (o.length - k))
def A3g (g:Bool) (W:List Nat) (s0 s1 s2:St) (nx:Nat) (M:Mvs):St:=
 match mvS Mv.l Mv.r s2.o M nx s1.o,mvS Mv.r Mv.l s1.o M nx s2.o with
 |some (n1,o1),some (n2,o2)=>⟨s0.n,Nat.max n1 n2,A3h M g s1.t s2.t W++XF W s0.t,ZH M g o1 o2 (Ajs o1 s0.o.length++Ajs o2 s0.o.length)++s0.o⟩
 |_,_=>⟨s0.n,nx,[],(s0.o.map fun e=>(e.1,none))++s0.o⟩
def JS (g:Bool) (W:List Nat) (s0 s1 s2:St):St:=
 A3g g W s0 s1 s2 (Nat.max s1.nx s2.nx) (Bid s1.o s2.o (Ajs s1.o s0.o.length++Ajs s2.o s0.o.length) (Bie s1.o s2.o s1.t s2.t W ([],Nat.max s1.nx s2.nx))).1
structure Sub (s s':St):Prop where
 n:s'.n=s.n
 seq:∃d,s'.o=d++s.o
theorem Sub.refl (s:St):Sub s s:=⟨rfl,[],rfl⟩
theorem Sub.trans {s s1 s2:St} (h:Sub s s1) (k:Sub s1 s2):Sub s s2:=by
 obtain⟨d,hd⟩:=h.seq
 obtain⟨e,he⟩:=k.seq
 exact⟨k.n.trans h.n,e++d,by rw[he,hd,List.append_assoc]⟩
section
variable {F F0:Nat→Prop} {N N0:Nm} {nx nx':Nat} {o o':AE} {R R0:World}
theorem Bp.nxup (h:Bp F N nx o R) (hn:nx≤nx'):Bp F N nx' o R∧Step F N nx o R F N nx' o R:=by
 have st:Ext F N nx R F N nx' R:=⟨hn,fun _ _=>rfl,fun _ _=>rfl,fun _ h=>h,fun _ _=>rfl⟩
 exact⟨⟨h.flt,fun i ob hi=>⟨Nat.lt_of_lt_of_le (h.ob i ob hi).1 hn,(h.ob i ob hi).2.step st (h.ob i ob hi).1 fun _ _=>rfl⟩,h.ff,h.sep,h.gl⟩,hn,fun _ _=>rfl,fun _ _=>rfl,fun _ h=>h,fun _ h=> .inl h,fun _ h=> .inl h,rfl,rfl,rfl,Nat.le_refl _,fun _ _ _=>rfl⟩
theorem Bp.less (h:Bp F N nx o R) (ho:∀i ob,Ai i o'=some ob→∃ob0,Ai i o=some ob0∧(Zo F N nx R i ob0→Zo F N nx R i ob)∧∀g,foot N i ob g↔foot N i ob0 g):Bp F N nx o' R∧Step F N nx o R F N nx o' R:=by
 refine⟨⟨h.flt,fun i ob hi=>?_,fun i ob g hi hg=>?_,fun i j x y g hi hj hx hy=>?_,h.gl⟩,Nat.le_refl _,fun _ _=>rfl,fun _ _=>rfl,fun _ h=>h,fun _ h=> .inl h,fun g ⟨i,ob,hi,hg⟩=>?_,rfl,rfl,rfl,Nat.le_refl _,fun _ _ _=>rfl⟩
 ·obtain⟨ob0,h1,h2,h3⟩:=ho i ob hi
  exact⟨(h.ob i ob0 h1).1,h2 (h.ob i ob0 h1).2⟩
 ·obtain⟨ob0,h1,h2,h3⟩:=ho i ob hi
  exact h.ff i ob0 g h1 ((h3 g).1 hg)
 ·obtain⟨x0,h1,h2,h3⟩:=ho i x hi
  obtain⟨y0,k1,k2,k3⟩:=ho j y hj
  exact h.sep i j x0 y0 g h1 k1 ((h3 g).1 hx) ((k3 g).1 hy)
 ·obtain⟨ob0,h1,h2,h3⟩:=ho i ob hi
  exact .inl ⟨i,ob0,h1,(h3 g).1 hg⟩
theorem HS.congrW {tm ph:Nat→Value} {W:List Nat} (ht:∀k,QS k W=false→ph k=tm k):∀{x:A} {y:Value},Bl7 W x=false→HS F N nx R tm x y→HS F N nx R ph x y
 | .opt k b x,y,hd,h=>by
  unfold Bl7 at hd
  cases hk:QS k W with
  |true=>rw[hk] at hd;cases hd
  |false=>
   rw[hk] at hd
   simp only[HS] at h⊢
   rw[ht k hk]
   exact⟨fun hb=>HS.congrW ht hd (h.1 hb),h.2⟩
 | .v _,_,_,h=>(Ac rfl).2 ((Ac rfl).1 h)
 | .sl _ _,_,_,h=>(Ac rfl).2 ((Ac rfl).1 h)
 | .own _ _,_,_,h=>(Ac rfl).2 ((Ac rfl).1 h)
 | .ownx _ _ _ _,_,_,h=>(Ac rfl).2 ((Ac rfl).1 h)
 | .sq _,_,_,h=>(Ac rfl).2 ((Ac rfl).1 h)
 | .dq _,_,_,h=>(Ac rfl).2 ((Ac rfl).1 h)
 | .iv _ _,_,_,h=>(Ac rfl).2 ((Ac rfl).1 h)
 | .de _ _ _ _,_,_,h=>(Ac rfl).2 ((Ac rfl).1 h)
 | .ie _ _ _ _ _,_,_,h=>(Ac rfl).2 ((Ac rfl).1 h)
 | .vw _ _ _ _ _,_,_,h=>(Ac rfl).2 ((Ac rfl).1 h)
 | .el _ _ _ _,_,_,h=>(Ac rfl).2 ((Ac rfl).1 h)
 | .ref _,_,_,h=>(Ac rfl).2 ((Ac rfl).1 h)
 | .mp _,_,_,h=>(Ac rfl).2 ((Ac rfl).1 h)
 | .nl,_,_,h=>(Ac rfl).2 ((Ac rfl).1 h)
 | .it _ _,_,_,h=>(Ac rfl).2 ((Ac rfl).1 h)
 | .fn _ _ _,_,_,h=>(Ac rfl).2 ((Ac rfl).1 h)
 | .agg _,_,_,h=>(Ac rfl).2 ((Ac rfl).1 h)
 | .tup _,_,_,h=>(Ac rfl).2 ((Ac rfl).1 h)
 | .dead,_,_,h=>(Ac rfl).2 ((Ac rfl).1 h)
 | .av _ _ _,_,_,h=>(Ac rfl).2 ((Ac rfl).1 h)
 | .rv _,_,_,h=>(Ac rfl).2 ((Ac rfl).1 h)
 | .vr _ _ _ _,_,_,h=>(Ac rfl).2 ((Ac rfl).1 h)
 | .vd _ _ _ _,_,_,h=>(Ac rfl).2 ((Ac rfl).1 h)
 | .yl _,_,_,h=>(Ac rfl).2 ((Ac rfl).1 h)
theorem SO (u:Nat):∀(A B:Gc),DV u (A++B)=match DV u A with|some x=>some x|none=>DV u B
 | [],B=>rfl
 |(k,x)::r,B=>by
  show(bif Nat.beq k u then some x else DV u (r++B))=match(bif Nat.beq k u then some x else DV u r) with|some x=>some x|none=>DV u B
  cases Nat.beq k u with
  |true=>rfl
  |false=>exact SO u r B
theorem Amn {M:Mvs} {g:Bool} {t1 t2:Gc} {u:Nat}:∀{W:List Nat},DV u (A3h M g t1 t2 W)=bif QS u W then some (Ato M g (DV u t1) (DV u t2)) else none
 | []=>rfl
 |k::r=>by
  show(bif Nat.beq k u then some (Ato M g (DV k t1) (DV k t2)) else DV u (A3h M g t1 t2 r))=bif(bif Nat.beq k u then true else QS u r) then _ else _
  cases hb:Nat.beq k u with
  |true=>rw[Nat.eq_of_beq_eq_true hb];rfl
  |false=>exact Amn
theorem VA {W:List Nat} {u:Nat} {x:A}:∀{t:Gc},DV u (XF W t)=some x→x=.dead∨(DV u t=some x∧Bl7 W x=false)
 | [],h=>by cases h
 | (j,y)::r,h=>by
  unfold XF at h
  show x=.dead∨((bif Nat.beq j u then some y else DV u r)=some x∧_)
  cases hd:Bl7 W y with
  |true=>
   rw[hd] at h
   have h':(bif Nat.beq j u then some A.dead else DV u (XF W r))=some x:=h
   cases hj:Nat.beq j u with
   |true=>rw[hj] at h';cases h';exact .inl rfl
   |false=>rw[hj] at h';exact VA h'
  |false=>
   rw[hd] at h
   have h':(bif Nat.beq j u then some y else DV u (XF W r))=some x:=h
   cases hj:Nat.beq j u with
   |true=>rw[hj] at h';obtain rfl:y=x:=Option.some.inj h';exact .inr ⟨rfl,hd⟩
   |false=>rw[hj] at h';exact VA h'
theorem XD (M:Mvs) (g:Bool) (o1 o2:AE):∀l,MG (ZH M g o1 o2 l)=l
 | []=>rfl
 |i::r=>by
  show i::MG (ZH M g o1 o2 r)=i::r
  rw[XD M g o1 o2 r]
theorem Aa1 {M:Mvs} {g:Bool} {o1 o2:AE} {i:Nat}:∀{l:List Nat},i∈l→Ai i (ZH M g o1 o2 l)=Arj M g (Ai i o1) (Ai i o2)
 | [],h=>by cases h
 | k::r,h=>by
  show(bif Nat.beq k i then Arj M g (Ai k o1) (Ai k o2) else Ai i (ZH M g o1 o2 r))=_
  cases hb:Nat.beq k i with
  |true=>rw[Nat.eq_of_beq_eq_true hb];rfl
  |false=>
   rcases List.mem_cons.1 h with rfl|h
   ·simp at hb
   ·exact Aa1 h
theorem XG {i:Nat}:∀{o:AE},Ai i (o.map fun e=>(e.1,none))=none
 | []=>rfl
 |(k,x)::r=>by
  show(bif Nat.beq k i then none else Ai i (r.map fun e=>(e.1,none)))=none
  cases Nat.beq k i with
  |true=>rfl
  |false=>exact XG
theorem Ajl:∀{o:AE},MG (o.map fun e=>(e.1,none))=MG o
 | []=>rfl
 |(k,x)::r=>by
  show k::MG (r.map fun e=>(e.1,none))=k::MG r
  rw[Ajl]
theorem Bef {i:Nat} {o:AE}:Ai i ((o.map fun e=>(e.1,none))++o)=none:=by
 by_cases h:i∈MG o
 ·rw[XH (by rw[Ajl];exact h),XG]
 ·rw[Lc (by rw[Ajl];exact h)]
  have:=Lc (A:=o) (B:=[]) h
  rw[List.append_nil] at this
  exact this
theorem A3l {jr nq:Mv→Option Nat} {oo:AE} {nx:Nat} {o:AE}:∀{M:Mvs} {nx':Nat} {o':AE},mvS jr nq oo M nx o=some (nx',o')→∃d,o'=d++o
 | [],nx',o',he=>by cases he;exact⟨[],rfl⟩
 | e ::r,nx',o',he=>by
  unfold mvS at he
  split at he<;>try (cases he;done)
  rename_i nx1 o1 h1
  obtain⟨d,hd⟩:=A3l h1
  cases hb:Nat.ble nx1 e.m with
  |false=>rw[hb] at he;cases he
  | true=>
   rw[hb] at he
   simp only[cond_true] at he
   split at he
   ·rename_i i hi
    split at he<;>try (cases he;done)
    ·rename_i t sz els hl
     cases ae:Nat.blt i nx1 with
     |false=>rw[ae] at he;cases he
     |true=>rw[ae] at he;cases he;exact⟨(i,none)::(e.m,some (.arr t sz els))::d,by rw[hd];rfl⟩
    ·rename_i t c l hl
     cases ae:Nat.blt i nx1 with
     |false=>rw[ae] at he;cases he
     |true=>rw[ae] at he;cases he;exact⟨(i,none)::(e.m,some (.deep t c l))::d,by rw[hd];rfl⟩
    ·rename_i t c l hl
     cases ae:Nat.blt i nx1 with
     |false=>rw[ae] at he;cases he
     |true=>rw[ae] at he;cases he;exact⟨(i,none)::(e.m,some (.abs t c l))::d,by rw[hd];rfl⟩
   ·split at he<;>try (cases he;done)
    split at he<;>try (cases he;done)
    ·rename_i t sz els hl
     cases hed:e.d with
     |true=>rw[hed] at he;cases he
     |false=>rw[hed] at he;cases he;exact⟨(e.m,some (.arr t sz (.lst [])))::d,by rw[hd];rfl⟩
    ·rename_i t c l hl
     split at he<;>try (cases he;done)
     cases hed:e.d with
     |false=>rw[hed] at he;cases he
     |true=>rw[hed] at he;cases he;exact⟨(e.m,some (.deep t c []))::d,by rw[hd];rfl⟩
theorem Arw (cs:List A):(T7 cs).plain=true:=by unfold T7;split<;>rfl
theorem Axa (g:Bool) (c:TC) (l:List (U c)) (c':TC) (l':List (U c')):(Agl g c l c' l').plain=true:=by unfold Agl;split<;>rfl
theorem Qs {b:Bool} {x y:A} (_hx:x.plain=true) (_hy:y.plain=true):(bif b then x else y).plain=true:=by cases b<;>assumption
theorem A3d:∀(d:Nat) (g:Bool) (x y:A),(OB d g x y).plain=true
 |0,_,_,_=>rfl
 |d+1,g,x,y=>by
  unfold OB
  split<;>first|rfl|exact Arw _|exact Axa _ _ _ _ _|(refine Qs ?_ rfl;first|rfl|exact Qs rfl rfl)|(split<;>first|rfl|exact Qs rfl rfl)
theorem A3i (M:Mvs):∀(d:Nat) (g:Bool) (x y:A),(Tv M d g x y).plain=true
 |0,_,_,_=>rfl
 |d+1,g,x,y=>by
  unfold Tv
  split<;>first|rfl|exact Arw _|exact A3d _ _ _ _|(refine Qs ?_ ?_<;>first|rfl|(split<;>rfl)|(refine Qs ?_ rfl;first|rfl|exact Qs rfl rfl))
theorem A3e (M:Mvs) (g:Bool) (x y:A):(OC M g x y).plain=true:=A3i M 5 g x y
theorem Beh {M:Mvs} {g:Bool} {x y:A} (h:(x.plain&&y.plain)=false):OC M g x y=.dead:=by
 cases x<;>cases y<;>first|(cases h;done)|rfl
theorem Ado {i:Nat} {d o:AE} (h:i∉Ajs (d++o) o.length):Ai i (d++o)=Ai i o:=by
 unfold Ajs at h
 rw[List.length_append,Nat.add_sub_cancel,List.take_left'] at h
 ·exact Lc h
 ·rfl
end
section
variable {Z:FG} {F F0:Nat→Prop} {N N0:Nm} {s0 s1 s2:St} {a a0:Act} {R R0:World} {W:List Nat} {g:Bool}
abbrev LQ (F:Nat→Prop) (N:Nm) (s:St) (a:Act) (R:World) (W:List Nat):FG:=⟨F,N,s.nx,s.o,R,BH a,fun u=>QS u W=true,a.defers⟩
theorem Rel.start (h0:Rel Z F0 N0 s0 a0 R0) (W:List Nat):Rel (LQ F0 N0 s0 a0 R0 W) F0 N0 s0 a0 R0:=⟨rfl,h0.size,h0.slots,h0.hp,.refl,fun _ _=>rfl⟩
theorem Ats (h0:Rel Z F0 N0 s0 a0 R0) {s:St} (h:Rel (LQ F0 N0 s0 a0 R0 W) F N s a R) (hW:∀u,QS u W=true→Z.W u) (hn:s.n=s0.n) {nx':Nat} {o':AE} {N':Nm} (k1:Bp F N' nx' o' R) (k2:Step F N s.nx s.o R F N' nx' o' R) {t:Gc} {os:AE} (ht:∀u x,DV u t=some x→HS F N' nx' R (BH a) x (BH a u)) (ho:∀i ob,Ai i os=some ob→∃ob0,Ai i o'=some ob0∧(Zo F N' nx' R i ob0→Zo F N' nx' R i ob)∧∀gg,foot N' i ob gg↔foot N' i ob0 gg):Rel Z F N' ⟨s0.n,nx',t,os⟩ a R∧Step F N s.nx s.o R F N' nx' os R:=by
 obtain⟨q1,q2⟩:=k1.less ho
 refine⟨⟨h.defers.trans h0.defers,h.size.trans hn,ht,q1,((h0.st.trans h.st).trans k2).trans q2,fun u hu=>?_⟩,k2.trans q2⟩
 rw[h.tm u fun hw=>hu (hW u hw)]
 exact h0.tm u hu
theorem Rel.merge (h0:Rel Z F0 N0 s0 a0 R0) (h:Rel (LQ F0 N0 s0 a0 R0 W) F N (bif g then s1 else s2) a R) (hW:∀u,QS u W=true→Z.W u) (e1:Sub s0 s1) (e2:Sub s0 s2):∃N',Rel Z F N' (JS g W s0 s1 s2) a R∧Step F N (bif g then s1 else s2).nx (bif g then s1 else s2).o R F N' (JS g W s0 s1 s2).nx (JS g W s0 s1 s2).o R:=by
 have hn:(bif g then s1 else s2).n=s0.n:=by cases g<;>first|exact e1.n|exact e2.n
 have hnx:(bif g then s1 else s2).nx≤Nat.max s1.nx s2.nx:=by cases g<;>first|exact Nat.le_max_left .. |exact Nat.le_max_right ..
 obtain⟨u1,u2⟩:=h.hp.nxup hnx
 unfold JS
 generalize (Bid s1.o s2.o (Ajs s1.o s0.o.length++Ajs s2.o s0.o.length) (Bie s1.o s2.o s1.t s2.t W ([],Nat.max s1.nx s2.nx))).1=M
 unfold A3g
 split
 ·rename_i n1 o1 n2 o2 g1 g2
  have main:∃N' nx' o',nx'≤Nat.max n1 n2∧Bp F N' nx' o' R∧Step F N (Nat.max s1.nx s2.nx) (bif g then s1 else s2).o R F N' nx' o' R∧A60 N' nx' (Bhb g) M∧o'=(bif g then o1 else o2):=by
   cases g with
   |true=>
    obtain⟨N',m1,m2,m3,_⟩:=Bek u1 g1
    exact⟨N',n1,o1,Nat.le_max_left ..,m1,m2,m3,rfl⟩
   |false=>
    obtain⟨N',m1,m2,m3,_⟩:=Bek u1 g2
    exact⟨N',n2,o2,Nat.le_max_right ..,m1,m2,m3,rfl⟩
  have d1:∃d,o1=d++s0.o:=by
   obtain⟨d,hd⟩:=e1.seq
   obtain⟨e,he⟩:=A3l g1
   exact⟨e++d,by rw[he,hd,List.append_assoc]⟩
  have d2:∃d,o2=d++s0.o:=by
   obtain⟨d,hd⟩:=e2.seq
   obtain⟨e,he⟩:=A3l g2
   exact⟨e++d,by rw[he,hd,List.append_assoc]⟩
  obtain⟨N',nx',o',hle,m1,m2,m3,rfl⟩:=main
  obtain⟨q1,q2⟩:=m1.nxup hle
  have vi:A60 N' (Nat.max n1 n2) (Bhb g) M:=fun e he=>⟨Nat.lt_of_lt_of_le (m3 e he).1 hle,fun i hi=>⟨Nat.lt_of_lt_of_le ((m3 e he).2.1 i hi).1 hle,((m3 e he).2.1 i hi).2⟩,(m3 e he).2.2⟩
  have hst:=(u2.trans m2).trans q2
  have hx:Ext F N (bif g then s1 else s2).nx R F N' (Nat.max n1 n2) R:=hst.ext h.hp
  refine⟨N',Ats h0 h hW hn q1 hst (fun u x hu=>?_) fun i ob hi=>?_⟩
  ·rw [SO,Amn] at hu
   cases hw:QS u W with
   | true=>
    rw[hw] at hu
    have gu:Ato M g (DV u s1.t) (DV u s2.t)=x:=Option.some.inj hu
    unfold Ato at gu
    split at gu
    ·rename_i x1 x2 k1 k2
     have hs:HS F N' (Nat.max n1 n2) R (BH a) (bif g then x1 else x2) (BH a u):=by
      cases g with
      |true=>exact(h.slots u x1 k1).step hx
      |false=>exact(h.slots u x2 k2).step hx
     subst gu
     cases hp:(x1.plain&&x2.plain) with
     |true=>
      rw[Bool.and_eq_true] at hp
      have kb:Hv F N' (Nat.max n1 n2) R (bif g then x1 else x2) (BH a u):=by cases g<;>first|exact(Ac hp.1).1 hs|exact(Ac hp.2).1 hs
      have hm:=UA vi kb
      exact(Ac (A3e _ _ _ _)).2 hm
     |false=>
      have:=Beh (M:=M) (g:=g) hp
      rw[this]
      exact(Ac rfl).2 (.dead _)
    ·subst gu
     exact(Ac rfl).2 (.dead _)
   | false=>
    rw[hw] at hu
    have gu:DV u (XF W s0.t)=some x:=hu
    have o9:∀k,QS k W=false→BH a k=BH a0 k:=fun k hk=>h.tm k fun hh=>by
     have mc:QS k W=true:=hh
     rw[hk] at mc;cases mc
    rcases VA gu with rfl|⟨k1,k2⟩
    ·exact(Ac rfl).2 (.dead _)
    ·rw[o9 u hw]
     exact HS.congrW o9 k2 (((h0.slots u x k1).step (h.st.ext h0.hp)).step hx)
  ·by_cases hk:i∈Ajs o1 s0.o.length++Ajs o2 s0.o.length
   ·rw[XH (by rw[XD];exact hk),Aa1 hk] at hi
    unfold Arj at hi
    split at hi<;>try (cases hi;done)
    rename_i x1 x2 k1 k2
    obtain⟨r1,r2⟩:=Bei (i:=i) (F:=F) (N:=N') (nx:=Nat.max n1 n2) (R:=R) vi hi
    exact⟨_,by cases g<;>first|exact k1|exact k2,r1,r2⟩
   ·rw[Lc (by rw[XD];exact hk)] at hi
    refine⟨ob,?_,id,fun _=>Iff.rfl⟩
    obtain⟨d1,l6⟩:=d1
    obtain⟨d2,jv⟩:=d2
    cases g with
    |true=>
     show Ai i o1=_
     rw[l6,Ado (by rw[←l6];exact fun hh=>hk (List.mem_append.2 (.inl hh)))]
     exact hi
    |false=>
     show Ai i o2=_
     rw[jv,Ado (by rw[←jv];exact fun hh=>hk (List.mem_append.2 (.inr hh)))]
     exact hi
 ·refine⟨N,Ats h0 h hW hn u1 u2 (fun u x hu=>by cases hu) fun i ob hi=>?_⟩
  rw[Bef] at hi
  cases hi
theorem Sub.merge (g:Bool) (W:List Nat) (s0 s1 s2:St):Sub s0 (JS g W s0 s1 s2):=by
 unfold JS
 unfold A3g
 split
 ·exact⟨rfl,_,rfl⟩
 ·exact⟨rfl,_,rfl⟩
end
end Go.Proofs.YtifkbgkbajncjaaGreatDoor

