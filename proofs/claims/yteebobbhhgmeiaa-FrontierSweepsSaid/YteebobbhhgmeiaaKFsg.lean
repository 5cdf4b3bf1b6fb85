/- made by a program (rowgen.py): FrontierSweeps: for every input the law returns true, and each argument reads behind the call as it read before. -/
import Derived.Test.YteebobbhhgmeiaaKFsf
import Derived.Test.YteebobbhhgmeiaaRows

namespace Go.Proofs.Yteebobbhhgmeiaa
open Go.RowKit
theorem A3d {α:Type} (l:List α) (d:α) {i k:Nat} (x:α) (h:k≠i):(l.set i x).getD k d=l.getD k d:=by
 rw[List.getD_eq_getElem?_getD,List.getElem?_set_ne (Ne.symm h),List.getD_eq_getElem?_getD]
theorem A4t {α:Type} (l:List α) (d:α) {i:Nat} (x:α) (h:i <l.length):(l.set i x).getD i d=x:=by
 rw[List.getD_eq_getElem?_getD,List.getElem?_set_self h]
 rfl
theorem A5p {α:Type} (l:List α) (d:α) (i:Nat) (h:i <l.length):l.take (i+1)=l.take i++[l.getD i d]:=by
 rw[List.take_add_one,List.getD_eq_getElem?_getD,List.getElem?_eq_getElem h]
 rfl
theorem Ba1 (rows:List TRow) (hb:rows.length≤6000) (hc:∀r∈rows,r.cells.length≤6000):
  AE Br Bq Cy (BQ (rows,(rows.length:Int),0,[])) (rows,(rows.length:Int),0,[])∧Gt (rows,(rows.length:Int),0,[])=(rows,(rows.length:Int),(rows.length:Int),rows):=by
 obtain⟨h1,k,hk,hx,_,hst,_⟩:=JJ (fun i=>(rows,(rows.length:Int),(i:Int),rows.take i):Nat→AQ) rows.length (fun _=>false) Br Bq Cy (BQ (rows,(rows.length:Int),0,[])) (rows,(rows.length:Int),0,[]) rfl (by show rows.length≤((rows.length:Int) - 0).toNat;omega)
  (fun i _ _=>by
   show(!!decide ((i:Int) <(rows.length:Int)))=_
   rw[nn,PE,Bool.not_false,Bool.and_true])
  (fun i hi _=>by
   show(rows,(rows.length:Int),IntKind.i64.wrap ((i:Int)+1),rows.take i++[Vn TC.row TC.cell (TRow.mk (rows.getD ((i:Int)).toNat (Ae TC.row)).1 []) (Dw (rows.getD ((i:Int)).toNat (Ae TC.row)))])=(rows,(rows.length:Int),((i+1:Nat):Int),rows.take (i+1))
   rw[FS (by omega),Int.toNat_natCast,A5p rows (Ae TC.row) i hi]
   rfl)
  (fun i hi _=>by
   have hin:(!!decide ((i:Int) <(rows.length:Int)))=true→(i:Int) <(rows.length:Int):=fun h=>by rw[nn] at h;exact of_decide_eq_true h
   refine Aa (fun h=>⟨by show(0:Int)≤(i:Int);omega,hin h⟩) (Aa (fun h=>?_) (Aa (fun h=>?_) Ad))
   ·have h2:=hin h
    show Aj (0+(rows.getD ((i:Int)).toNat (Ae TC.row)).2.length)
    rw[Int.toNat_natCast]
    have h3:=hc _ (getD_in rows (Ae TC.row) i (by omega))
    have h4:(rows.getD i (Ae TC.row)).2.length≤6000:=h3
    unfold Aj
    omega
   ·show Aj ((rows.take i).length+1)
    rw[List.length_take]
    unfold Aj
    omega)
 have hkn:k=rows.length:=by
  rcases Nat.lt_or_ge k rows.length with h|h
  ·exact absurd (hst h) (by decide)
  ·omega
 subst hkn
 refine⟨h1,?_⟩
 have hx':Gt (rows,(rows.length:Int),0,[])=(rows,(rows.length:Int),(rows.length:Int),rows.take rows.length):=hx
 rw[hx',List.take_length]
theorem Bey (i:Nat) (rs:List TRow) (hi:i <rs.length) (hn:(rs.getD i (Ae TC.row)).cells.length≤6000) (hv:∀c∈(rs.getD i (Ae TC.row)).cells,c.value.size≤6000):
  AE Bc Bb BJ (Bs ((i:Int),((rs.getD i (Ae TC.row)).cells.length:Int),0,rs)) ((i:Int),((rs.getD i (Ae TC.row)).cells.length:Int),0,rs)∧
  (Gu ((i:Int),((rs.getD i (Ae TC.row)).cells.length:Int),0,rs)).2.2.2.length=rs.length∧∀k,k≠i→(Gu ((i:Int),((rs.getD i (Ae TC.row)).cells.length:Int),0,rs)).2.2.2.getD k (Ae TC.row)=rs.getD k (Ae TC.row):=by
 obtain⟨h1,⟨j,_,_,_,_,h2,h3,_⟩,_⟩:=Tn (next:=Bc) (goes:=Bb) (ps:=BJ)
  (fun x=>∃j:Nat,j≤(rs.getD i (Ae TC.row)).cells.length∧x.1=(i:Int)∧x.2.1=((rs.getD i (Ae TC.row)).cells.length:Int)∧x.2.2.1=(j:Int)∧x.2.2.2.length=rs.length∧(∀k,k≠i→x.2.2.2.getD k (Ae TC.row)=rs.getD k (Ae TC.row))∧
   (x.2.2.2.getD i (Ae TC.row)).2.length=(rs.getD i (Ae TC.row)).cells.length∧∀m,j≤m→(x.2.2.2.getD i (Ae TC.row)).2.getD m (Ae TC.cell)=(rs.getD i (Ae TC.row)).cells.getD m (Ae TC.cell))
  (fun x=>(((rs.getD i (Ae TC.row)).cells.length:Int) - x.2.2.1).toNat)
  (fun x hx=>by
   obtain⟨j,hj,e1,e2,e3,e4,e5,e6,e7⟩:=hx
   obtain⟨x1,x2,x3,xs⟩:=x
   simp only at e1 e2 e3 e4 e5 e6 e7
   subst e1 e2 e3
   have hin:(!!decide ((j:Int) <((rs.getD i (Ae TC.row)).cells.length:Int)))=true→j <(rs.getD i (Ae TC.row)).cells.length:=fun h=>by rw[nn] at h;have:=of_decide_eq_true h;omega
   have ei:((i:Int)).toNat=i:=Int.toNat_natCast i
   have ej:((j:Int)).toNat=j:=Int.toNat_natCast j
   refine⟨Aa (fun h=>?_) (Aa (fun h=>?_) (Aa (fun h=>?_) (Aa (fun h=>?_) Ad))),fun h=>?_⟩
   ·show(0:Int)≤(i:Int)∧(i:Int) <(xs.length:Int)
    omega
   ·have:=hin h
    show((i:Int)).toNat <xs.length∧(0:Int)≤(j:Int)∧(j:Int) <((xs.getD ((i:Int)).toNat (Ae TC.row)).2.length:Int)
    rw[ei,e6]
    omega
   ·have hlt:=hin h
    show((xs.getD ((i:Int)).toNat (Ae TC.row)).2.getD ((j:Int)).toNat (Ae TC.cell)).4.size+1≤9223372036854775807
    rw[ei,ej,e7 j (Nat.le_refl _)]
    have h9:=hv _ (getD_in _ (Ae TC.cell) j hlt)
    have h8:((rs.getD i (Ae TC.row)).cells.getD j (Ae TC.cell)).4.size≤6000:=h9
    omega
   ·have:=hin h
    show((j:Int)).toNat <(xs.getD ((i:Int)).toNat (Ae TC.row)).2.length
    rw[ei,ej,e6]
    exact this
   ·have hlt:=hin h
    have hw:IntKind.i64.wrap ((j:Int)+1)=((j+1:Nat):Int):=FS (by omega)
    have hix:i <xs.length:=by omega
    have hself:∀r:TRow,(xs.set i r).getD i (Ae TC.row)=r:=fun r=>A4t xs (Ae TC.row) r hix
    constructor
    ·refine⟨j+1,hlt,rfl,rfl,hw,?_,fun k hk=>?_,?_,fun m hm=>?_⟩
     ·show(A4 (i:Int) ((rs.getD i (Ae TC.row)).cells.length:Int) (j:Int) xs).length=rs.length
      unfold A4
      rw[List.length_set]
      exact e4
     ·show(A4 (i:Int) ((rs.getD i (Ae TC.row)).cells.length:Int) (j:Int) xs).getD k (Ae TC.row)=_
      unfold A4
      rw[ei,A3d _ _ _ hk]
      exact e5 k hk
     ·show((A4 (i:Int) ((rs.getD i (Ae TC.row)).cells.length:Int) (j:Int) xs).getD i (Ae TC.row)).2.length=_
      unfold A4
      rw[ei,hself]
      show(List.set _ _ _).length=_
      rw[List.length_set]
      exact e6
     ·show((A4 (i:Int) ((rs.getD i (Ae TC.row)).cells.length:Int) (j:Int) xs).getD i (Ae TC.row)).2.getD m (Ae TC.cell)=_
      unfold A4
      rw[ei,ej,hself]
      show(List.set _ _ _).getD m (Ae TC.cell)=_
      rw[A3d _ _ _ (by omega)]
      exact e7 m (by omega)
    ·show(((rs.getD i (Ae TC.row)).cells.length:Int) - IntKind.i64.wrap ((j:Int)+1)).toNat <(((rs.getD i (Ae TC.row)).cells.length:Int) - (j:Int)).toNat
     rw[hw]
     omega)
  (Bs ((i:Int),((rs.getD i (Ae TC.row)).cells.length:Int),0,rs)) ((i:Int),((rs.getD i (Ae TC.row)).cells.length:Int),0,rs) ⟨0,Nat.zero_le _,rfl,rfl,rfl,rfl,fun _ _=>rfl,rfl,fun _ _=>rfl⟩ (by show _≤(((rs.getD i (Ae TC.row)).cells.length:Int) - 0).toNat;exact Nat.le_refl _)
 exact⟨h1,h2,h3⟩
theorem Bca (rows:List TRow) (hb:rows.length≤6000) (hs:∀r∈rows,r.cells.length≤6000∧∀c∈r.cells,c.value.size≤6000):
  AE BS BR Cz (CO ((rows.length:Int),0,rows)) ((rows.length:Int),0,rows):=
 (Tn (next:=BS) (goes:=BR) (ps:=Cz)
  (fun x=>∃i:Nat,i≤rows.length∧x.1=(rows.length:Int)∧x.2.1=(i:Int)∧x.2.2.length=rows.length∧∀k,i≤k→x.2.2.getD k (Ae TC.row)=rows.getD k (Ae TC.row))
  (fun x=>((rows.length:Int) - x.2.1).toNat)
  (fun x hx=>by
   obtain⟨i,hi,e1,e2,e3,e4⟩:=hx
   obtain⟨x1,x2,xs⟩:=x
   simp only at e1 e2 e3 e4
   subst e1 e2
   have hin:(!!decide ((i:Int) <(rows.length:Int)))=true→i <rows.length:=fun h=>by rw[nn] at h;have:=of_decide_eq_true h;omega
   have ei:((i:Int)).toNat=i:=Int.toNat_natCast i
   have key:i <rows.length→_:=fun h=>Bey i xs (by omega) (by rw[e4 i (Nat.le_refl _)];exact(hs _ (getD_in rows _ i h)).1) (by rw[e4 i (Nat.le_refl _)];exact(hs _ (getD_in rows _ i h)).2)
   refine⟨Aa (fun h=>?_) (Aa (fun h=>?_) Ad),fun h=>?_⟩
   ·have:=hin h
    show(0:Int)≤(i:Int)∧(i:Int) <(xs.length:Int)
    omega
   ·show AE Bc Bb BJ (Bs ((i:Int),((xs.getD ((i:Int)).toNat (Ae TC.row)).2.length:Int),(0:Int),xs)) ((i:Int),((xs.getD ((i:Int)).toNat (Ae TC.row)).2.length:Int),(0:Int),xs)
    rw[ei]
    exact(key (hin h)).1
   ·have hlt:=hin h
    have hw:IntKind.i64.wrap ((i:Int)+1)=((i+1:Nat):Int):=FS (by omega)
    obtain⟨_,k2,k3⟩:=key hlt
    refine⟨⟨i+1,hlt,rfl,hw,?_,fun k hk=>?_⟩,?_⟩
    ·show(C7 (rows.length:Int) (i:Int) xs).length=rows.length
     unfold C7
     rw[ei]
     exact k2.trans e3
    ·show(C7 (rows.length:Int) (i:Int) xs).getD k (Ae TC.row)=rows.getD k (Ae TC.row)
     unfold C7
     rw[ei]
     exact(k3 k (by omega)).trans (e4 k (by omega))
    ·show((rows.length:Int) - IntKind.i64.wrap ((i:Int)+1)).toNat <((rows.length:Int) - (i:Int)).toNat
     rw[hw]
     omega)
  (CO ((rows.length:Int),0,rows)) ((rows.length:Int),0,rows) ⟨0,Nat.zero_le _,rfl,rfl,rfl,fun _ _=>rfl⟩ (Nat.le_refl _)).1
theorem Awf (l:List Ab) (cs:List TCell) (n i:Int) (st:TVec):CQ l cs n i st=false:=by
 unfold CQ
 rw[beq_self_eq_true]
 exact Bool.and_false _
theorem A8f (l:List Ab) (cs:List TCell) (st:TVec) (hb:cs.length≤6000):
  AE Be Bd BK (Bv (l,cs,(cs.length:Int),0,st)) (l,cs,(cs.length:Int),0,st)∧A5 (l,cs,(cs.length:Int),0,st)=(l,cs,(cs.length:Int),(cs.length:Int),st):=by
 obtain⟨h1,k,hk,hx,_,hst,_⟩:=JJ (fun i=>(l,cs,(cs.length:Int),(i:Int),st):Nat→AR) cs.length (fun _=>false) Be Bd BK (Bv (l,cs,(cs.length:Int),0,st)) (l,cs,(cs.length:Int),0,st) rfl (by show cs.length≤((cs.length:Int) - 0).toNat;omega)
  (fun i _ _=>by
   show(!!decide ((i:Int) <(cs.length:Int))&&!CQ l cs (cs.length:Int) (i:Int) st)=_
   rw[Awf,nn,PE])
  (fun i hi _=>by
   show(l,cs,(cs.length:Int),IntKind.i64.wrap ((i:Int)+1),st)=(l,cs,(cs.length:Int),((i+1:Nat):Int),st)
   rw[FS (by omega)])
  (fun i hi _=>by
   have hin:(!!decide ((i:Int) <(cs.length:Int)))=true→(i:Int) <(cs.length:Int):=fun h=>by rw[nn] at h;exact of_decide_eq_true h
   exact Aa (fun h=>⟨by show(0:Int)≤(i:Int);omega,hin h⟩) (Aa (fun _ h=>⟨by show(0:Int)≤(i:Int);omega,of_decide_eq_true h⟩) Ad))
 have hkn:k=cs.length:=by
  rcases Nat.lt_or_ge k cs.length with h|h
  ·exact absurd (hst h) (by decide)
  ·omega
 subst hkn
 exact⟨h1,hx⟩
theorem Awe (l:List Ab) (rows:List TRow) (st:TVec) (hb:rows.length≤6000) (hc:∀r∈rows,r.cells.length≤6000):
  AE Bu Bt CA (BU (l,rows,(rows.length:Int),0,st)) (l,rows,(rows.length:Int),0,st)∧I0 (l,rows,(rows.length:Int),0,st)=(l,rows,(rows.length:Int),(rows.length:Int),st):=by
 have hin0:∀i:Nat,i <rows.length→_:=fun i hi=>A8f l (rows.getD i (Ae TC.row)).2 st (hc _ (getD_in rows _ i hi))
 obtain⟨h1,k,hk,hx,_,hst,_⟩:=JJ (fun i=>(l,rows,(rows.length:Int),(i:Int),st):Nat→AO) rows.length (fun _=>false) Bu Bt CA (BU (l,rows,(rows.length:Int),0,st)) (l,rows,(rows.length:Int),0,st) rfl (by show rows.length≤((rows.length:Int) - 0).toNat;omega)
  (fun i hi _=>by
   show(!!decide ((i:Int) <(rows.length:Int))&&!BT l rows (rows.length:Int) (i:Int) st)=_
   have e:BT l rows (rows.length:Int) (i:Int) st=false:=by
    unfold BT Gh
    rw[Awf]
    exact Bool.and_false _
   rw[e,nn,PE])
  (fun i hi _=>by
   have q:Eg l rows (rows.length:Int) (i:Int) st=st:=by
    unfold Eg
    rw[Int.toNat_natCast,(hin0 i hi).2]
   show(l,rows,(rows.length:Int),IntKind.i64.wrap ((i:Int)+1),Eg l rows (rows.length:Int) (i:Int) st)=(l,rows,(rows.length:Int),((i+1:Nat):Int),st)
   rw[FS (by omega),q])
  (fun i hi _=>by
   have hin:(!!decide ((i:Int) <(rows.length:Int)))=true→i <rows.length:=fun h=>by rw[nn] at h;have:=of_decide_eq_true h;omega
   refine Aa (fun h=>⟨by show(0:Int)≤(i:Int);omega,by have:=hin h;show(i:Int) <(rows.length:Int);omega⟩) (Aa (fun h=>?_) Ad)
   show AE Be Bd BK (Bv (l,(rows.getD ((i:Int)).toNat (Ae TC.row)).2,((rows.getD ((i:Int)).toNat (Ae TC.row)).2.length:Int),(0:Int),st)) (l,(rows.getD ((i:Int)).toNat (Ae TC.row)).2,((rows.getD ((i:Int)).toNat (Ae TC.row)).2.length:Int),(0:Int),st)
   rw[Int.toNat_natCast]
   exact(hin0 i (hin h)).1)
 have hkn:k=rows.length:=by
  rcases Nat.lt_or_ge k rows.length with h|h
  ·exact absurd (hst h) (by decide)
  ·omega
 subst hkn
 exact⟨h1,hx⟩
theorem Atv (l:List Ab) (st:TVec) (cs:List TCell) {c:TCell}:∀i,c∈Sr l st cs i→c∈cs∨c=Dq
 |0,h=> .inl h
 | i+1,h=>by
  unfold Sr at h
  cases hm:mN l st cs i with
  |true=>
   rw[hm,cond_true] at h
   rcases List.mem_or_eq_of_mem_set h with h|h
   ·exact Atv l st cs i h
   ·exact .inr h
  |false=>
   rw[hm,cond_false] at h
   exact Atv l st cs i h
theorem Atw {l:List Ab} {rows:List TRow} {st:TVec} (h:∀r∈rows,XR 6000 r):(Ma l rows st).length≤rows.length∧∀r∈Ma l rows st,r.cells.length≤6000∧∀c∈r.cells,c.value.size≤6000:=by
 unfold Ma
 cases HA l rows st==0 with
 |false=>exact⟨Nat.zero_le _,fun r hr=>by cases hr⟩
 |true=>
  rw[cond_true]
  refine⟨Asb l st rows rows.length (Nat.le_refl _),fun r hr=>?_⟩
  rw[Aks l st rows rows.length (Nat.le_refl _),List.take_length] at hr
  obtain⟨r0,h0,rfl⟩:=List.mem_map.1 hr
  obtain⟨_,s2,s3⟩:=h r0 (List.mem_filter.1 h0).1
  refine⟨by show(Sr l st r0.cells l.length).length≤6000;rw[ZN];exact s2,fun c hc=>?_⟩
  rcases Atv l st r0.cells l.length hc with h1|rfl
  ·exact s3 c h1
  ·exact Nat.zero_le _
theorem Bbc (a0:List Ab) (a1:List TRow) (a2:TVec) (w0:a0.length≤maxLen∧∀y∈a0,Wfd .group y) (w1:a1.length≤maxLen∧∀y∈a1,Wfd .row y):(∀p∈KC a0 a1 a2,p)∧GH a0 a1 a2=true:=by
 have hw:AC a0.length∧(AC (0:Nat)∧∀c∈([]:List BB),X2 c)∧AC (1:Nat)∧∀x∈[a1],AC x.length∧∀r∈x,Am4 r:=
  ⟨w0.1,⟨by unfold AC;omega,fun c hc=>by cases hc⟩,by unfold AC;omega,fun x hx=>by
   rw[List.mem_singleton.1 hx]
   exact⟨w1.1,fun r hr=>⟨(w1.2 r hr).1,(w1.2 r hr).2.1,fun c hc=>((w1.2 r hr).2.2 c hc).2.2.2.1⟩⟩⟩
 have hg:∀g∈a0,AC g.1.size:=fun g hg=>(w0.2 g hg).1
 have hlt:(!(Ak a0 a1 a2))=true→a1.length≤6000∧∀r∈a1,XR 6000 r:=fun h=>by
  unfold Ak at h
  rw[Bool.not_not] at h
  exact((Ajm a0 [] [a1] hw.1 hw.2.1 hw.2.2.1 hw.2.2.2).2 h).2.2 a1 (List.mem_singleton.2 rfl)
 have hcp:(!(Ak a0 a1 a2))=true→_:=fun h=>Ba1 a1 (hlt h).1 fun r hr=>((hlt h).2 r hr).2.1
 have e3:(!(Ak a0 a1 a2))=true→AS a0 a1 a2=a1:=fun h=>by
  unfold AS
  rw[(hcp h).2]
 have e2:(!(Ak a0 a1 a2))=true→AL a0 a1 a2=Ma a0 a1 a2:=fun h=>by
  unfold AL
  rw[e3 h]
 have hso:(!(Ak a0 a1 a2))=true→_:=fun h=>Atw (l:=a0) (st:=a2) (hlt h).2
 have bb:∀{n:Nat},n≤6000→Aj n:=fun h=>by unfold Aj;omega
 have wb:∀{n:Nat},n≤6000→AC n:=fun h=>by unfold AC;omega
 refine⟨Aa hw (Aa (fun h=>(hcp h).1) (Aa (fun h=>?_) (Aa (fun h=>?_) (Aa (fun _=>hg) (Aa (fun h=>?_) (Aa (fun h=>?_) (Aa (fun h _=>?_) (Aa (fun h _=>?_) (Aa (fun h _=>?_) (Aa (fun h _ _=>?_) Ad)))))))))),?_⟩
 ·rw[e3 h];have:=(hlt h).1;unfold Aj;omega
 ·have:=(hlt h).1;unfold Aj;omega
 ·rw[e2 h];have:=(hlt h).1;have:=(hso h).1;exact wb (by omega)
 ·rw[e2 h];exact fun r hr=>bb ((hso h).2 r hr).1
 ·rw[e2 h];have:=(hlt h).1;have:=(hso h).1;exact Bca _ (by omega) (hso h).2
 ·rw[e3 h];exact wb (hlt h).1
 ·rw[e3 h];exact fun r hr=>bb ((hlt h).2 r hr).2.1
 ·exact(Awe a0 a1 a2 (hlt h).1 fun r hr=>((hlt h).2 r hr).2.1).1
 ·unfold GH
  cases h5:Ak a0 a1 a2 with
  |true=>rfl
  | false=>
   have h:(!(Ak a0 a1 a2))=true:=by rw[h5];rfl
   have k0:AK a0 a1 a2=false:=by
    unfold AK
    rw[e2 h,e3 h,Apb,beq_self_eq_true,beq_self_eq_true,bne_self_eq_false]
    rfl
   have k1:CF a0 a1 a2=false:=by
    unfold CF
    rw[e3 h,Apb]
    rfl
   have k4:Dm a0 a1 a2=(a0,a1,(a1.length:Int),(a1.length:Int),a2):=(Awe a0 a1 a2 (hlt h).1 fun r hr=>((hlt h).2 r hr).2.1).2
   rw[k0,k1,k4]
   show(bif CP a0 a1 (a1.length:Int) (a1.length:Int) a2 then false else true)=true
   have:CP a0 a1 (a1.length:Int) (a1.length:Int) a2=false:=by
    unfold CP BT
    rw[nn,PE,decide_eq_false (Nat.lt_irrefl _)]
    rfl
   rw[this]
   rfl
end Go.Proofs.Yteebobbhhgmeiaa
namespace Go.Proofs.Yteebobbhhgmeiaa
open Go.RowKit
set_option maxRecDepth 100000
theorem op3:Opn Try.prog .i64 3:=Bbu Try.underlying3
theorem op4:Opn Try.prog .bool 4:=A8k Try.underlying4
theorem op9:Opn Try.prog .str 9:=Bbv Try.underlying9
theorem Ber:Opn Try.prog .vec 31:=fun en w base spare held m cs y h=>by
 obtain⟨xs,n,_,_,hl,hz,hg⟩:=DataW.trod_array Try.underlying31 h
 have hl:cs.length=2:=hl.trans (by kernel_rfl)
 obtain⟨x0,w0,g0⟩:=Bfl (i:=0) (k:=1) op3 (by kernel_rfl) (by omega) (by omega) hg
 obtain⟨x1,w1,g1⟩:=Bfl (i:=1) (k:=1) op3 (by kernel_rfl) (by omega) (by omega) hg
 exact⟨⟨x0,x1⟩,⟨w0,w1⟩,fun F N nx hF=>HLd (o:=0) (k:=1) (g0 F N nx hF) (HLd (o:=1) (k:=1) (g1 F N nx hF) (HLe (o:=2) hl))⟩
theorem Bgj:Opn Try.prog .stamp 51:=fun en w base spare held m cs y h=>by
 obtain⟨xs,n,_,_,hl,hz,hg⟩:=DataW.trod_struct Try.underlying51 h
 have hz:xs.length=2:=hz
 have hl:cs.length=2:=hl.trans (by kernel_rfl)
 obtain⟨x0,w0,g0⟩:=Anc (i:=0) (o:=0) (k:=1) op3 rfl rfl rfl (by kernel_rfl) (by omega) hg
 obtain⟨x1,w1,g1⟩:=Anc (i:=1) (o:=1) (k:=1) op3 rfl rfl rfl (by kernel_rfl) (by omega) hg
 exact⟨⟨x0,x1⟩,⟨w0,w1⟩,fun F N nx hF=>HLd (o:=0) (k:=1) (g0 F N nx hF) (HLd (o:=1) (k:=1) (g1 F N nx hF) (HLe (o:=2) hl))⟩
theorem Bgk:Opn Try.prog .cell 55:=fun en w base spare held m cs y h=>by
 obtain⟨xs,n,_,_,hl,hz,hg⟩:=DataW.trod_struct Try.underlying55 h
 have hz:xs.length=5:=hz
 have hl:cs.length=8:=hl.trans (by kernel_rfl)
 obtain⟨x0,w0,g0⟩:=Anc (i:=0) (o:=0) (k:=2) Bgj rfl rfl rfl (by kernel_rfl) (by omega) hg
 obtain⟨x1,w1,g1⟩:=Anc (i:=1) (o:=2) (k:=2) Ber rfl rfl rfl (by kernel_rfl) (by omega) hg
 obtain⟨x2,w2,g2⟩:=Anc (i:=2) (o:=4) (k:=1) op4 rfl rfl rfl (by kernel_rfl) (by omega) hg
 obtain⟨x3,w3,g3⟩:=Anc (i:=3) (o:=5) (k:=1) op9 rfl rfl rfl (by kernel_rfl) (by omega) hg
 obtain⟨x4,w4,g4⟩:=Anc (i:=4) (o:=6) (k:=2) Ber rfl rfl rfl (by kernel_rfl) (by omega) hg
 exact⟨⟨x0,x1,x2,x3,x4⟩,⟨w0,w1,w2,w3,w4⟩,fun F N nx hF=>HLd (o:=0) (k:=2) (g0 F N nx hF) (HLd (o:=2) (k:=2) (g1 F N nx hF) (HLd (o:=4) (k:=1) (g2 F N nx hF) (HLd (o:=5) (k:=1) (g3 F N nx hF) (HLd (o:=6) (k:=2) (g4 F N nx hF) (HLe (o:=8) hl)))))⟩
theorem Bgm:Opn Try.prog .group 79:=fun en w base spare held m cs y h=>by
 obtain⟨xs,n,_,_,hl,hz,hg⟩:=DataW.trod_struct Try.underlying79 h
 have hz:xs.length=2:=hz
 have hl:cs.length=2:=hl.trans (by kernel_rfl)
 obtain⟨x0,w0,g0⟩:=Anc (i:=0) (o:=0) (k:=1) op9 rfl rfl rfl (by kernel_rfl) (by omega) hg
 obtain⟨x1,w1,g1⟩:=Anc (i:=1) (o:=1) (k:=1) op3 rfl rfl rfl (by kernel_rfl) (by omega) hg
 exact⟨⟨x0,x1⟩,⟨w0,w1⟩,fun F N nx hF=>HLd (o:=0) (k:=1) (g0 F N nx hF) (HLd (o:=1) (k:=1) (g1 F N nx hF) (HLe (o:=2) hl))⟩
theorem Bf2:Aow Try.prog .group 66:=Akr Try.underlying66 (by kernel_rfl) Bgm
theorem Bf4:Aow Try.prog .cell 69:=Akr Try.underlying69 (by kernel_rfl) Bgk
theorem Bgl:Opn Try.prog .row 71:=fun en w base spare held m cs y h=>by
 obtain⟨xs,n,_,_,hl,hz,hg⟩:=DataW.trod_struct Try.underlying71 h
 have hz:xs.length=2:=hz
 have hl:cs.length=2:=hl.trans (by kernel_rfl)
 obtain⟨x0,w0,g0⟩:=Anc (i:=0) (o:=0) (k:=1) op9 rfl rfl rfl (by kernel_rfl) (by omega) hg
 obtain⟨x1,w1,g1⟩:=Bgi (i:=1) (o:=1) (k:=1) Bf4 rfl rfl rfl (by kernel_rfl) (by omega) hg
 exact⟨⟨x0,x1⟩,⟨w0,w1⟩,fun F N nx hF=>HLd (o:=0) (k:=1) (g0 F N nx hF) (HLd (o:=1) (k:=1) (g1 F N nx hF) (HLe (o:=2) hl))⟩
theorem Bf3:Aow Try.prog .row 67:=Akr Try.underlying67 (by kernel_rfl) Bgl
end Go.Proofs.Yteebobbhhgmeiaa
namespace Go.Proofs.Yteebobbhhgmeiaa
open Go.ChangeShapes Go.WideShapes Go.ChangeAt Go.RowKit
theorem own:ownKnob Try.prog.godebug=none:=by kernel_rfl
theorem Bbi:laidOutB Try.prog=true:=by kernel_rfl
section
variable {P:Program} {H:Type} {enc:TypeId×Value→H} {w:World} {base:Nat} {spare:Nat→Bool} {held:Bool} {v:Value} {d:DataW H} {p:List MemPlace}
theorem Aq5 {r:Reach} {b0:Nat} {t e:TypeId} {n:Nat} (hu:P.underlying t=some (.array n e)) (h:Value.okWide P w r b0 t v):∃cs,v=.agg cs∧cs.size=P.cellsOf t:=by
 unfold Value.okWide at h
 rw[hu] at h
 obtain⟨cs,h1,h2,_⟩:=h
 exact⟨cs,h1,h2⟩
end
theorem Vr {H:Type} {enc:TypeId×Value→H} {W W':World} (hb:Below W.heap.size W W'):∀(ts:List TypeId) (vs:List Value) (ds:List (DataW H)) (ps:List MemPlace),
  (∀t∈ts,Try.prog.readableRec t=true∧t <Try.prog.types.size)→DataW.TrodAll enc Try.prog W 0 (fun _=>true) true ts vs ds ps→(∀x∈ps,x.block <W.heap.size)→
  DataW.TrodAll enc Try.prog W' 0 (fun b=>decide (b <W.heap.size)) true ts vs ds ps
 | [],vs,ds,ps,_,h,_=>by
  obtain⟨rfl,rfl,rfl⟩:=trodAll_nil h
  exact trodAll_mk0
 | t::ts,vs,ds,ps,hr,h,hlt=>by
  obtain⟨v,vs',d,ds',p,q,rfl,rfl,rfl,h0,h1⟩:=trodAll_cons h
  exact trodAll_cons_mk (Below.trod Bbi (hr t (by simp)).1 (hr t (by simp)).2 h0 hb fun x hx=>hlt x (by simp[hx]))
   (Vr hb ts vs' ds' q (fun t' ht'=>hr t' (by simp[ht'])) h1 fun x hx=>hlt x (by simp[hx]))
section
variable {H:Type} {enc:TypeId×Value→H} {w:World} {base:Nat} {spare:Nat→Bool} {held:Bool} {v:Value} {d:DataW H} {p:List MemPlace}
end
end Go.Proofs.Yteebobbhhgmeiaa
namespace Go.Proofs.Yteebobbhhgmeiaa
open Go.RowKit Go.WideShapes Go.ChangeShapes
section
variable {H:Type} {en:TypeId×Value→H} {P:Program} {w:World} {base:Nat} {spare:Nat→Bool} {held:Bool} {t e:TypeId} {v:Value} {d:DataW H} {p:List MemPlace} {r:Reach} {b0:Nat} {c:TC}
theorem Aur (ht:P.underlying t=some (.slice e)) (ho:Aow P c t) (hv:Value.okWide P w r b0 t v) (h:DataW.Trod en P w base spare held t v d p):
  ∃l:List (U c),(l.length≤maxLen∧∀x∈l,Wfd c x)∧∀(F:Nat→Prop) (N:Nm) (nx:Nat),FB w F→Hv F N nx w (.sl c l) v:=by
 obtain⟨a,len,cap,rfl⟩:=okWide_slice ht hv
 obtain⟨fuel,hf⟩:=h
 obtain⟨l,h1,h2⟩:=ho en w base spare held fuel _ _ hf
 refine⟨l,h1,fun F N nx hF=>?_⟩
 obtain⟨y,ys,e,h3,_⟩:=(h2 F N nx hF).inv
 have e':[Value.slice a len cap]=y::ys:=e
 cases e'
 exact h3
theorem Bau {cs:Array Value} (ho:Opn P c t) (ha:c.isAgg=true) (hv:v=.agg cs) (h:DataW.Trod en P w base spare held t v d p):
  ∃x:U c,Wfd c x∧∀(F:Nat→Prop) (N:Nm) (nx:Nat),FB w F→Hv F N nx w (Aq c x) v:=by
 subst hv
 obtain⟨fuel,hf⟩:=h
 obtain⟨x,h2,h3⟩:=ho en w base spare held fuel _ _ hf
 exact⟨x,h2,fun F N nx hF=>Azq (h3 F N nx hF) ha⟩
theorem A4b {n:Nat} (ht:P.underlying t=some (.array n e)) (ho:Opn P c t) (ha:c.isAgg=true) (hv:Value.okWide P w r b0 t v) (h:DataW.Trod en P w base spare held t v d p):
  ∃x:U c,Wfd c x∧∀(F:Nat→Prop) (N:Nm) (nx:Nat),FB w F→Hv F N nx w (Aq c x) v:=by
 obtain⟨cs,hcs,_⟩:=Aq5 ht hv
 exact Bau ho ha hcs h
end
theorem A69 {P:Program} {f:FuncId} {args:List A} {nx':Nat} {o':Objs} {b:Bool} (h:CallOk P f args 0 [] 1 (.v (.bool b)) nx' o') (W:World) (vs:List Value) (ha:∀(F:Nat→Prop) (N:Nm) (nx:Nat),FB W F→HL F N nx W args vs):
  Calls P f vs.toArray W fun e W'=>e=.returned (.bool b)∧Below W.heap.size W W':=by
 have hr:HRel (fun b=>b <W.heap.size) ⟨fun _=>0,fun _=> .nilFunc⟩ 0 [] W:=⟨fun g hg=>hg,fun i ob hi=>(by cases hi),fun i ob g hi=>(by cases hi),fun i j x y g hi=>(by cases hi)⟩
 refine(h _ _ W vs hr (ha _ _ _ fun b hb=>hb)).mono fun e W' ⟨y,F',N',he,_,_,hy,hb⟩=>?_
 rw[hy.v_inv] at he
 exact⟨he,hb (Nat.le_refl _)⟩
end Go.Proofs.Yteebobbhhgmeiaa
namespace Go.Proofs.Yteebobbhhgmeiaa.frontierSweeps
open Go.ChangeShapes Go.WideShapes Go.ChangeAt Go.RowKit
set_option maxRecDepth 100000 in
theorem lifted (os:Os) (started:os.Started) (H:Type) (enc:TypeId×Value→H):
  ReturnsInHanded {} Try.checked os 8 .any (Rows.frontierSweepsSpec.pre6 enc Try.prog Try.f8 Rows.frontierSweepsRow.domain false) (Rows.frontierSweepsSpec.post enc Try.prog Try.f8 false true false false):=by
 refine returnsInHanded_of_change (C:=Try.checked) own started (by kernel_rfl) Try.func8
  (ChangeSpec.witness6 (enc:=enc) (C:=Try.checked) false ⟨#[],#[.slice none 0 0,.slice none 0 0,.agg #[.int .i64 0,.int .i64 0]],[]⟩ 8 (by kernel_rfl) (by kernel_rfl) (by kernel_rfl) (by kernel_rfl)) ?_
 intro W base args ds gs before hval0 hW hcnd _
 have hval:∀(j:Nat) t v,Try.f8.params[j]?=some t→args[j]?=some v→Value.okWide Try.prog W .any base t v:=hval0
 have hW':=hW
 have hlt:∀x∈before,x.block <W.heap.size:=fun x hx=>hW.lt x hx
 obtain⟨p,q,hA0,hV,rfl,hfz,hnd⟩:=hW
 have hA:DataW.TrodAll enc Try.prog W 0 (fun _=>true) true Try.f8.params.toList args.toList ds p:=hA0
 rw[Try.params8] at hA hval
 have hA':=hA
 obtain⟨v0,vs0,d0,ds0,p0,q0,hargs,rfl,rfl,h0,r0⟩:=trodAll_cons hA
 obtain⟨v1,vs1,d1,ds1,p1,q1,rfl,rfl,rfl,h1,r1⟩:=trodAll_cons r0
 obtain⟨v2,vs2,d2,ds2,p2,q2,rfl,rfl,rfl,h2,r2⟩:=trodAll_cons r1
 obtain⟨rfl,rfl,rfl⟩:=trodAll_nil r2
 obtain rfl:args=#[v0,v1,v2]:=by cases args;simp_all
 obtain⟨rfl,rfl⟩:=trodVars_none hV
 obtain⟨a0,w0,g0⟩:=Aur Try.underlying66 Bf2 (hval 0 66 v0 rfl rfl) h0
 obtain⟨a1,w1,g1⟩:=Aur Try.underlying67 Bf3 (hval 1 67 v1 rfl rfl) h1
 obtain⟨a2,w2,g2⟩:=A4b Try.underlying31 Ber rfl (hval 2 31 v2 rfl rfl) h2
 obtain⟨hn,ht⟩:=Bbc a0 a1 a2 w0 w1
 have hc:=Tg a0 a1 a2 hn
 have hr:Ik a0 a1 a2=.v (.bool true):=by show A.v (.bool (GH a0 a1 a2))=_;rw[ht]
 rw[hr] at hc
 refine(A69 hc W [v0,v1,v2] fun F N nx hF=>HL.cons (g0 F N nx hF) (HL.cons (g1 F N nx hF) (HL.cons (g2 F N nx hF) (HL.nil)))).mono fun e W' ⟨he,bel⟩=>?_
 subst he
 have hread:∀t∈[66,67,31],Try.prog.readableRec t=true∧t <Try.prog.types.size:=by
  intro t ht
  simp only[List.mem_cons,List.not_mem_nil,or_false] at ht
  rcases ht with rfl|rfl|rfl
  all_goals exact⟨by kernel_rfl,of_decide_eq_true (by kernel_rfl)⟩
 exact⟨_,rfl,_,_,_,[],_,[],hW',trodAll_mk1 (shut_bool Try.underlying4 _),
  Vr bel _ _ _ _ hread hA' (fun x hx=>hlt x (by simpa using hx)),rfl,bel.frame _,fun h=>by cases h⟩
theorem tA:Try.prog.funcNamed Rows.frontierSweepsRow.func=some 8:=by kernel_rfl
theorem b0:(Rows.frontierSweepsRow.wf (OpenSpec.ofChange Rows.frontierSweepsSpec))=true:=by kernel_rfl
theorem b1:(laidOutB Try.prog)=true:=by kernel_rfl
theorem b2:(mapsRowed Try.prog)=true:=by kernel_rfl
theorem b3:(Try.f8.params.all (Try.prog.readableRec ·))=true:=by kernel_rfl
theorem b4:(namedTie Try.prog Rows.frontierSweepsRow.named Rows.frontierSweepsSpec.vars)=true:=by kernel_rfl
theorem b5:((Rows.frontierSweepsRow.stops==[]))=true:=by kernel_rfl
theorem b6:((Try.prog.stops==[]))=true:=by kernel_rfl
theorem b7:((Rows.frontierSweepsRow.knobs==[]))=true:=by kernel_rfl
theorem b8:((Try.prog.stopKnobs==[]))=true:=by kernel_rfl
theorem b9:((Rows.frontierSweepsRow.inPlace==Try.prog.inPlace 8))=true:=by kernel_rfl
theorem b10:((Rows.frontierSweepsRow.unfollowed==Try.prog.unfollowed 8))=true:=by kernel_rfl
theorem b11:((Rows.frontierSweepsRow.recurses==Try.prog.recurses 8))=true:=by kernel_rfl
theorem b12:((Rows.frontierSweepsRow.named==Try.prog.varsNamed 8))=true:=by kernel_rfl
theorem b13:((Rows.frontierSweepsRow.maps==(Try.f8.params.toList++Rows.frontierSweepsSpec.plain.varTypes Try.prog).any (Try.prog.mapsRec ·)))=true:=by kernel_rfl
theorem b14:((Rows.frontierSweepsRow.ifaces==(Try.f8.params.toList++Rows.frontierSweepsSpec.plain.varTypes Try.prog).any (Try.prog.ifacesRec ·)))=true:=by kernel_rfl
theorem b15:((Rows.frontierSweepsRow.mapsOut==Try.prog.mapsAmong Try.f8.resultTypes.toList))=true:=by kernel_rfl
theorem b16:((Rows.frontierSweepsRow.loops==(Try.f8.params.toList++Rows.frontierSweepsSpec.plain.varTypes Try.prog).any (Try.prog.loopsFrom ·)))=true:=by kernel_rfl
theorem b17:((Rows.frontierSweepsRow.wideKeys==(Try.f8.params.toList++Rows.frontierSweepsSpec.plain.varTypes Try.prog++Try.f8.resultTypes.toList).any (Try.prog.wideKeysFrom ·)))=true:=by kernel_rfl
theorem b18:(Rows.frontierSweepsSpec.vars.all (Try.prog.varReadable ·))=true:=by kernel_rfl
theorem b19:(Try.f8.resultTypes.all (fun t=>Try.prog.readableRec t&&decide (t <Try.prog.types.size)))=true:=by kernel_rfl
theorem b20:((Rows.frontierSweepsRow.ifacesOut==Try.f8.resultTypes.toList.any (Try.prog.ifacesRec ·)))=true:=by kernel_rfl
theorem b21:((Rows.frontierSweepsRow.loopsOut==Try.f8.resultTypes.toList.any (Try.prog.loopsFrom ·)))=true:=by kernel_rfl
theorem b22:((Rows.frontierSweepsRow.plainKeys==Try.prog.plainKeys))=true:=by kernel_rfl
theorem b23:(Rows.frontierSweepsRow.shortTexts.isNone)=true:=by kernel_rfl
theorem b24:(Try.prog.stopsHeard)=true:=by kernel_rfl
theorem b25:(Try.prog.mayEnter)=true:=by kernel_rfl
theorem b26:((Rows.frontierSweepsRow.lifted==Try.prog.liftsFinal))=true:=by kernel_rfl
theorem b27:((Try.prog.make==some Rows.frontierSweepsRow.make))=true:=by kernel_rfl
theorem b28:((Rows.frontierSweepsRow.kinds==(if Rows.frontierSweepsRow.domain.isEmpty then[] else Try.f8.params.toList.map fun t=>match Try.prog.underlying t with|some (.int k)=>some k|_=>none)))=true:=by kernel_rfl
theorem b29:((Rows.frontierSweepsRow.pinned==Rows.frontierSweepsRow.pinnedBy))=true:=by kernel_rfl
theorem b30:((Rows.frontierSweepsRow.veiled==(Try.f8.params.toList++Rows.frontierSweepsSpec.plain.varTypes Try.prog++Try.f8.resultTypes.toList).any (Try.prog.veiledRec ·)))=true:=by kernel_rfl
theorem b31:(Rows.frontierSweepsRow.veiledFits Try.prog Try.f8.params.toList (Try.f8.params.toList++Rows.frontierSweepsSpec.plain.varTypes Try.prog++Try.f8.resultTypes.toList))=true:=by kernel_rfl
theorem Jm {a b:Bool} (h:a=true) (g:b=true):(a&&b)=true:=by rw[h,g];rfl
set_option maxRecDepth 100000 in
theorem tB:joinedFacts Try.prog 8 Try.f8 Rows.frontierSweepsSpec Rows.frontierSweepsRow=true:=by
 unfold joinedFacts
 exact(Jm (Jm (Jm (Jm (Jm (Jm (Jm (Jm (Jm (Jm (Jm (Jm (Jm (Jm (Jm (Jm (Jm (Jm (Jm (Jm (Jm (Jm (Jm (Jm (Jm (Jm (Jm (Jm (Jm (Jm (Jm b0 b1) b2) b3) b4) b5) b6) b7) b8) b9) b10) b11) b12) b13) b14) b15) b16) b17) b18) b19) b20) b21) b22) b23) b24) b25) b26) b27) b28) b29) b30) b31)
theorem tC:Try.f8.isInstance Try.prog Rows.frontierSweepsRow.origin Rows.frontierSweepsRow.targs:=of_decide_eq_true (by kernel_rfl)
theorem tD0:decide (Check.packageOf Try.f8.name= "main")=false:=by kernel_rfl
theorem tD:Try.f8.isWrapper Try.prog Rows.frontierSweepsRow.wrapper Rows.frontierSweepsRow.mainSum:=by
 unfold Func.isWrapper
 rw[if_neg (of_decide_eq_false tD0)]
 exact⟨rfl,rfl⟩
theorem over:Rows.frontierSweepsRow.holds Try.pinned (OpenSpec.ofChange Rows.frontierSweepsSpec):=
 OpenClaim.holds_of_wide 8 Try.f8 rfl rfl rfl rfl rfl rfl rfl ⟨rfl,rfl,rfl,rfl,rfl⟩ rfl rfl rfl rfl rfl tA Try.func8 tB tC tD
  (fun os started H enc _=>lifted os started H enc)
theorem proved:Rows.FrontierSweepsSaid:=over
end Go.Proofs.Yteebobbhhgmeiaa.frontierSweeps
