/- made by a program (rowgen.py): ModelStates: for every input the law returns true, and each argument reads behind the call as it read before. -/
import Derived.Test.YteebobbhhgmeiaaKMsg
import Derived.Test.YteebobbhhgmeiaaRows

set_option maxRecDepth 100000
namespace Go.Proofs.Yteebobbhhgmeiaa
open Go.RowKit
def Bro (l:List TGroup) (r:TRow):TView:=⟨Alg l r,Alf l r⟩
def chS (l:List TGroup) (q:ByteArray→Bool) (n:Int) (o:List TView) (r:TRow):List TView:=bif decide ((o.length:Int)≥n) then o else bif KN l r&&q r.key then o++[Bro l r] else o
def chI (l:List TGroup) (q:ByteArray→Bool) (n:Int) (rows:List TRow) (i:Nat):List TView:=(rows.take i).foldl (chS l q n) []
def chL (l:List TGroup) (q:ByteArray→Bool) (n:Int) (rows:List TRow):List TView:=rows.foldl (chS l q n) []
section
variable {l:List TGroup} {q:ByteArray→Bool} {n:Int}
theorem Bug (rows:List TRow) (i:Nat) (h:i <rows.length):chI l q n rows (i+1)=chS l q n (chI l q n rows i) (B5 rows i):=by
 unfold chI
 rw[Ald rows (Ae TC.row) i h,List.foldl_append]
 rfl
theorem Byx (rows:List TRow):chI l q n rows rows.length=chL l q n rows:=by
 unfold chI chL
 rw[List.take_length]
theorem Axf {o:List TView} (h:(o.length:Int)≥n):∀rows:List TRow,rows.foldl (chS l q n) o=o
 | []=>rfl
 | x::a=>by
  have e:chS l q n o x=o:=by
   unfold chS
   rw[decide_eq_true h]
   rfl
  rw[List.foldl_cons,e,Axf h a]
theorem Buf (rows:List TRow) {i:Nat} (h:((chI l q n rows i).length:Int)≥n):chL l q n rows=chI l q n rows i:=by
 have e:chL l q n rows=(rows.drop i).foldl (chS l q n) (chI l q n rows i):=by
  unfold chL chI
  rw[←List.foldl_append,List.take_append_drop]
 rw[e,Axf h]
theorem Beu {o:List TView}:∀rows:List TRow,(∀y∈rows,q y.key=false)→rows.foldl (chS l q n) o=o
 | [],_=>rfl
 | x::a,h=>by
  have e:chS l q n o x=o:=by
   unfold chS
   rw[h x (List.mem_cons_self ..),Bool.and_false,cond_false]
   cases decide ((o.length:Int)≥n)<;>rfl
  rw[List.foldl_cons,e,Beu a fun y hy=>h y (List.mem_cons_of_mem _ hy)]
end
def Bu8 (l:List TGroup) (rows:List TRow) (key:ByteArray):Bool:=match P4 rows key with
 |some r=>KN l r
 |none=>false
def Bu9 (l:List TGroup) (rows:List TRow) (key:ByteArray):TView:=match P4 rows key with
 |some r=>Bro l r
 |none=>⟨⟨#[]⟩,[]⟩
theorem B0d {l:List TGroup} {r:TRow} (h:KN l r=false):Bro l r=⟨⟨#[]⟩,[]⟩:=by
 unfold Bro Alg Alf
 rw[h]
 rfl
theorem Bzf {l:List TGroup} {rows:List TRow} {key:ByteArray} (h:Bu8 l rows key=false):Bu9 l rows key=⟨⟨#[]⟩,[]⟩:=by
 unfold Bu8 at h
 unfold Bu9
 cases ha:P4 rows key with
 |none=>rfl
 |some r=>rw[ha] at h;exact B0d h
theorem Bot {l:List TGroup} {key:ByteArray}:∀{rows:List TRow},Js rows→chL l (fun k=>k==key) 1 rows=bif Bu8 l rows key then[Bu9 l rows key] else[]
 | [],_=>rfl
 | x::a,h=>by
  have h1:=List.pairwise_cons.1 h
  have e:chL l (fun k=>k==key) 1 (x::a)=a.foldl (chS l (fun k=>k==key) 1) (bif KN l x&&x.key==key then[Bro l x] else[]):=rfl
  rw[e]
  unfold Bu8 Bu9
  rw[BM]
  by_cases hk:x.key=key
  ·rw[if_pos hk]
   have hk2:(x.key==key)=true:=by simpa using hk
   rw[hk2,Bool.and_true]
   show _=bif KN l x then[Bro l x] else[]
   cases hv:KN l x with
   |true=>rw[cond_true,Axf (show((1:Nat):Int)≥1 from Int.le_refl _)]
   |false=>
    rw[cond_false,Beu a fun y hy=>?_]
    have:=O6 (h1.1 y hy)
    rw[hk] at this
    simpa using Ne.symm this
  ·rw[if_neg hk]
   have hk2:(x.key==key)=false:=by simpa using hk
   rw[hk2,Bool.and_false,cond_false]
   exact Bot h1.2
def Bcb (l:List TGroup) (rows:List TRow) (key:ByteArray):Bool:=Fy l rows==0&&Bu8 l rows key
def Bru (l:List TGroup) (rows:List TRow) (key:ByteArray):TView:=bif Fy l rows==0 then Bu9 l rows key else⟨⟨#[]⟩,[]⟩
end Go.Proofs.Yteebobbhhgmeiaa
namespace Go.Proofs.Yteebobbhhgmeiaa
open Go.RowKit
theorem Bqg {P:Program} {f:FuncId} {args:List A} {k:Nat} {e:TypeId} {c:TC} {els:Els} {l:List (U c)} {ps:List Prop} (h:CallOk P f args 0 [] k (.sq 0) 1 [(0,some (.arr e (size c) els))]) (hty:U0 c els=some (l,ps)) (hp:∀p∈ps,p):CallOk P f args 0 [] k (.sq 0) 1 [(0,some (.arr e (size c) (.ty c l)))]:=fun F N R vs hh ha=>
 Calls.mono (P:=P) (h F N R vs hh ha) fun e0 R' ⟨y,F',N',e1,e2,e3,e4,e5⟩=>by
  have low:∀{i ob},Az i [(0,some (Ob.arr e (size c) (.ty c l)))]=some ob→i=0∧ob=.arr e (size c) (.ty c l):=fun {i ob} hi=>by
   have hi':(bif Nat.beq 0 i then some (Ob.arr e (size c) (.ty c l)) else none)=some ob:=hi
   cases hb:Nat.beq 0 i with
   |true=>rw[hb] at hi';cases hi';exact⟨(Nat.eq_of_beq_eq_true hb).symm,rfl⟩
   |false=>rw[hb] at hi';cases hi'
  obtain⟨hi,zs,g1,g2⟩:=e2.ob 0 _ rfl
  have hr:RowHL F' N' 1 R' (.ty c l) (size c) zs:=(show RowHL F' N' 1 R' els (size c) zs from⟨g1.1,g2⟩).ty hty hp
  have hn:l.length=els.n:=(Lq (F:=F') (N:=N') (nx:=1) (R:=R') hty hp).1
  refine⟨y,F',N',e1,⟨e2.flt,fun i ob hl=>?_,fun i ob g hl hg=>?_,fun i j x y g hx hy _ _=>?_⟩,⟨e3.le,e3.b,e3.q,e3.f,e3.fnew,fun g ⟨i,ob,hl,hg⟩=>?_,e3.os,e3.tape,e3.output,e3.size,e3.keep⟩,e4,e5⟩
  ·obtain⟨rfl,rfl⟩:=low hl
   exact⟨hi,zs,by show OwnR _ _ _ _ l.length _;rw[hn];exact g1,hr.2⟩
  ·obtain⟨rfl,rfl⟩:=low hl
   exact e2.ff 0 _ g rfl hg
  ·rw[(low hx).1,(low hy).1]
  ·obtain⟨rfl,rfl⟩:=low hl
   exact e3.foot g ⟨0,_,rfl,hg⟩
end Go.Proofs.Yteebobbhhgmeiaa
namespace Go.Proofs.Yteebobbhhgmeiaa
open Go.RowKit
noncomputable def Bdu:=A7 147 (inl (AA Cms L0) 20 147) Cms
theorem Awv:CU Try.prog Bdu:=Aw (Ade (Ax Btv AG) 20 147) Btv
abbrev EM:Type:=(List TGroup)×(List TRow)×Int×Int×ByteArray×(List TView)
def Qf (x:EM):St:=⟨46,4,[(0,.sl .group x.1),(2,.v (.int .i64 ((1:Int)))),(3,.fn 147 [] [.own 0 0]),(8,.sq 3),(17,.sl .row x.2.1),(18,.v (.int .i64 x.2.2.1)),(19,.v (.int .i64 x.2.2.2.1))],[(0,some (.box 9 [.v (.string x.2.2.2.2.1)])),(3,some (.arr 94 2 (.ty .view x.2.2.2.2.2)))]⟩
def TX:St→Option EM
 |⟨46,4,[(0,.sl .group z0),(2,.v (.int .i64 ((1:Int)))),(3,.fn 147 [] [.own 0 0]),(8,.sq 3),(17,.sl .row z1),(18,.v (.int .i64 z2)),(19,.v (.int .i64 z3))],[(0,some (.box 9 [.v (.string z4)])),(3,some (.arr 94 2 (.ty .view z5)))]⟩=>some (z0,z1,z2,z3,z4,z5)
 |_=>none
theorem Axg:∀s x,TX s=some x→s=Qf x:=fun s x h=>by
 unfold TX at h
 split at h
 ·cases h;rfl
 ·cases h
def Ap4:CX:=⟨3,4,[0,2,3,8,17,18,19],[],[(0,0),(9,3)],[0,9],[8],[3,0]⟩
def Bev:Dp:=⟨[.nil 8 94 .view],[(0,0),(2,3)],[0,2,3,8,17,18,19],[0,2]⟩
def JK (a0:List TGroup) (a1:List TRow) (_a2:Int) (a3:Int) (a4:ByteArray) (_a5:List TView):Bool:=bif KN a0 (a1.getD a3.toNat (Ae TC.row)) then(a1.getD a3.toNat (Ae TC.row)).1.toList==a4.toList else false
def Wp (_a0:List TGroup) (_a1:List TRow) (a2:Int) (a3:Int) (_a4:ByteArray) (a5:List TView):Bool:=!decide (a3 <a2)||decide ((↑a5.length:Int)≥(1:Int))
def Rc (a0:List TGroup) (a1:List TRow) (a2:Int) (a3:Int) (a4:ByteArray) (a5:List TView):ByteArray:=bif(JK a0 a1 a2 a3 a4 a5) then a4 else a4
def Re (a0:List TGroup) (a1:List TRow) (a2:Int) (a3:Int) (a4:ByteArray) (a5:List TView):List TView:=bif(JK a0 a1 a2 a3 a4 a5) then a5++[TView.mk (Alg a0 (a1.getD a3.toNat (Ae TC.row))) (Alf a0 (a1.getD a3.toNat (Ae TC.row)))] else a5
def Hi (x:EM):EM:=(x.1,x.2.1,x.2.2.1,IntKind.i64.wrap (x.2.2.2.1+(1:Int)),Rc x.1 x.2.1 x.2.2.1 x.2.2.2.1 x.2.2.2.2.1 x.2.2.2.2.2,Re x.1 x.2.1 x.2.2.1 x.2.2.2.1 x.2.2.2.2.1 x.2.2.2.2.2)
def Hh (x:EM):Cnd:=some (!(Wp x.1 x.2.1 x.2.2.1 x.2.2.2.1 x.2.2.2.2.1 x.2.2.2.2.2))
def Aac (x:EM):List Prop:=[((!!decide (x.2.2.2.1 <x.2.2.1))=true→(0:Int)≤x.2.2.2.1∧x.2.2.2.1 <(↑x.2.1.length:Int)),((!!decide (x.2.2.2.1 <x.2.2.1))=true→(!decide ((↑x.2.2.2.2.2.length:Int)≥(1:Int)))=true→false=false),((!!decide (x.2.2.2.1 <x.2.2.1))=true→(!decide ((↑x.2.2.2.2.2.length:Int)≥(1:Int)))=true→(JK x.1 x.2.1 x.2.2.1 x.2.2.2.1 x.2.2.2.2.1 x.2.2.2.2.2)=true→Ai (x.2.2.2.2.2.length+(1:Nat)))]
def Ke (x:EM):List Prop:=[((!!decide (x.2.2.2.1 <x.2.2.1))=true→(0:Int)≤x.2.2.2.1∧x.2.2.2.1 <(↑x.2.1.length:Int)),((!!decide (x.2.2.2.1 <x.2.2.1))=true→(!decide ((↑x.2.2.2.2.2.length:Int)≥(1:Int)))=true→(JK x.1 x.2.1 x.2.2.1 x.2.2.2.1 x.2.2.2.2.1 x.2.2.2.2.2)=true→Ai (x.2.2.2.2.2.length+(1:Nat)))]
def Wq (x:EM):Bo:=[(some 0,some ((Wp x.1 x.2.1 x.2.2.1 x.2.2.2.1 x.2.2.2.2.1 x.2.2.2.2.2)),⟨46,5,[(8,.sq 3)],[(3,some (.arr 94 2 (.ty .view x.2.2.2.2.2))),(0,some (.box 9 [.v (.string x.2.2.2.2.1)]))]⟩)]
def Io (x:EM):Nat:=(x.2.2.1 - x.2.2.2.1).toNat
def DH (x:EM):EM:=Bc Hi Hh (Io x) x
theorem A8p (a0:List TGroup) (a1:List TRow) (a2:Int) (a3:Int) (a4:ByteArray) (a5:List TView):By (AA Bdu L0) 9 (Aj Try.prog 146 0) Ap4 (Qf (a0,a1,a2,a3,a4,a5))=some (Aac (a0,a1,a2,a3,a4,a5),Wq (a0,a1,a2,a3,a4,a5),Hh (a0,a1,a2,a3,a4,a5),Qf (Hi (a0,a1,a2,a3,a4,a5))):=by kernel_rfl
theorem A8q (a0:List TGroup) (a1:List TRow) (a2:Int) (a3:Int) (a4:ByteArray) (a5:List TView) (hp:∀p∈Ke (a0,a1,a2,a3,a4,a5),p):∀p∈Aac (a0,a1,a2,a3,a4,a5),p:=by
 have n0:=N0 hp
 have n1:((!!decide (a3 <a2))=true→(!decide ((↑a5.length:Int)≥(1:Int)))=true→false=false):=by intros;rfl
 have n2:=N0 (N1 hp)
 exact(Aa n0 (Aa n1 (Aa n2 Ab)))
noncomputable def Aad:=HF (AA Bdu L0) (Aj Try.prog 146 0) Ap4 Bev TX Io Hi Hh Ke Wq
theorem A3h:∀s b ps outs,Aad s=some (b,ps,outs)→Wf s ⟨ps,outs,none⟩∧Br (AA C0 L0) b s ps outs:=
 Bh (T:=Qf) Awv AG (u:=9) (by kernel_rfl) (by decide) (fun⟨a0,a1,a2,a3,a4,a5⟩=>A8p a0 a1 a2 a3 a4 a5) (fun⟨a0,a1,a2,a3,a4,a5⟩=>A8q a0 a1 a2 a3 a4 a5) Axg (fun _=>AU (n:=46) rfl) fun _ _=>rfl
noncomputable def Ap3:=Dz 0 Aad L0
theorem A3g:Hf Ap3:=A5 A3h AG
noncomputable def Btw:=A7 146 (inl (AA Bdu Ap3) 20 146) Bdu
theorem Bdv:CU Try.prog Btw:=Aw (Ade (Ax Awv A3g) 20 146) Awv
def CS (a0:List TGroup) (a1:List TRow) (_a2:ByteArray):Bool:=Fy a0 a1 !=(0:Int)
def FA (a0:List TGroup) (a1:List TRow) (a2:ByteArray):Bool:=(↑(bif(CS a0 a1 a2) then[] else(DH (a0,a1,(↑a1.length:Int),(0:Int),a2,[])).snd.snd.snd.snd.snd).length:Int)==(0:Int)
def QB (a0:List TGroup) (a1:List TRow) (a2:ByteArray):TView:=TView.mk (bif(FA a0 a1 a2) then ByteArray.mk #[] else((bif(CS a0 a1 a2) then[] else(DH (a0,a1,(↑a1.length:Int),(0:Int),a2,[])).snd.snd.snd.snd.snd).getD (0:Nat) (Ae TC.view)).1) (bif(FA a0 a1 a2) then[] else((bif(CS a0 a1 a2) then[] else(DH (a0,a1,(↑a1.length:Int),(0:Int),a2,[])).snd.snd.snd.snd.snd).getD (0:Nat) (Ae TC.view)).2)
def Xm (a0:List TGroup) (a1:List TRow) (a2:ByteArray):Bool:=bif(FA a0 a1 a2) then false else true
def Xn (a0:List TGroup) (a1:List TRow) (a2:ByteArray):A:=.tup [.agg [.v (.string ((QB a0 a1 a2).key)),.sl .field ((QB a0 a1 a2).fields)],.v (.bool (Xm a0 a1 a2))]
def Aqq (_a0:List TGroup) (_a1:List TRow) (_a2:ByteArray):Objs:=[]
def Baa (a0:List TGroup) (a1:List TRow) (a2:ByteArray):List Prop:=[(Av a1.length),((!(CS a0 a1 a2))=true→AK Hi Hh Ke (Io (a0,a1,(↑a1.length:Int),(0:Int),a2,[])) (a0,a1,(↑a1.length:Int),(0:Int),a2,[])),((!(FA a0 a1 a2))=true→(0:Int)≤(0:Int)∧(0:Int) <(↑(bif(CS a0 a1 a2) then[] else(DH (a0,a1,(↑a1.length:Int),(0:Int),a2,[])).snd.snd.snd.snd.snd).length:Int))]
theorem A99 (a0:List TGroup) (a1:List TRow) (a2:ByteArray):ER (AA Btw L0) 9 85 [.sl .group a0,Ak .rows a1,Ak .str a2] 0 []=some (1,Xn a0 a1 a2,0,Aqq a0 a1 a2,[(Av a1.length),((!(CS a0 a1 a2))=true→Aj Try.prog (146:FuncId) (0:Nat)=Aj Try.prog (146:FuncId) (0:Nat)),((!(CS a0 a1 a2))=true→AK Hi Hh Ke (Io (a0,a1,(↑a1.length:Int),(0:Int),a2,[])) (a0,a1,(↑a1.length:Int),(0:Int),a2,[])),((!(FA a0 a1 a2))=true→(0:Int)≤(0:Int)∧(0:Int) <(↑(bif(CS a0 a1 a2) then[] else(DH (a0,a1,(↑a1.length:Int),(0:Int),a2,[])).snd.snd.snd.snd.snd).length:Int)),((!(FA a0 a1 a2))=true→(0:Nat) <(bif(CS a0 a1 a2) then[] else(DH (a0,a1,(↑a1.length:Int),(0:Int),a2,[])).snd.snd.snd.snd.snd).length)]):=by kernel_rfl
theorem Bgh (a0:List TGroup) (a1:List TRow) (a2:ByteArray) (hp:∀p∈Baa a0 a1 a2,p):CallOk Try.prog 85 [.sl .group a0,Ak .rows a1,Ak .str a2] 0 [] 1 (Xn a0 a1 a2) 0 (Aqq a0 a1 a2):=by
 have n0:=N0 hp
 have n1:((!(CS a0 a1 a2))=true→Aj Try.prog (146:FuncId) (0:Nat)=Aj Try.prog (146:FuncId) (0:Nat)):=by intros;rfl
 have n2:=N0 (N1 hp)
 have n3:((!(FA a0 a1 a2))=true→(0:Int)≤(0:Int)∧(0:Int) <(↑(bif(CS a0 a1 a2) then[] else(DH (a0,a1,(↑a1.length:Int),(0:Int),a2,[])).snd.snd.snd.snd.snd).length:Int)):=N0 (N1 (N1 hp))
 have n4:((!(FA a0 a1 a2))=true→(0:Nat) <(bif(CS a0 a1 a2) then[] else(DH (a0,a1,(↑a1.length:Int),(0:Int),a2,[])).snd.snd.snd.snd.snd).length):=by intro h0;have g:=n3 h0;omega
 exact AH (Ax Bdv AG) (A99 a0 a1 a2) (Aa n0 (Aa n1 (Aa n2 (Aa n3 (Aa n4 Ab)))))
def Aiw (a0:List TGroup) (a1:List TRow) (a2:ByteArray):A:=.tup [.agg [.v (.string (Bru a0 a1 a2).key),.sl .field (Bru a0 a1 a2).fields],.v (.bool (Bcb a0 a1 a2))]
def Aiv (_a0:List TGroup) (_a1:List TRow) (_a2:ByteArray):Objs:=[]
def Aau (_a0:List TGroup) (a1:List TRow) (_a2:ByteArray):List Prop:=[Av a1.length]
theorem Buh (l:List TGroup) (rows:List TRow) (key:ByteArray) (hb:Av rows.length):
  AK Hi Hh Ke (Io (l,rows,(rows.length:Int),0,key,[])) (l,rows,(rows.length:Int),0,key,[])∧(DH (l,rows,(rows.length:Int),0,key,[])).snd.snd.snd.snd.snd=chL l (fun k=>k==key) 1 rows:=by
 unfold Av at hb
 have same:∀(c:Bool) (x:ByteArray),(bif c then x else x)=x:=fun c x=>by cases c<;>rfl
 obtain⟨h1,k,hk,hx,_,hst,_⟩:=IN (fun i=>(l,rows,(rows.length:Int),(i:Int),key,chI l (fun k=>k==key) 1 rows i):Nat→EM) rows.length (fun i=>decide (((chI l (fun k=>k==key) 1 rows i).length:Int)≥1)) Hi Hh Ke (Io (l,rows,(rows.length:Int),0,key,[])) (l,rows,(rows.length:Int),0,key,[]) rfl (by show rows.length≤((rows.length:Int) - 0).toNat;omega)
  (fun i _ _=>by
   show(!(!decide ((i:Int) <(rows.length:Int))||decide (((chI l (fun k=>k==key) 1 rows i).length:Int)≥1)))=_
   rw[Bool.not_or,nn,Me])
  (fun i hi h0=>by
   show(l,rows,(rows.length:Int),IntKind.i64.wrap ((i:Int)+1),Rc l rows (rows.length:Int) (i:Int) key (chI l (fun k=>k==key) 1 rows i),Re l rows (rows.length:Int) (i:Int) key (chI l (fun k=>k==key) 1 rows i))=(l,rows,(rows.length:Int),((i+1:Nat):Int),key,chI l (fun k=>k==key) 1 rows (i+1))
   unfold Rc Re
   rw[same,EQ (by omega),Bug rows i hi]
   unfold JK chS
   rw[h0 i (Nat.lt_succ_self i),tlb,Int.toNat_natCast,cond_false]
   show(_,_,_,_,_,bif(bif KN l (B5 rows i) then(B5 rows i).key==key else false) then _ else _)=_
   cases KN l (B5 rows i)<;>rfl)
  (fun i hi _=>by
   have hin:(!!decide ((i:Int) <(rows.length:Int)))=true→(i:Int) <(rows.length:Int):=fun h=>by rw[nn] at h;exact of_decide_eq_true h
   refine Aa (fun h=>⟨by show(0:Int)≤(i:Int);omega,hin h⟩) (Aa (fun _ h _=>?_) Ab)
   have h':(!decide (((chI l (fun k=>k==key) 1 rows i).length:Int)≥1))=true:=h
   have h2:¬((chI l (fun k=>k==key) 1 rows i).length:Int)≥1:=by simpa using h'
   show Ai ((chI l (fun k=>k==key) 1 rows i).length+1)
   unfold Ai
   omega)
 have hr:DH (l,rows,(rows.length:Int),0,key,[])=(l,rows,(rows.length:Int),(k:Int),key,chI l (fun k=>k==key) 1 rows k):=hx
 refine⟨h1,?_⟩
 rw[hr]
 show chI l (fun k=>k==key) 1 rows k=_
 rcases Nat.lt_or_ge k rows.length with h|h
 ·exact(Buf rows (of_decide_eq_true (hst h))).symm
 ·rw[show k=rows.length by omega,Byx]
theorem A98 (a0:List TGroup) (a1:List TRow) (a2:ByteArray) (hp:∀p∈Aau a0 a1 a2,p):CallOk Try.prog 85 [.sl .group a0,Ak .rows a1,Ak .str a2] 0 [] 1 (Aiw a0 a1 a2) 0 (Aiv a0 a1 a2):=by
 have hb:Av a1.length:=hp _ (List.mem_cons_self ..)
 obtain⟨g1,g2⟩:=Buh a0 a1 a2 hb
 have hL:(bif CS a0 a1 a2 then[] else(DH (a0,a1,(a1.length:Int),(0:Int),a2,[])).snd.snd.snd.snd.snd)=bif Bcb a0 a1 a2 then[Bru a0 a1 a2] else[]:=by
  rw[g2]
  unfold CS Bcb Bru
  cases hg:Fy a0 a1 !=0 with
  |true=>
   have:(Fy a0 a1==0)=false:=by simpa using hg
   rw[this]
   rfl
  |false=>
   have h0:Fy a0 a1=0:=by simpa using hg
   have:(Fy a0 a1==0)=true:=by simpa using h0
   rw[this,cond_false,Bot (Al9 h0).2.rise]
   rfl
 have hk:FA a0 a1 a2=!Bcb a0 a1 a2:=by
  unfold FA
  rw[hL]
  cases Bcb a0 a1 a2<;>rfl
 have h:=Bgh a0 a1 a2 (Aa hb (Aa (fun _=>g1) (Aa (fun h=>by
  rw[hk,Bool.not_not] at h
  rw[hL,h]
  exact⟨Int.le_refl _,show(0:Int) <((1:Nat):Int) by decide⟩) Ab)))
 have e0:QB a0 a1 a2=Bru a0 a1 a2:=by
  unfold QB
  rw[hk,hL]
  cases hs:Bcb a0 a1 a2 with
  |true=>rfl
  | false=>
   unfold Bcb at hs
   unfold Bru
   cases hg:Fy a0 a1==0 with
   |false=>rfl
   |true=>
    rw[hg,Bool.true_and] at hs
    rw[cond_true,Bzf hs]
    rfl
 have e1:Xm a0 a1 a2=Bcb a0 a1 a2:=by
  unfold Xm
  rw[hk]
  cases Bcb a0 a1 a2<;>rfl
 unfold Xn at h
 rw[e0,e1] at h
 exact h
def Xo:List A→Nat→Objs→Option A9
 | [y0,y1,y2],nx,o=>match Jt .group y0,AQ .rows y1,AQ .str y2 with
  |some a0,some (a1,p1),some (a2,p2)=>some (1,(Aiw a0 a1 a2).pk (AC nx),nx+0,AB nx (Aiv a0 a1 a2)++o,p1++(p2++(Aau a0 a1 a2)))
  |_,_,_=>none
 |_,_,_=>none
theorem A31:EV Try.prog 85 Xo:=fun args nx o k x nx' o' ps h=>by
 unfold Xo at h
 split at h<;>first|(cases h;done)|skip
 split at h<;>first|(cases h;done)|skip
 rename_i a0 a1 p1 a2 p2 e0 e1 e2
 cases h
 refine⟨fun hp=>?_,_,rfl⟩
 have q1:=fun p hm=>hp p (List.mem_append.2 (.inl hm))
 have r1:=fun p hm=>hp p (List.mem_append.2 (.inr hm))
 have q2:=fun p hm=>r1 p (List.mem_append.2 (.inl hm))
 have r2:=fun p hm=>r1 p (List.mem_append.2 (.inr hm))
 refine Ah (Ag (A98 a0 a1 a2 r2) (Nat.le_refl _) (Ac rfl (Ac (Af _ _) (Ac (Af _ _) An))) nx o) fun F N R vs hl=>?_
 obtain⟨v0,w0,rfl,h0,hl⟩:=hl.inv
 obtain⟨v1,w1,rfl,h1,hl⟩:=hl.inv
 obtain⟨v2,w2,rfl,h2,hl⟩:=hl.inv
 exact HL.cons (BL e0 h0) (HL.cons (Am e1 q1 h1) (HL.cons (Am e2 q2 h2) (hl)))
noncomputable def Btx:=A7 85 Xo Btw
theorem Bdw:CU Try.prog Btx:=Aw A31 Bdv
def A9t:ByteArray:=ByteArray.mk #[(97:UInt8)]
def A9u:ByteArray:=ByteArray.mk #[(98:UInt8)]
def Aip:A:=.sq 0
def Aio:Objs:=[(0,some (.arr 79 2 (.lst [[.v (.string A9t),.v (.int .i64 ((1:Int)))],[.v (.string A9u),.v (.int .i64 ((2:Int)))]])))]
def A3w:List Prop:=[]
theorem A3v:ER (AA Btx L0) 9 141 [] 0 []=some (1,Aip,1,Aio,[]):=by kernel_rfl
theorem A9v (_hp:∀p∈A3w,p):CallOk Try.prog 141 [] 0 [] 1 (Aip) 1 (Aio):=by
 exact AH (Ax Bdw AG) (A3v) Ab
def Bpw:List TGroup:=[⟨⟨#[97]⟩,1⟩,⟨⟨#[98]⟩,2⟩]
def Aar:A:=.sl .group Bpw
def Aaq:Objs:=[]
def Xc:List Prop:=[]
theorem A3u (_hp:∀p∈Xc,p):CallOk Try.prog 141 [] 0 [] 1 Aar 0 Aaq:=by
 have h:=A9v (fun p h=>by cases h)
 exact A6b (c:=.group) (Bqg (c:=.group) (l:=Bpw) (ps:=[]) h rfl (fun p h=>by cases h))
def Ud:List A→Nat→Objs→Option A9
 | [],nx,o=>some (1,(Aar).pk (AC nx),nx+0,AB nx (Aaq)++o,Xc)
 |_,_,_=>none
theorem Ayp:EV Try.prog 141 Ud:=fun args nx o k x nx' o' ps h=>by
 unfold Ud at h
 split at h<;>first|(cases h;done)|skip
 cases h
 refine⟨fun hp=>?_,_,rfl⟩
 refine Ah (Ag (A3u hp) (Nat.le_refl _) An nx o) fun F N R vs hl=>?_
 exact hl
noncomputable def Bty:=A7 141 Ud Btx
theorem Bdx:CU Try.prog Bty:=Aw Ayp Bdw
def Amv (a0:Int) (a1:Int) (a2:Int) (a3:TVec) (_a4:TWrite):A:=.agg [.v (.int .i64 a0),.v (.int .i64 a1),.v (.int .i64 a2),.v (.int .i64 a0),.v (.int .i64 a3.1),.v (.int .i64 a3.2),.sq 0]
def Amu (_a0:Int) (_a1:Int) (_a2:Int) (_a3:TVec) (a4:TWrite):Objs:=[(0,some (.arr 139 4 (.lst [[.v (.string a4.1),.v (.int .i64 a4.2),.v (.bool a4.3),.v (.string a4.4)]])))]
def Ayo (_a0:Int) (_a1:Int) (_a2:Int) (_a3:TVec) (_a4:TWrite):List Prop:=[]
theorem Bkm (a0:Int) (a1:Int) (a2:Int) (a3:TVec) (a4:TWrite):ER (AA Bty L0) 9 140 [Ak .i64 a0,Ak .i64 a1,Ak .i64 a2,Ak .vec a3,Ak .write a4] 0 []=some (1,Amv a0 a1 a2 a3 a4,1,Amu a0 a1 a2 a3 a4,[]):=by kernel_rfl
theorem Bq1 (a0:Int) (a1:Int) (a2:Int) (a3:TVec) (a4:TWrite) (_hp:∀p∈Ayo a0 a1 a2 a3 a4,p):CallOk Try.prog 140 [Ak .i64 a0,Ak .i64 a1,Ak .i64 a2,Ak .vec a3,Ak .write a4] 0 [] 1 (Amv a0 a1 a2 a3 a4) 1 (Amu a0 a1 a2 a3 a4):=by
 exact AH (Ax Bdx AG) (Bkm a0 a1 a2 a3 a4) Ab
def Amw:List A→Nat→Objs→Option A9
 | [y0,y1,y2,y3,y4],nx,o=>match AQ .i64 y0,AQ .i64 y1,AQ .i64 y2,AQ .vec y3,AQ .write y4 with
  |some (a0,p0),some (a1,p1),some (a2,p2),some (a3,p3),some (a4,p4)=>some (1,(Amv a0 a1 a2 a3 a4).pk (AC nx),nx+1,AB nx (Amu a0 a1 a2 a3 a4)++o,p0++(p1++(p2++(p3++(p4++(Ayo a0 a1 a2 a3 a4))))))
  |_,_,_,_,_=>none
 |_,_,_=>none
theorem Bf3:EV Try.prog 140 Amw:=fun args nx o k x nx' o' ps h=>by
 unfold Amw at h
 split at h<;>first|(cases h;done)|skip
 split at h<;>first|(cases h;done)|skip
 rename_i a0 p0 a1 p1 a2 p2 a3 p3 a4 p4 e0 e1 e2 e3 e4
 cases h
 refine⟨fun hp=>?_,_,rfl⟩
 have q0:=fun p hm=>hp p (List.mem_append.2 (.inl hm))
 have r0:=fun p hm=>hp p (List.mem_append.2 (.inr hm))
 have q1:=fun p hm=>r0 p (List.mem_append.2 (.inl hm))
 have r1:=fun p hm=>r0 p (List.mem_append.2 (.inr hm))
 have q2:=fun p hm=>r1 p (List.mem_append.2 (.inl hm))
 have r2:=fun p hm=>r1 p (List.mem_append.2 (.inr hm))
 have q3:=fun p hm=>r2 p (List.mem_append.2 (.inl hm))
 have r3:=fun p hm=>r2 p (List.mem_append.2 (.inr hm))
 have q4:=fun p hm=>r3 p (List.mem_append.2 (.inl hm))
 have r4:=fun p hm=>r3 p (List.mem_append.2 (.inr hm))
 refine Ah (Ag (Bq1 a0 a1 a2 a3 a4 r4) (Nat.le_refl _) (Ac (Af _ _) (Ac (Af _ _) (Ac (Af _ _) (Ac (Af _ _) (Ac (Af _ _) An))))) nx o) fun F N R vs hl=>?_
 obtain⟨v0,w0,rfl,h0,hl⟩:=hl.inv
 obtain⟨v1,w1,rfl,h1,hl⟩:=hl.inv
 obtain⟨v2,w2,rfl,h2,hl⟩:=hl.inv
 obtain⟨v3,w3,rfl,h3,hl⟩:=hl.inv
 obtain⟨v4,w4,rfl,h4,hl⟩:=hl.inv
 exact HL.cons (Am e0 q0 h0) (HL.cons (Am e1 q1 h1) (HL.cons (Am e2 q2 h2) (HL.cons (Am e3 q3 h3) (HL.cons (Am e4 q4 h4) (hl)))))
noncomputable def Btz:=A7 140 Amw Bty
theorem Bdy:CU Try.prog Btz:=Aw Bf3 Bdx
def l13_lives_k0:List TChange:=[TChange.mk (1:Int) (1:Int) (TStamp.mk (1:Int) (1:Int)) (TVec.mk (1:Int) (0:Int)) [TWrite.mk (ByteArray.mk #[(107:UInt8)]) (0:Int) false (ByteArray.mk #[(120:UInt8)])],TChange.mk (2:Int) (1:Int) (TStamp.mk (1:Int) (2:Int)) (TVec.mk (0:Int) (1:Int)) [TWrite.mk (ByteArray.mk #[(107:UInt8)]) (0:Int) true (ByteArray.mk #[])]]
def Aqj:A:=.v (.bool (true))
def Aqi:Objs:=[]
def A9s:List Prop:=[((2:Nat)≤(7000:Nat)∧∀(c:TChange),c∈(l13_lives_k0)→Av c.5.length),((3:Nat)≤(7000:Nat)∧∀(c:TChange),c∈TChange.mk (1:Int) (2:Int) (TStamp.mk (2:Int) (1:Int)) (TVec.mk (2:Int) (0:Int)) [TWrite.mk (ByteArray.mk #[(107:UInt8)]) (0:Int) false (ByteArray.mk #[(121:UInt8)])]::(l13_lives_k0)→Av c.5.length),(Av (1:Nat))]
theorem A9r:ER (AA Btz L0) 9 81 [] 0 []=some (1,Aqj,0,Aqi,[((2:Nat)≤(7000:Nat)∧∀(c:TChange),c∈(l13_lives_k0)→Av c.5.length),((3:Nat)≤(7000:Nat)∧∀(c:TChange),c∈TChange.mk (1:Int) (2:Int) (TStamp.mk (2:Int) (1:Int)) (TVec.mk (2:Int) (0:Int)) [TWrite.mk (ByteArray.mk #[(107:UInt8)]) (0:Int) false (ByteArray.mk #[(121:UInt8)])]::(l13_lives_k0)→Av c.5.length),(Av (1:Nat)),(Av (1:Nat)),(true=true→(0:Int)≤(0:Int)∧(0:Int) <(1:Int))]):=by kernel_rfl
theorem Bf2 (hp:∀p∈A9s,p):CallOk Try.prog 81 [] 0 [] 1 (Aqj) 0 (Aqi):=by
 have n0:=N0 hp
 have n1:=N0 (N1 hp)
 have n2:(Av (1:Nat)):=N0 (N1 (N1 hp))
 have n4:(true=true→(0:Int)≤(0:Int)∧(0:Int) <(1:Int)):=by first|rfl|decide+kernel
 exact AH (Ax Bdy AG) (A9r) (Aa n0 (Aa n1 (Aa n2 (Aa n2 (Aa n4 Ab)))))
def Ain:A:=.v (.bool true)
def Aim:Objs:=[]
def Aap:List Prop:=[]
theorem Bgb:∀c∈l13_lives_k0,Av c.5.length:=fun c hc=>by
 have h:l13_lives_k0.all (fun c=>Nat.beq c.5.length 1)=true:=rfl
 have h2:c.5.length=1:=Nat.eq_of_beq_eq_true (List.all_eq_true.1 h c hc)
 unfold Av
 omega
theorem A9q (_hp:∀p∈Aap,p):CallOk Try.prog 81 [] 0 [] 1 Ain 0 Aim:=
 Bf2 (Aa ⟨by omega,Bgb⟩ (Aa ⟨by omega,fun c hc=>by
  rcases List.mem_cons.1 hc with rfl|hc
  ·show(1:Nat)≤9223372036854775807
   omega
  ·exact Bgb c hc⟩ (Aa (by unfold Av;omega) Ab)))
def Xb:List A→Nat→Objs→Option A9
 | [],nx,o=>some (1,(Ain).pk (AC nx),nx+0,AB nx (Aim)++o,Aap)
 |_,_,_=>none
theorem A3t:EV Try.prog 81 Xb:=fun args nx o k x nx' o' ps h=>by
 unfold Xb at h
 split at h<;>first|(cases h;done)|skip
 cases h
 refine⟨fun hp=>?_,_,rfl⟩
 refine Ah (Ag (A9q hp) (Nat.le_refl _) An nx o) fun F N R vs hl=>?_
 exact hl
noncomputable def B1j:=A7 81 Xb Btz
theorem Bt0:CU Try.prog B1j:=Aw A3t Bdy
noncomputable def Cmv:=B1j
theorem B2t:CU Try.prog Cmv:=Bt0
end Go.Proofs.Yteebobbhhgmeiaa
namespace Go.Proofs.Yteebobbhhgmeiaa
open Go.RowKit
noncomputable def B1f:=A7 144 Afv Cmg
theorem Btp:CU Try.prog B1f:=Aw Bbl Bto
noncomputable def B1g:=A7 93 Uw B1f
theorem Btq:CU Try.prog B1g:=Aw Akl Btp
noncomputable def Btr:=A7 49 Zy B1g
theorem Bdp:CU Try.prog Btr:=Aw Arl Btq
def UA (a0:List TGroup) (a1:List TRow) (a2:TRow):List TRow:=bif Bu a2 then a1 else bif gtB a1 a2.1 then Bmo a1 (TRow.mk (jnK a0 (TRow.mk (gtK a1 a2.1) (gtC a1 a2.1)) a2) (jnL a0 (TRow.mk (gtK a1 a2.1) (gtC a1 a2.1)) a2)) else Bmo a1 a2
def Af0 (a0:List TGroup) (a1:List TRow) (a2:TRow):A:=.sl .row (UA a0 a1 a2)
def Afz (_a0:List TGroup) (_a1:List TRow) (_a2:TRow):Objs:=[]
def Q0 (a0:List TGroup) (a1:List TRow) (a2:TRow):List Prop:=[(Ai a2.2.length),((!Bu a2)=true→Av a1.length),((!Bu a2)=true→∀(r:TRow),r∈a1→Ai r.2.length),((!Bu a2)=true→gtB a1 a2.1=true→∀(g:TGroup),g∈a0→Av g.1.size),((!Bu a2)=true→gtB a1 a2.1=true→a1.length≤(400000:Nat)∧Ai (jnL a0 (TRow.mk (gtK a1 a2.1) (gtC a1 a2.1)) a2).length),((!Bu a2)=true→(!gtB a1 a2.1)=true→a1.length≤(400000:Nat)∧Ai a2.2.length)]
theorem Bic (a0:List TGroup) (a1:List TRow) (a2:TRow):ER (AA Btr L0) 9 172 [.sl .group a0,Ak .rows a1,Ak .row a2] 0 []=some (1,Af0 a0 a1 a2,0,Afz a0 a1 a2,[(Ai a2.2.length),((!Bu a2)=true→Av a1.length),((!Bu a2)=true→∀(r:TRow),r∈a1→Ai r.2.length),((!Bu a2)=true→gtB a1 a2.1=true→∀(g:TGroup),g∈a0→Av g.1.size),((!Bu a2)=true→gtB a1 a2.1=true→a1.length≤(400000:Nat)∧Ai (jnL a0 (TRow.mk (gtK a1 a2.1) (gtC a1 a2.1)) a2).length),((!Bu a2)=true→(!gtB a1 a2.1)=true→a1.length≤(400000:Nat)∧Ai a2.2.length)]):=by kernel_rfl
theorem Bma (a0:List TGroup) (a1:List TRow) (a2:TRow) (hp:∀p∈Q0 a0 a1 a2,p):CallOk Try.prog 172 [.sl .group a0,Ak .rows a1,Ak .row a2] 0 [] 1 (Af0 a0 a1 a2) 0 (Afz a0 a1 a2):=by
 have n0:=N0 hp
 have n1:=N0 (N1 hp)
 have n2:=N0 (N1 (N1 hp))
 have n3:=N0 (N1 (N1 (N1 hp)))
 have n4:=N0 (N1 (N1 (N1 (N1 hp))))
 have n5:=N0 (N1 (N1 (N1 (N1 (N1 hp)))))
 exact AH (Ax Bdp AG) (Bic a0 a1 a2) (Aa n0 (Aa n1 (Aa n2 (Aa n3 (Aa n4 (Aa n5 Ab))))))
def Af1:List A→Nat→Objs→Option A9
 | [y0,y1,y2],nx,o=>match Jt .group y0,AQ .rows y1,AQ .row y2 with
  |some a0,some (a1,p1),some (a2,p2)=>some (1,(Af0 a0 a1 a2).pk (AC nx),nx+0,AB nx (Afz a0 a1 a2)++o,p1++(p2++(Q0 a0 a1 a2)))
  |_,_,_=>none
 |_,_,_=>none
theorem Bbs:EV Try.prog 172 Af1:=fun args nx o k x nx' o' ps h=>by
 unfold Af1 at h
 split at h<;>first|(cases h;done)|skip
 split at h<;>first|(cases h;done)|skip
 rename_i a0 a1 p1 a2 p2 e0 e1 e2
 cases h
 refine⟨fun hp=>?_,_,rfl⟩
 have q1:=fun p hm=>hp p (List.mem_append.2 (.inl hm))
 have r1:=fun p hm=>hp p (List.mem_append.2 (.inr hm))
 have q2:=fun p hm=>r1 p (List.mem_append.2 (.inl hm))
 have r2:=fun p hm=>r1 p (List.mem_append.2 (.inr hm))
 refine Ah (Ag (Bma a0 a1 a2 r2) (Nat.le_refl _) (Ac rfl (Ac (Af _ _) (Ac (Af _ _) An))) nx o) fun F N R vs hl=>?_
 obtain⟨v0,w0,rfl,h0,hl⟩:=hl.inv
 obtain⟨v1,w1,rfl,h1,hl⟩:=hl.inv
 obtain⟨v2,w2,rfl,h2,hl⟩:=hl.inv
 exact HL.cons (BL e0 h0) (HL.cons (Am e1 q1 h1) (HL.cons (Am e2 q2 h2) (hl)))
noncomputable def Bdq:=A7 172 Af1 Btr
theorem Aws:CU Try.prog Bdq:=Aw Bbs Bdp
theorem Bzi {l:List TGroup} {a b:TRow} (h:jnE l a b=0):(jnL l a b).length≤4:=by
 unfold jnL
 rw[h]
 show(jnN a.cells b.cells b.cells.length).length≤4
 rw[Zo]
 have g:=(Ax8.1 h).1
 rw[(AT g).2.1]
 exact(FP (AT g).1).2
theorem B0x {l:List TGroup} {rows:List TRow} {r:TRow} (hs:Stt l rows) (hr:Ap l r=0) (hb:rows.length≤400000) (hw:∀g∈l,Av g.1.size):(∀p∈Q0 l rows r,p)∧UA l rows r=Li rows r:=by
 have c4:∀{x:TRow},Ap l x=0→x.cells.length≤4:=fun {x} g=>by
  rw[(AT g).2.1]
  exact(FP (AT g).1).2
 have bb:∀{n:Nat},n≤4→Ai n:=fun h=>by unfold Ai;omega
 have hold:gtB rows r.key=true→∃x,P4 rows r.key=some x∧x.key=r.key∧Ap l x=0∧TRow.mk (gtK rows r.key) (gtC rows r.key)=x:=fun h=>by
  unfold gtB at h
  cases ha:P4 rows r.key with
  |none=>rw[ha] at h;cases h
  |some x=>
   refine⟨x,rfl,Awa ha,(Bd8 hs ha).1,?_⟩
   unfold gtK gtC
   rw[ha]
 have hjn:∀{x:TRow},x.key=r.key→Ap l x=0→jnE l x r=0:=fun hk hg=>Ax8.2 ⟨hg,hr,hk⟩
 refine⟨Aa (bb (c4 hr)) (Aa (fun _=>by unfold Av;omega) (Aa (fun _ x hx=>bb (c4 (hs.good x hx).1)) (Aa (fun _ _=>hw) (Aa (fun _ h=>⟨hb,?_⟩) (Aa (fun _ _=>⟨hb,bb (c4 hr)⟩) Ab))))),?_⟩
 ·obtain⟨x,_,h2,h3,h4⟩:=hold h
  show Ai (jnL l (TRow.mk (gtK rows r.key) (gtC rows r.key)) r).length
  rw[h4]
  exact bb (Bzi (hjn h2 h3))
 ·unfold UA Li
  cases hbr:Bu r with
  |true=>rfl
  | false=>
   rw[cond_false,cond_false]
   show(bif gtB rows r.key then Bmo rows (TRow.mk (jnK l (TRow.mk (gtK rows r.key) (gtC rows r.key)) r) (jnL l (TRow.mk (gtK rows r.key) (gtC rows r.key)) r)) else Bmo rows r)=_
   cases hg:gtB rows r.key with
   | true=>
    obtain⟨x,h1,h2,h3,h4⟩:=hold hg
    have hj:=hjn h2 h3
    have ej:TRow.mk (jnK l x r) (jnL l x r)=jnR x r:=by
     unfold jnK jnL
     rw[hj]
     rfl
    rw[cond_true,h4,h1,ej]
    exact Bwx hs.rise
   | false=>
    have:P4 rows r.key=none:=by
     unfold gtB at hg
     cases ha:P4 rows r.key with
     |none=>rfl
     |some x=>rw[ha] at hg;cases hg
    rw[cond_false,this]
    exact Bwx hs.rise
theorem Bsi {l:List TGroup} {rows:List TRow} {r:TRow} (hs:Stt l rows) (hr:Ap l r=0):Stt l (Li rows r):=by
 refine⟨Ags hs.rise r,fun x hx=>?_⟩
 unfold Li at hx
 cases hb:Bu r with
 |true=>rw[hb] at hx;exact hs.good x hx
 | false=>
  rw[hb,cond_false] at hx
  rcases A2t hx with rfl|hx
  ·cases ha:P4 rows r.key with
   |none=>exact⟨hr,hb⟩
   |some y=>
    obtain⟨g1,g2⟩:=Bd8 hs ha
    exact⟨Bfu g1 hr,Bft g1 hr g2⟩
  ·exact hs.good x hx
theorem Aqb {l:List TGroup}:∀(b:List TRow) {a:List TRow},Stt l a→(∀r∈b,Ap l r=0)→Stt l (CW a b)
 | [],_,h,_=>h
 |y::b,_,h,hb=>Aqb b (Bsi h (hb y (List.mem_cons_self ..))) fun r hr=>hb r (List.mem_cons_of_mem _ hr)
theorem Aqa:∀(b a:List TRow),(CW a b).length≤a.length+b.length
 | [],a=>Nat.le_refl _
 |y::b,a=>by
  have h1:=Aqa b (Li a y)
  have h2:=Bsh a y
  show(CW (Li a y) b).length≤a.length+(b.length+1)
  omega
theorem A9g (a b:List TRow) (i:Nat) (h:i <b.length):CW a (b.take (i+1))=Li (CW a (b.take i)) (B5 b i):=by
 unfold CW
 rw[Ald b (Ae TC.row) i h,List.foldl_append]
 rfl
abbrev BU:Type:=(List TGroup)×(List TRow)×(List TRow)×Int
def KX (x:BU):St:=⟨24,0,[(0,.sl .group x.1),(2,.sl .row x.2.1),(7,.sl .row x.2.2.1),(8,.v (.int .i64 x.2.2.2))],[]⟩
def MG:St→Option BU
 |⟨24,0,[(0,.sl .group z0),(2,.sl .row z1),(7,.sl .row z2),(8,.v (.int .i64 z3))],[]⟩=>some (z0,z1,z2,z3)
 |_=>none
theorem Afy:∀s x,MG s=some x→s=KX x:=fun s x h=>by
 unfold MG at h
 split at h
 ·cases h;rfl
 ·cases h
def VU:CX:=⟨0,0,[0,2,7,8],[],[],[],[7],[]⟩
def Avn:Dp:=⟨[],[],[0,2,7,8],[]⟩
def AV (_a0:List TGroup) (a1:List TRow) (_a2:List TRow) (a3:Int):Bool:=!!decide (a3 <(↑a1.length:Int))
def L5 (a0:List TGroup) (a1:List TRow) (a2:List TRow) (a3:Int):List TRow:=UA a0 a2 (a1.getD a3.toNat (Ae TC.row))
def Fr (x:BU):BU:=(x.1,x.2.1,L5 x.1 x.2.1 x.2.2.1 x.2.2.2,IntKind.i64.wrap (x.2.2.2+(1:Int)))
def Fq (x:BU):Cnd:=some ((AV x.1 x.2.1 x.2.2.1 x.2.2.2))
def QW (x:BU):List Prop:=[((AV x.1 x.2.1 x.2.2.1 x.2.2.2)=true→(0:Int)≤x.2.2.2∧x.2.2.2 <(↑x.2.1.length:Int)),((AV x.1 x.2.1 x.2.2.1 x.2.2.2)=true→Ai (x.2.1.getD x.2.2.2.toNat (Ae TC.row)).2.length),((AV x.1 x.2.1 x.2.2.1 x.2.2.2)=true→(!Bu (x.2.1.getD x.2.2.2.toNat (Ae TC.row)))=true→Av x.2.2.1.length),((AV x.1 x.2.1 x.2.2.1 x.2.2.2)=true→(!Bu (x.2.1.getD x.2.2.2.toNat (Ae TC.row)))=true→∀(r:TRow),r∈x.2.2.1→Ai r.2.length),((AV x.1 x.2.1 x.2.2.1 x.2.2.2)=true→(!Bu (x.2.1.getD x.2.2.2.toNat (Ae TC.row)))=true→gtB x.2.2.1 (x.2.1.getD x.2.2.2.toNat (Ae TC.row)).1=true→∀(g:TGroup),g∈x.1→Av g.1.size),((AV x.1 x.2.1 x.2.2.1 x.2.2.2)=true→(!Bu (x.2.1.getD x.2.2.2.toNat (Ae TC.row)))=true→gtB x.2.2.1 (x.2.1.getD x.2.2.2.toNat (Ae TC.row)).1=true→x.2.2.1.length≤(400000:Nat)∧Ai (jnL x.1 (TRow.mk (gtK x.2.2.1 (x.2.1.getD x.2.2.2.toNat (Ae TC.row)).1) (gtC x.2.2.1 (x.2.1.getD x.2.2.2.toNat (Ae TC.row)).1)) (x.2.1.getD x.2.2.2.toNat (Ae TC.row))).length),((AV x.1 x.2.1 x.2.2.1 x.2.2.2)=true→(!Bu (x.2.1.getD x.2.2.2.toNat (Ae TC.row)))=true→(!gtB x.2.2.1 (x.2.1.getD x.2.2.2.toNat (Ae TC.row)).1)=true→x.2.2.1.length≤(400000:Nat)∧Ai (x.2.1.getD x.2.2.2.toNat (Ae TC.row)).2.length)]
def IJ (x:BU):List Prop:=[((AV x.1 x.2.1 x.2.2.1 x.2.2.2)=true→(0:Int)≤x.2.2.2∧x.2.2.2 <(↑x.2.1.length:Int)),((AV x.1 x.2.1 x.2.2.1 x.2.2.2)=true→Ai (x.2.1.getD x.2.2.2.toNat (Ae TC.row)).2.length),((AV x.1 x.2.1 x.2.2.1 x.2.2.2)=true→(!Bu (x.2.1.getD x.2.2.2.toNat (Ae TC.row)))=true→Av x.2.2.1.length),((AV x.1 x.2.1 x.2.2.1 x.2.2.2)=true→(!Bu (x.2.1.getD x.2.2.2.toNat (Ae TC.row)))=true→∀(r:TRow),r∈x.2.2.1→Ai r.2.length),((AV x.1 x.2.1 x.2.2.1 x.2.2.2)=true→(!Bu (x.2.1.getD x.2.2.2.toNat (Ae TC.row)))=true→gtB x.2.2.1 (x.2.1.getD x.2.2.2.toNat (Ae TC.row)).1=true→∀(g:TGroup),g∈x.1→Av g.1.size),((AV x.1 x.2.1 x.2.2.1 x.2.2.2)=true→(!Bu (x.2.1.getD x.2.2.2.toNat (Ae TC.row)))=true→gtB x.2.2.1 (x.2.1.getD x.2.2.2.toNat (Ae TC.row)).1=true→x.2.2.1.length≤(400000:Nat)∧Ai (jnL x.1 (TRow.mk (gtK x.2.2.1 (x.2.1.getD x.2.2.2.toNat (Ae TC.row)).1) (gtC x.2.2.1 (x.2.1.getD x.2.2.2.toNat (Ae TC.row)).1)) (x.2.1.getD x.2.2.2.toNat (Ae TC.row))).length),((AV x.1 x.2.1 x.2.2.1 x.2.2.2)=true→(!Bu (x.2.1.getD x.2.2.2.toNat (Ae TC.row)))=true→(!gtB x.2.2.1 (x.2.1.getD x.2.2.2.toNat (Ae TC.row)).1)=true→x.2.2.1.length≤(400000:Nat)∧Ai (x.2.1.getD x.2.2.2.toNat (Ae TC.row)).2.length)]
def PR (x:BU):Bo:=[(some 0,some (!decide (x.2.2.2 <(↑x.2.1.length:Int))),⟨24,0,[(7,.sl .row x.2.2.1)],[]⟩)]
def HD (x:BU):Nat:=((↑x.2.1.length:Int) - x.2.2.2).toNat
def QY (x:BU):BU:=Bc Fr Fq (HD x) x
theorem Aoz (a0:List TGroup) (a1:List TRow) (a2:List TRow) (a3:Int):By (AA Bdq L0) 9 (Aj Try.prog 145 0) VU (KX (a0,a1,a2,a3))=some (QW (a0,a1,a2,a3),PR (a0,a1,a2,a3),Fq (a0,a1,a2,a3),KX (Fr (a0,a1,a2,a3))):=by kernel_rfl
theorem Ao0 (a0:List TGroup) (a1:List TRow) (a2:List TRow) (a3:Int) (hp:∀p∈IJ (a0,a1,a2,a3),p):∀p∈QW (a0,a1,a2,a3),p:=by
 have n0:=N0 hp
 have n1:=N0 (N1 hp)
 have n2:=N0 (N1 (N1 hp))
 have n3:=N0 (N1 (N1 (N1 hp)))
 have n4:=N0 (N1 (N1 (N1 (N1 hp))))
 have n5:=N0 (N1 (N1 (N1 (N1 (N1 hp)))))
 have n6:=N0 (N1 (N1 (N1 (N1 (N1 (N1 hp))))))
 exact(Aa n0 (Aa n1 (Aa n2 (Aa n3 (Aa n4 (Aa n5 (Aa n6 Ab)))))))
noncomputable def QX:=HF (AA Bdq L0) (Aj Try.prog 145 0) VU Avn MG HD Fr Fq IJ PR
theorem Akn:∀s b ps outs,QX s=some (b,ps,outs)→Wf s ⟨ps,outs,none⟩∧Br (AA C0 L0) b s ps outs:=
 Bh (T:=KX) Aws AG (u:=9) (by kernel_rfl) (by decide) (fun⟨a0,a1,a2,a3⟩=>Aoz a0 a1 a2 a3) (fun⟨a0,a1,a2,a3⟩=>Ao0 a0 a1 a2 a3) Afy (fun _=>AU (n:=24) rfl) fun _ _=>rfl
noncomputable def VT:=Dz 0 QX L0
theorem Akm:Hf VT:=A5 Akn AG
def Ux (a0:List TGroup) (a1:List TRow) (a2:List TRow):List TRow:=(QY (a0,a2,a1,(0:Int))).snd.snd.fst
def Uy (a0:List TGroup) (a1:List TRow) (a2:List TRow):A:=.sl .row (Ux a0 a1 a2)
def Ako (_a0:List TGroup) (_a1:List TRow) (_a2:List TRow):Objs:=[]
def Ab1 (a0:List TGroup) (a1:List TRow) (a2:List TRow):List Prop:=[(AK Fr Fq IJ (HD (a0,a2,a1,(0:Int))) (a0,a2,a1,(0:Int)))]
theorem A48 (a0:List TGroup) (a1:List TRow) (a2:List TRow):ER (AA Bdq VT) 9 145 [.sl .group a0,Ak .rows a1,Ak .rows a2] 0 []=some (1,Uy a0 a1 a2,0,Ako a0 a1 a2,[(Aj Try.prog (145:FuncId) (0:Nat)=Aj Try.prog (145:FuncId) (0:Nat)),(AK Fr Fq IJ (HD (a0,a2,a1,(0:Int))) (a0,a2,a1,(0:Int)))]):=by kernel_rfl
theorem Bbo (a0:List TGroup) (a1:List TRow) (a2:List TRow) (hp:∀p∈Ab1 a0 a1 a2,p):CallOk Try.prog 145 [.sl .group a0,Ak .rows a1,Ak .rows a2] 0 [] 1 (Uy a0 a1 a2) 0 (Ako a0 a1 a2):=by
 have n1:=N0 hp
 exact AH (Ax Aws Akm) (A48 a0 a1 a2) (Aa rfl (Aa n1 Ab))
def Ab2 (_a0:List TGroup) (a1 a2:List TRow):A:=.sl .row (CW a1 a2)
def Ab0 (_a0:List TGroup) (_a1 _a2:List TRow):Objs:=[]
def YC (a0:List TGroup) (a1 a2:List TRow):List Prop:=[Stt a0 a1∧(∀r∈a2,Ap a0 r=0)∧a1.length+a2.length≤400000∧∀g∈a0,Av g.1.size]
theorem Bqy {l:List TGroup} {a b:List TRow} (ha:Stt l a) (hb:∀r∈b,Ap l r=0) (hn:a.length+b.length≤400000) (hw:∀g∈l,Av g.1.size):(∀p∈Ab1 l a b,p)∧Ux l a b=CW a b:=by
 have hst:∀i:Nat,Stt l (CW a (b.take i)):=fun i=>Aqb _ ha fun r hr=>hb r (List.mem_of_mem_take hr)
 have hle:∀i:Nat,(CW a (b.take i)).length≤400000:=fun i=>by
  have h1:=Aqa (b.take i) a
  have h2:(b.take i).length≤b.length:=by rw[List.length_take];omega
  omega
 have hr:∀i:Nat,i <b.length→Ap l (b.getD ((i:Int)).toNat (Ae TC.row))=0:=fun i hi=>by
  rw[Int.toNat_natCast]
  exact hb _ (getD_in b (Ae TC.row) i hi)
 have hwi:∀i:Nat,i <b.length→_:=fun i hi=>B0x (hst i) (hr i hi) (hle i) hw
 obtain⟨h1,hx⟩:=Bca (fun i=>(l,b,CW a (b.take i),(i:Int)):Nat→BU) b.length Fr Fq IJ (HD (l,b,a,0)) (l,b,a,0) rfl (by show b.length≤((b.length:Int) - 0).toNat;omega)
  (fun i _=>by
   show(!!decide ((i:Int) <(b.length:Int)))=_
   rw[nn,Me])
  (fun i hi=>by
   show(l,b,L5 l b (CW a (b.take i)) (i:Int),IntKind.i64.wrap ((i:Int)+1))=(l,b,CW a (b.take (i+1)),((i+1:Nat):Int))
   unfold L5
   rw[(hwi i hi).2,EQ (by omega),A9g a b i hi,Int.toNat_natCast]
   rfl)
  (fun i _=>by
   have hin:AV l b (CW a (b.take i)) (i:Int)=true→i <b.length:=fun h=>by unfold AV at h;rw[nn] at h;have:=of_decide_eq_true h;omega
   have all:∀(h:AV l b (CW a (b.take i)) (i:Int)=true),∀p∈Q0 l (CW a (b.take i)) (b.getD ((i:Int)).toNat (Ae TC.row)),p:=fun h=>(hwi i (hin h)).1
   refine Aa (fun h=>⟨by show(0:Int)≤(i:Int);omega,by have:=hin h;show(i:Int) <(b.length:Int);omega⟩) (Aa (fun h=>(all h) _ (List.mem_cons_self ..)) (Aa (fun h=>(all h) _ (List.mem_cons_of_mem _ (List.mem_cons_self ..))) (Aa (fun h=>(all h) _ (List.mem_cons_of_mem _ (List.mem_cons_of_mem _ (List.mem_cons_self ..)))) (Aa (fun h=>(all h) _ (List.mem_cons_of_mem _ (List.mem_cons_of_mem _ (List.mem_cons_of_mem _ (List.mem_cons_self ..))))) (Aa (fun h=>(all h) _ (List.mem_cons_of_mem _ (List.mem_cons_of_mem _ (List.mem_cons_of_mem _ (List.mem_cons_of_mem _ (List.mem_cons_self ..)))))) (Aa (fun h=>(all h) _ (List.mem_cons_of_mem _ (List.mem_cons_of_mem _ (List.mem_cons_of_mem _ (List.mem_cons_of_mem _ (List.mem_cons_of_mem _ (List.mem_cons_self ..))))))) Ab)))))))
 refine⟨Aa h1 Ab,?_⟩
 have hx':QY (l,b,a,0)=(l,b,CW a (b.take b.length),(b.length:Int)):=hx
 unfold Ux
 rw[hx',List.take_length]
theorem A47 (a0:List TGroup) (a1 a2:List TRow) (hp:∀p∈YC a0 a1 a2,p):CallOk Try.prog 145 [.sl .group a0,Ak .rows a1,Ak .rows a2] 0 [] 1 (Ab2 a0 a1 a2) 0 (Ab0 a0 a1 a2):=by
 obtain⟨h1,h2,h3,h4⟩:=hp _ (List.mem_cons_self ..)
 obtain⟨g1,g2⟩:=Bqy h1 h2 h3 h4
 have h:=Bbo a0 a1 a2 g1
 unfold Uy at h
 rw[g2] at h
 exact h
def Uz:List A→Nat→Objs→Option A9
 | [y0,y1,y2],nx,o=>match Jt .group y0,AQ .rows y1,AQ .rows y2 with
  |some a0,some (a1,p1),some (a2,p2)=>some (1,(Ab2 a0 a1 a2).pk (AC nx),nx+0,AB nx (Ab0 a0 a1 a2)++o,p1++(p2++(YC a0 a1 a2)))
  |_,_,_=>none
 |_,_,_=>none
theorem A19:EV Try.prog 145 Uz:=fun args nx o k x nx' o' ps h=>by
 unfold Uz at h
 split at h<;>first|(cases h;done)|skip
 split at h<;>first|(cases h;done)|skip
 rename_i a0 a1 p1 a2 p2 e0 e1 e2
 cases h
 refine⟨fun hp=>?_,_,rfl⟩
 have q1:=fun p hm=>hp p (List.mem_append.2 (.inl hm))
 have r1:=fun p hm=>hp p (List.mem_append.2 (.inr hm))
 have q2:=fun p hm=>r1 p (List.mem_append.2 (.inl hm))
 have r2:=fun p hm=>r1 p (List.mem_append.2 (.inr hm))
 refine Ah (Ag (A47 a0 a1 a2 r2) (Nat.le_refl _) (Ac rfl (Ac (Af _ _) (Ac (Af _ _) An))) nx o) fun F N R vs hl=>?_
 obtain⟨v0,w0,rfl,h0,hl⟩:=hl.inv
 obtain⟨v1,w1,rfl,h1,hl⟩:=hl.inv
 obtain⟨v2,w2,rfl,h2,hl⟩:=hl.inv
 exact HL.cons (BL e0 h0) (HL.cons (Am e1 q1 h1) (HL.cons (Am e2 q2 h2) (hl)))
noncomputable def Bn3:=A7 145 Uz Bdq
theorem Bdr:CU Try.prog Bn3:=Aw A19 Aws
abbrev CA:Type:=(List TGroup)×(List TChange)×(List TRow)×Int
def L6 (x:CA):St:=⟨38,0,[(0,.sl .group x.1),(1,.sl .change x.2.1),(7,.sl .row x.2.2.1),(8,.v (.int .i64 x.2.2.2))],[]⟩
def NL:St→Option CA
 |⟨38,0,[(0,.sl .group z0),(1,.sl .change z1),(7,.sl .row z2),(8,.v (.int .i64 z3))],[]⟩=>some (z0,z1,z2,z3)
 |_=>none
theorem Akp:∀s x,NL s=some x→s=L6 x:=fun s x h=>by
 unfold NL at h
 split at h
 ·cases h;rfl
 ·cases h
def YG:CX:=⟨0,0,[0,1,7,8],[],[],[],[7,4,5],[]⟩
def A2a:Dp:=⟨[.nilF 7 .row],[],[0,1,7,8],[]⟩
def Bl (_a0:List TGroup) (a1:List TChange) (_a2:List TRow) (a3:Int):Bool:=!!decide (a3 <(↑a1.length:Int))
def Ew (a0:List TGroup) (a1:List TChange) (a2:List TRow) (a3:Int):Bool:=(Bl a0 a1 a2 a3)&&Kx a0 (a1.getD a3.toNat (Ae TC.change)) !=(0:Int)
def Ao2 (a0:List TGroup) (a1:List TChange) (a2:List TRow) (a3:Int):List TRow:=CW a2 (P6 a0 (a1.getD a3.toNat (Ae TC.change)))
def Ao3 (a0:List TGroup) (a1:List TChange) (a2:List TRow) (a3:Int):Bool:=(Bl a0 a1 a2 a3)&&!(Ew a0 a1 a2 a3)
def Ey (x:CA):CA:=(x.1,x.2.1,Ao2 x.1 x.2.1 x.2.2.1 x.2.2.2,IntKind.i64.wrap (x.2.2.2+(1:Int)))
def Ex (x:CA):Cnd:=some (Ao3 x.1 x.2.1 x.2.2.1 x.2.2.2)
def Tx (x:CA):List Prop:=[((Bl x.1 x.2.1 x.2.2.1 x.2.2.2)=true→(0:Int)≤x.2.2.2∧x.2.2.2 <(↑x.2.1.length:Int)),((Bl x.1 x.2.1 x.2.2.1 x.2.2.2)=true→Av (x.2.1.getD x.2.2.2.toNat (Ae TC.change)).5.length),((Bl x.1 x.2.1 x.2.2.1 x.2.2.2)=true→∀(g:TGroup),g∈x.1→Av g.1.size),((Bl x.1 x.2.1 x.2.2.1 x.2.2.2)=true→(!Kx x.1 (x.2.1.getD x.2.2.2.toNat (Ae TC.change)) !=(0:Int))=true→Stt x.1 x.2.2.1∧(∀(r:TRow),r∈P6 x.1 (x.2.1.getD x.2.2.2.toNat (Ae TC.change))→Ap x.1 r=(0:Int))∧x.2.2.1.length+(P6 x.1 (x.2.1.getD x.2.2.2.toNat (Ae TC.change))).length≤(400000:Nat)∧∀(g:TGroup),g∈x.1→Av g.1.size)]
def HT (x:CA):List Prop:=[((Bl x.1 x.2.1 x.2.2.1 x.2.2.2)=true→(0:Int)≤x.2.2.2∧x.2.2.2 <(↑x.2.1.length:Int)),((Bl x.1 x.2.1 x.2.2.1 x.2.2.2)=true→Av (x.2.1.getD x.2.2.2.toNat (Ae TC.change)).5.length),((Bl x.1 x.2.1 x.2.2.1 x.2.2.2)=true→∀(g:TGroup),g∈x.1→Av g.1.size),((Bl x.1 x.2.1 x.2.2.1 x.2.2.2)=true→(!Kx x.1 (x.2.1.getD x.2.2.2.toNat (Ae TC.change)) !=(0:Int))=true→Stt x.1 x.2.2.1∧(∀(r:TRow),r∈P6 x.1 (x.2.1.getD x.2.2.2.toNat (Ae TC.change))→Ap x.1 r=(0:Int))∧x.2.2.1.length+(P6 x.1 (x.2.1.getD x.2.2.2.toNat (Ae TC.change))).length≤(400000:Nat)∧∀(g:TGroup),g∈x.1→Av g.1.size)]
def QZ (x:CA):Bo:=[(some 0,some (!decide (x.2.2.2 <(↑x.2.1.length:Int))),⟨38,0,[(7,.sl .row x.2.2.1),(4,.dead),(5,.dead)],[]⟩),(none,some ((Ew x.1 x.2.1 x.2.2.1 x.2.2.2)),⟨38,1,[(7,.sl .row x.2.2.1),(4,.v (.slice none 0 0)),(5,.v (.int .i64 ((120:Int))))],[]⟩)]
def F6 (x:CA):Nat:=((↑x.2.1.length:Int) - x.2.2.2).toNat
def Fs (x:CA):CA:=Bc Ey Ex (F6 x) x
theorem Avo (a0:List TGroup) (a1:List TChange) (a2:List TRow) (a3:Int):By (AA Bn3 L0) 9 (Aj Try.prog 83 0) YG (L6 (a0,a1,a2,a3))=some (Tx (a0,a1,a2,a3),QZ (a0,a1,a2,a3),Ex (a0,a1,a2,a3),L6 (Ey (a0,a1,a2,a3))):=by kernel_rfl
theorem Avp (a0:List TGroup) (a1:List TChange) (a2:List TRow) (a3:Int) (hp:∀p∈HT (a0,a1,a2,a3),p):∀p∈Tx (a0,a1,a2,a3),p:=by
 have n0:=N0 hp
 have n1:=N0 (N1 hp)
 have n2:=N0 (N1 (N1 hp))
 have n3:=N0 (N1 (N1 (N1 hp)))
 exact(Aa n0 (Aa n1 (Aa n2 (Aa n3 Ab))))
noncomputable def Ty:=HF (AA Bn3 L0) (Aj Try.prog 83 0) YG A2a NL F6 Ey Ex HT QZ
theorem Ao4:∀s b ps outs,Ty s=some (b,ps,outs)→Wf s ⟨ps,outs,none⟩∧Br (AA C0 L0) b s ps outs:=
 Bh (T:=L6) Bdr AG (u:=9) (by kernel_rfl) (by decide) (fun⟨a0,a1,a2,a3⟩=>Avo a0 a1 a2 a3) (fun⟨a0,a1,a2,a3⟩=>Avp a0 a1 a2 a3) Akp (fun _=>AU (n:=38) rfl) fun _ _=>rfl
noncomputable def YF:=Dz 0 Ty L0
theorem Ao1:Hf YF:=A5 Ao4 AG
def I8 (a0:List TGroup) (_a1:List TChange):Bool:=AX a0 !=(0:Int)
def Ol (a0:List TGroup) (a1:List TChange):Bool:=Ew (Fs (a0,a1,[],(0:Int))).fst (Fs (a0,a1,[],(0:Int))).snd.fst (Fs (a0,a1,[],(0:Int))).snd.snd.fst (Fs (a0,a1,[],(0:Int))).snd.snd.snd
def YD (a0:List TGroup) (a1:List TChange):List TRow:=bif(I8 a0 a1) then[] else bif(Ol a0 a1) then[] else(Fs (a0,a1,[],(0:Int))).snd.snd.fst
def YE (a0:List TGroup) (a1:List TChange):Int:=bif(I8 a0 a1) then AX a0 else bif(Ol a0 a1) then(120:Int) else(0:Int)
def YH (a0:List TGroup) (a1:List TChange):A:=.tup [.sl .row (YD a0 a1),.v (.int .i64 (YE a0 a1))]
def Ask (_a0:List TGroup) (_a1:List TChange):Objs:=[]
def Bbr (a0:List TGroup) (a1:List TChange):List Prop:=[(∀(g:TGroup),g∈a0→Av g.1.size),((!(I8 a0 a1))=true→AK Ey Ex HT (F6 (a0,a1,[],(0:Int))) (a0,a1,[],(0:Int)))]
theorem Bbq (a0:List TGroup) (a1:List TChange):ER (AA Bn3 YF) 9 83 [.sl .group a0,.sl .change a1] 0 []=some (1,YH a0 a1,0,Ask a0 a1,[(∀(g:TGroup),g∈a0→Av g.1.size),((!(I8 a0 a1))=true→Aj Try.prog (83:FuncId) (0:Nat)=Aj Try.prog (83:FuncId) (0:Nat)),((!(I8 a0 a1))=true→AK Ey Ex HT (F6 (a0,a1,[],(0:Int))) (a0,a1,[],(0:Int)))]):=by kernel_rfl
theorem Bib (a0:List TGroup) (a1:List TChange) (hp:∀p∈Bbr a0 a1,p):CallOk Try.prog 83 [.sl .group a0,.sl .change a1] 0 [] 1 (YH a0 a1) 0 (Ask a0 a1):=by
 have n0:=N0 hp
 have n1:((!(I8 a0 a1))=true→Aj Try.prog (83:FuncId) (0:Nat)=Aj Try.prog (83:FuncId) (0:Nat)):=by intros;rfl
 have n2:=N0 (N1 hp)
 exact AH (Ax Bdr Ao1) (Bbq a0 a1) (Aa n0 (Aa n1 (Aa n2 Ab)))
def Akr (a0:List TGroup) (a1:List TChange):A:=.tup [.sl .row (stR a0 a1),.v (.int .i64 (stE a0 a1))]
def Akq (_a0:List TGroup) (_a1:List TChange):Objs:=[]
def Ab3 (a0:List TGroup) (a1:List TChange):List Prop:=[a1.length≤7000∧(∀c∈a1,Av c.writes.length)∧∀g∈a0,Av g.1.size]
theorem B0e (l:List TGroup) (cs:List TChange) (hb:cs.length≤7000) (hw:∀c∈cs,Av c.writes.length) (hg:∀g∈l,Av g.1.size):
  AK Ey Ex HT (F6 (l,cs,[],0)) (l,cs,[],0)∧Ol l cs=!JH cs.length (fun i=>Kx l (JG cs i)==0)∧(JH cs.length (fun i=>Kx l (JG cs i)==0)=true→(Fs (l,cs,[],0)).snd.snd.fst=ZC l cs cs.length):=by
 have hk0:∀(i:Nat) (o:List TRow),Ew l cs o (i:Int)=(decide (i <cs.length)&&!(Kx l (JG cs i)==0)):=fun i o=>by
  unfold Ew Bl
  rw[nn,Me,Int.toNat_natCast]
  rfl
 obtain⟨h1,k,hk,hx,_,hst,hb'⟩:=IN (fun i=>(l,cs,ZC l cs i,(i:Int)):Nat→CA) cs.length (fun i=>!(Kx l (JG cs i)==0)) Ey Ex HT (F6 (l,cs,[],0)) (l,cs,[],0) rfl (by show cs.length≤((cs.length:Int) - 0).toNat;omega)
  (fun i _ _=>by
   show((!!decide ((i:Int) <(cs.length:Int)))&&!Ew l cs (ZC l cs i) (i:Int))=_
   rw[hk0,nn,Me]
   cases decide (i <cs.length)<;>rfl)
  (fun i hi _=>by
   show(l,cs,CW (ZC l cs i) (P6 l (cs.getD ((i:Int)).toNat (Ae TC.change))),IntKind.i64.wrap ((i:Int)+1))=(l,cs,ZC l cs (i+1),((i+1:Nat):Int))
   rw[EQ (by omega),Int.toNat_natCast,←Bqz]
   rfl)
  (fun i hi _=>by
   have hin:Bl l cs (ZC l cs i) (i:Int)=true→i <cs.length:=fun h=>by unfold Bl at h;rw[nn] at h;have:=of_decide_eq_true h;omega
   refine Aa (fun h=>⟨by show(0:Int)≤(i:Int);omega,by have:=hin h;show(i:Int) <(cs.length:Int);omega⟩) (Aa (fun h=>?_) (Aa (fun _=>hg) (Aa (fun _ _=>?_) Ab)))
   ·show Av (cs.getD ((i:Int)).toNat (Ae TC.change)).5.length
    rw[Int.toNat_natCast]
    exact hw _ (getD_in cs (Ae TC.change) i (hin h))
   ·have a1:=Awl l cs i
    have a3:=Awb l (cs.getD ((i:Int)).toNat (Ae TC.change))
    show Stt l (ZC l cs i)∧(∀r∈P6 l (cs.getD ((i:Int)).toNat (Ae TC.change)),Ap l r=0)∧(ZC l cs i).length+(P6 l (cs.getD ((i:Int)).toNat (Ae TC.change))).length≤400000∧∀g∈l,Av g.1.size
    exact⟨Ak8 l cs i,(Ag7 l _).2,by omega,hg⟩)
 have hr:Fs (l,cs,[],0)=(l,cs,ZC l cs k,(k:Int)):=hx
 have hb2:(decide (k <cs.length)&&!(Kx l (JG cs k)==0))=!JH cs.length (fun i=>Kx l (JG cs i)==0):=by
  rw[hb']
  congr 1
  exact H6 fun i _=>Bool.not_not _
 refine⟨h1,?_,fun ha=>?_⟩
 ·unfold Ol
  rw[hr]
  show Ew l cs (ZC l cs k) (k:Int)=_
  rw[hk0,hb2]
 ·rw[hr]
  show ZC l cs k=_
  rw[ha] at hb2
  rcases Nat.lt_or_ge k cs.length with h|h
  ·have h2:=hst h
   rw[decide_eq_true h,h2] at hb2
   cases hb2
  ·rw[show k=cs.length by omega]
theorem Bbp (a0:List TGroup) (a1:List TChange) (hp:∀p∈Ab3 a0 a1,p):CallOk Try.prog 83 [.sl .group a0,.sl .change a1] 0 [] 1 (Akr a0 a1) 0 (Akq a0 a1):=by
 obtain⟨hb,hw,hg⟩:=hp _ (List.mem_cons_self ..)
 obtain⟨h1,k0,h3⟩:=B0e a0 a1 hb hw hg
 have h:=Bib a0 a1 (Aa hg (Aa (fun _=>h1) Ab))
 have e:YE a0 a1=stE a0 a1∧YD a0 a1=stR a0 a1:=by
  unfold YD YE I8 stR stE
  rw[k0]
  cases hg:AX a0 !=0 with
  |true=>
   have:(AX a0==0)=false:=by simpa using hg
   refine⟨rfl,?_⟩
   show[]=bif AX a0==0 then ZC a0 a1 a1.length else[]
   rw[this]
   rfl
  |false=>
   cases ha:JH a1.length (fun i=>Kx a0 (JG a1 i)==0) with
   |true=>exact⟨rfl,h3 ha⟩
   |false=>exact⟨rfl,rfl⟩
 unfold YH at h
 rw[e.1,e.2] at h
 exact h
def YI:List A→Nat→Objs→Option A9
 | [y0,y1],nx,o=>match Jt .group y0,Jt .change y1 with
  |some a0,some a1=>some (1,(Akr a0 a1).pk (AC nx),nx+0,AB nx (Akq a0 a1)++o,Ab3 a0 a1)
  |_,_=>none
 |_,_,_=>none
theorem A49:EV Try.prog 83 YI:=fun args nx o k x nx' o' ps h=>by
 unfold YI at h
 split at h<;>first|(cases h;done)|skip
 split at h<;>first|(cases h;done)|skip
 rename_i a0 a1 e0 e1
 cases h
 refine⟨fun hp=>?_,_,rfl⟩
 refine Ah (Ag (Bbp a0 a1 hp) (Nat.le_refl _) (Ac rfl (Ac rfl An)) nx o) fun F N R vs hl=>?_
 obtain⟨v0,w0,rfl,h0,hl⟩:=hl.inv
 obtain⟨v1,w1,rfl,h1,hl⟩:=hl.inv
 exact HL.cons (BL e0 h0) (HL.cons (BL e1 h1) (hl))
end Go.Proofs.Yteebobbhhgmeiaa
namespace Go.Proofs.Yteebobbhhgmeiaa
open Go.RowKit
theorem Bw2 {l:List TGroup} {cs:List TChange} (hp:AX l=0):Fy l (stR l cs)=0:=(Bp2 hp).2 (Bp1 l cs)
theorem B0k (l:List TGroup) (cs:List TChange):(stR l cs).length≤8*cs.length:=by
 unfold stR
 cases stE l cs==0 with
 |true=>exact Awl l cs cs.length
 |false=>exact Nat.zero_le _
end Go.Proofs.Yteebobbhhgmeiaa
namespace Go.Proofs.Yteebobbhhgmeiaa
open Go.RowKit
noncomputable def B1k:=A7 45 Qx Cmv
theorem Bt2:CU Try.prog B1k:=Aw Aao B2t
noncomputable def B1l:=A7 49 Zy B1k
theorem Bt3:CU Try.prog B1l:=Aw Arl Bt2
noncomputable def B1m:=A7 83 YI B1l
theorem Bt4:CU Try.prog B1m:=Aw A49 Bt3
def Hn (a0:List TGroup) (a1:List TChange):Bool:=stE a0 a1 !=(0:Int)
def Hm (a0:List TGroup) (a1:List TChange):Bool:=Bqr (stR a0 a1) (stR a0 a1)&&stE a0 a1==stE a0 a1
def JD (a0:List TGroup) (a1:List TChange):Bool:=bif !BN a0 a1 [] then true else bif(Hm a0 a1)&&((Hn a0 a1)||Fy a0 (stR a0 a1)==(0:Int)) then true else false
def LO (a0:List TGroup) (a1:List TChange):A:=.v (.bool (JD a0 a1))
def Qy (_a0:List TGroup) (_a1:List TChange):Objs:=[]
def O4 (a0:List TGroup) (a1:List TChange):List Prop:=[(Av a0.length∧(Av a1.length∧∀(c:TChange),c∈a1→UU c)∧Av (0:Nat)∧∀(x:List TRow),x∈[]→Av x.length∧∀(r:TRow),r∈x→Y7 r),((!!BN a0 a1 [])=true→a1.length≤(7000:Nat)∧∀(c:TChange),c∈a1→Av c.5.length),((!!BN a0 a1 [])=true→a1.length≤(7000:Nat)∧(∀(c:TChange),c∈a1→Av c.5.length)∧∀(g:TGroup),g∈a0→Av g.1.size),((!!BN a0 a1 [])=true→Av (stR a0 a1).length),((!!BN a0 a1 [])=true→∀(r:TRow),r∈stR a0 a1→Ai r.2.length),((!!BN a0 a1 [])=true→(Hn a0 a1)=false→(Hm a0 a1)=true→Av (stR a0 a1).length)]
theorem Adh (a0:List TGroup) (a1:List TChange):ER (AA B1m L0) 9 18 [.sl .group a0,.sl .change a1] 0 []=some (1,LO a0 a1,0,Qy a0 a1,[(Av a0.length∧(Av a1.length∧∀(c:TChange),c∈a1→UU c)∧Av (0:Nat)∧∀(x:List TRow),x∈[]→Av x.length∧∀(r:TRow),r∈x→Y7 r),((!!BN a0 a1 [])=true→a1.length≤(7000:Nat)∧∀(c:TChange),c∈a1→Av c.5.length),((!!BN a0 a1 [])=true→a1.length≤(7000:Nat)∧(∀(c:TChange),c∈a1→Av c.5.length)∧∀(g:TGroup),g∈a0→Av g.1.size),((!!BN a0 a1 [])=true→Av (stR a0 a1).length),((!!BN a0 a1 [])=true→∀(r:TRow),r∈stR a0 a1→Ai r.2.length),((!!BN a0 a1 [])=true→(Hn a0 a1)=false→(Hm a0 a1)=true→Av (stR a0 a1).length),((!!BN a0 a1 [])=true→false=false)]):=by kernel_rfl
theorem Ail (a0:List TGroup) (a1:List TChange) (hp:∀p∈O4 a0 a1,p):CallOk Try.prog 18 [.sl .group a0,.sl .change a1] 0 [] 1 (LO a0 a1) 0 (Qy a0 a1):=by
 have n0:=N0 hp
 have n1:=N0 (N1 hp)
 have n2:=N0 (N1 (N1 hp))
 have n3:=N0 (N1 (N1 (N1 hp)))
 have n4:=N0 (N1 (N1 (N1 (N1 hp))))
 have n5:=N0 (N1 (N1 (N1 (N1 (N1 hp)))))
 have n6:((!!BN a0 a1 [])=true→false=false):=by intros;rfl
 exact AH (Ax Bt4 AG) (Adh a0 a1) (Aa n0 (Aa n1 (Aa n2 (Aa n3 (Aa n4 (Aa n5 (Aa n6 Ab)))))))
end Go.Proofs.Yteebobbhhgmeiaa
namespace Go.Proofs.Yteebobbhhgmeiaa
open Go.RowKit
theorem Bx5 {a1:List TChange} (w1:a1.length≤maxLen∧∀y∈a1,Wfd .change y):Av a1.length∧∀c∈a1,UU c:=
 ⟨w1.1,fun c hc=>⟨(w1.2 c hc).2.2.2.2.1,fun w hw=>⟨((w1.2 c hc).2.2.2.2.2 w hw).1,((w1.2 c hc).2.2.2.2.2 w hw).2.2.2⟩⟩⟩
theorem Bzm {l:List TGroup} {cs:List TChange} (hl:Av l.length) (hc:Av cs.length∧∀c∈cs,UU c):(Av l.length∧(Av cs.length∧∀c∈cs,UU c)∧Av (0:Nat)∧∀x∈([]:List (List TRow)),Av x.length∧∀r∈x,Y7 r)∧(BN l cs []=true→cs.length≤6000):=by
 have h1:Av ([]:List (List TRow)).length:=by unfold Av;exact Nat.zero_le _
 have h2:∀x∈([]:List (List TRow)),Av x.length∧∀r∈x,Y7 r:=fun x hx=>by cases hx
 exact⟨⟨hl,hc,h1,h2⟩,fun h=>((Ayr l cs [] hl hc h1 h2).2 h).2.1.1⟩
theorem Apj (l:List TGroup) {cs:List TChange} (h:cs.length≤7000):Av (stR l cs).length∧∀r∈stR l cs,Ai r.cells.length:=by
 have h1:=B0k l cs
 refine⟨by unfold Av;omega,fun r hr=>?_⟩
 have g:=((Bp1 l cs).good r hr).1
 rw[(AT g).2.1]
 have:=(FP (AT g).1).2
 unfold Ai
 omega
end Go.Proofs.Yteebobbhhgmeiaa
namespace Go.Proofs.Yteebobbhhgmeiaa
open Go.RowKit
theorem Bv0 (a0:List TGroup) (a1:List TChange) (w0:a0.length≤maxLen∧∀y∈a0,Wfd .group y) (w1:a1.length≤maxLen∧∀y∈a1,Wfd .change y):(∀p∈O4 a0 a1,p)∧JD a0 a1=true:=by
 obtain⟨hL,hlt⟩:=Bzm (l:=a0) (cs:=a1) w0.1 (Bx5 w1)
 have hg:∀g∈a0,Av g.1.size:=fun g hg=>(w0.2 g hg).1
 have hw:∀c∈a1,Av c.5.length:=fun c hc=>((Bx5 w1).2 c hc).1
 have h7:(!!BN a0 a1 [])=true→a1.length≤7000:=fun h=>by
  rw[Bool.not_not] at h
  have:=hlt h
  omega
 refine⟨Aa hL (Aa (fun h=>⟨h7 h,hw⟩) (Aa (fun h=>⟨h7 h,hw,hg⟩) (Aa (fun h=>(Apj a0 (h7 h)).1) (Aa (fun h=>(Apj a0 (h7 h)).2) (Aa (fun h _ _=>(Apj a0 (h7 h)).1) Ab))))),?_⟩
 unfold JD
 cases BN a0 a1 [] with
 |false=>rfl
 | true=>
  have k0:Hm a0 a1=true:=by
   unfold Hm
   rw[Bqs,beq_self_eq_true]
   rfl
  have k1:(Hn a0 a1||Fy a0 (stR a0 a1)==(0:Int))=true:=by
   unfold Hn
   by_cases h:stE a0 a1=0
   ·rw[Bw2 (B5f.1 h).1]
    exact Bool.or_true _
   ·have:(stE a0 a1 !=(0:Int))=true:=bne_iff_ne.2 h
    rw[this]
    rfl
  rw[k0,k1]
  rfl
end Go.Proofs.Yteebobbhhgmeiaa
namespace Go.Proofs.Yteebobbhhgmeiaa
open Go.RowKit
set_option maxRecDepth 100000
theorem op3:Opn Try.prog .i64 3:=Bzx Try.underlying3
theorem op4:Opn Try.prog .bool 4:=Bv6 Try.underlying4
theorem op9:Opn Try.prog .str 9:=Bzy Try.underlying9
theorem B5o:Opn Try.prog .vec 31:=fun en w base spare held m cs y h=>by
 obtain⟨xs,n,_,_,hl,hz,hg⟩:=DataW.trod_array Try.underlying31 h
 have hl:cs.length=2:=hl.trans (by kernel_rfl)
 obtain⟨x0,w0,g0⟩:=B4p (i:=0) (k:=1) op3 (by kernel_rfl) (by omega) (by omega) hg
 obtain⟨x1,w1,g1⟩:=B4p (i:=1) (k:=1) op3 (by kernel_rfl) (by omega) (by omega) hg
 exact⟨⟨x0,x1⟩,⟨w0,w1⟩,fun F N nx hF=>HLd (o:=0) (k:=1) (g0 F N nx hF) (HLd (o:=1) (k:=1) (g1 F N nx hF) (HLe (o:=2) hl))⟩
theorem B5p:Opn Try.prog .stamp 51:=fun en w base spare held m cs y h=>by
 obtain⟨xs,n,_,_,hl,hz,hg⟩:=DataW.trod_struct Try.underlying51 h
 have hz:xs.length=2:=hz
 have hl:cs.length=2:=hl.trans (by kernel_rfl)
 obtain⟨x0,w0,g0⟩:=Atd (i:=0) (o:=0) (k:=1) op3 rfl rfl rfl (by kernel_rfl) (by omega) hg
 obtain⟨x1,w1,g1⟩:=Atd (i:=1) (o:=1) (k:=1) op3 rfl rfl rfl (by kernel_rfl) (by omega) hg
 exact⟨⟨x0,x1⟩,⟨w0,w1⟩,fun F N nx hF=>HLd (o:=0) (k:=1) (g0 F N nx hF) (HLd (o:=1) (k:=1) (g1 F N nx hF) (HLe (o:=2) hl))⟩
theorem B5q:Opn Try.prog .group 79:=fun en w base spare held m cs y h=>by
 obtain⟨xs,n,_,_,hl,hz,hg⟩:=DataW.trod_struct Try.underlying79 h
 have hz:xs.length=2:=hz
 have hl:cs.length=2:=hl.trans (by kernel_rfl)
 obtain⟨x0,w0,g0⟩:=Atd (i:=0) (o:=0) (k:=1) op9 rfl rfl rfl (by kernel_rfl) (by omega) hg
 obtain⟨x1,w1,g1⟩:=Atd (i:=1) (o:=1) (k:=1) op3 rfl rfl rfl (by kernel_rfl) (by omega) hg
 exact⟨⟨x0,x1⟩,⟨w0,w1⟩,fun F N nx hF=>HLd (o:=0) (k:=1) (g0 F N nx hF) (HLd (o:=1) (k:=1) (g1 F N nx hF) (HLe (o:=2) hl))⟩
theorem B49:A51 Try.prog .group 66:=Az7 Try.underlying66 (by kernel_rfl) B5q
theorem B48:Opn Try.prog .write 139:=fun en w base spare held m cs y h=>by
 obtain⟨xs,n,_,_,hl,hz,hg⟩:=DataW.trod_struct Try.underlying139 h
 have hz:xs.length=4:=hz
 have hl:cs.length=4:=hl.trans (by kernel_rfl)
 obtain⟨x0,w0,g0⟩:=Atd (i:=0) (o:=0) (k:=1) op9 rfl rfl rfl (by kernel_rfl) (by omega) hg
 obtain⟨x1,w1,g1⟩:=Atd (i:=1) (o:=1) (k:=1) op3 rfl rfl rfl (by kernel_rfl) (by omega) hg
 obtain⟨x2,w2,g2⟩:=Atd (i:=2) (o:=2) (k:=1) op4 rfl rfl rfl (by kernel_rfl) (by omega) hg
 obtain⟨x3,w3,g3⟩:=Atd (i:=3) (o:=3) (k:=1) op9 rfl rfl rfl (by kernel_rfl) (by omega) hg
 exact⟨⟨x0,x1,x2,x3⟩,⟨w0,w1,w2,w3⟩,fun F N nx hF=>HLd (o:=0) (k:=1) (g0 F N nx hF) (HLd (o:=1) (k:=1) (g1 F N nx hF) (HLd (o:=2) (k:=1) (g2 F N nx hF) (HLd (o:=3) (k:=1) (g3 F N nx hF) (HLe (o:=4) hl))))⟩
theorem B3t:A51 Try.prog .write 134:=Az7 Try.underlying134 (by kernel_rfl) B48
theorem B47:Opn Try.prog .change 136:=fun en w base spare held m cs y h=>by
 obtain⟨xs,n,_,_,hl,hz,hg⟩:=DataW.trod_struct Try.underlying136 h
 have hz:xs.length=5:=hz
 have hl:cs.length=7:=hl.trans (by kernel_rfl)
 obtain⟨x0,w0,g0⟩:=Atd (i:=0) (o:=0) (k:=1) op3 rfl rfl rfl (by kernel_rfl) (by omega) hg
 obtain⟨x1,w1,g1⟩:=Atd (i:=1) (o:=1) (k:=1) op3 rfl rfl rfl (by kernel_rfl) (by omega) hg
 obtain⟨x2,w2,g2⟩:=Atd (i:=2) (o:=2) (k:=2) B5p rfl rfl rfl (by kernel_rfl) (by omega) hg
 obtain⟨x3,w3,g3⟩:=Atd (i:=3) (o:=4) (k:=2) B5o rfl rfl rfl (by kernel_rfl) (by omega) hg
 obtain⟨x4,w4,g4⟩:=B5n (i:=4) (o:=6) (k:=1) B3t rfl rfl rfl (by kernel_rfl) (by omega) hg
 exact⟨⟨x0,x1,x2,x3,x4⟩,⟨w0,w1,w2,w3,w4⟩,fun F N nx hF=>HLd (o:=0) (k:=1) (g0 F N nx hF) (HLd (o:=1) (k:=1) (g1 F N nx hF) (HLd (o:=2) (k:=2) (g2 F N nx hF) (HLd (o:=4) (k:=2) (g3 F N nx hF) (HLd (o:=6) (k:=1) (g4 F N nx hF) (HLe (o:=7) hl)))))⟩
theorem B3s:A51 Try.prog .change 126:=Az7 Try.underlying126 (by kernel_rfl) B47
end Go.Proofs.Yteebobbhhgmeiaa
namespace Go.Proofs.Yteebobbhhgmeiaa
open Go.ChangeShapes Go.WideShapes Go.ChangeAt Go.RowKit
theorem own:ownKnob Try.prog.godebug=none:=by kernel_rfl
theorem Bzj:laidOutB Try.prog=true:=by kernel_rfl
section
variable {P:Program} {H:Type} {enc:TypeId×Value→H} {w:World} {base:Nat} {spare:Nat→Bool} {held:Bool} {v:Value} {d:DataW H} {p:List MemPlace}
end
theorem Aaa {H:Type} {enc:TypeId×Value→H} {W W':World} (hb:Below W.heap.size W W'):∀(ts:List TypeId) (vs:List Value) (ds:List (DataW H)) (ps:List MemPlace),
  (∀t∈ts,Try.prog.readableRec t=true∧t <Try.prog.types.size)→DataW.TrodAll enc Try.prog W 0 (fun _=>true) true ts vs ds ps→(∀x∈ps,x.block <W.heap.size)→
  DataW.TrodAll enc Try.prog W' 0 (fun b=>decide (b <W.heap.size)) true ts vs ds ps
 | [],vs,ds,ps,_,h,_=>by
  obtain⟨rfl,rfl,rfl⟩:=trodAll_nil h
  exact trodAll_mk0
 | t::ts,vs,ds,ps,hr,h,hlt=>by
  obtain⟨v,vs',d,ds',p,q,rfl,rfl,rfl,h0,h1⟩:=trodAll_cons h
  exact trodAll_cons_mk (Below.trod Bzj (hr t (by simp)).1 (hr t (by simp)).2 h0 hb fun x hx=>hlt x (by simp[hx]))
   (Aaa hb ts vs' ds' q (fun t' ht'=>hr t' (by simp[ht'])) h1 fun x hx=>hlt x (by simp[hx]))
section
variable {H:Type} {enc:TypeId×Value→H} {w:World} {base:Nat} {spare:Nat→Bool} {held:Bool} {v:Value} {d:DataW H} {p:List MemPlace}
end
end Go.Proofs.Yteebobbhhgmeiaa
namespace Go.Proofs.Yteebobbhhgmeiaa
open Go.RowKit Go.WideShapes Go.ChangeShapes
section
variable {H:Type} {en:TypeId×Value→H} {P:Program} {w:World} {base:Nat} {spare:Nat→Bool} {held:Bool} {t e:TypeId} {v:Value} {d:DataW H} {p:List MemPlace} {r:Reach} {b0:Nat} {c:TC}
theorem Bd7 (ht:P.underlying t=some (.slice e)) (ho:A51 P c t) (hv:Value.okWide P w r b0 t v) (h:DataW.Trod en P w base spare held t v d p):
  ∃l:List (U c),(l.length≤maxLen∧∀x∈l,Wfd c x)∧∀(F:Nat→Prop) (N:Nm) (nx:Nat),FB w F→Hv F N nx w (.sl c l) v:=by
 obtain⟨a,len,cap,rfl⟩:=okWide_slice ht hv
 obtain⟨fuel,hf⟩:=h
 obtain⟨l,h1,h2⟩:=ho en w base spare held fuel _ _ hf
 refine⟨l,h1,fun F N nx hF=>?_⟩
 obtain⟨y,ys,e,h3,_⟩:=(h2 F N nx hF).inv
 have e':[Value.slice a len cap]=y::ys:=e
 cases e'
 exact h3
end
theorem Bud {P:Program} {f:FuncId} {args:List A} {nx':Nat} {o':Objs} {b:Bool} (h:CallOk P f args 0 [] 1 (.v (.bool b)) nx' o') (W:World) (vs:List Value) (ha:∀(F:Nat→Prop) (N:Nm) (nx:Nat),FB W F→HL F N nx W args vs):
  Calls P f vs.toArray W fun e W'=>e=.returned (.bool b)∧Below W.heap.size W W':=by
 have hr:HRel (fun b=>b <W.heap.size) ⟨fun _=>0,fun _=> .nilFunc⟩ 0 [] W:=⟨fun g hg=>hg,fun i ob hi=>(by cases hi),fun i ob g hi=>(by cases hi),fun i j x y g hi=>(by cases hi)⟩
 refine(h _ _ W vs hr (ha _ _ _ fun b hb=>hb)).mono fun e W' ⟨y,F',N',he,_,_,hy,hb⟩=>?_
 rw[hy.v_inv] at he
 exact⟨he,hb (Nat.le_refl _)⟩
end Go.Proofs.Yteebobbhhgmeiaa
namespace Go.Proofs.Yteebobbhhgmeiaa.modelStates
open Go.ChangeShapes Go.WideShapes Go.ChangeAt Go.RowKit
theorem lifted (os:Os) (started:os.Started) (H:Type) (enc:TypeId×Value→H):
  ReturnsInHanded {} Try.checked os 18 .any (Rows.modelStatesSpec.pre6 enc Try.prog Try.f18 Rows.modelStatesRow.domain false) (Rows.modelStatesSpec.post enc Try.prog Try.f18 false true false false):=by
 refine returnsInHanded_of_change (C:=Try.checked) own started (by kernel_rfl) Try.func18
  (ChangeSpec.witness6 (enc:=enc) (C:=Try.checked) false ⟨#[],#[.slice none 0 0,.slice none 0 0],[]⟩ 8 (by kernel_rfl) (by kernel_rfl) (by kernel_rfl) (by kernel_rfl)) ?_
 intro W base args ds gs before hval0 hW hcnd _
 have hval:∀(j:Nat) t v,Try.f18.params[j]?=some t→args[j]?=some v→Value.okWide Try.prog W .any base t v:=hval0
 have hW':=hW
 have hlt:∀x∈before,x.block <W.heap.size:=fun x hx=>hW.lt x hx
 obtain⟨p,q,hA0,hV,rfl,hfz,hnd⟩:=hW
 have hA:DataW.TrodAll enc Try.prog W 0 (fun _=>true) true Try.f18.params.toList args.toList ds p:=hA0
 rw[Try.params18] at hA hval
 have hA':=hA
 obtain⟨v0,vs0,d0,ds0,p0,q0,hargs,rfl,rfl,h0,r0⟩:=trodAll_cons hA
 obtain⟨v1,vs1,d1,ds1,p1,q1,rfl,rfl,rfl,h1,r1⟩:=trodAll_cons r0
 obtain⟨rfl,rfl,rfl⟩:=trodAll_nil r1
 obtain rfl:args=#[v0,v1]:=by cases args;simp_all
 obtain⟨rfl,rfl⟩:=trodVars_none hV
 obtain⟨a0,w0,g0⟩:=Bd7 Try.underlying66 B49 (hval 0 66 v0 rfl rfl) h0
 obtain⟨a1,w1,g1⟩:=Bd7 Try.underlying126 B3s (hval 1 126 v1 rfl rfl) h1
 obtain⟨hn,ht⟩:=Bv0 a0 a1 w0 w1
 have hc:=Ail a0 a1 hn
 have hr:LO a0 a1=.v (.bool true):=by show A.v (.bool (JD a0 a1))=_;rw[ht]
 rw[hr] at hc
 refine(Bud hc W [v0,v1] fun F N nx hF=>HL.cons (g0 F N nx hF) (HL.cons (g1 F N nx hF) (HL.nil))).mono fun e W' ⟨he,bel⟩=>?_
 subst he
 have hread:∀t∈[66,126],Try.prog.readableRec t=true∧t <Try.prog.types.size:=by
  intro t ht
  simp only[List.mem_cons,List.not_mem_nil,or_false] at ht
  rcases ht with rfl|rfl
  all_goals exact⟨by kernel_rfl,of_decide_eq_true (by kernel_rfl)⟩
 exact⟨_,rfl,_,_,_,[],_,[],hW',trodAll_mk1 (shut_bool Try.underlying4 _),
  Aaa bel _ _ _ _ hread hA' (fun x hx=>hlt x (by simpa using hx)),rfl,bel.frame _,fun h=>by cases h⟩
theorem tA:Try.prog.funcNamed Rows.modelStatesRow.func=some 18:=by kernel_rfl
theorem b0:(Rows.modelStatesRow.wf (OpenSpec.ofChange Rows.modelStatesSpec))=true:=by kernel_rfl
theorem b1:(laidOutB Try.prog)=true:=by kernel_rfl
theorem b2:(mapsRowed Try.prog)=true:=by kernel_rfl
theorem b3:(Try.f18.params.all (Try.prog.readableRec ·))=true:=by kernel_rfl
theorem b4:(namedTie Try.prog Rows.modelStatesRow.named Rows.modelStatesSpec.vars)=true:=by kernel_rfl
theorem b5:((Rows.modelStatesRow.stops==[]))=true:=by kernel_rfl
theorem b6:((Try.prog.stops==[]))=true:=by kernel_rfl
theorem b7:((Rows.modelStatesRow.knobs==[]))=true:=by kernel_rfl
theorem b8:((Try.prog.stopKnobs==[]))=true:=by kernel_rfl
theorem b9:((Rows.modelStatesRow.inPlace==Try.prog.inPlace 18))=true:=by kernel_rfl
theorem b10:((Rows.modelStatesRow.unfollowed==Try.prog.unfollowed 18))=true:=by kernel_rfl
theorem b11:((Rows.modelStatesRow.recurses==Try.prog.recurses 18))=true:=by kernel_rfl
theorem b12:((Rows.modelStatesRow.named==Try.prog.varsNamed 18))=true:=by kernel_rfl
theorem b13:((Rows.modelStatesRow.maps==(Try.f18.params.toList++Rows.modelStatesSpec.plain.varTypes Try.prog).any (Try.prog.mapsRec ·)))=true:=by kernel_rfl
theorem b14:((Rows.modelStatesRow.ifaces==(Try.f18.params.toList++Rows.modelStatesSpec.plain.varTypes Try.prog).any (Try.prog.ifacesRec ·)))=true:=by kernel_rfl
theorem b15:((Rows.modelStatesRow.mapsOut==Try.prog.mapsAmong Try.f18.resultTypes.toList))=true:=by kernel_rfl
theorem b16:((Rows.modelStatesRow.loops==(Try.f18.params.toList++Rows.modelStatesSpec.plain.varTypes Try.prog).any (Try.prog.loopsFrom ·)))=true:=by kernel_rfl
theorem b17:((Rows.modelStatesRow.wideKeys==(Try.f18.params.toList++Rows.modelStatesSpec.plain.varTypes Try.prog++Try.f18.resultTypes.toList).any (Try.prog.wideKeysFrom ·)))=true:=by kernel_rfl
theorem b18:(Rows.modelStatesSpec.vars.all (Try.prog.varReadable ·))=true:=by kernel_rfl
theorem b19:(Try.f18.resultTypes.all (fun t=>Try.prog.readableRec t&&decide (t <Try.prog.types.size)))=true:=by kernel_rfl
theorem b20:((Rows.modelStatesRow.ifacesOut==Try.f18.resultTypes.toList.any (Try.prog.ifacesRec ·)))=true:=by kernel_rfl
theorem b21:((Rows.modelStatesRow.loopsOut==Try.f18.resultTypes.toList.any (Try.prog.loopsFrom ·)))=true:=by kernel_rfl
theorem b22:((Rows.modelStatesRow.plainKeys==Try.prog.plainKeys))=true:=by kernel_rfl
theorem b23:(Rows.modelStatesRow.shortTexts.isNone)=true:=by kernel_rfl
theorem b24:(Try.prog.stopsHeard)=true:=by kernel_rfl
theorem b25:(Try.prog.mayEnter)=true:=by kernel_rfl
theorem b26:((Rows.modelStatesRow.lifted==Try.prog.liftsFinal))=true:=by kernel_rfl
theorem b27:((Try.prog.make==some Rows.modelStatesRow.make))=true:=by kernel_rfl
theorem b28:((Rows.modelStatesRow.kinds==(if Rows.modelStatesRow.domain.isEmpty then[] else Try.f18.params.toList.map fun t=>match Try.prog.underlying t with|some (.int k)=>some k|_=>none)))=true:=by kernel_rfl
theorem b29:((Rows.modelStatesRow.pinned==Rows.modelStatesRow.pinnedBy))=true:=by kernel_rfl
theorem b30:((Rows.modelStatesRow.veiled==(Try.f18.params.toList++Rows.modelStatesSpec.plain.varTypes Try.prog++Try.f18.resultTypes.toList).any (Try.prog.veiledRec ·)))=true:=by kernel_rfl
theorem b31:(Rows.modelStatesRow.veiledFits Try.prog Try.f18.params.toList (Try.f18.params.toList++Rows.modelStatesSpec.plain.varTypes Try.prog++Try.f18.resultTypes.toList))=true:=by kernel_rfl
theorem K0 {a b:Bool} (h:a=true) (g:b=true):(a&&b)=true:=by rw[h,g];rfl
theorem tB:joinedFacts Try.prog 18 Try.f18 Rows.modelStatesSpec Rows.modelStatesRow=true:=by
 unfold joinedFacts
 exact(K0 (K0 (K0 (K0 (K0 (K0 (K0 (K0 (K0 (K0 (K0 (K0 (K0 (K0 (K0 (K0 (K0 (K0 (K0 (K0 (K0 (K0 (K0 (K0 (K0 (K0 (K0 (K0 (K0 (K0 (K0 b0 b1) b2) b3) b4) b5) b6) b7) b8) b9) b10) b11) b12) b13) b14) b15) b16) b17) b18) b19) b20) b21) b22) b23) b24) b25) b26) b27) b28) b29) b30) b31)
theorem tC:Try.f18.isInstance Try.prog Rows.modelStatesRow.origin Rows.modelStatesRow.targs:=of_decide_eq_true (by kernel_rfl)
theorem tD0:decide (Check.packageOf Try.f18.name= "main")=false:=by kernel_rfl
theorem tD:Try.f18.isWrapper Try.prog Rows.modelStatesRow.wrapper Rows.modelStatesRow.mainSum:=by
 unfold Func.isWrapper
 rw[if_neg (of_decide_eq_false tD0)]
 exact⟨rfl,rfl⟩
theorem over:Rows.modelStatesRow.holds Try.pinned (OpenSpec.ofChange Rows.modelStatesSpec):=
 OpenClaim.holds_of_wide 18 Try.f18 rfl rfl rfl rfl rfl rfl rfl ⟨rfl,rfl,rfl,rfl,rfl⟩ rfl rfl rfl rfl rfl tA Try.func18 tB tC tD
  (fun os started H enc _=>lifted os started H enc)
theorem proved:Rows.ModelStatesSaid:=over
end Go.Proofs.Yteebobbhhgmeiaa.modelStates
