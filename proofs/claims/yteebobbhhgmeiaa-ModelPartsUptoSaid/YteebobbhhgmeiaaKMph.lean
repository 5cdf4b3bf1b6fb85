/- made by a program (rowgen.py): ModelParts: for every input the law returns true, and each argument reads behind the call as it read before. -/
import Derived.Test.YteebobbhhgmeiaaKMpg
import Derived.Test.YteebobbhhgmeiaaRows

set_option maxRecDepth 100000
namespace Go.Proofs.Yteebobbhhgmeiaa
open Go.RowKit
def Bpk (l:List TGroup) (r:TRow):TView:=⟨Aj1 l r,Aj0 l r⟩
def chS (l:List TGroup) (q:ByteArray→Bool) (n:Int) (o:List TView) (r:TRow):List TView:=bif decide ((o.length:Int)≥n) then o else bif Kw l r&&q r.key then o++[Bpk l r] else o
def chI (l:List TGroup) (q:ByteArray→Bool) (n:Int) (rows:List TRow) (i:Nat):List TView:=(rows.take i).foldl (chS l q n) []
def chL (l:List TGroup) (q:ByteArray→Bool) (n:Int) (rows:List TRow):List TView:=rows.foldl (chS l q n) []
section
variable {l:List TGroup} {q:ByteArray→Bool} {n:Int}
theorem Br7 (rows:List TRow) (i:Nat) (h:i <rows.length):chI l q n rows (i+1)=chS l q n (chI l q n rows i) (BJ rows i):=by
 unfold chI
 rw[Ajy rows (Ae TC.row) i h,List.foldl_append]
 rfl
theorem Bwo (rows:List TRow):chI l q n rows rows.length=chL l q n rows:=by
 unfold chI chL
 rw[List.take_length]
theorem Avo {o:List TView} (h:(o.length:Int)≥n):∀rows:List TRow,rows.foldl (chS l q n) o=o
 | []=>rfl
 | x::a=>by
  have e:chS l q n o x=o:=by
   unfold chS
   rw[decide_eq_true h]
   rfl
  rw[List.foldl_cons,e,Avo h a]
theorem Br6 (rows:List TRow) {i:Nat} (h:((chI l q n rows i).length:Int)≥n):chL l q n rows=chI l q n rows i:=by
 have e:chL l q n rows=(rows.drop i).foldl (chS l q n) (chI l q n rows i):=by
  unfold chL chI
  rw[←List.foldl_append,List.take_append_drop]
 rw[e,Avo h]
theorem Bcv {o:List TView}:∀rows:List TRow,(∀y∈rows,q y.key=false)→rows.foldl (chS l q n) o=o
 | [],_=>rfl
 | x::a,h=>by
  have e:chS l q n o x=o:=by
   unfold chS
   rw[h x (List.mem_cons_self ..),Bool.and_false,cond_false]
   cases decide ((o.length:Int)≥n)<;>rfl
  rw[List.foldl_cons,e,Bcv a fun y hy=>h y (List.mem_cons_of_mem _ hy)]
end
def Bsx (l:List TGroup) (rows:List TRow) (key:ByteArray):Bool:=match ML rows key with
 |some r=>Kw l r
 |none=>false
def Bsy (l:List TGroup) (rows:List TRow) (key:ByteArray):TView:=match ML rows key with
 |some r=>Bpk l r
 |none=>⟨⟨#[]⟩,[]⟩
theorem Bx8 {l:List TGroup} {r:TRow} (h:Kw l r=false):Bpk l r=⟨⟨#[]⟩,[]⟩:=by
 unfold Bpk Aj1 Aj0
 rw[h]
 rfl
theorem Bw6 {l:List TGroup} {rows:List TRow} {key:ByteArray} (h:Bsx l rows key=false):Bsy l rows key=⟨⟨#[]⟩,[]⟩:=by
 unfold Bsx at h
 unfold Bsy
 cases ha:ML rows key with
 |none=>rfl
 |some r=>rw[ha] at h;exact Bx8 h
theorem Bmn {l:List TGroup} {key:ByteArray}:∀{rows:List TRow},Og rows→chL l (fun k=>k==key) 1 rows=bif Bsx l rows key then[Bsy l rows key] else[]
 | [],_=>rfl
 | x::a,h=>by
  have h1:=List.pairwise_cons.1 h
  have e:chL l (fun k=>k==key) 1 (x::a)=a.foldl (chS l (fun k=>k==key) 1) (bif Kw l x&&x.key==key then[Bpk l x] else[]):=rfl
  rw[e]
  unfold Bsx Bsy
  rw[CQ]
  by_cases hk:x.key=key
  ·rw[if_pos hk]
   have hk2:(x.key==key)=true:=by simpa using hk
   rw[hk2,Bool.and_true]
   show _=bif Kw l x then[Bpk l x] else[]
   cases hv:Kw l x with
   |true=>rw[cond_true,Avo (show((1:Nat):Int)≥1 from Int.le_refl _)]
   |false=>
    rw[cond_false,Bcv a fun y hy=>?_]
    have:=TX (h1.1 y hy)
    rw[hk] at this
    simpa using Ne.symm this
  ·rw[if_neg hk]
   have hk2:(x.key==key)=false:=by simpa using hk
   rw[hk2,Bool.and_false,cond_false]
   exact Bmn h1.2
def Baa (l:List TGroup) (rows:List TRow) (key:ByteArray):Bool:=EI l rows==0&&Bsx l rows key
def Bpq (l:List TGroup) (rows:List TRow) (key:ByteArray):TView:=bif EI l rows==0 then Bsy l rows key else⟨⟨#[]⟩,[]⟩
end Go.Proofs.Yteebobbhhgmeiaa
namespace Go.Proofs.Yteebobbhhgmeiaa
open Go.RowKit
theorem Boe {P:Program} {f:FuncId} {args:List A} {k:Nat} {e:TypeId} {c:TC} {els:Els} {l:List (U c)} {ps:List Prop} (h:CallOk P f args 0 [] k (.sq 0) 1 [(0,some (.arr e (size c) els))]) (hty:UE c els=some (l,ps)) (hp:∀p∈ps,p):CallOk P f args 0 [] k (.sq 0) 1 [(0,some (.arr e (size c) (.ty c l)))]:=fun F N R vs hh ha=>
 Calls.mono (P:=P) (h F N R vs hh ha) fun e0 R' ⟨y,F',N',e1,e2,e3,e4,e5⟩=>by
  have low:∀{i ob},Ay i [(0,some (Ob.arr e (size c) (.ty c l)))]=some ob→i=0∧ob=.arr e (size c) (.ty c l):=fun {i ob} hi=>by
   have hi':(bif Nat.beq 0 i then some (Ob.arr e (size c) (.ty c l)) else none)=some ob:=hi
   cases hb:Nat.beq 0 i with
   |true=>rw[hb] at hi';cases hi';exact⟨(Nat.eq_of_beq_eq_true hb).symm,rfl⟩
   |false=>rw[hb] at hi';cases hi'
  obtain⟨hi,zs,g1,g2⟩:=e2.ob 0 _ rfl
  have hr:RowHL F' N' 1 R' (.ty c l) (size c) zs:=(show RowHL F' N' 1 R' els (size c) zs from⟨g1.1,g2⟩).ty hty hp
  have hn:l.length=els.n:=(K8 (F:=F') (N:=N') (nx:=1) (R:=R') hty hp).1
  refine⟨y,F',N',e1,⟨e2.flt,fun i ob hl=>?_,fun i ob g hl hg=>?_,fun i j x y g hx hy _ _=>?_⟩,⟨e3.le,e3.b,e3.q,e3.f,e3.fnew,fun g ⟨i,ob,hl,hg⟩=>?_,e3.os,e3.tape,e3.output,e3.size,e3.keep⟩,e4,e5⟩
  ·obtain⟨rfl,rfl⟩:=low hl
   exact⟨hi,zs,by show OwnR _ _ _ _ l.length _;rw[hn];exact g1,hr.2⟩
  ·obtain⟨rfl,rfl⟩:=low hl
   exact e2.ff 0 _ g rfl hg
  ·rw[(low hx).1,(low hy).1]
  ·obtain⟨rfl,rfl⟩:=low hl
   exact e3.foot g ⟨0,_,rfl,hg⟩
end Go.Proofs.Yteebobbhhgmeiaa
namespace Go.Proofs.Yteebobbhhgmeiaa
open Go.RowKit
noncomputable def Bbu:=A7 147 (inl (AA Cms L0) 20 147) Cms
theorem Au1:Dd Try.prog Bbu:=Av (Acd (Aw Brl AH) 20 147) Brl
abbrev EH:Type:=(List TGroup)×(List TRow)×Int×Int×ByteArray×(List TView)
def PV (x:EH):St:=⟨46,4,[(0,.sl .group x.1),(2,.v (.int .i64 ((1:Int)))),(3,.fn 147 [] [.own 0 0]),(8,.sq 3),(17,.sl .row x.2.1),(18,.v (.int .i64 x.2.2.1)),(19,.v (.int .i64 x.2.2.2.1))],[(0,some (.box 9 [.v (.string x.2.2.2.2.1)])),(3,some (.arr 94 2 (.ty .view x.2.2.2.2.2)))]⟩
def TE:St→Option EH
 |⟨46,4,[(0,.sl .group z0),(2,.v (.int .i64 ((1:Int)))),(3,.fn 147 [] [.own 0 0]),(8,.sq 3),(17,.sl .row z1),(18,.v (.int .i64 z2)),(19,.v (.int .i64 z3))],[(0,some (.box 9 [.v (.string z4)])),(3,some (.arr 94 2 (.ty .view z5)))]⟩=>some (z0,z1,z2,z3,z4,z5)
 |_=>none
theorem Avp:∀s x,TE s=some x→s=PV x:=fun s x h=>by
 unfold TE at h
 split at h
 ·cases h;rfl
 ·cases h
def Aok:Dj:=⟨3,4,[0,2,3,8,17,18,19],[],[(0,0),(9,3)],[0,9],[8],[3,0]⟩
def Bcw:DB:=⟨[.nil 8 94 .view],[(0,0),(2,3)],[0,2,3,8,17,18,19],[0,2]⟩
def Jq (a0:List TGroup) (a1:List TRow) (_a2:Int) (a3:Int) (a4:ByteArray) (_a5:List TView):Bool:=bif Kw a0 (a1.getD a3.toNat (Ae TC.row)) then(a1.getD a3.toNat (Ae TC.row)).1.toList==a4.toList else false
def VY (_a0:List TGroup) (_a1:List TRow) (a2:Int) (a3:Int) (_a4:ByteArray) (a5:List TView):Bool:=!decide (a3 <a2)||decide ((↑a5.length:Int)≥(1:Int))
def QS (a0:List TGroup) (a1:List TRow) (a2:Int) (a3:Int) (a4:ByteArray) (a5:List TView):ByteArray:=bif(Jq a0 a1 a2 a3 a4 a5) then a4 else a4
def QT (a0:List TGroup) (a1:List TRow) (a2:Int) (a3:Int) (a4:ByteArray) (a5:List TView):List TView:=bif(Jq a0 a1 a2 a3 a4 a5) then a5++[TView.mk (Aj1 a0 (a1.getD a3.toNat (Ae TC.row))) (Aj0 a0 (a1.getD a3.toNat (Ae TC.row)))] else a5
def G9 (x:EH):EH:=(x.1,x.2.1,x.2.2.1,IntKind.i64.wrap (x.2.2.2.1+(1:Int)),QS x.1 x.2.1 x.2.2.1 x.2.2.2.1 x.2.2.2.2.1 x.2.2.2.2.2,QT x.1 x.2.1 x.2.2.1 x.2.2.2.1 x.2.2.2.2.1 x.2.2.2.2.2)
def G8 (x:EH):Cnd:=some (!(VY x.1 x.2.1 x.2.2.1 x.2.2.2.1 x.2.2.2.2.1 x.2.2.2.2.2))
def ZI (x:EH):List Prop:=[((!!decide (x.2.2.2.1 <x.2.2.1))=true→(0:Int)≤x.2.2.2.1∧x.2.2.2.1 <(↑x.2.1.length:Int)),((!!decide (x.2.2.2.1 <x.2.2.1))=true→(!decide ((↑x.2.2.2.2.2.length:Int)≥(1:Int)))=true→false=false),((!!decide (x.2.2.2.1 <x.2.2.1))=true→(!decide ((↑x.2.2.2.2.2.length:Int)≥(1:Int)))=true→(Jq x.1 x.2.1 x.2.2.1 x.2.2.2.1 x.2.2.2.2.1 x.2.2.2.2.2)=true→Ai (x.2.2.2.2.2.length+(1:Nat)))]
def JV (x:EH):List Prop:=[((!!decide (x.2.2.2.1 <x.2.2.1))=true→(0:Int)≤x.2.2.2.1∧x.2.2.2.1 <(↑x.2.1.length:Int)),((!!decide (x.2.2.2.1 <x.2.2.1))=true→(!decide ((↑x.2.2.2.2.2.length:Int)≥(1:Int)))=true→(Jq x.1 x.2.1 x.2.2.1 x.2.2.2.1 x.2.2.2.2.1 x.2.2.2.2.2)=true→Ai (x.2.2.2.2.2.length+(1:Nat)))]
def VZ (x:EH):Bo:=[(some 0,some ((VY x.1 x.2.1 x.2.2.1 x.2.2.2.1 x.2.2.2.2.1 x.2.2.2.2.2)),⟨46,5,[(8,.sq 3)],[(3,some (.arr 94 2 (.ty .view x.2.2.2.2.2))),(0,some (.box 9 [.v (.string x.2.2.2.2.1)]))]⟩)]
def H8 (x:EH):Nat:=(x.2.2.1 - x.2.2.2.1).toNat
def DC (x:EH):EH:=Bg G9 G8 (H8 x) x
theorem A6u (a0:List TGroup) (a1:List TRow) (a2:Int) (a3:Int) (a4:ByteArray) (a5:List TView):Bz (AA Bbu L0) 9 (Aj Try.prog 146 0) Aok (PV (a0,a1,a2,a3,a4,a5))=some (ZI (a0,a1,a2,a3,a4,a5),VZ (a0,a1,a2,a3,a4,a5),G8 (a0,a1,a2,a3,a4,a5),PV (G9 (a0,a1,a2,a3,a4,a5))):=by kernel_rfl
theorem A6v (a0:List TGroup) (a1:List TRow) (a2:Int) (a3:Int) (a4:ByteArray) (a5:List TView) (hp:∀p∈JV (a0,a1,a2,a3,a4,a5),p):∀p∈ZI (a0,a1,a2,a3,a4,a5),p:=by
 have n0:=N0 hp
 have n1:((!!decide (a3 <a2))=true→(!decide ((↑a5.length:Int)≥(1:Int)))=true→false=false):=by intros;rfl
 have n2:=N0 (N1 hp)
 exact(Aa n0 (Aa n1 (Aa n2 Ab)))
noncomputable def ZJ:=H1 (AA Bbu L0) (Aj Try.prog 146 0) Aok Bcw TE H8 G9 G8 JV VZ
theorem A1l:∀s b ps outs,ZJ s=some (b,ps,outs)→Wf s ⟨ps,outs,none⟩∧Bx (AA C0 L0) b s ps outs:=
 Bm (T:=PV) Au1 AH (u:=9) (by kernel_rfl) (by decide) (fun⟨a0,a1,a2,a3,a4,a5⟩=>A6u a0 a1 a2 a3 a4 a5) (fun⟨a0,a1,a2,a3,a4,a5⟩=>A6v a0 a1 a2 a3 a4 a5) Avp (fun _=>AW (n:=46) rfl) fun _ _=>rfl
noncomputable def Aoj:=DP 0 ZJ L0
theorem A1k:Hr Aoj:=A6 A1l AH
noncomputable def Brm:=A7 146 (inl (AA Bbu Aoj) 20 146) Bbu
theorem Bbv:Dd Try.prog Brm:=Av (Acd (Aw Au1 A1k) 20 146) Au1
def CN (a0:List TGroup) (a1:List TRow) (_a2:ByteArray):Bool:=EI a0 a1 !=(0:Int)
def Fr (a0:List TGroup) (a1:List TRow) (a2:ByteArray):Bool:=(↑(bif(CN a0 a1 a2) then[] else(DC (a0,a1,(↑a1.length:Int),(0:Int),a2,[])).snd.snd.snd.snd.snd).length:Int)==(0:Int)
def Qk (a0:List TGroup) (a1:List TRow) (a2:ByteArray):TView:=TView.mk (bif(Fr a0 a1 a2) then ByteArray.mk #[] else((bif(CN a0 a1 a2) then[] else(DC (a0,a1,(↑a1.length:Int),(0:Int),a2,[])).snd.snd.snd.snd.snd).getD (0:Nat) (Ae TC.view)).1) (bif(Fr a0 a1 a2) then[] else((bif(CN a0 a1 a2) then[] else(DC (a0,a1,(↑a1.length:Int),(0:Int),a2,[])).snd.snd.snd.snd.snd).getD (0:Nat) (Ae TC.view)).2)
def WU (a0:List TGroup) (a1:List TRow) (a2:ByteArray):Bool:=bif(Fr a0 a1 a2) then false else true
def WV (a0:List TGroup) (a1:List TRow) (a2:ByteArray):A:=.tup [.agg [.v (.string ((Qk a0 a1 a2).key)),.sl .field ((Qk a0 a1 a2).fields)],.v (.bool (WU a0 a1 a2))]
def Ao4 (_a0:List TGroup) (_a1:List TRow) (_a2:ByteArray):Objs:=[]
def A8e (a0:List TGroup) (a1:List TRow) (a2:ByteArray):List Prop:=[(Az a1.length),((!(CN a0 a1 a2))=true→AL G9 G8 JV (H8 (a0,a1,(↑a1.length:Int),(0:Int),a2,[])) (a0,a1,(↑a1.length:Int),(0:Int),a2,[])),((!(Fr a0 a1 a2))=true→(0:Int)≤(0:Int)∧(0:Int) <(↑(bif(CN a0 a1 a2) then[] else(DC (a0,a1,(↑a1.length:Int),(0:Int),a2,[])).snd.snd.snd.snd.snd).length:Int))]
theorem A8d (a0:List TGroup) (a1:List TRow) (a2:ByteArray):EQ (AA Brm L0) 9 85 [.sl .group a0,Ak .rows a1,Ak .str a2] 0 []=some (1,WV a0 a1 a2,0,Ao4 a0 a1 a2,[(Az a1.length),((!(CN a0 a1 a2))=true→Aj Try.prog (146:FuncId) (0:Nat)=Aj Try.prog (146:FuncId) (0:Nat)),((!(CN a0 a1 a2))=true→AL G9 G8 JV (H8 (a0,a1,(↑a1.length:Int),(0:Int),a2,[])) (a0,a1,(↑a1.length:Int),(0:Int),a2,[])),((!(Fr a0 a1 a2))=true→(0:Int)≤(0:Int)∧(0:Int) <(↑(bif(CN a0 a1 a2) then[] else(DC (a0,a1,(↑a1.length:Int),(0:Int),a2,[])).snd.snd.snd.snd.snd).length:Int)),((!(Fr a0 a1 a2))=true→(0:Nat) <(bif(CN a0 a1 a2) then[] else(DC (a0,a1,(↑a1.length:Int),(0:Int),a2,[])).snd.snd.snd.snd.snd).length)]):=by kernel_rfl
theorem Bek (a0:List TGroup) (a1:List TRow) (a2:ByteArray) (hp:∀p∈A8e a0 a1 a2,p):CallOk Try.prog 85 [.sl .group a0,Ak .rows a1,Ak .str a2] 0 [] 1 (WV a0 a1 a2) 0 (Ao4 a0 a1 a2):=by
 have n0:=N0 hp
 have n1:((!(CN a0 a1 a2))=true→Aj Try.prog (146:FuncId) (0:Nat)=Aj Try.prog (146:FuncId) (0:Nat)):=by intros;rfl
 have n2:=N0 (N1 hp)
 have n3:((!(Fr a0 a1 a2))=true→(0:Int)≤(0:Int)∧(0:Int) <(↑(bif(CN a0 a1 a2) then[] else(DC (a0,a1,(↑a1.length:Int),(0:Int),a2,[])).snd.snd.snd.snd.snd).length:Int)):=N0 (N1 (N1 hp))
 have n4:((!(Fr a0 a1 a2))=true→(0:Nat) <(bif(CN a0 a1 a2) then[] else(DC (a0,a1,(↑a1.length:Int),(0:Int),a2,[])).snd.snd.snd.snd.snd).length):=by intro h0;have g:=n3 h0;omega
 exact AI (Aw Bbv AH) (A8d a0 a1 a2) (Aa n0 (Aa n1 (Aa n2 (Aa n3 (Aa n4 Ab)))))
def Ahn (a0:List TGroup) (a1:List TRow) (a2:ByteArray):A:=.tup [.agg [.v (.string (Bpq a0 a1 a2).key),.sl .field (Bpq a0 a1 a2).fields],.v (.bool (Baa a0 a1 a2))]
def Ahm (_a0:List TGroup) (_a1:List TRow) (_a2:ByteArray):Objs:=[]
def Z1 (_a0:List TGroup) (a1:List TRow) (_a2:ByteArray):List Prop:=[Az a1.length]
theorem Br8 (l:List TGroup) (rows:List TRow) (key:ByteArray) (hb:Az rows.length):
  AL G9 G8 JV (H8 (l,rows,(rows.length:Int),0,key,[])) (l,rows,(rows.length:Int),0,key,[])∧(DC (l,rows,(rows.length:Int),0,key,[])).snd.snd.snd.snd.snd=chL l (fun k=>k==key) 1 rows:=by
 unfold Az at hb
 have same:∀(c:Bool) (x:ByteArray),(bif c then x else x)=x:=fun c x=>by cases c<;>rfl
 obtain⟨h1,k,hk,hx,_,hst,_⟩:=IJ (fun i=>(l,rows,(rows.length:Int),(i:Int),key,chI l (fun k=>k==key) 1 rows i):Nat→EH) rows.length (fun i=>decide (((chI l (fun k=>k==key) 1 rows i).length:Int)≥1)) G9 G8 JV (H8 (l,rows,(rows.length:Int),0,key,[])) (l,rows,(rows.length:Int),0,key,[]) rfl (by show rows.length≤((rows.length:Int) - 0).toNat;omega)
  (fun i _ _=>by
   show(!(!decide ((i:Int) <(rows.length:Int))||decide (((chI l (fun k=>k==key) 1 rows i).length:Int)≥1)))=_
   rw[Bool.not_or,nn,Mp])
  (fun i hi h0=>by
   show(l,rows,(rows.length:Int),IntKind.i64.wrap ((i:Int)+1),QS l rows (rows.length:Int) (i:Int) key (chI l (fun k=>k==key) 1 rows i),QT l rows (rows.length:Int) (i:Int) key (chI l (fun k=>k==key) 1 rows i))=(l,rows,(rows.length:Int),((i+1:Nat):Int),key,chI l (fun k=>k==key) 1 rows (i+1))
   unfold QS QT
   rw[same,Fp (by omega),Br7 rows i hi]
   unfold Jq chS
   rw[h0 i (Nat.lt_succ_self i),tlb,Int.toNat_natCast,cond_false]
   show(_,_,_,_,_,bif(bif Kw l (BJ rows i) then(BJ rows i).key==key else false) then _ else _)=_
   cases Kw l (BJ rows i)<;>rfl)
  (fun i hi _=>by
   have hin:(!!decide ((i:Int) <(rows.length:Int)))=true→(i:Int) <(rows.length:Int):=fun h=>by rw[nn] at h;exact of_decide_eq_true h
   refine Aa (fun h=>⟨by show(0:Int)≤(i:Int);omega,hin h⟩) (Aa (fun _ h _=>?_) Ab)
   have h':(!decide (((chI l (fun k=>k==key) 1 rows i).length:Int)≥1))=true:=h
   have h2:¬((chI l (fun k=>k==key) 1 rows i).length:Int)≥1:=by simpa using h'
   show Ai ((chI l (fun k=>k==key) 1 rows i).length+1)
   unfold Ai
   omega)
 have hr:DC (l,rows,(rows.length:Int),0,key,[])=(l,rows,(rows.length:Int),(k:Int),key,chI l (fun k=>k==key) 1 rows k):=hx
 refine⟨h1,?_⟩
 rw[hr]
 show chI l (fun k=>k==key) 1 rows k=_
 rcases Nat.lt_or_ge k rows.length with h|h
 ·exact(Br6 rows (of_decide_eq_true (hst h))).symm
 ·rw[show k=rows.length by omega,Bwo]
theorem A8c (a0:List TGroup) (a1:List TRow) (a2:ByteArray) (hp:∀p∈Z1 a0 a1 a2,p):CallOk Try.prog 85 [.sl .group a0,Ak .rows a1,Ak .str a2] 0 [] 1 (Ahn a0 a1 a2) 0 (Ahm a0 a1 a2):=by
 have hb:Az a1.length:=hp _ (List.mem_cons_self ..)
 obtain⟨g1,g2⟩:=Br8 a0 a1 a2 hb
 have hL:(bif CN a0 a1 a2 then[] else(DC (a0,a1,(a1.length:Int),(0:Int),a2,[])).snd.snd.snd.snd.snd)=bif Baa a0 a1 a2 then[Bpq a0 a1 a2] else[]:=by
  rw[g2]
  unfold CN Baa Bpq
  cases hg:EI a0 a1 !=0 with
  |true=>
   have:(EI a0 a1==0)=false:=by simpa using hg
   rw[this]
   rfl
  |false=>
   have h0:EI a0 a1=0:=by simpa using hg
   have:(EI a0 a1==0)=true:=by simpa using h0
   rw[this,cond_false,Bmn (Ia h0).2.rise]
   rfl
 have hk:Fr a0 a1 a2=!Baa a0 a1 a2:=by
  unfold Fr
  rw[hL]
  cases Baa a0 a1 a2<;>rfl
 have h:=Bek a0 a1 a2 (Aa hb (Aa (fun _=>g1) (Aa (fun h=>by
  rw[hk,Bool.not_not] at h
  rw[hL,h]
  exact⟨Int.le_refl _,show(0:Int) <((1:Nat):Int) by decide⟩) Ab)))
 have e0:Qk a0 a1 a2=Bpq a0 a1 a2:=by
  unfold Qk
  rw[hk,hL]
  cases hs:Baa a0 a1 a2 with
  |true=>rfl
  | false=>
   unfold Baa at hs
   unfold Bpq
   cases hg:EI a0 a1==0 with
   |false=>rfl
   |true=>
    rw[hg,Bool.true_and] at hs
    rw[cond_true,Bw6 hs]
    rfl
 have e1:WU a0 a1 a2=Baa a0 a1 a2:=by
  unfold WU
  rw[hk]
  cases Baa a0 a1 a2<;>rfl
 unfold WV at h
 rw[e0,e1] at h
 exact h
def WW:List A→Nat→Objs→Option Bb
 | [y0,y1,y2],nx,o=>match Kh .group y0,AQ .rows y1,AQ .str y2 with
  |some a0,some (a1,p1),some (a2,p2)=>some (1,(Ahn a0 a1 a2).pk (AF nx),nx+0,AE nx (Ahm a0 a1 a2)++o,p1++(p2++(Z1 a0 a1 a2)))
  |_,_,_=>none
 |_,_,_=>none
theorem A16:Ft Try.prog 85 WW:=fun args nx o k x nx' o' ps h=>by
 unfold WW at h
 split at h<;>first|(cases h;done)|skip
 split at h<;>first|(cases h;done)|skip
 rename_i a0 a1 p1 a2 p2 e0 e1 e2
 cases h
 refine⟨fun hp=>?_,_,rfl⟩
 have q1:=fun p hm=>hp p (List.mem_append.2 (.inl hm))
 have r1:=fun p hm=>hp p (List.mem_append.2 (.inr hm))
 have q2:=fun p hm=>r1 p (List.mem_append.2 (.inl hm))
 have r2:=fun p hm=>r1 p (List.mem_append.2 (.inr hm))
 refine Ah (Ag (A8c a0 a1 a2 r2) (Nat.le_refl _) (Ac rfl (Ac (Af _ _) (Ac (Af _ _) Ao))) nx o) fun F N R vs hl=>?_
 obtain⟨v0,w0,rfl,h0,hl⟩:=hl.inv
 obtain⟨v1,w1,rfl,h1,hl⟩:=hl.inv
 obtain⟨v2,w2,rfl,h2,hl⟩:=hl.inv
 exact HL.cons (BX e0 h0) (HL.cons (Am e1 q1 h1) (HL.cons (Am e2 q2 h2) (hl)))
noncomputable def Brn:=A7 85 WW Brm
theorem Bbw:Dd Try.prog Brn:=Av A16 Bbv
def A7y:ByteArray:=ByteArray.mk #[(97:UInt8)]
def A7z:ByteArray:=ByteArray.mk #[(98:UInt8)]
def Ahh:A:=.sq 0
def Ahg:Objs:=[(0,some (.arr 79 2 (.lst [[.v (.string A7y),.v (.int .i64 ((1:Int)))],[.v (.string A7z),.v (.int .i64 ((2:Int)))]])))]
def A11:List Prop:=[]
theorem A10:EQ (AA Brn L0) 9 141 [] 0 []=some (1,Ahh,1,Ahg,[]):=by kernel_rfl
theorem A70 (_hp:∀p∈A11,p):CallOk Try.prog 141 [] 0 [] 1 (Ahh) 1 (Ahg):=by
 exact AI (Aw Bbw AH) (A10) Ab
def Bnr:List TGroup:=[⟨⟨#[97]⟩,1⟩,⟨⟨#[98]⟩,2⟩]
def ZX:A:=.sl .group Bnr
def ZW:Objs:=[]
def WK:List Prop:=[]
theorem A1z (_hp:∀p∈WK,p):CallOk Try.prog 141 [] 0 [] 1 ZX 0 ZW:=by
 have h:=A70 (fun p h=>by cases h)
 exact A4c (c:=.group) (Boe (c:=.group) (l:=Bnr) (ps:=[]) h rfl (fun p h=>by cases h))
def TV:List A→Nat→Objs→Option Bb
 | [],nx,o=>some (1,(ZX).pk (AF nx),nx+0,AE nx (ZW)++o,WK)
 |_,_,_=>none
theorem Awu:Ft Try.prog 141 TV:=fun args nx o k x nx' o' ps h=>by
 unfold TV at h
 split at h<;>first|(cases h;done)|skip
 cases h
 refine⟨fun hp=>?_,_,rfl⟩
 refine Ah (Ag (A1z hp) (Nat.le_refl _) Ao nx o) fun F N R vs hl=>?_
 exact hl
noncomputable def Bro:=A7 141 TV Brn
theorem Bbx:Dd Try.prog Bro:=Av Awu Bbw
def Alg (a0:Int) (a1:Int) (a2:Int) (a3:TVec) (_a4:TWrite):A:=.agg [.v (.int .i64 a0),.v (.int .i64 a1),.v (.int .i64 a2),.v (.int .i64 a0),.v (.int .i64 a3.1),.v (.int .i64 a3.2),.sq 0]
def Alf (_a0:Int) (_a1:Int) (_a2:Int) (_a3:TVec) (a4:TWrite):Objs:=[(0,some (.arr 139 4 (.lst [[.v (.string a4.1),.v (.int .i64 a4.2),.v (.bool a4.3),.v (.string a4.4)]])))]
def Awt (_a0:Int) (_a1:Int) (_a2:Int) (_a3:TVec) (_a4:TWrite):List Prop:=[]
theorem Bih (a0:Int) (a1:Int) (a2:Int) (a3:TVec) (a4:TWrite):EQ (AA Bro L0) 9 140 [Ak .i64 a0,Ak .i64 a1,Ak .i64 a2,Ak .vec a3,Ak .write a4] 0 []=some (1,Alg a0 a1 a2 a3 a4,1,Alf a0 a1 a2 a3 a4,[]):=by kernel_rfl
theorem Box (a0:Int) (a1:Int) (a2:Int) (a3:TVec) (a4:TWrite) (_hp:∀p∈Awt a0 a1 a2 a3 a4,p):CallOk Try.prog 140 [Ak .i64 a0,Ak .i64 a1,Ak .i64 a2,Ak .vec a3,Ak .write a4] 0 [] 1 (Alg a0 a1 a2 a3 a4) 1 (Alf a0 a1 a2 a3 a4):=by
 exact AI (Aw Bbx AH) (Bih a0 a1 a2 a3 a4) Ab
def Alh:List A→Nat→Objs→Option Bb
 | [y0,y1,y2,y3,y4],nx,o=>match AQ .i64 y0,AQ .i64 y1,AQ .i64 y2,AQ .vec y3,AQ .write y4 with
  |some (a0,p0),some (a1,p1),some (a2,p2),some (a3,p3),some (a4,p4)=>some (1,(Alg a0 a1 a2 a3 a4).pk (AF nx),nx+1,AE nx (Alf a0 a1 a2 a3 a4)++o,p0++(p1++(p2++(p3++(p4++(Awt a0 a1 a2 a3 a4))))))
  |_,_,_,_,_=>none
 |_,_,_=>none
theorem Bd4:Ft Try.prog 140 Alh:=fun args nx o k x nx' o' ps h=>by
 unfold Alh at h
 split at h<;>first|(cases h;done)|skip
 split at h<;>first|(cases h;done)|skip
 rename_i a0 p0 a1 p1 a2 p2 a3 p3 a4 p4 e0 e1 e2 e3 e4
 cases h
 refine⟨fun hp=>?_,_,rfl⟩
 have q0:=fun p hm=>hp p (List.mem_append.2 (.inl hm))
 have r0:=fun p hm=>hp p (List.mem_append.2 (.inr hm))
 have q1:=fun p hm=>r0 p (List.mem_append.2 (.inl hm))
 have r1:=fun p hm=>r0 p (List.mem_append.2 (.inr hm))
 have q2:=fun p hm=>r1 p (List.mem_append.2 (.inl hm))
 have r2:=fun p hm=>r1 p (List.mem_append.2 (.inr hm))
 have q3:=fun p hm=>r2 p (List.mem_append.2 (.inl hm))
 have r3:=fun p hm=>r2 p (List.mem_append.2 (.inr hm))
 have q4:=fun p hm=>r3 p (List.mem_append.2 (.inl hm))
 have r4:=fun p hm=>r3 p (List.mem_append.2 (.inr hm))
 refine Ah (Ag (Box a0 a1 a2 a3 a4 r4) (Nat.le_refl _) (Ac (Af _ _) (Ac (Af _ _) (Ac (Af _ _) (Ac (Af _ _) (Ac (Af _ _) Ao))))) nx o) fun F N R vs hl=>?_
 obtain⟨v0,w0,rfl,h0,hl⟩:=hl.inv
 obtain⟨v1,w1,rfl,h1,hl⟩:=hl.inv
 obtain⟨v2,w2,rfl,h2,hl⟩:=hl.inv
 obtain⟨v3,w3,rfl,h3,hl⟩:=hl.inv
 obtain⟨v4,w4,rfl,h4,hl⟩:=hl.inv
 exact HL.cons (Am e0 q0 h0) (HL.cons (Am e1 q1 h1) (HL.cons (Am e2 q2 h2) (HL.cons (Am e3 q3 h3) (HL.cons (Am e4 q4 h4) (hl)))))
noncomputable def Brp:=A7 140 Alh Bro
theorem Bby:Dd Try.prog Brp:=Av Bd4 Bbx
def l13_lives_k0:List TChange:=[TChange.mk (1:Int) (1:Int) (TStamp.mk (1:Int) (1:Int)) (TVec.mk (1:Int) (0:Int)) [TWrite.mk (ByteArray.mk #[(107:UInt8)]) (0:Int) false (ByteArray.mk #[(120:UInt8)])],TChange.mk (2:Int) (1:Int) (TStamp.mk (1:Int) (2:Int)) (TVec.mk (0:Int) (1:Int)) [TWrite.mk (ByteArray.mk #[(107:UInt8)]) (0:Int) true (ByteArray.mk #[])]]
def Aox:A:=.v (.bool (true))
def Aow:Objs:=[]
def A7x:List Prop:=[((2:Nat)≤(7000:Nat)∧∀(c:TChange),c∈(l13_lives_k0)→Az c.5.length),((3:Nat)≤(7000:Nat)∧∀(c:TChange),c∈TChange.mk (1:Int) (2:Int) (TStamp.mk (2:Int) (1:Int)) (TVec.mk (2:Int) (0:Int)) [TWrite.mk (ByteArray.mk #[(107:UInt8)]) (0:Int) false (ByteArray.mk #[(121:UInt8)])]::(l13_lives_k0)→Az c.5.length),(Az (1:Nat))]
theorem A7w:EQ (AA Brp L0) 9 81 [] 0 []=some (1,Aox,0,Aow,[((2:Nat)≤(7000:Nat)∧∀(c:TChange),c∈(l13_lives_k0)→Az c.5.length),((3:Nat)≤(7000:Nat)∧∀(c:TChange),c∈TChange.mk (1:Int) (2:Int) (TStamp.mk (2:Int) (1:Int)) (TVec.mk (2:Int) (0:Int)) [TWrite.mk (ByteArray.mk #[(107:UInt8)]) (0:Int) false (ByteArray.mk #[(121:UInt8)])]::(l13_lives_k0)→Az c.5.length),(Az (1:Nat)),(Az (1:Nat)),(true=true→(0:Int)≤(0:Int)∧(0:Int) <(1:Int))]):=by kernel_rfl
theorem Bd3 (hp:∀p∈A7x,p):CallOk Try.prog 81 [] 0 [] 1 (Aox) 0 (Aow):=by
 have n0:=N0 hp
 have n1:=N0 (N1 hp)
 have n2:(Az (1:Nat)):=N0 (N1 (N1 hp))
 have n4:(true=true→(0:Int)≤(0:Int)∧(0:Int) <(1:Int)):=by first|rfl|decide+kernel
 exact AI (Aw Bby AH) (A7w) (Aa n0 (Aa n1 (Aa n2 (Aa n2 (Aa n4 Ab)))))
def Ahf:A:=.v (.bool true)
def Ahe:Objs:=[]
def ZV:List Prop:=[]
theorem Bed:∀c∈l13_lives_k0,Az c.5.length:=fun c hc=>by
 have h:l13_lives_k0.all (fun c=>Nat.beq c.5.length 1)=true:=rfl
 have h2:c.5.length=1:=Nat.eq_of_beq_eq_true (List.all_eq_true.1 h c hc)
 unfold Az
 omega
theorem A7v (_hp:∀p∈ZV,p):CallOk Try.prog 81 [] 0 [] 1 Ahf 0 Ahe:=
 Bd3 (Aa ⟨by omega,Bed⟩ (Aa ⟨by omega,fun c hc=>by
  rcases List.mem_cons.1 hc with rfl|hc
  ·show(1:Nat)≤9223372036854775807
   omega
  ·exact Bed c hc⟩ (Aa (by unfold Az;omega) Ab)))
def WJ:List A→Nat→Objs→Option Bb
 | [],nx,o=>some (1,(Ahf).pk (AF nx),nx+0,AE nx (Ahe)++o,ZV)
 |_,_,_=>none
theorem A1y:Ft Try.prog 81 WJ:=fun args nx o k x nx' o' ps h=>by
 unfold WJ at h
 split at h<;>first|(cases h;done)|skip
 cases h
 refine⟨fun hp=>?_,_,rfl⟩
 refine Ah (Ag (A7v hp) (Nat.le_refl _) Ao nx o) fun F N R vs hl=>?_
 exact hl
noncomputable def By9:=A7 81 WJ Brp
theorem Brq:Dd Try.prog By9:=Av A1y Bby
noncomputable def Cmv:=By9
theorem B0l:Dd Try.prog Cmv:=Brq
end Go.Proofs.Yteebobbhhgmeiaa
namespace Go.Proofs.Yteebobbhhgmeiaa
open Go.RowKit
def US (a0:List TGroup) (a1 a2:List TRow):A:=.v (.bool (wiB a0 a1 a2))
def UQ (_a0:List TGroup) (_a1 _a2:List TRow):Objs:=[]
def ST (_a0:List TGroup) (a1 a2:List TRow):List Prop:=[a1.length+a2.length≤400000]
theorem Bxj (l:List TGroup) (a b:List TRow):Stt l (JC l a b):=by
 unfold JC
 cases h:mgE l a b==0 with
 |false=>exact Ajw l
 |true=>
  obtain⟨g1,g2⟩:=Bei.1 (by simpa using h:mgE l a b=0)
  exact(Ia g1).2.mrg _ (Ia g2).2
theorem Bxi (l:List TGroup) (a b:List TRow):(JC l a b).length≤a.length+b.length:=by
 unfold JC
 cases mgE l a b==0 with
 |false=>exact Nat.zero_le _
 |true=>exact T4 _ _ _
theorem Bpz {l:List TGroup} {a:List TRow} (h:Stt l a):∀r∈a,r.cells.length≤4:=fun r hr=>by
 have g:=(h.good r hr).1
 rw[(AS g).2.1]
 exact(Gu (AS g).1).2
theorem B3a (l:List TGroup) (a b:List TRow) (hb:a.length+b.length≤400000):(∀p∈UR l a b,p)∧OX l a b=wiB l a b:=by
 have hm:=Bxi l a b
 have hk1:DJ l a b=(!(mgE l a b==0)||(JC l a b).length !=b.length):=by
  unfold DJ
  congr 1
  rw[Bool.eq_iff_iff,bne_iff_ne,bne_iff_ne];omega
 have main:DJ l a b=false→AL CW CV EV (DX (b,((JC l a b).length:Int),0,JC l a b)) (b,((JC l a b).length:Int),0,JC l a b)∧
   BU (DI l a b).fst (DI l a b).snd.fst (DI l a b).snd.snd.fst (DI l a b).snd.snd.snd=!Jn b.length (fun i=>R9 (BJ (JC l a b) i) (BJ b i)):=fun h0=>by
  rw[hk1] at h0
  have hlen:(JC l a b).length=b.length:=by simpa using(Bool.or_eq_false_iff.1 h0).2
  have hf:∀i:Nat,BU b ((JC l a b).length:Int) (i:Int) (JC l a b)=(decide (i <(JC l a b).length)&&!R9 (BJ (JC l a b) i) (BJ b i)):=fun i=>by
   unfold BU
   rw[nn,Mp,Int.toNat_natCast]
   rfl
  obtain⟨h1,k,hk,hx,_,_,hb'⟩:=IJ (fun i=>(b,((JC l a b).length:Int),(i:Int),JC l a b):Nat→Bi) (JC l a b).length (fun i=>!R9 (BJ (JC l a b) i) (BJ b i)) CW CV EV (DX (b,((JC l a b).length:Int),0,JC l a b)) (b,((JC l a b).length:Int),0,JC l a b) rfl (by show(JC l a b).length≤(((JC l a b).length:Int) - 0).toNat;omega)
   (fun i _ _=>by
    show((!!decide ((i:Int) <((JC l a b).length:Int)))&&!BU b ((JC l a b).length:Int) (i:Int) (JC l a b))=_
    rw[hf,nn,Mp]
    cases decide (i <(JC l a b).length)<;>rfl)
   (fun i hi _=>by
    show(b,((JC l a b).length:Int),IntKind.i64.wrap ((i:Int)+1),JC l a b)=(b,((JC l a b).length:Int),((i+1:Nat):Int),JC l a b)
    rw[Fp (by omega)])
   (fun i _ _=>by
    have hin:(!!decide ((i:Int) <((JC l a b).length:Int)))=true→(i:Int) <((JC l a b).length:Int):=fun h=>by rw[nn] at h;exact of_decide_eq_true h
    refine Aa (fun h=>⟨by show(0:Int)≤(i:Int);omega,hin h⟩) (Aa (fun h=>⟨by show(0:Int)≤(i:Int);omega,by have:=hin h;show(i:Int) <(b.length:Int);omega⟩) (Aa (fun h=>?_) Ab))
    have h2:=hin h
    have h3:((JC l a b).getD ((i:Int)).toNat (Ae TC.row)).2.length≤4:=Bpz (Bxj l a b) _ (getD_in _ (Ae TC.row) _ (by omega))
    show Ai ((JC l a b).getD ((i:Int)).toNat (Ae TC.row)).2.length
    unfold Ai
    omega)
  refine⟨h1,?_⟩
  have hr:DI l a b=(b,((JC l a b).length:Int),(k:Int),JC l a b):=hx
  rw[hr]
  show BU b ((JC l a b).length:Int) (k:Int) (JC l a b)=_
  rw[hf,hb',hlen]
  congr 1
  exact HV fun i _=>Bool.not_not _
 refine⟨Aa hb (Aa (fun h=>(main (by simpa using h)).1) Ab),?_⟩
 unfold OX wiB
 cases h0:DJ l a b with
 | true=>
  rw[hk1] at h0
  rw[cond_true]
  cases he:mgE l a b==0 with
  |false=>rfl
  |true=>
   rw[he] at h0
   have:((JC l a b).length==b.length)=false:=by simpa using h0
   rw[this]
   rfl
 |false=>
  rw[cond_false,(main h0).2]
  rw[hk1] at h0
  obtain⟨h2,h3⟩:=Bool.or_eq_false_iff.1 h0
  have e1:(mgE l a b==0)=true:=by simpa using h2
  have e2:((JC l a b).length==b.length)=true:=by simpa using h3
  rw[e1,e2]
  cases Jn b.length (fun i=>R9 (BJ (JC l a b) i) (BJ b i))<;>rfl
theorem Asg (a0:List TGroup) (a1 a2:List TRow) (hp:∀p∈ST a0 a1 a2,p):CallOk Try.prog 94 [.sl .group a0,Ak .rows a1,Ak .rows a2] 0 [] 1 (US a0 a1 a2) 0 (UQ a0 a1 a2):=by
 obtain⟨h1,h2⟩:=B3a a0 a1 a2 (hp _ (List.mem_cons_self ..))
 have h:=Axh a0 a1 a2 h1
 unfold OY at h
 rw[h2] at h
 exact h
def OZ:List A→Nat→Objs→Option Bb
 | [y0,y1,y2],nx,o=>match Kh .group y0,AQ .rows y1,AQ .rows y2 with
  |some a0,some (a1,p1),some (a2,p2)=>some (1,(US a0 a1 a2).pk (AF nx),nx+0,AE nx (UQ a0 a1 a2)++o,p1++(p2++(ST a0 a1 a2)))
  |_,_,_=>none
 |_,_,_=>none
theorem Alt:Ft Try.prog 94 OZ:=fun args nx o k x nx' o' ps h=>by
 unfold OZ at h
 split at h<;>first|(cases h;done)|skip
 split at h<;>first|(cases h;done)|skip
 rename_i a0 a1 p1 a2 p2 e0 e1 e2
 cases h
 refine⟨fun hp=>?_,_,rfl⟩
 have q1:=fun p hm=>hp p (List.mem_append.2 (.inl hm))
 have r1:=fun p hm=>hp p (List.mem_append.2 (.inr hm))
 have q2:=fun p hm=>r1 p (List.mem_append.2 (.inl hm))
 have r2:=fun p hm=>r1 p (List.mem_append.2 (.inr hm))
 refine Ah (Ag (Asg a0 a1 a2 r2) (Nat.le_refl _) (Ac rfl (Ac (Af _ _) (Ac (Af _ _) Ao))) nx o) fun F N R vs hl=>?_
 obtain⟨v0,w0,rfl,h0,hl⟩:=hl.inv
 obtain⟨v1,w1,rfl,h1,hl⟩:=hl.inv
 obtain⟨v2,w2,rfl,h2,hl⟩:=hl.inv
 exact HL.cons (BX e0 h0) (HL.cons (Am e1 q1 h1) (HL.cons (Am e2 q2 h2) (hl)))
end Go.Proofs.Yteebobbhhgmeiaa
namespace Go.Proofs.Yteebobbhhgmeiaa
open Go.RowKit
theorem Bye (l:List TGroup) (cs:List TChange):stN l cs cs.length=stF (cs.map (PU l)):=by
 rw[Bnw l cs cs.length (Nat.le_refl _),List.take_length]
theorem Bm8 (l:List TGroup) (cs:List TChange):∀s∈cs.map (PU l),Stt l (nb s):=fun s hs=>by
 obtain⟨c,_,rfl⟩:=List.mem_map.1 hs
 exact Bio l c
theorem Bad {l:List TGroup} {cs ds:List TChange}:stE l (cs++ds)=0↔stE l cs=0∧stE l ds=0:=by
 rw[A5m,A5m,A5m]
 constructor
 ·exact fun⟨h1,h2⟩=>⟨⟨h1,fun c hc=>h2 c (List.mem_append.2 (.inl hc))⟩,⟨h1,fun c hc=>h2 c (List.mem_append.2 (.inr hc))⟩⟩
 ·exact fun⟨⟨h1,h2⟩,⟨_,h3⟩⟩=>⟨h1,fun c hc=>(List.mem_append.1 hc).elim (h2 c) (h3 c)⟩
theorem But {l:List TGroup} {cs:List TChange} (h:stE l cs=0):Mn l cs=stF (cs.map (PU l)):=by
 unfold Mn
 rw[h,Bye]
 rfl
theorem Bnx {l:List TGroup} {cs ds:List TChange} (h1:stE l cs=0) (h2:stE l ds=0):Mn l (cs++ds)=mrg ((Mn l cs).length+(Mn l ds).length) (Mn l cs) (Mn l ds):=by
 rw[But (Bad.2 ⟨h1,h2⟩),But h1,But h2,List.map_append]
 exact Bkm (Bm8 l cs) (Bm8 l ds) (Nat.le_refl _)
theorem A00 {l:List TGroup} {cs:List TChange} (hp:AY l=0):EI l (Mn l cs)=0:=(Bn0 hp).2 (Bny l cs)
theorem Aur (l:List TGroup) (cs:List TChange):(Mn l cs).length≤8*cs.length:=by
 unfold Mn
 cases stE l cs==0 with
 |true=>exact Bae l cs cs.length
 |false=>exact Nat.zero_le _
theorem Bn7 {n:Nat} {f:Nat→TRow}:Jn n (fun i=>R9 (f i) (f i))=true:=HF.2 fun _ _=>Bdd.2 rfl
theorem Bzp {l:List TGroup} {a b:List TRow} (ha:EI l a=0) (hb:EI l b=0) (h:∀k,Inn (ML b k) (ML a k)):wiB l a b=true:=by
 have e0:mgE l a b=0:=Bei.2 ⟨ha,hb⟩
 have e1:JC l a b=b:=by
  unfold JC
  rw[e0]
  exact Btr (Ia ha).2 (Ia hb).2 h (Nat.le_refl _)
 unfold wiB
 rw[e0,e1,Bn7,beq_self_eq_true,beq_self_eq_true]
 rfl
end Go.Proofs.Yteebobbhhgmeiaa
namespace Go.Proofs.Yteebobbhhgmeiaa
open Go.RowKit
noncomputable def Bza:=A7 45 Qg Cmv
theorem Brs:Dd Try.prog Bza:=Av ZU B0l
noncomputable def Bzb:=A7 49 Aml Bza
theorem Brt:Dd Try.prog Bzb:=Av Bfl Brs
noncomputable def Bzc:=A7 94 OZ Bzb
theorem Bru:Dd Try.prog Bzc:=Av Alt Brt
def AN (a0:List TGroup) (a1:List TChange) (a2:List TChange):Bool:=stE a0 a1 !=(0:Int)||stE a0 a2 !=(0:Int)
def AU (_a0:List TGroup) (a1:List TChange) (a2:List TChange):List TChange:=[]++a1++a2
def A9 (a0:List TGroup) (a1:List TChange) (a2:List TChange):List TRow:=Mn a0 (AU a0 a1 a2)
def AG (a0:List TGroup) (a1:List TChange) (a2:List TChange):Bool:=!MT a0 (AU a0 a1 a2) []
def CM (a0:List TGroup) (a1:List TChange) (a2:List TChange):Bool:=stE a0 (AU a0 a1 a2)==(0:Int)&&mgE a0 (Mn a0 a1) (Mn a0 a2)==(0:Int)
def HO (a0:List TGroup) (a1:List TChange) (a2:List TChange):Bool:=(CM a0 a1 a2)&&A64 (JC a0 (Mn a0 a1) (Mn a0 a2)) (A9 a0 a1 a2)&&wiB a0 (Mn a0 a1) (A9 a0 a1 a2)
def J2 (a0:List TGroup) (a1:List TChange) (a2:List TChange):Bool:=bif(AG a0 a1 a2) then true else bif(AN a0 a1 a2) then bif stE a0 (AU a0 a1 a2) !=(0:Int) then true else false else bif(HO a0 a1 a2)&&wiB a0 (Mn a0 a2) (A9 a0 a1 a2) then true else false
def Ma (a0:List TGroup) (a1:List TChange) (a2:List TChange):A:=.v (.bool (J2 a0 a1 a2))
def SI (_a0:List TGroup) (_a1:List TChange) (_a2:List TChange):Objs:=[]
def Qh (a0:List TGroup) (a1:List TChange) (a2:List TChange):List Prop:=[(Ai ((0:Nat)+a1.length)),(Ai (([]++a1).length+a2.length)),(Az a0.length∧(Az (AU a0 a1 a2).length∧∀(c:TChange),c∈(AU a0 a1 a2)→RV c)∧Az (0:Nat)∧∀(x:List TRow),x∈[]→Az x.length∧∀(r:TRow),r∈x→YE r),((!(AG a0 a1 a2))=true→a1.length≤(7000:Nat)∧∀(c:TChange),c∈a1→Az c.5.length),((!(AG a0 a1 a2))=true→a2.length≤(7000:Nat)∧∀(c:TChange),c∈a2→Az c.5.length),((!(AG a0 a1 a2))=true→Ai ((0:Nat)+a1.length)),((!(AG a0 a1 a2))=true→Ai (([]++a1).length+a2.length)),((!(AG a0 a1 a2))=true→(AU a0 a1 a2).length≤(7000:Nat)∧∀(c:TChange),c∈(AU a0 a1 a2)→Az c.5.length),((!(AG a0 a1 a2))=true→(!(AN a0 a1 a2))=true→(Mn a0 a1).length+(Mn a0 a2).length≤(400000:Nat)),((!(AG a0 a1 a2))=true→(!(AN a0 a1 a2))=true→(CM a0 a1 a2)=true→Az (JC a0 (Mn a0 a1) (Mn a0 a2)).length),((!(AG a0 a1 a2))=true→(!(AN a0 a1 a2))=true→(CM a0 a1 a2)=true→∀(r:TRow),r∈JC a0 (Mn a0 a1) (Mn a0 a2)→Ai r.2.length),((!(AG a0 a1 a2))=true→(!(AN a0 a1 a2))=true→((CM a0 a1 a2)&&A64 (JC a0 (Mn a0 a1) (Mn a0 a2)) (A9 a0 a1 a2))=true→(Mn a0 a1).length+(A9 a0 a1 a2).length≤(400000:Nat)),((!(AG a0 a1 a2))=true→(!(AN a0 a1 a2))=true→(HO a0 a1 a2)=true→(Mn a0 a2).length+(A9 a0 a1 a2).length≤(400000:Nat))]
theorem Ahd (a0:List TGroup) (a1:List TChange) (a2:List TChange):EQ (AA Bzc L0) 9 23 [.sl .group a0,.sl .change a1,.sl .change a2] 0 []=some (1,Ma a0 a1 a2,0,SI a0 a1 a2,[(Ai ((0:Nat)+a1.length)),(Ai (([]++a1).length+a2.length)),(Az a0.length∧(Az (AU a0 a1 a2).length∧∀(c:TChange),c∈(AU a0 a1 a2)→RV c)∧Az (0:Nat)∧∀(x:List TRow),x∈[]→Az x.length∧∀(r:TRow),r∈x→YE r),((!(AG a0 a1 a2))=true→a1.length≤(7000:Nat)∧∀(c:TChange),c∈a1→Az c.5.length),((!(AG a0 a1 a2))=true→a2.length≤(7000:Nat)∧∀(c:TChange),c∈a2→Az c.5.length),((!(AG a0 a1 a2))=true→Ai ((0:Nat)+a1.length)),((!(AG a0 a1 a2))=true→Ai (([]++a1).length+a2.length)),((!(AG a0 a1 a2))=true→(AU a0 a1 a2).length≤(7000:Nat)∧∀(c:TChange),c∈(AU a0 a1 a2)→Az c.5.length),((!(AG a0 a1 a2))=true→(AN a0 a1 a2)=true→false=false),((!(AG a0 a1 a2))=true→(!(AN a0 a1 a2))=true→(Mn a0 a1).length+(Mn a0 a2).length≤(400000:Nat)),((!(AG a0 a1 a2))=true→(!(AN a0 a1 a2))=true→(CM a0 a1 a2)=true→Az (JC a0 (Mn a0 a1) (Mn a0 a2)).length),((!(AG a0 a1 a2))=true→(!(AN a0 a1 a2))=true→(CM a0 a1 a2)=true→∀(r:TRow),r∈JC a0 (Mn a0 a1) (Mn a0 a2)→Ai r.2.length),((!(AG a0 a1 a2))=true→(!(AN a0 a1 a2))=true→((CM a0 a1 a2)&&A64 (JC a0 (Mn a0 a1) (Mn a0 a2)) (A9 a0 a1 a2))=true→(Mn a0 a1).length+(A9 a0 a1 a2).length≤(400000:Nat)),((!(AG a0 a1 a2))=true→(!(AN a0 a1 a2))=true→(HO a0 a1 a2)=true→(Mn a0 a2).length+(A9 a0 a1 a2).length≤(400000:Nat)),((!(AG a0 a1 a2))=true→(!(AN a0 a1 a2))=true→false=false)]):=by kernel_rfl
theorem Ale (a0:List TGroup) (a1:List TChange) (a2:List TChange) (hp:∀p∈Qh a0 a1 a2,p):CallOk Try.prog 23 [.sl .group a0,.sl .change a1,.sl .change a2] 0 [] 1 (Ma a0 a1 a2) 0 (SI a0 a1 a2):=by
 have n0:=N0 hp
 have n1:=N0 (N1 hp)
 have n2:=N0 (N1 (N1 hp))
 have n3:=N0 (N1 (N1 (N1 hp)))
 have n4:=N0 (N1 (N1 (N1 (N1 hp))))
 have n5:=N0 (N1 (N1 (N1 (N1 (N1 hp)))))
 have n6:=N0 (N1 (N1 (N1 (N1 (N1 (N1 hp))))))
 have n7:=N0 (N1 (N1 (N1 (N1 (N1 (N1 (N1 hp)))))))
 have n8:((!(AG a0 a1 a2))=true→(AN a0 a1 a2)=true→false=false):=by intros;rfl
 have n9:=N0 (N1 (N1 (N1 (N1 (N1 (N1 (N1 (N1 hp))))))))
 have n10:=N0 (N1 (N1 (N1 (N1 (N1 (N1 (N1 (N1 (N1 hp)))))))))
 have n11:=N0 (N1 (N1 (N1 (N1 (N1 (N1 (N1 (N1 (N1 (N1 hp))))))))))
 have n12:=N0 (N1 (N1 (N1 (N1 (N1 (N1 (N1 (N1 (N1 (N1 (N1 hp)))))))))))
 have n13:=N0 (N1 (N1 (N1 (N1 (N1 (N1 (N1 (N1 (N1 (N1 (N1 (N1 hp))))))))))))
 have n14:((!(AG a0 a1 a2))=true→(!(AN a0 a1 a2))=true→false=false):=by intros;rfl
 exact AI (Aw Bru AH) (Ahd a0 a1 a2) (Aa n0 (Aa n1 (Aa n2 (Aa n3 (Aa n4 (Aa n5 (Aa n6 (Aa n7 (Aa n8 (Aa n9 (Aa n10 (Aa n11 (Aa n12 (Aa n13 (Aa n14 Ab)))))))))))))))
end Go.Proofs.Yteebobbhhgmeiaa
namespace Go.Proofs.Yteebobbhhgmeiaa
open Go.RowKit
theorem Bay {a1:List TChange} (w1:a1.length≤maxLen∧∀y∈a1,Wfd .change y):Az a1.length∧∀c∈a1,RV c:=
 ⟨w1.1,fun c hc=>⟨(w1.2 c hc).2.2.2.2.1,fun w hw=>⟨((w1.2 c hc).2.2.2.2.2 w hw).1,((w1.2 c hc).2.2.2.2.2 w hw).2.2.2⟩⟩⟩
theorem Bxe {l:List TGroup} {cs:List TChange} (hl:Az l.length) (hc:Az cs.length∧∀c∈cs,RV c):(Az l.length∧(Az cs.length∧∀c∈cs,RV c)∧Az (0:Nat)∧∀x∈([]:List (List TRow)),Az x.length∧∀r∈x,YE r)∧(MT l cs []=true→cs.length≤6000):=by
 have h1:Az ([]:List (List TRow)).length:=by unfold Az;exact Nat.zero_le _
 have h2:∀x∈([]:List (List TRow)),Az x.length∧∀r∈x,YE r:=fun x hx=>by cases hx
 exact⟨⟨hl,hc,h1,h2⟩,fun h=>((Aww l cs [] hl hc h1 h2).2 h).2.1.1⟩
theorem A5n (l:List TGroup) {cs:List TChange} (h:cs.length≤7000):Az (Mn l cs).length∧∀r∈Mn l cs,Ai r.cells.length:=by
 have h1:=Aur l cs
 refine⟨by unfold Az;omega,fun r hr=>?_⟩
 have g:=((Bny l cs).good r hr).1
 rw[(AS g).2.1]
 have:=(Gu (AS g).1).2
 unfold Ai
 omega
end Go.Proofs.Yteebobbhhgmeiaa
namespace Go.Proofs.Yteebobbhhgmeiaa
open Go.RowKit
theorem Btq (a0:List TGroup) (a1 a2:List TChange) (w0:a0.length≤maxLen∧∀y∈a0,Wfd .group y) (w1:a1.length≤maxLen∧∀y∈a1,Wfd .change y) (w2:a2.length≤maxLen∧∀y∈a2,Wfd .change y) (hb:a1.length+a2.length≤1048576):(∀p∈Qh a0 a1 a2,p)∧J2 a0 a1 a2=true:=by
 have e4:AU a0 a1 a2=a1++a2:=rfl
 have hw:∀c∈a1++a2,RV c:=fun c hc=>(List.mem_append.1 hc).elim ((Bay w1).2 c) ((Bay w2).2 c)
 have hl:Az (a1++a2).length:=by
  rw[List.length_append]
  unfold Az
  omega
 obtain⟨hL,hlt⟩:=Bxe (l:=a0) (cs:=AU a0 a1 a2) w0.1 ⟨hl,hw⟩
 have hk:(!(AG a0 a1 a2))=true→a1.length+a2.length≤6000:=fun h=>by
  unfold AG at h
  rw[Bool.not_not] at h
  have:=hlt h
  rw[e4,List.length_append] at this
  exact this
 have hk4:(!(AG a0 a1 a2))=true→(AU a0 a1 a2).length≤7000:=fun h=>by
  have:=hk h
  rw[e4,List.length_append]
  omega
 have h5:(!(AN a0 a1 a2))=true→stE a0 a1=0∧stE a0 a2=0:=fun h=>by
  have h':AN a0 a1 a2=false:=by simpa using h
  unfold AN at h'
  obtain⟨h1,h2⟩:=Bool.or_eq_false_iff.1 h'
  exact⟨by simpa using h1,by simpa using h2⟩
 have b1:Ai ((0:Nat)+a1.length):=by unfold Ai;omega
 have b2:Ai (([]++a1).length+a2.length):=by show Ai (a1.length+a2.length);unfold Ai;omega
 have l1:=Aur a0 a1
 have l2:=Aur a0 a2
 have l3:(A9 a0 a1 a2).length≤8*(a1.length+a2.length):=by
  have:=Aur a0 (a1++a2)
  rw[List.length_append] at this
  exact this
 have hg:(!(AN a0 a1 a2))=true→EI a0 (Mn a0 a1)=0∧EI a0 (Mn a0 a2)=0:=fun h=>⟨A00 (A5m.1 (h5 h).1).1,A00 (A5m.1 (h5 h).1).1⟩
 have hm:(!(AN a0 a1 a2))=true→JC a0 (Mn a0 a1) (Mn a0 a2)=Mn a0 (AU a0 a1 a2):=fun h=>by
  rw[e4,Bnx (h5 h).1 (h5 h).2]
  unfold JC
  rw[Bei.2 (hg h)]
  rfl
 refine⟨Aa b1 (Aa b2 (Aa hL (Aa (fun h=>⟨by have:=hk h;omega,fun c hc=>((Bay w1).2 c hc).1⟩) (Aa (fun h=>⟨by have:=hk h;omega,fun c hc=>((Bay w2).2 c hc).1⟩) (Aa (fun _=>b1) (Aa (fun _=>b2) (Aa (fun h=>⟨hk4 h,fun c hc=>(hw c hc).1⟩) (Aa (fun h _=>by have:=hk h;omega) (Aa (fun h g _=>?_) (Aa (fun h g _=>?_) (Aa (fun h _ _=>by have:=hk h;omega) (Aa (fun h _ _=>by have:=hk h;omega) Ab)))))))))))),?_⟩
 ·rw[hm g]
  exact(A5n a0 (hk4 h)).1
 ·rw[hm g]
  exact(A5n a0 (hk4 h)).2
 ·unfold J2
  cases q2:AG a0 a1 a2 with
  |true=>rfl
  | false=>
   cases q5:AN a0 a1 a2 with
   | true=>
    have:(stE a0 (AU a0 a1 a2) !=(0:Int))=true:=bne_iff_ne.2 fun h=>by
     rw[e4] at h
     obtain⟨h1,h2⟩:=Bad.1 h
     unfold AN at q5
     rw[h1,h2] at q5
     cases q5
    rw[this]
    rfl
   | false=>
    have h:(!(AN a0 a1 a2))=true:=by rw[q5];rfl
    have s4:stE a0 (AU a0 a1 a2)=0:=Bad.2 (h5 h)
    have gA:=A00 (cs:=AU a0 a1 a2) (A5m.1 s4).1
    have k1:CM a0 a1 a2=true:=by
     unfold CM
     rw[s4,Bei.2 (hg h)]
     rfl
    have e3:A9 a0 a1 a2=mrg ((Mn a0 a1).length+(Mn a0 a2).length) (Mn a0 a1) (Mn a0 a2):=Bnx (h5 h).1 (h5 h).2
    have i1:wiB a0 (Mn a0 a1) (A9 a0 a1 a2)=true:=Bzp (hg h).1 gA fun k=>by
     rw[e3]
     exact A7a (Ia (hg h).1).2 (Ia (hg h).2).2 (Nat.le_refl _) k
    have i2:wiB a0 (Mn a0 a2) (A9 a0 a1 a2)=true:=Bzp (hg h).2 gA fun k=>by
     rw[e3]
     exact A1r (Ia (hg h).1).2 (Ia (hg h).2).2 (Nat.le_refl _) k
    have k0:HO a0 a1 a2=true:=by
     unfold HO
     rw[k1,hm h,i1]
     show(A64 (A9 a0 a1 a2) (A9 a0 a1 a2)&&true)=true
     rw[Boq]
     rfl
    rw[k0,i2]
    rfl
end Go.Proofs.Yteebobbhhgmeiaa
namespace Go.Proofs.Yteebobbhhgmeiaa
open Go.RowKit
set_option maxRecDepth 100000
theorem op3:Opn Try.prog .i64 3:=Bxs Try.underlying3
theorem op4:Opn Try.prog .bool 4:=Btz Try.underlying4
theorem op9:Opn Try.prog .str 9:=Bxt Try.underlying9
theorem B3h:Opn Try.prog .vec 31:=fun en w base spare held m cs y h=>by
 obtain⟨xs,n,_,_,hl,hz,hg⟩:=DataW.trod_array Try.underlying31 h
 have hl:cs.length=2:=hl.trans (by kernel_rfl)
 obtain⟨x0,w0,g0⟩:=B2h (i:=0) (k:=1) op3 (by kernel_rfl) (by omega) (by omega) hg
 obtain⟨x1,w1,g1⟩:=B2h (i:=1) (k:=1) op3 (by kernel_rfl) (by omega) (by omega) hg
 exact⟨⟨x0,x1⟩,⟨w0,w1⟩,fun F N nx hF=>HLd (o:=0) (k:=1) (g0 F N nx hF) (HLd (o:=1) (k:=1) (g1 F N nx hF) (HLe (o:=2) hl))⟩
theorem B3i:Opn Try.prog .stamp 51:=fun en w base spare held m cs y h=>by
 obtain⟨xs,n,_,_,hl,hz,hg⟩:=DataW.trod_struct Try.underlying51 h
 have hz:xs.length=2:=hz
 have hl:cs.length=2:=hl.trans (by kernel_rfl)
 obtain⟨x0,w0,g0⟩:=Aro (i:=0) (o:=0) (k:=1) op3 rfl rfl rfl (by kernel_rfl) (by omega) hg
 obtain⟨x1,w1,g1⟩:=Aro (i:=1) (o:=1) (k:=1) op3 rfl rfl rfl (by kernel_rfl) (by omega) hg
 exact⟨⟨x0,x1⟩,⟨w0,w1⟩,fun F N nx hF=>HLd (o:=0) (k:=1) (g0 F N nx hF) (HLd (o:=1) (k:=1) (g1 F N nx hF) (HLe (o:=2) hl))⟩
theorem B3j:Opn Try.prog .group 79:=fun en w base spare held m cs y h=>by
 obtain⟨xs,n,_,_,hl,hz,hg⟩:=DataW.trod_struct Try.underlying79 h
 have hz:xs.length=2:=hz
 have hl:cs.length=2:=hl.trans (by kernel_rfl)
 obtain⟨x0,w0,g0⟩:=Aro (i:=0) (o:=0) (k:=1) op9 rfl rfl rfl (by kernel_rfl) (by omega) hg
 obtain⟨x1,w1,g1⟩:=Aro (i:=1) (o:=1) (k:=1) op3 rfl rfl rfl (by kernel_rfl) (by omega) hg
 exact⟨⟨x0,x1⟩,⟨w0,w1⟩,fun F N nx hF=>HLd (o:=0) (k:=1) (g0 F N nx hF) (HLd (o:=1) (k:=1) (g1 F N nx hF) (HLe (o:=2) hl))⟩
theorem B22:A32 Try.prog .group 66:=Aye Try.underlying66 (by kernel_rfl) B3j
theorem B21:Opn Try.prog .write 139:=fun en w base spare held m cs y h=>by
 obtain⟨xs,n,_,_,hl,hz,hg⟩:=DataW.trod_struct Try.underlying139 h
 have hz:xs.length=4:=hz
 have hl:cs.length=4:=hl.trans (by kernel_rfl)
 obtain⟨x0,w0,g0⟩:=Aro (i:=0) (o:=0) (k:=1) op9 rfl rfl rfl (by kernel_rfl) (by omega) hg
 obtain⟨x1,w1,g1⟩:=Aro (i:=1) (o:=1) (k:=1) op3 rfl rfl rfl (by kernel_rfl) (by omega) hg
 obtain⟨x2,w2,g2⟩:=Aro (i:=2) (o:=2) (k:=1) op4 rfl rfl rfl (by kernel_rfl) (by omega) hg
 obtain⟨x3,w3,g3⟩:=Aro (i:=3) (o:=3) (k:=1) op9 rfl rfl rfl (by kernel_rfl) (by omega) hg
 exact⟨⟨x0,x1,x2,x3⟩,⟨w0,w1,w2,w3⟩,fun F N nx hF=>HLd (o:=0) (k:=1) (g0 F N nx hF) (HLd (o:=1) (k:=1) (g1 F N nx hF) (HLd (o:=2) (k:=1) (g2 F N nx hF) (HLd (o:=3) (k:=1) (g3 F N nx hF) (HLe (o:=4) hl))))⟩
theorem B1k:A32 Try.prog .write 134:=Aye Try.underlying134 (by kernel_rfl) B21
theorem B20:Opn Try.prog .change 136:=fun en w base spare held m cs y h=>by
 obtain⟨xs,n,_,_,hl,hz,hg⟩:=DataW.trod_struct Try.underlying136 h
 have hz:xs.length=5:=hz
 have hl:cs.length=7:=hl.trans (by kernel_rfl)
 obtain⟨x0,w0,g0⟩:=Aro (i:=0) (o:=0) (k:=1) op3 rfl rfl rfl (by kernel_rfl) (by omega) hg
 obtain⟨x1,w1,g1⟩:=Aro (i:=1) (o:=1) (k:=1) op3 rfl rfl rfl (by kernel_rfl) (by omega) hg
 obtain⟨x2,w2,g2⟩:=Aro (i:=2) (o:=2) (k:=2) B3i rfl rfl rfl (by kernel_rfl) (by omega) hg
 obtain⟨x3,w3,g3⟩:=Aro (i:=3) (o:=4) (k:=2) B3h rfl rfl rfl (by kernel_rfl) (by omega) hg
 obtain⟨x4,w4,g4⟩:=B3g (i:=4) (o:=6) (k:=1) B1k rfl rfl rfl (by kernel_rfl) (by omega) hg
 exact⟨⟨x0,x1,x2,x3,x4⟩,⟨w0,w1,w2,w3,w4⟩,fun F N nx hF=>HLd (o:=0) (k:=1) (g0 F N nx hF) (HLd (o:=1) (k:=1) (g1 F N nx hF) (HLd (o:=2) (k:=2) (g2 F N nx hF) (HLd (o:=4) (k:=2) (g3 F N nx hF) (HLd (o:=6) (k:=1) (g4 F N nx hF) (HLe (o:=7) hl)))))⟩
theorem Bty:A32 Try.prog .change 126:=Aye Try.underlying126 (by kernel_rfl) B20
end Go.Proofs.Yteebobbhhgmeiaa
namespace Go.Proofs.Yteebobbhhgmeiaa
open Go.ChangeShapes Go.WideShapes Go.ChangeAt Go.RowKit
theorem own:ownKnob Try.prog.godebug=none:=by kernel_rfl
theorem Bxb:laidOutB Try.prog=true:=by kernel_rfl
section
variable {P:Program} {H:Type} {enc:TypeId×Value→H} {w:World} {base:Nat} {spare:Nat→Bool} {held:Bool} {v:Value} {d:DataW H} {p:List MemPlace}
end
theorem ZG {H:Type} {enc:TypeId×Value→H} {W W':World} (hb:Below W.heap.size W W'):∀(ts:List TypeId) (vs:List Value) (ds:List (DataW H)) (ps:List MemPlace),
  (∀t∈ts,Try.prog.readableRec t=true∧t <Try.prog.types.size)→DataW.TrodAll enc Try.prog W 0 (fun _=>true) true ts vs ds ps→(∀x∈ps,x.block <W.heap.size)→
  DataW.TrodAll enc Try.prog W' 0 (fun b=>decide (b <W.heap.size)) true ts vs ds ps
 | [],vs,ds,ps,_,h,_=>by
  obtain⟨rfl,rfl,rfl⟩:=trodAll_nil h
  exact trodAll_mk0
 | t::ts,vs,ds,ps,hr,h,hlt=>by
  obtain⟨v,vs',d,ds',p,q,rfl,rfl,rfl,h0,h1⟩:=trodAll_cons h
  exact trodAll_cons_mk (Below.trod Bxb (hr t (by simp)).1 (hr t (by simp)).2 h0 hb fun x hx=>hlt x (by simp[hx]))
   (ZG hb ts vs' ds' q (fun t' ht'=>hr t' (by simp[ht'])) h1 fun x hx=>hlt x (by simp[hx]))
section
variable {H:Type} {enc:TypeId×Value→H} {w:World} {base:Nat} {spare:Nat→Bool} {held:Bool} {v:Value} {d:DataW H} {p:List MemPlace}
end
end Go.Proofs.Yteebobbhhgmeiaa
namespace Go.Proofs.Yteebobbhhgmeiaa
open Go.RowKit Go.WideShapes Go.ChangeShapes
section
variable {H:Type} {en:TypeId×Value→H} {P:Program} {w:World} {base:Nat} {spare:Nat→Bool} {held:Bool} {t e:TypeId} {v:Value} {d:DataW H} {p:List MemPlace} {r:Reach} {b0:Nat} {c:TC}
theorem Au8 (ht:P.underlying t=some (.slice e)) (ho:A32 P c t) (hv:Value.okWide P w r b0 t v) (h:DataW.Trod en P w base spare held t v d p):
  ∃l:List (U c),(l.length≤maxLen∧∀x∈l,Wfd c x)∧∀(F:Nat→Prop) (N:Nm) (nx:Nat),FB w F→Hv F N nx w (.sl c l) v:=by
 obtain⟨a,len,cap,rfl⟩:=okWide_slice ht hv
 obtain⟨fuel,hf⟩:=h
 obtain⟨l,h1,h2⟩:=ho en w base spare held fuel _ _ hf
 refine⟨l,h1,fun F N nx hF=>?_⟩
 obtain⟨y,ys,e,h3,_⟩:=(h2 F N nx hF).inv
 have e':[Value.slice a len cap]=y::ys:=e
 cases e'
 exact h3
end
theorem Br4 {P:Program} {f:FuncId} {args:List A} {nx':Nat} {o':Objs} {b:Bool} (h:CallOk P f args 0 [] 1 (.v (.bool b)) nx' o') (W:World) (vs:List Value) (ha:∀(F:Nat→Prop) (N:Nm) (nx:Nat),FB W F→HL F N nx W args vs):
  Calls P f vs.toArray W fun e W'=>e=.returned (.bool b)∧Below W.heap.size W W':=by
 have hr:HRel (fun b=>b <W.heap.size) ⟨fun _=>0,fun _=> .nilFunc⟩ 0 [] W:=⟨fun g hg=>hg,fun i ob hi=>(by cases hi),fun i ob g hi=>(by cases hi),fun i j x y g hi=>(by cases hi)⟩
 refine(h _ _ W vs hr (ha _ _ _ fun b hb=>hb)).mono fun e W' ⟨y,F',N',he,_,_,hy,hb⟩=>?_
 rw[hy.v_inv] at he
 exact⟨he,hb (Nat.le_refl _)⟩
end Go.Proofs.Yteebobbhhgmeiaa
namespace Go.Proofs.Yteebobbhhgmeiaa
open Go.RowKit Go.WideShapes Go.ChangeShapes
theorem Bch {H:Type}:∀l:List (DataW H),l.length≤Rows.uptoBulkAll l
 | []=>Nat.zero_le _
 | d::r=>by
  have h1:=Bch r
  have h2:1≤Rows.uptoBulk d:=by
   cases d with
   |lit x=>cases x<;>simp[Rows.uptoBulk]
   |_=>simp[Rows.uptoBulk]
  simp only[Rows.uptoBulkAll,List.length_cons]
  omega
theorem Bwm {H:Type} {l:List (DataW H)} (hk:Rows.uptoSmall H l=true):Rows.uptoBulkAll l≤1048576:=of_decide_eq_true hk
theorem B2u {F:Nat→Prop} {N:Nm} {nx:Nat} {R:World} {c:TC} {l:List (U c)} {v:Value} (h:Hv F N nx R (.sl c l) v):∃a cap,v=.slice a l.length cap:=by
 cases h
 exact⟨_,_,rfl⟩
section
variable {H:Type} {en:TypeId×Value→H} {P:Program} {w:World} {base:Nat} {spare:Nat→Bool} {held:Bool} {t e:TypeId} {v:Value} {d:DataW H} {p:List MemPlace} {r:Reach} {b0:Nat} {c:TC}
theorem Au7 (ht:P.underlying t=some (.slice e)) (h:DataW.Trod en P w base spare held t v d p) {l:List (U c)}
  (hl:∀(F:Nat→Prop) (N:Nm) (nx:Nat),FB w F→Hv F N nx w (.sl c l) v):l.length≤Rows.uptoBulk d:=by
 obtain⟨a,cap,rfl⟩:=B2u (hl (fun _=>True) ⟨fun _=>0,fun _=> .bool false⟩ 0 fun _ _=>trivial)
 obtain⟨fuel,hf⟩:=h
 rcases DataW.trod_slice ht hf with⟨h1,_⟩|⟨a',len,cap',elems,rest,n,_,h1,h2,_,_,_,h3,_⟩
 ·have e':[Value.slice a l.length cap]=[Value.slice none 0 0]:=h1
  cases l with
  |nil=>exact Nat.zero_le _
  |cons x l=>cases e'
 ·have e':[Value.slice a l.length cap]=[Value.slice (some a') len cap']:=h1
  have e2:l.length=len:=by
   injection e' with e' _
   injection e'
  have e3:d=.slice (elems.map (·.1)) (rest.map (·.1)):=(Prod.mk.inj h2).1
  rw[e3]
  have:=Bch (elems.map (·.1))
  rw[List.length_map] at this
  simp only[Rows.uptoBulk]
  omega
end
end Go.Proofs.Yteebobbhhgmeiaa
namespace Go.Proofs.Yteebobbhhgmeiaa.modelPartsUpto
open Go.ChangeShapes Go.WideShapes Go.ChangeAt Go.RowKit
theorem lifted (os:Os) (started:os.Started) (H:Type) (enc:TypeId×Value→H) (F0:Stop.Interp):
  ReturnsInHanded {} Try.checked os 23 .any ((Rows.OpenSpec.upto Rows.modelPartsSpec).pre6 enc Try.prog Try.f23 Rows.modelPartsUptoRow.domain false) (((Rows.OpenSpec.upto Rows.modelPartsSpec).at F0).post enc Try.prog Try.f23 false true false false):=by
 refine returnsInHanded_of_cond (C:=Try.checked) (s:=(Rows.OpenSpec.upto Rows.modelPartsSpec)) (k:=Rows.uptoSmall) rfl own started (by kernel_rfl) Try.func23
  (OpenSpec.witness (enc:=enc) (C:=Try.checked) (s:=(Rows.OpenSpec.upto Rows.modelPartsSpec)) (k:=Rows.uptoSmall) rfl false ⟨#[],#[.slice none 0 0,.slice none 0 0,.slice none 0 0],[]⟩ 8 (by kernel_rfl) (by kernel_rfl) (by kernel_rfl)
   (x:=([.nil,.nil,.nil],[],[])) (by kernel_rfl) rfl (by kernel_rfl)) ?_
 intro W base args ds gs before hval0 hW0 hcnd hk0 _
 suffices goal:Calls Try.prog 23 args W fun e W'=>∃v,e=.returned v∧Rows.modelPartsSpec.post enc Try.prog Try.f23 false true false false W args v W' by exact goal
 have hW:DataW.Whole enc Try.prog Try.f23.params.toList Rows.modelPartsSpec.vars false W args.toList ds gs before:=hW0
 have hval:∀(j:Nat) t v,Try.f23.params[j]?=some t→args[j]?=some v→Value.okWide Try.prog W .any base t v:=hval0
 have hW':=hW
 have hlt:∀x∈before,x.block <W.heap.size:=fun x hx=>hW.lt x hx
 obtain⟨p,q,hA0,hV,rfl,hfz,hnd⟩:=hW
 have hA:DataW.TrodAll enc Try.prog W 0 (fun _=>true) true Try.f23.params.toList args.toList ds p:=hA0
 rw[Try.params23] at hA hval
 have hA':=hA
 obtain⟨v0,vs0,d0,ds0,p0,q0,hargs,rfl,rfl,h0,r0⟩:=trodAll_cons hA
 obtain⟨v1,vs1,d1,ds1,p1,q1,rfl,rfl,rfl,h1,r1⟩:=trodAll_cons r0
 obtain⟨v2,vs2,d2,ds2,p2,q2,rfl,rfl,rfl,h2,r2⟩:=trodAll_cons r1
 obtain⟨rfl,rfl,rfl⟩:=trodAll_nil r2
 obtain rfl:args=#[v0,v1,v2]:=by cases args;simp_all
 obtain⟨rfl,rfl⟩:=trodVars_none hV
 obtain⟨a0,w0,g0⟩:=Au8 Try.underlying66 B22 (hval 0 66 v0 rfl rfl) h0
 obtain⟨a1,w1,g1⟩:=Au8 Try.underlying126 Bty (hval 1 126 v1 rfl rfl) h1
 obtain⟨a2,w2,g2⟩:=Au8 Try.underlying126 Bty (hval 2 126 v2 rfl rfl) h2
 have hbk:=Bwm hk0
 simp only[List.append_nil,Rows.uptoBulkAll] at hbk
 have n0:=Au7 Try.underlying66 h0 g0
 have n1:=Au7 Try.underlying126 h1 g1
 have n2:=Au7 Try.underlying126 h2 g2
 obtain⟨hn,ht⟩:=Btq a0 a1 a2 w0 w1 w2 (by omega)
 have hc:=Ale a0 a1 a2 hn
 have hr:Ma a0 a1 a2=.v (.bool true):=by show A.v (.bool (J2 a0 a1 a2))=_;rw[ht]
 rw[hr] at hc
 refine(Br4 hc W [v0,v1,v2] fun F N nx hF=>HL.cons (g0 F N nx hF) (HL.cons (g1 F N nx hF) (HL.cons (g2 F N nx hF) (HL.nil)))).mono fun e W' ⟨he,bel⟩=>?_
 subst he
 have hread:∀t∈[66,126,126],Try.prog.readableRec t=true∧t <Try.prog.types.size:=by
  intro t ht
  simp only[List.mem_cons,List.not_mem_nil,or_false] at ht
  rcases ht with rfl|rfl|rfl
  all_goals exact⟨by kernel_rfl,of_decide_eq_true (by kernel_rfl)⟩
 exact⟨_,rfl,_,_,_,[],_,[],hW',trodAll_mk1 (shut_bool Try.underlying4 _),
  ZG bel _ _ _ _ hread hA' (fun x hx=>hlt x (by simpa using hx)),rfl,bel.frame _,fun h=>by cases h⟩
theorem tA:Try.prog.funcNamed Rows.modelPartsUptoRow.func=some 23:=by kernel_rfl
theorem b0:(Rows.modelPartsUptoRow.wf (OpenSpec.ofChange (Rows.OpenSpec.upto Rows.modelPartsSpec).bare))=true:=by kernel_rfl
theorem b1:(laidOutB Try.prog)=true:=by kernel_rfl
theorem b2:(mapsRowed Try.prog)=true:=by kernel_rfl
theorem b3:(Try.f23.params.all (Try.prog.readableRec ·))=true:=by kernel_rfl
theorem b4:(namedTie Try.prog Rows.modelPartsUptoRow.named (Rows.OpenSpec.upto Rows.modelPartsSpec).bare.vars)=true:=by kernel_rfl
theorem b5:((Rows.modelPartsUptoRow.stops==[]))=true:=by kernel_rfl
theorem b6:((Try.prog.stops==[]))=true:=by kernel_rfl
theorem b7:((Rows.modelPartsUptoRow.knobs==[]))=true:=by kernel_rfl
theorem b8:((Try.prog.stopKnobs==[]))=true:=by kernel_rfl
theorem b9:((Rows.modelPartsUptoRow.inPlace==Try.prog.inPlace 23))=true:=by kernel_rfl
theorem b10:((Rows.modelPartsUptoRow.unfollowed==Try.prog.unfollowed 23))=true:=by kernel_rfl
theorem b11:((Rows.modelPartsUptoRow.recurses==Try.prog.recurses 23))=true:=by kernel_rfl
theorem b12:((Rows.modelPartsUptoRow.named==Try.prog.varsNamed 23))=true:=by kernel_rfl
theorem b13:((Rows.modelPartsUptoRow.maps==(Try.f23.params.toList++(Rows.OpenSpec.upto Rows.modelPartsSpec).bare.plain.varTypes Try.prog).any (Try.prog.mapsRec ·)))=true:=by kernel_rfl
theorem b14:((Rows.modelPartsUptoRow.ifaces==(Try.f23.params.toList++(Rows.OpenSpec.upto Rows.modelPartsSpec).bare.plain.varTypes Try.prog).any (Try.prog.ifacesRec ·)))=true:=by kernel_rfl
theorem b15:((Rows.modelPartsUptoRow.mapsOut==Try.prog.mapsAmong Try.f23.resultTypes.toList))=true:=by kernel_rfl
theorem b16:((Rows.modelPartsUptoRow.loops==(Try.f23.params.toList++(Rows.OpenSpec.upto Rows.modelPartsSpec).bare.plain.varTypes Try.prog).any (Try.prog.loopsFrom ·)))=true:=by kernel_rfl
theorem b17:((Rows.modelPartsUptoRow.wideKeys==(Try.f23.params.toList++(Rows.OpenSpec.upto Rows.modelPartsSpec).bare.plain.varTypes Try.prog++Try.f23.resultTypes.toList).any (Try.prog.wideKeysFrom ·)))=true:=by kernel_rfl
theorem b18:((Rows.OpenSpec.upto Rows.modelPartsSpec).bare.vars.all (Try.prog.varReadable ·))=true:=by kernel_rfl
theorem b19:(Try.f23.resultTypes.all (fun t=>Try.prog.readableRec t&&decide (t <Try.prog.types.size)))=true:=by kernel_rfl
theorem b20:((Rows.modelPartsUptoRow.ifacesOut==Try.f23.resultTypes.toList.any (Try.prog.ifacesRec ·)))=true:=by kernel_rfl
theorem b21:((Rows.modelPartsUptoRow.loopsOut==Try.f23.resultTypes.toList.any (Try.prog.loopsFrom ·)))=true:=by kernel_rfl
theorem b22:((Rows.modelPartsUptoRow.plainKeys==Try.prog.plainKeys))=true:=by kernel_rfl
theorem b23:(Rows.modelPartsUptoRow.shortTexts.isNone)=true:=by kernel_rfl
theorem b24:(Try.prog.stopsHeard)=true:=by kernel_rfl
theorem b25:(Try.prog.mayEnter)=true:=by kernel_rfl
theorem b26:((Rows.modelPartsUptoRow.lifted==Try.prog.liftsFinal))=true:=by kernel_rfl
theorem b27:((Try.prog.make==some Rows.modelPartsUptoRow.make))=true:=by kernel_rfl
theorem b28:((Rows.modelPartsUptoRow.kinds==(if Rows.modelPartsUptoRow.domain.isEmpty then[] else Try.f23.params.toList.map fun t=>match Try.prog.underlying t with|some (.int k)=>some k|_=>none)))=true:=by kernel_rfl
theorem b29:((Rows.modelPartsUptoRow.pinned==Rows.modelPartsUptoRow.pinnedBy))=true:=by kernel_rfl
theorem b30:((Rows.modelPartsUptoRow.veiled==(Try.f23.params.toList++(Rows.OpenSpec.upto Rows.modelPartsSpec).bare.plain.varTypes Try.prog++Try.f23.resultTypes.toList).any (Try.prog.veiledRec ·)))=true:=by kernel_rfl
theorem b31:(Rows.modelPartsUptoRow.veiledFits Try.prog Try.f23.params.toList (Try.f23.params.toList++(Rows.OpenSpec.upto Rows.modelPartsSpec).bare.plain.varTypes Try.prog++Try.f23.resultTypes.toList))=true:=by kernel_rfl
theorem KI {a b:Bool} (h:a=true) (g:b=true):(a&&b)=true:=by rw[h,g];rfl
theorem tB:joinedFacts Try.prog 23 Try.f23 (Rows.OpenSpec.upto Rows.modelPartsSpec).bare Rows.modelPartsUptoRow=true:=by
 unfold joinedFacts
 exact(KI (KI (KI (KI (KI (KI (KI (KI (KI (KI (KI (KI (KI (KI (KI (KI (KI (KI (KI (KI (KI (KI (KI (KI (KI (KI (KI (KI (KI (KI (KI b0 b1) b2) b3) b4) b5) b6) b7) b8) b9) b10) b11) b12) b13) b14) b15) b16) b17) b18) b19) b20) b21) b22) b23) b24) b25) b26) b27) b28) b29) b30) b31)
theorem tC:Try.f23.isInstance Try.prog Rows.modelPartsUptoRow.origin Rows.modelPartsUptoRow.targs:=of_decide_eq_true (by kernel_rfl)
theorem tD0:decide (Check.packageOf Try.f23.name= "main")=false:=by kernel_rfl
theorem tD:Try.f23.isWrapper Try.prog Rows.modelPartsUptoRow.wrapper Rows.modelPartsUptoRow.mainSum:=by
 unfold Func.isWrapper
 rw[if_neg (of_decide_eq_false tD0)]
 exact⟨rfl,rfl⟩
theorem over:Rows.modelPartsUptoRow.holds Try.pinned (Rows.OpenSpec.upto Rows.modelPartsSpec):=
 OpenClaim.holds_of_cond 23 Try.f23 rfl rfl rfl rfl rfl rfl rfl ⟨rfl,rfl,rfl,rfl,rfl⟩ rfl rfl rfl rfl rfl tA Try.func23 tB tC tD
  (fun os started H enc _ F=>lifted os started H enc F)
theorem proved:Rows.ModelPartsUptoSaid:=over
end Go.Proofs.Yteebobbhhgmeiaa.modelPartsUpto
