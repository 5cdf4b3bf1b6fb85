/- made by a program (rowgen.py): ModelOrder: for every input the law returns true, and each argument reads behind the call as it read before. -/
import Derived.Test.YteebobbhhgmeiaaKMog
import Derived.Test.YteebobbhhgmeiaaRows

namespace Go.Proofs.Yteebobbhhgmeiaa
open Go.RowKit
def Bph (l:List TGroup) (r:TRow):TView:=⟨Aj7 l r,Aj6 l r⟩
def chS (l:List TGroup) (q:ByteArray→Bool) (n:Int) (o:List TView) (r:TRow):List TView:=bif decide ((o.length:Int)≥n) then o else bif KA l r&&q r.key then o++[Bph l r] else o
def chI (l:List TGroup) (q:ByteArray→Bool) (n:Int) (rows:List TRow) (i:Nat):List TView:=(rows.take i).foldl (chS l q n) []
def chL (l:List TGroup) (q:ByteArray→Bool) (n:Int) (rows:List TRow):List TView:=rows.foldl (chS l q n) []
section
variable {l:List TGroup} {q:ByteArray→Bool} {n:Int}
theorem Br2 (rows:List TRow) (i:Nat) (h:i <rows.length):chI l q n rows (i+1)=chS l q n (chI l q n rows i) (BU rows i):=by
 unfold chI
 rw[Aj4 rows (Ae TC.row) i h,List.foldl_append]
 rfl
theorem Bwn (rows:List TRow):chI l q n rows rows.length=chL l q n rows:=by
 unfold chI chL
 rw[List.take_length]
theorem Avs {o:List TView} (h:(o.length:Int)≥n):∀rows:List TRow,rows.foldl (chS l q n) o=o
 | []=>rfl
 | x::a=>by
  have e:chS l q n o x=o:=by
   unfold chS
   rw[decide_eq_true h]
   rfl
  rw[List.foldl_cons,e,Avs h a]
theorem Br1 (rows:List TRow) {i:Nat} (h:((chI l q n rows i).length:Int)≥n):chL l q n rows=chI l q n rows i:=by
 have e:chL l q n rows=(rows.drop i).foldl (chS l q n) (chI l q n rows i):=by
  unfold chL chI
  rw[←List.foldl_append,List.take_append_drop]
 rw[e,Avs h]
theorem Bcn {o:List TView}:∀rows:List TRow,(∀y∈rows,q y.key=false)→rows.foldl (chS l q n) o=o
 | [],_=>rfl
 | x::a,h=>by
  have e:chS l q n o x=o:=by
   unfold chS
   rw[h x (List.mem_cons_self ..),Bool.and_false,cond_false]
   cases decide ((o.length:Int)≥n)<;>rfl
  rw[List.foldl_cons,e,Bcn a fun y hy=>h y (List.mem_cons_of_mem _ hy)]
end
def Bst (l:List TGroup) (rows:List TRow) (key:ByteArray):Bool:=match Tw rows key with
 |some r=>KA l r
 |none=>false
def Bsu (l:List TGroup) (rows:List TRow) (key:ByteArray):TView:=match Tw rows key with
 |some r=>Bph l r
 |none=>⟨⟨#[]⟩,[]⟩
theorem Bx6 {l:List TGroup} {r:TRow} (h:KA l r=false):Bph l r=⟨⟨#[]⟩,[]⟩:=by
 unfold Bph Aj7 Aj6
 rw[h]
 rfl
theorem Bw5 {l:List TGroup} {rows:List TRow} {key:ByteArray} (h:Bst l rows key=false):Bsu l rows key=⟨⟨#[]⟩,[]⟩:=by
 unfold Bst at h
 unfold Bsu
 cases ha:Tw rows key with
 |none=>rfl
 |some r=>rw[ha] at h;exact Bx6 h
theorem Bmg {l:List TGroup} {key:ByteArray}:∀{rows:List TRow},On rows→chL l (fun k=>k==key) 1 rows=bif Bst l rows key then[Bsu l rows key] else[]
 | [],_=>rfl
 | x::a,h=>by
  have h1:=List.pairwise_cons.1 h
  have e:chL l (fun k=>k==key) 1 (x::a)=a.foldl (chS l (fun k=>k==key) 1) (bif KA l x&&x.key==key then[Bph l x] else[]):=rfl
  rw[e]
  unfold Bst Bsu
  rw[CT]
  by_cases hk:x.key=key
  ·rw[if_pos hk]
   have hk2:(x.key==key)=true:=by simpa using hk
   rw[hk2,Bool.and_true]
   show _=bif KA l x then[Bph l x] else[]
   cases hv:KA l x with
   |true=>rw[cond_true,Avs (show((1:Nat):Int)≥1 from Int.le_refl _)]
   |false=>
    rw[cond_false,Bcn a fun y hy=>?_]
    have:=T4 (h1.1 y hy)
    rw[hk] at this
    simpa using Ne.symm this
  ·rw[if_neg hk]
   have hk2:(x.key==key)=false:=by simpa using hk
   rw[hk2,Bool.and_false,cond_false]
   exact Bmg h1.2
def A97 (l:List TGroup) (rows:List TRow) (key:ByteArray):Bool:=Gq l rows==0&&Bst l rows key
def Bpn (l:List TGroup) (rows:List TRow) (key:ByteArray):TView:=bif Gq l rows==0 then Bsu l rows key else⟨⟨#[]⟩,[]⟩
end Go.Proofs.Yteebobbhhgmeiaa
namespace Go.Proofs.Yteebobbhhgmeiaa
open Go.RowKit
theorem Bn9 {P:Program} {f:FuncId} {args:List A} {k:Nat} {e:TypeId} {c:TC} {els:Els} {l:List (U c)} {ps:List Prop} (h:CallOk P f args 0 [] k (.sq 0) 1 [(0,some (.arr e (size c) els))]) (hty:UL c els=some (l,ps)) (hp:∀p∈ps,p):CallOk P f args 0 [] k (.sq 0) 1 [(0,some (.arr e (size c) (.ty c l)))]:=fun F N R vs hh ha=>
 Calls.mono (P:=P) (h F N R vs hh ha) fun e0 R' ⟨y,F',N',e1,e2,e3,e4,e5⟩=>by
  have low:∀{i ob},Ay i [(0,some (Ob.arr e (size c) (.ty c l)))]=some ob→i=0∧ob=.arr e (size c) (.ty c l):=fun {i ob} hi=>by
   have hi':(bif Nat.beq 0 i then some (Ob.arr e (size c) (.ty c l)) else none)=some ob:=hi
   cases hb:Nat.beq 0 i with
   |true=>rw[hb] at hi';cases hi';exact⟨(Nat.eq_of_beq_eq_true hb).symm,rfl⟩
   |false=>rw[hb] at hi';cases hi'
  obtain⟨hi,zs,g1,g2⟩:=e2.ob 0 _ rfl
  have hr:RowHL F' N' 1 R' (.ty c l) (size c) zs:=(show RowHL F' N' 1 R' els (size c) zs from⟨g1.1,g2⟩).ty hty hp
  have hn:l.length=els.n:=(Lb (F:=F') (N:=N') (nx:=1) (R:=R') hty hp).1
  refine⟨y,F',N',e1,⟨e2.flt,fun i ob hl=>?_,fun i ob g hl hg=>?_,fun i j x y g hx hy _ _=>?_⟩,⟨e3.le,e3.b,e3.q,e3.f,e3.fnew,fun g ⟨i,ob,hl,hg⟩=>?_,e3.os,e3.tape,e3.output,e3.size,e3.keep⟩,e4,e5⟩
  ·obtain⟨rfl,rfl⟩:=low hl
   exact⟨hi,zs,by show OwnR _ _ _ _ l.length _;rw[hn];exact g1,hr.2⟩
  ·obtain⟨rfl,rfl⟩:=low hl
   exact e2.ff 0 _ g rfl hg
  ·rw[(low hx).1,(low hy).1]
  ·obtain⟨rfl,rfl⟩:=low hl
   exact e3.foot g ⟨0,_,rfl,hg⟩
end Go.Proofs.Yteebobbhhgmeiaa
namespace Go.Proofs.Yteebobbhhgmeiaa
open Go.RowKit
noncomputable def Bbo:=A5 147 (inl (AA Cms L0) 20 147) Cms
theorem Au5:Df Try.prog Bbo:=Av (Acm (Aw Bri AG) 20 147) Bri
abbrev EL:Type:=(List TGroup)×(List TRow)×Int×Int×ByteArray×(List TView)
def P0 (x:EL):St:=⟨46,4,[(0,.sl .group x.1),(2,.v (.int .i64 ((1:Int)))),(3,.fn 147 [] [.own 0 0]),(8,.sq 3),(17,.sl .row x.2.1),(18,.v (.int .i64 x.2.2.1)),(19,.v (.int .i64 x.2.2.2.1))],[(0,some (.box 9 [.v (.string x.2.2.2.2.1)])),(3,some (.arr 94 2 (.ty .view x.2.2.2.2.2)))]⟩
def TJ:St→Option EL
 |⟨46,4,[(0,.sl .group z0),(2,.v (.int .i64 ((1:Int)))),(3,.fn 147 [] [.own 0 0]),(8,.sq 3),(17,.sl .row z1),(18,.v (.int .i64 z2)),(19,.v (.int .i64 z3))],[(0,some (.box 9 [.v (.string z4)])),(3,some (.arr 94 2 (.ty .view z5)))]⟩=>some (z0,z1,z2,z3,z4,z5)
 |_=>none
theorem Avt:∀s x,TJ s=some x→s=P0 x:=fun s x h=>by
 unfold TJ at h
 split at h
 ·cases h;rfl
 ·cases h
def Aoq:De:=⟨3,4,[0,2,3,8,17,18,19],[],[(0,0),(9,3)],[0,9],[8],[3,0]⟩
def Bco:Dy:=⟨[.nil 8 94 .view],[(0,0),(2,3)],[0,2,3,8,17,18,19],[0,2]⟩
def Ju (a0:List TGroup) (a1:List TRow) (_a2:Int) (a3:Int) (a4:ByteArray) (_a5:List TView):Bool:=bif KA a0 (a1.getD a3.toNat (Ae TC.row)) then(a1.getD a3.toNat (Ae TC.row)).1.toList==a4.toList else false
def V6 (_a0:List TGroup) (_a1:List TRow) (a2:Int) (a3:Int) (_a4:ByteArray) (a5:List TView):Bool:=!decide (a3 <a2)||decide ((↑a5.length:Int)≥(1:Int))
def QV (a0:List TGroup) (a1:List TRow) (a2:Int) (a3:Int) (a4:ByteArray) (a5:List TView):ByteArray:=bif(Ju a0 a1 a2 a3 a4 a5) then a4 else a4
def QW (a0:List TGroup) (a1:List TRow) (a2:Int) (a3:Int) (a4:ByteArray) (a5:List TView):List TView:=bif(Ju a0 a1 a2 a3 a4 a5) then a5++[TView.mk (Aj7 a0 (a1.getD a3.toNat (Ae TC.row))) (Aj6 a0 (a1.getD a3.toNat (Ae TC.row)))] else a5
def Ha (x:EL):EL:=(x.1,x.2.1,x.2.2.1,IntKind.i64.wrap (x.2.2.2.1+(1:Int)),QV x.1 x.2.1 x.2.2.1 x.2.2.2.1 x.2.2.2.2.1 x.2.2.2.2.2,QW x.1 x.2.1 x.2.2.1 x.2.2.2.1 x.2.2.2.2.1 x.2.2.2.2.2)
def G9 (x:EL):Cnd:=some (!(V6 x.1 x.2.1 x.2.2.1 x.2.2.2.1 x.2.2.2.2.1 x.2.2.2.2.2))
def ZS (x:EL):List Prop:=[((!!decide (x.2.2.2.1 <x.2.2.1))=true→(0:Int)≤x.2.2.2.1∧x.2.2.2.1 <(↑x.2.1.length:Int)),((!!decide (x.2.2.2.1 <x.2.2.1))=true→(!decide ((↑x.2.2.2.2.2.length:Int)≥(1:Int)))=true→false=false),((!!decide (x.2.2.2.1 <x.2.2.1))=true→(!decide ((↑x.2.2.2.2.2.length:Int)≥(1:Int)))=true→(Ju x.1 x.2.1 x.2.2.1 x.2.2.2.1 x.2.2.2.2.1 x.2.2.2.2.2)=true→Ai (x.2.2.2.2.2.length+(1:Nat)))]
def J0 (x:EL):List Prop:=[((!!decide (x.2.2.2.1 <x.2.2.1))=true→(0:Int)≤x.2.2.2.1∧x.2.2.2.1 <(↑x.2.1.length:Int)),((!!decide (x.2.2.2.1 <x.2.2.1))=true→(!decide ((↑x.2.2.2.2.2.length:Int)≥(1:Int)))=true→(Ju x.1 x.2.1 x.2.2.1 x.2.2.2.1 x.2.2.2.2.1 x.2.2.2.2.2)=true→Ai (x.2.2.2.2.2.length+(1:Nat)))]
def V7 (x:EL):Bl:=[(some 0,some ((V6 x.1 x.2.1 x.2.2.1 x.2.2.2.1 x.2.2.2.2.1 x.2.2.2.2.2)),⟨46,5,[(8,.sq 3)],[(3,some (.arr 94 2 (.ty .view x.2.2.2.2.2))),(0,some (.box 9 [.v (.string x.2.2.2.2.1)]))]⟩)]
def Ia (x:EL):Nat:=(x.2.2.1 - x.2.2.2.1).toNat
def DH (x:EL):EL:=A9 Ha G9 (Ia x) x
set_option maxRecDepth 100000 in
theorem A6s (a0:List TGroup) (a1:List TRow) (a2:Int) (a3:Int) (a4:ByteArray) (a5:List TView):Bx (AA Bbo L0) 9 (Aj Try.prog 146 0) Aoq (P0 (a0,a1,a2,a3,a4,a5))=some (ZS (a0,a1,a2,a3,a4,a5),V7 (a0,a1,a2,a3,a4,a5),G9 (a0,a1,a2,a3,a4,a5),P0 (Ha (a0,a1,a2,a3,a4,a5))):=by kernel_rfl
set_option maxRecDepth 100000 in
theorem A6t (a0:List TGroup) (a1:List TRow) (a2:Int) (a3:Int) (a4:ByteArray) (a5:List TView) (hp:∀p∈J0 (a0,a1,a2,a3,a4,a5),p):∀p∈ZS (a0,a1,a2,a3,a4,a5),p:=by
 have n0:=N0 hp
 have n1:((!!decide (a3 <a2))=true→(!decide ((↑a5.length:Int)≥(1:Int)))=true→false=false):=by intros;rfl
 have n2:=N0 (N1 hp)
 exact(Aa n0 (Aa n1 (Aa n2 Ab)))
noncomputable def ZT:=HU (AA Bbo L0) (Aj Try.prog 146 0) Aoq Bco TJ Ia Ha G9 J0 V7
theorem A1l:∀s b ps outs,ZT s=some (b,ps,outs)→Wf s ⟨ps,outs,none⟩∧Bs (AA C0 L0) b s ps outs:=
 Bi (T:=P0) Au5 AG (u:=9) (by kernel_rfl) (by decide) (fun⟨a0,a1,a2,a3,a4,a5⟩=>A6s a0 a1 a2 a3 a4 a5) (fun⟨a0,a1,a2,a3,a4,a5⟩=>A6t a0 a1 a2 a3 a4 a5) Avt (fun _=>AR (n:=46) rfl) fun _ _=>rfl
noncomputable def Aop:=DG 0 ZT L0
theorem A1k:Hs Aop:=A3 A1l AG
noncomputable def Brj:=A5 146 (inl (AA Bbo Aop) 20 146) Bbo
theorem Bbp:Df Try.prog Brj:=Av (Acm (Aw Au5 A1k) 20 146) Au5
def CQ (a0:List TGroup) (a1:List TRow) (_a2:ByteArray):Bool:=Gq a0 a1 !=(0:Int)
def Fs (a0:List TGroup) (a1:List TRow) (a2:ByteArray):Bool:=(↑(bif(CQ a0 a1 a2) then[] else(DH (a0,a1,(↑a1.length:Int),(0:Int),a2,[])).snd.snd.snd.snd.snd).length:Int)==(0:Int)
def Qp (a0:List TGroup) (a1:List TRow) (a2:ByteArray):TView:=TView.mk (bif(Fs a0 a1 a2) then ByteArray.mk #[] else((bif(CQ a0 a1 a2) then[] else(DH (a0,a1,(↑a1.length:Int),(0:Int),a2,[])).snd.snd.snd.snd.snd).getD (0:Nat) (Ae TC.view)).1) (bif(Fs a0 a1 a2) then[] else((bif(CQ a0 a1 a2) then[] else(DH (a0,a1,(↑a1.length:Int),(0:Int),a2,[])).snd.snd.snd.snd.snd).getD (0:Nat) (Ae TC.view)).2)
def W9 (a0:List TGroup) (a1:List TRow) (a2:ByteArray):Bool:=bif(Fs a0 a1 a2) then false else true
def Xa (a0:List TGroup) (a1:List TRow) (a2:ByteArray):A:=.tup [.agg [.v (.string ((Qp a0 a1 a2).key)),.sl .field ((Qp a0 a1 a2).fields)],.v (.bool (W9 a0 a1 a2))]
def Apa (_a0:List TGroup) (_a1:List TRow) (_a2:ByteArray):Objs:=[]
def A8b (a0:List TGroup) (a1:List TRow) (a2:ByteArray):List Prop:=[(Az a1.length),((!(CQ a0 a1 a2))=true→AL Ha G9 J0 (Ia (a0,a1,(↑a1.length:Int),(0:Int),a2,[])) (a0,a1,(↑a1.length:Int),(0:Int),a2,[])),((!(Fs a0 a1 a2))=true→(0:Int)≤(0:Int)∧(0:Int) <(↑(bif(CQ a0 a1 a2) then[] else(DH (a0,a1,(↑a1.length:Int),(0:Int),a2,[])).snd.snd.snd.snd.snd).length:Int))]
set_option maxRecDepth 100000 in
theorem A8a (a0:List TGroup) (a1:List TRow) (a2:ByteArray):EU (AA Brj L0) 9 85 [.sl .group a0,Ak .rows a1,Ak .str a2] 0 []=some (1,Xa a0 a1 a2,0,Apa a0 a1 a2,[(Az a1.length),((!(CQ a0 a1 a2))=true→Aj Try.prog (146:FuncId) (0:Nat)=Aj Try.prog (146:FuncId) (0:Nat)),((!(CQ a0 a1 a2))=true→AL Ha G9 J0 (Ia (a0,a1,(↑a1.length:Int),(0:Int),a2,[])) (a0,a1,(↑a1.length:Int),(0:Int),a2,[])),((!(Fs a0 a1 a2))=true→(0:Int)≤(0:Int)∧(0:Int) <(↑(bif(CQ a0 a1 a2) then[] else(DH (a0,a1,(↑a1.length:Int),(0:Int),a2,[])).snd.snd.snd.snd.snd).length:Int)),((!(Fs a0 a1 a2))=true→(0:Nat) <(bif(CQ a0 a1 a2) then[] else(DH (a0,a1,(↑a1.length:Int),(0:Int),a2,[])).snd.snd.snd.snd.snd).length)]):=by kernel_rfl
set_option maxRecDepth 100000 in
theorem Beb (a0:List TGroup) (a1:List TRow) (a2:ByteArray) (hp:∀p∈A8b a0 a1 a2,p):CallOk Try.prog 85 [.sl .group a0,Ak .rows a1,Ak .str a2] 0 [] 1 (Xa a0 a1 a2) 0 (Apa a0 a1 a2):=by
 have n0:=N0 hp
 have n1:((!(CQ a0 a1 a2))=true→Aj Try.prog (146:FuncId) (0:Nat)=Aj Try.prog (146:FuncId) (0:Nat)):=by intros;rfl
 have n2:=N0 (N1 hp)
 have n3:((!(Fs a0 a1 a2))=true→(0:Int)≤(0:Int)∧(0:Int) <(↑(bif(CQ a0 a1 a2) then[] else(DH (a0,a1,(↑a1.length:Int),(0:Int),a2,[])).snd.snd.snd.snd.snd).length:Int)):=N0 (N1 (N1 hp))
 have n4:((!(Fs a0 a1 a2))=true→(0:Nat) <(bif(CQ a0 a1 a2) then[] else(DH (a0,a1,(↑a1.length:Int),(0:Int),a2,[])).snd.snd.snd.snd.snd).length):=by intro h0;have g:=n3 h0;omega
 exact AH (Aw Bbp AG) (A8a a0 a1 a2) (Aa n0 (Aa n1 (Aa n2 (Aa n3 (Aa n4 Ab)))))
def Ahv (a0:List TGroup) (a1:List TRow) (a2:ByteArray):A:=.tup [.agg [.v (.string (Bpn a0 a1 a2).key),.sl .field (Bpn a0 a1 a2).fields],.v (.bool (A97 a0 a1 a2))]
def Ahu (_a0:List TGroup) (_a1:List TRow) (_a2:ByteArray):Objs:=[]
def Aab (_a0:List TGroup) (a1:List TRow) (_a2:ByteArray):List Prop:=[Az a1.length]
theorem Br3 (l:List TGroup) (rows:List TRow) (key:ByteArray) (hb:Az rows.length):
  AL Ha G9 J0 (Ia (l,rows,(rows.length:Int),0,key,[])) (l,rows,(rows.length:Int),0,key,[])∧(DH (l,rows,(rows.length:Int),0,key,[])).snd.snd.snd.snd.snd=chL l (fun k=>k==key) 1 rows:=by
 unfold Az at hb
 have same:∀(c:Bool) (x:ByteArray),(bif c then x else x)=x:=fun c x=>by cases c<;>rfl
 obtain⟨h1,k,hk,hx,_,hst,_⟩:=I6 (fun i=>(l,rows,(rows.length:Int),(i:Int),key,chI l (fun k=>k==key) 1 rows i):Nat→EL) rows.length (fun i=>decide (((chI l (fun k=>k==key) 1 rows i).length:Int)≥1)) Ha G9 J0 (Ia (l,rows,(rows.length:Int),0,key,[])) (l,rows,(rows.length:Int),0,key,[]) rfl (by show rows.length≤((rows.length:Int) - 0).toNat;omega)
  (fun i _ _=>by
   show(!(!decide ((i:Int) <(rows.length:Int))||decide (((chI l (fun k=>k==key) 1 rows i).length:Int)≥1)))=_
   rw[Bool.not_or,nn,MA])
  (fun i hi h0=>by
   show(l,rows,(rows.length:Int),IntKind.i64.wrap ((i:Int)+1),QV l rows (rows.length:Int) (i:Int) key (chI l (fun k=>k==key) 1 rows i),QW l rows (rows.length:Int) (i:Int) key (chI l (fun k=>k==key) 1 rows i))=(l,rows,(rows.length:Int),((i+1:Nat):Int),key,chI l (fun k=>k==key) 1 rows (i+1))
   unfold QV QW
   rw[same,ES (by omega),Br2 rows i hi]
   unfold Ju chS
   rw[h0 i (Nat.lt_succ_self i),tlb,Int.toNat_natCast,cond_false]
   show(_,_,_,_,_,bif(bif KA l (BU rows i) then(BU rows i).key==key else false) then _ else _)=_
   cases KA l (BU rows i)<;>rfl)
  (fun i hi _=>by
   have hin:(!!decide ((i:Int) <(rows.length:Int)))=true→(i:Int) <(rows.length:Int):=fun h=>by rw[nn] at h;exact of_decide_eq_true h
   refine Aa (fun h=>⟨by show(0:Int)≤(i:Int);omega,hin h⟩) (Aa (fun _ h _=>?_) Ab)
   have h':(!decide (((chI l (fun k=>k==key) 1 rows i).length:Int)≥1))=true:=h
   have h2:¬((chI l (fun k=>k==key) 1 rows i).length:Int)≥1:=by simpa using h'
   show Ai ((chI l (fun k=>k==key) 1 rows i).length+1)
   unfold Ai
   omega)
 have hr:DH (l,rows,(rows.length:Int),0,key,[])=(l,rows,(rows.length:Int),(k:Int),key,chI l (fun k=>k==key) 1 rows k):=hx
 refine⟨h1,?_⟩
 rw[hr]
 show chI l (fun k=>k==key) 1 rows k=_
 rcases Nat.lt_or_ge k rows.length with h|h
 ·exact(Br1 rows (of_decide_eq_true (hst h))).symm
 ·rw[show k=rows.length by omega,Bwn]
theorem A79 (a0:List TGroup) (a1:List TRow) (a2:ByteArray) (hp:∀p∈Aab a0 a1 a2,p):CallOk Try.prog 85 [.sl .group a0,Ak .rows a1,Ak .str a2] 0 [] 1 (Ahv a0 a1 a2) 0 (Ahu a0 a1 a2):=by
 have hb:Az a1.length:=hp _ (List.mem_cons_self ..)
 obtain⟨g1,g2⟩:=Br3 a0 a1 a2 hb
 have hL:(bif CQ a0 a1 a2 then[] else(DH (a0,a1,(a1.length:Int),(0:Int),a2,[])).snd.snd.snd.snd.snd)=bif A97 a0 a1 a2 then[Bpn a0 a1 a2] else[]:=by
  rw[g2]
  unfold CQ A97 Bpn
  cases hg:Gq a0 a1 !=0 with
  |true=>
   have:(Gq a0 a1==0)=false:=by simpa using hg
   rw[this]
   rfl
  |false=>
   have h0:Gq a0 a1=0:=by simpa using hg
   have:(Gq a0 a1==0)=true:=by simpa using h0
   rw[this,cond_false,Bmg (Ak1 h0).2.rise]
   rfl
 have hk:Fs a0 a1 a2=!A97 a0 a1 a2:=by
  unfold Fs
  rw[hL]
  cases A97 a0 a1 a2<;>rfl
 have h:=Beb a0 a1 a2 (Aa hb (Aa (fun _=>g1) (Aa (fun h=>by
  rw[hk,Bool.not_not] at h
  rw[hL,h]
  exact⟨Int.le_refl _,show(0:Int) <((1:Nat):Int) by decide⟩) Ab)))
 have e0:Qp a0 a1 a2=Bpn a0 a1 a2:=by
  unfold Qp
  rw[hk,hL]
  cases hs:A97 a0 a1 a2 with
  |true=>rfl
  | false=>
   unfold A97 at hs
   unfold Bpn
   cases hg:Gq a0 a1==0 with
   |false=>rfl
   |true=>
    rw[hg,Bool.true_and] at hs
    rw[cond_true,Bw5 hs]
    rfl
 have e1:W9 a0 a1 a2=A97 a0 a1 a2:=by
  unfold W9
  rw[hk]
  cases A97 a0 a1 a2<;>rfl
 unfold Xa at h
 rw[e0,e1] at h
 exact h
def Xb:List A→Nat→Objs→Option A8
 | [y0,y1,y2],nx,o=>match Kp .group y0,AP .rows y1,AP .str y2 with
  |some a0,some (a1,p1),some (a2,p2)=>some (1,(Ahv a0 a1 a2).pk (AF nx),nx+0,AE nx (Ahu a0 a1 a2)++o,p1++(p2++(Aab a0 a1 a2)))
  |_,_,_=>none
 |_,_,_=>none
theorem A15:Fu Try.prog 85 Xb:=fun args nx o k x nx' o' ps h=>by
 unfold Xb at h
 split at h<;>first|(cases h;done)|skip
 split at h<;>first|(cases h;done)|skip
 rename_i a0 a1 p1 a2 p2 e0 e1 e2
 cases h
 refine⟨fun hp=>?_,_,rfl⟩
 have q1:=fun p hm=>hp p (List.mem_append.2 (.inl hm))
 have r1:=fun p hm=>hp p (List.mem_append.2 (.inr hm))
 have q2:=fun p hm=>r1 p (List.mem_append.2 (.inl hm))
 have r2:=fun p hm=>r1 p (List.mem_append.2 (.inr hm))
 refine Ah (Ag (A79 a0 a1 a2 r2) (Nat.le_refl _) (Ac rfl (Ac (Af _ _) (Ac (Af _ _) Ao))) nx o) fun F N R vs hl=>?_
 obtain⟨v0,w0,rfl,h0,hl⟩:=hl.inv
 obtain⟨v1,w1,rfl,h1,hl⟩:=hl.inv
 obtain⟨v2,w2,rfl,h2,hl⟩:=hl.inv
 exact HL.cons (Cx e0 h0) (HL.cons (Am e1 q1 h1) (HL.cons (Am e2 q2 h2) (hl)))
noncomputable def Brk:=A5 85 Xb Brj
theorem Bbq:Df Try.prog Brk:=Av A15 Bbp
def A7v:ByteArray:=ByteArray.mk #[(97:UInt8)]
def A7w:ByteArray:=ByteArray.mk #[(98:UInt8)]
def Ahp:A:=.sq 0
def Aho:Objs:=[(0,some (.arr 79 2 (.lst [[.v (.string A7v),.v (.int .i64 ((1:Int)))],[.v (.string A7w),.v (.int .i64 ((2:Int)))]])))]
def A10:List Prop:=[]
set_option maxRecDepth 100000 in
theorem A1z:EU (AA Brk L0) 9 141 [] 0 []=some (1,Ahp,1,Aho,[]):=by kernel_rfl
set_option maxRecDepth 100000 in
theorem A7x (_hp:∀p∈A10,p):CallOk Try.prog 141 [] 0 [] 1 (Ahp) 1 (Aho):=by
 exact AH (Aw Bbq AG) (A1z) Ab
def Bnm:List TGroup:=[⟨⟨#[97]⟩,1⟩,⟨⟨#[98]⟩,2⟩]
def Z8:A:=.sl .group Bnm
def Z7:Objs:=[]
def WV:List Prop:=[]
theorem A1y (_hp:∀p∈WV,p):CallOk Try.prog 141 [] 0 [] 1 Z8 0 Z7:=by
 have h:=A7x (fun p h=>by cases h)
 exact A4b (c:=.group) (Bn9 (c:=.group) (l:=Bnm) (ps:=[]) h rfl (fun p h=>by cases h))
def T2:List A→Nat→Objs→Option A8
 | [],nx,o=>some (1,(Z8).pk (AF nx),nx+0,AE nx (Z7)++o,WV)
 |_,_,_=>none
theorem Awy:Fu Try.prog 141 T2:=fun args nx o k x nx' o' ps h=>by
 unfold T2 at h
 split at h<;>first|(cases h;done)|skip
 cases h
 refine⟨fun hp=>?_,_,rfl⟩
 refine Ah (Ag (A1y hp) (Nat.le_refl _) Ao nx o) fun F N R vs hl=>?_
 exact hl
noncomputable def Brl:=A5 141 T2 Brk
theorem Bbr:Df Try.prog Brl:=Av Awy Bbq
def Alo (a0:Int) (a1:Int) (a2:Int) (a3:TVec) (_a4:TWrite):A:=.agg [.v (.int .i64 a0),.v (.int .i64 a1),.v (.int .i64 a2),.v (.int .i64 a0),.v (.int .i64 a3.1),.v (.int .i64 a3.2),.sq 0]
def Aln (_a0:Int) (_a1:Int) (_a2:Int) (_a3:TVec) (a4:TWrite):Objs:=[(0,some (.arr 139 4 (.lst [[.v (.string a4.1),.v (.int .i64 a4.2),.v (.bool a4.3),.v (.string a4.4)]])))]
def Awx (_a0:Int) (_a1:Int) (_a2:Int) (_a3:TVec) (_a4:TWrite):List Prop:=[]
set_option maxRecDepth 100000 in
theorem Bh9 (a0:Int) (a1:Int) (a2:Int) (a3:TVec) (a4:TWrite):EU (AA Brl L0) 9 140 [Ak .i64 a0,Ak .i64 a1,Ak .i64 a2,Ak .vec a3,Ak .write a4] 0 []=some (1,Alo a0 a1 a2 a3 a4,1,Aln a0 a1 a2 a3 a4,[]):=by kernel_rfl
set_option maxRecDepth 100000 in
theorem Bot (a0:Int) (a1:Int) (a2:Int) (a3:TVec) (a4:TWrite) (_hp:∀p∈Awx a0 a1 a2 a3 a4,p):CallOk Try.prog 140 [Ak .i64 a0,Ak .i64 a1,Ak .i64 a2,Ak .vec a3,Ak .write a4] 0 [] 1 (Alo a0 a1 a2 a3 a4) 1 (Aln a0 a1 a2 a3 a4):=by
 exact AH (Aw Bbr AG) (Bh9 a0 a1 a2 a3 a4) Ab
def Alp:List A→Nat→Objs→Option A8
 | [y0,y1,y2,y3,y4],nx,o=>match AP .i64 y0,AP .i64 y1,AP .i64 y2,AP .vec y3,AP .write y4 with
  |some (a0,p0),some (a1,p1),some (a2,p2),some (a3,p3),some (a4,p4)=>some (1,(Alo a0 a1 a2 a3 a4).pk (AF nx),nx+1,AE nx (Aln a0 a1 a2 a3 a4)++o,p0++(p1++(p2++(p3++(p4++(Awx a0 a1 a2 a3 a4))))))
  |_,_,_,_,_=>none
 |_,_,_=>none
theorem Bdv:Fu Try.prog 140 Alp:=fun args nx o k x nx' o' ps h=>by
 unfold Alp at h
 split at h<;>first|(cases h;done)|skip
 split at h<;>first|(cases h;done)|skip
 rename_i a0 p0 a1 p1 a2 p2 a3 p3 a4 p4 e0 e1 e2 e3 e4
 cases h
 refine⟨fun hp=>?_,_,rfl⟩
 have q0:=fun p hm=>hp p (List.mem_append.2 (.inl hm))
 have r0:=fun p hm=>hp p (List.mem_append.2 (.inr hm))
 have q1:=fun p hm=>r0 p (List.mem_append.2 (.inl hm))
 have r1:=fun p hm=>r0 p (List.mem_append.2 (.inr hm))
 have q2:=fun p hm=>r1 p (List.mem_append.2 (.inl hm))
 have r2:=fun p hm=>r1 p (List.mem_append.2 (.inr hm))
 have q3:=fun p hm=>r2 p (List.mem_append.2 (.inl hm))
 have r3:=fun p hm=>r2 p (List.mem_append.2 (.inr hm))
 have q4:=fun p hm=>r3 p (List.mem_append.2 (.inl hm))
 have r4:=fun p hm=>r3 p (List.mem_append.2 (.inr hm))
 refine Ah (Ag (Bot a0 a1 a2 a3 a4 r4) (Nat.le_refl _) (Ac (Af _ _) (Ac (Af _ _) (Ac (Af _ _) (Ac (Af _ _) (Ac (Af _ _) Ao))))) nx o) fun F N R vs hl=>?_
 obtain⟨v0,w0,rfl,h0,hl⟩:=hl.inv
 obtain⟨v1,w1,rfl,h1,hl⟩:=hl.inv
 obtain⟨v2,w2,rfl,h2,hl⟩:=hl.inv
 obtain⟨v3,w3,rfl,h3,hl⟩:=hl.inv
 obtain⟨v4,w4,rfl,h4,hl⟩:=hl.inv
 exact HL.cons (Am e0 q0 h0) (HL.cons (Am e1 q1 h1) (HL.cons (Am e2 q2 h2) (HL.cons (Am e3 q3 h3) (HL.cons (Am e4 q4 h4) (hl)))))
noncomputable def Brm:=A5 140 Alp Brl
theorem Bbs:Df Try.prog Brm:=Av Bdv Bbr
def l13_lives_k0:List TChange:=[TChange.mk (1:Int) (1:Int) (TStamp.mk (1:Int) (1:Int)) (TVec.mk (1:Int) (0:Int)) [TWrite.mk (ByteArray.mk #[(107:UInt8)]) (0:Int) false (ByteArray.mk #[(120:UInt8)])],TChange.mk (2:Int) (1:Int) (TStamp.mk (1:Int) (2:Int)) (TVec.mk (0:Int) (1:Int)) [TWrite.mk (ByteArray.mk #[(107:UInt8)]) (0:Int) true (ByteArray.mk #[])]]
def Ao3:A:=.v (.bool (true))
def Ao2:Objs:=[]
def A7u:List Prop:=[((2:Nat)≤(7000:Nat)∧∀(c:TChange),c∈(l13_lives_k0)→Az c.5.length),((3:Nat)≤(7000:Nat)∧∀(c:TChange),c∈TChange.mk (1:Int) (2:Int) (TStamp.mk (2:Int) (1:Int)) (TVec.mk (2:Int) (0:Int)) [TWrite.mk (ByteArray.mk #[(107:UInt8)]) (0:Int) false (ByteArray.mk #[(121:UInt8)])]::(l13_lives_k0)→Az c.5.length),(Az (1:Nat))]
set_option maxRecDepth 100000 in
theorem A7t:EU (AA Brm L0) 9 81 [] 0 []=some (1,Ao3,0,Ao2,[((2:Nat)≤(7000:Nat)∧∀(c:TChange),c∈(l13_lives_k0)→Az c.5.length),((3:Nat)≤(7000:Nat)∧∀(c:TChange),c∈TChange.mk (1:Int) (2:Int) (TStamp.mk (2:Int) (1:Int)) (TVec.mk (2:Int) (0:Int)) [TWrite.mk (ByteArray.mk #[(107:UInt8)]) (0:Int) false (ByteArray.mk #[(121:UInt8)])]::(l13_lives_k0)→Az c.5.length),(Az (1:Nat)),(Az (1:Nat)),(true=true→(0:Int)≤(0:Int)∧(0:Int) <(1:Int))]):=by kernel_rfl
set_option maxRecDepth 100000 in
theorem Bdu (hp:∀p∈A7u,p):CallOk Try.prog 81 [] 0 [] 1 (Ao3) 0 (Ao2):=by
 have n0:=N0 hp
 have n1:=N0 (N1 hp)
 have n2:(Az (1:Nat)):=N0 (N1 (N1 hp))
 have n4:(true=true→(0:Int)≤(0:Int)∧(0:Int) <(1:Int)):=by first|rfl|decide+kernel
 exact AH (Aw Bbs AG) (A7t) (Aa n0 (Aa n1 (Aa n2 (Aa n2 (Aa n4 Ab)))))
def Ahn:A:=.v (.bool true)
def Ahm:Objs:=[]
def Z6:List Prop:=[]
theorem Bd5:∀c∈l13_lives_k0,Az c.5.length:=fun c hc=>by
 have h:l13_lives_k0.all (fun c=>Nat.beq c.5.length 1)=true:=rfl
 have h2:c.5.length=1:=Nat.eq_of_beq_eq_true (List.all_eq_true.1 h c hc)
 unfold Az
 omega
theorem A7s (_hp:∀p∈Z6,p):CallOk Try.prog 81 [] 0 [] 1 Ahn 0 Ahm:=
 Bdu (Aa ⟨by omega,Bd5⟩ (Aa ⟨by omega,fun c hc=>by
  rcases List.mem_cons.1 hc with rfl|hc
  ·show(1:Nat)≤9223372036854775807
   omega
  ·exact Bd5 c hc⟩ (Aa (by unfold Az;omega) Ab)))
def WU:List A→Nat→Objs→Option A8
 | [],nx,o=>some (1,(Ahn).pk (AF nx),nx+0,AE nx (Ahm)++o,Z6)
 |_,_,_=>none
theorem A1x:Fu Try.prog 81 WU:=fun args nx o k x nx' o' ps h=>by
 unfold WU at h
 split at h<;>first|(cases h;done)|skip
 cases h
 refine⟨fun hp=>?_,_,rfl⟩
 refine Ah (Ag (A7s hp) (Nat.le_refl _) Ao nx o) fun F N R vs hl=>?_
 exact hl
noncomputable def Bza:=A5 81 WU Brm
theorem Brn:Df Try.prog Bza:=Av A1x Bbs
noncomputable def Cmv:=Bza
theorem B0j:Df Try.prog Cmv:=Brn
end Go.Proofs.Yteebobbhhgmeiaa
namespace Go.Proofs.Yteebobbhhgmeiaa
open Go.RowKit
theorem Bmb {l:List TGroup} {cs:List TChange}:Ko cs.length (fun i=>NV l (KO cs i)==0)=true↔∀c∈cs,NV l c=0:=by
 rw[IU]
 constructor
 ·intro ha c hc
  obtain⟨i,hi,rfl⟩:=List.mem_iff_getElem.1 hc
  have h3:NV l (KO cs i)=0:=by simpa using ha i hi
  have h4:KO cs i=cs[i]:=by unfold KO;rw[List.getD_eq_getElem?_getD,List.getElem?_eq_getElem hi];rfl
  rw[←h4]
  exact h3
 ·intro h i hi
  have h2:NV l (KO cs i)=0:=h _ (getD_in cs (Ae TC.change) i hi)
  rw[h2]
  rfl
theorem Bgp {l:List TGroup} {cs ds:List TChange} (h:∀z,z∈cs↔z∈ds):stE l cs=stE l ds:=by
 have e:Ko cs.length (fun i=>NV l (KO cs i)==0)=Ko ds.length (fun i=>NV l (KO ds i)==0):=by
  rw[Bool.eq_iff_iff,Bmb,Bmb]
  exact⟨fun g c hc=>g c ((h c).2 hc),fun g c hc=>g c ((h c).1 hc)⟩
 unfold stE
 rw[e]
theorem Bns (l:List TGroup) (cs:List TChange):stN l cs cs.length=stF (cs.map (PR l)):=by
 rw[Bnt l cs cs.length (Nat.le_refl _),List.take_length]
theorem Bm2 (l:List TGroup) (cs:List TChange):∀s∈cs.map (PR l),Stt l (nb s):=fun s hs=>by
 obtain⟨c,_,rfl⟩:=List.mem_map.1 hs
 exact Bif l c
theorem Bus {l:List TGroup} {cs ds:List TChange} (h:∀z,z∈cs↔z∈ds):stR l cs=stR l ds:=by
 unfold stR
 rw[Bgp h,Bns,Bns]
 have e:stF (cs.map (PR l))=stF (ds.map (PR l)):=Buq (Bm2 l cs) (Bm2 l ds) fun z=>by
  rw[List.mem_map,List.mem_map]
  exact⟨fun⟨c,h1,h2⟩=>⟨c,(h c).1 h1,h2⟩,fun⟨c,h1,h2⟩=>⟨c,(h c).2 h1,h2⟩⟩
 rw[e]
theorem Byc (l:List TGroup) (cs:List TChange):(stR l cs).length≤8*cs.length:=by
 unfold stR
 cases stE l cs==0 with
 |true=>exact Baa l cs cs.length
 |false=>exact Nat.zero_le _
end Go.Proofs.Yteebobbhhgmeiaa
namespace Go.Proofs.Yteebobbhhgmeiaa
open Go.RowKit
noncomputable def Bzb:=A5 45 Ql Cmv
theorem Brp:Df Try.prog Bzb:=Av Z5 B0j
noncomputable def A31:=A5 49 Amr Bzb
theorem Au6:Df Try.prog A31:=Av Bfb Brp
abbrev Be:Type:=(List TChange)×(List Int)×Int×Int×(List TChange)
def H4 (x:Be):St:=⟨90,3,[(1,.sl .change x.1),(9,.sq 2),(36,.sl .i64 x.2.1),(37,.v (.int .i64 x.2.2.1)),(38,.v (.int .i64 x.2.2.2.1))],[(2,some (.arr 136 7 (.ty .change x.2.2.2.2)))]⟩
def JD:St→Option Be
 |⟨90,3,[(1,.sl .change z0),(9,.sq 2),(36,.sl .i64 z1),(37,.v (.int .i64 z2)),(38,.v (.int .i64 z3))],[(2,some (.arr 136 7 (.ty .change z4)))]⟩=>some (z0,z1,z2,z3,z4)
 |_=>none
theorem T0:∀s x,JD s=some x→s=H4 x:=fun s x h=>by
 unfold JD at h
 split at h
 ·cases h;rfl
 ·cases h
def NI:De:=⟨2,3,[1,9,36,37,38],[],[(4,2)],[4],[9],[2]⟩
def Zv:Dy:=⟨[.nil 9 136 .change],[(1,2)],[1,9,36,37,38],[1]⟩
def Di (a0:List TChange) (a1:List Int) (_a2:Int) (a3:Int) (_a4:List TChange):Int:=IntKind.i64.wrap ((IntKind.u64.wrap (a1.getD a3.toNat (Ae TC.i64))).tmod (IntKind.u64.wrap (↑a0.length:Int)))
def Jj (a0:List TChange) (a1:List Int) (a2:Int) (a3:Int) (a4:List TChange):List TChange:=a4++[a0.getD (Di a0 a1 a2 a3 a4).toNat (Ae TC.change)]
def BX (x:Be):Be:=(x.1,x.2.1,x.2.2.1,IntKind.i64.wrap (x.2.2.2.1+(1:Int)),Jj x.1 x.2.1 x.2.2.1 x.2.2.2.1 x.2.2.2.2)
def BW (x:Be):Cnd:=some (!!decide (x.2.2.2.1 <x.2.2.1))
def L1 (x:Be):List Prop:=[((!!decide (x.2.2.2.1 <x.2.2.1))=true→(0:Int)≤x.2.2.2.1∧x.2.2.2.1 <(↑x.2.1.length:Int)),((!!decide (x.2.2.2.1 <x.2.2.1))=true→IntKind.u64.wrap (↑x.1.length:Int)≠(0:Int)),((!!decide (x.2.2.2.1 <x.2.2.1))=true→(0:Int)≤(Di x.1 x.2.1 x.2.2.1 x.2.2.2.1 x.2.2.2.2)∧(Di x.1 x.2.1 x.2.2.1 x.2.2.2.1 x.2.2.2.2) <(↑x.1.length:Int)),((!!decide (x.2.2.2.1 <x.2.2.1))=true→Ai (x.2.2.2.2.length+(1:Nat)))]
def DZ (x:Be):List Prop:=[((!!decide (x.2.2.2.1 <x.2.2.1))=true→(0:Int)≤x.2.2.2.1∧x.2.2.2.1 <(↑x.2.1.length:Int)),((!!decide (x.2.2.2.1 <x.2.2.1))=true→IntKind.u64.wrap (↑x.1.length:Int)≠(0:Int)),((!!decide (x.2.2.2.1 <x.2.2.1))=true→(0:Int)≤(Di x.1 x.2.1 x.2.2.1 x.2.2.2.1 x.2.2.2.2)∧(Di x.1 x.2.1 x.2.2.1 x.2.2.2.1 x.2.2.2.2) <(↑x.1.length:Int)),((!!decide (x.2.2.2.1 <x.2.2.1))=true→Ai (x.2.2.2.2.length+(1:Nat)))]
def Lz (x:Be):Bl:=[(some 0,some (!decide (x.2.2.2.1 <x.2.2.1)),⟨90,3,[(9,.sq 2)],[(2,some (.arr 136 7 (.ty .change x.2.2.2.2)))]⟩)]
def Dj (x:Be):Nat:=(x.2.2.1 - x.2.2.2.1).toNat
def CJ (x:Be):Be:=A9 BX BW (Dj x) x
set_option maxRecDepth 100000 in
theorem WQ (a0:List TChange) (a1:List Int) (a2:Int) (a3:Int) (a4:List TChange):Bx (AA A31 L0) 9 (Aj Try.prog 19 0) NI (H4 (a0,a1,a2,a3,a4))=some (L1 (a0,a1,a2,a3,a4),Lz (a0,a1,a2,a3,a4),BW (a0,a1,a2,a3,a4),H4 (BX (a0,a1,a2,a3,a4))):=by kernel_rfl
set_option maxRecDepth 100000 in
theorem WR (a0:List TChange) (a1:List Int) (a2:Int) (a3:Int) (a4:List TChange) (hp:∀p∈DZ (a0,a1,a2,a3,a4),p):∀p∈L1 (a0,a1,a2,a3,a4),p:=by
 have n0:=N0 hp
 have n1:=N0 (N1 hp)
 have n2:=N0 (N1 (N1 hp))
 have n3:=N0 (N1 (N1 (N1 hp)))
 exact(Aa n0 (Aa n1 (Aa n2 (Aa n3 Ab))))
noncomputable def L2:=HU (AA A31 L0) (Aj Try.prog 19 0) NI Zv JD Dj BX BW DZ Lz
theorem VP:∀s b ps outs,L2 s=some (b,ps,outs)→Wf s ⟨ps,outs,none⟩∧Bs (AA C0 L0) b s ps outs:=
 Bi (T:=H4) Au6 AG (u:=9) (by kernel_rfl) (by decide) (fun⟨a0,a1,a2,a3,a4⟩=>WQ a0 a1 a2 a3 a4) (fun⟨a0,a1,a2,a3,a4⟩=>WR a0 a1 a2 a3 a4) T0 (fun _=>AR (n:=90) rfl) fun _ _=>rfl
noncomputable def H3:=DG 0 L2 L0
theorem LZ:Hs H3:=A3 VP AG
abbrev Bf:Type:=(List TChange)×Int×Int×(List TChange)
def H5 (x:Bf):St:=⟨90,4,[(1,.sl .change x.1),(9,.sq 3),(57,.v (.int .i64 x.2.1)),(58,.v (.int .i64 x.2.2.1))],[(3,some (.arr 136 7 (.ty .change x.2.2.2)))]⟩
def JE:St→Option Bf
 |⟨90,4,[(1,.sl .change z0),(9,.sq 3),(57,.v (.int .i64 z1)),(58,.v (.int .i64 z2))],[(3,some (.arr 136 7 (.ty .change z3)))]⟩=>some (z0,z1,z2,z3)
 |_=>none
theorem T1:∀s x,JE s=some x→s=H5 x:=fun s x h=>by
 unfold JE at h
 split at h
 ·cases h;rfl
 ·cases h
def NK:De:=⟨3,4,[1,9,57,58],[],[(5,3)],[5],[9],[3]⟩
def Zw:Dy:=⟨[],[(2,3)],[1,9,57,58],[2]⟩
def Bn (a0:List TChange) (_a1:Int) (a2:Int) (_a3:List TChange):Int:=IntKind.i64.wrap (IntKind.i64.wrap ((↑a0.length:Int) - (1:Int)) - a2)
def Jk (a0:List TChange) (a1:Int) (a2:Int) (a3:List TChange):List TChange:=a3++[a0.getD (Bn a0 a1 a2 a3).toNat (Ae TC.change)]
def BZ (x:Bf):Bf:=(x.1,x.2.1,IntKind.i64.wrap (x.2.2.1+(1:Int)),Jk x.1 x.2.1 x.2.2.1 x.2.2.2)
def BY (x:Bf):Cnd:=some (!!decide (x.2.2.1 <x.2.1))
def L3 (x:Bf):List Prop:=[((!!decide (x.2.2.1 <x.2.1))=true→(0:Int)≤(Bn x.1 x.2.1 x.2.2.1 x.2.2.2)∧(Bn x.1 x.2.1 x.2.2.1 x.2.2.2) <(↑x.1.length:Int)),((!!decide (x.2.2.1 <x.2.1))=true→Ai (x.2.2.2.length+(1:Nat)))]
def D0 (x:Bf):List Prop:=[((!!decide (x.2.2.1 <x.2.1))=true→(0:Int)≤(Bn x.1 x.2.1 x.2.2.1 x.2.2.2)∧(Bn x.1 x.2.1 x.2.2.1 x.2.2.2) <(↑x.1.length:Int)),((!!decide (x.2.2.1 <x.2.1))=true→Ai (x.2.2.2.length+(1:Nat)))]
def LA (x:Bf):Bl:=[(some 2,some (!decide (x.2.2.1 <x.2.1)),⟨90,4,[(9,.sq 3)],[(3,some (.arr 136 7 (.ty .change x.2.2.2)))]⟩)]
def Dk (x:Bf):Nat:=(x.2.1 - x.2.2.1).toNat
def Jl (x:Bf):Bf:=A9 BZ BY (Dk x) x
set_option maxRecDepth 100000 in
theorem WS (a0:List TChange) (a1:Int) (a2:Int) (a3:List TChange):Bx (AA A31 H3) 9 (Aj Try.prog 19 2) NK (H5 (a0,a1,a2,a3))=some (L3 (a0,a1,a2,a3),LA (a0,a1,a2,a3),BY (a0,a1,a2,a3),H5 (BZ (a0,a1,a2,a3))):=by kernel_rfl
set_option maxRecDepth 100000 in
theorem WT (a0:List TChange) (a1:Int) (a2:Int) (a3:List TChange) (hp:∀p∈D0 (a0,a1,a2,a3),p):∀p∈L3 (a0,a1,a2,a3),p:=by
 have n0:=N0 hp
 have n1:=N0 (N1 hp)
 exact(Aa n0 (Aa n1 Ab))
noncomputable def L4:=HU (AA A31 H3) (Aj Try.prog 19 2) NK Zw JE Dk BZ BY D0 LA
theorem VR:∀s b ps outs,L4 s=some (b,ps,outs)→Wf s ⟨ps,outs,none⟩∧Bs (AA C0 L0) b s ps outs:=
 Bi (T:=H5) Au6 LZ (u:=9) (by kernel_rfl) (by decide) (fun⟨a0,a1,a2,a3⟩=>WS a0 a1 a2 a3) (fun⟨a0,a1,a2,a3⟩=>WT a0 a1 a2 a3) T1 (fun _=>AR (n:=90) rfl) fun _ _=>rfl
noncomputable def NJ:=DG 2 L4 H3
theorem VQ:Hs NJ:=A3 VR LZ
def AI (a0:List TGroup) (a1:List TChange) (a2:List Int):Bool:=!M2 a0 a1 []||decide ((↑a2.length:Int) >(60:Int))||(↑a1.length:Int)==(0:Int)
def CP (_a0:List TGroup) (a1:List TChange) (a2:List Int):List TChange:=(Jl (a1,(↑a1.length:Int),(0:Int),(CJ (a1,a2,(↑a2.length:Int),(0:Int),[])).snd.snd.snd.snd)).snd.snd.snd
def J7 (a0:List TGroup) (a1:List TChange) (a2:List Int):Bool:=bif(AI a0 a1 a2) then true else bif Bol (stR a0 a1) (stR a0 (CP a0 a1 a2))&&stE a0 a1==stE a0 (CP a0 a1 a2) then true else false
def Ml (a0:List TGroup) (a1:List TChange) (a2:List Int):A:=.v (.bool (J7 a0 a1 a2))
def SJ (_a0:List TGroup) (_a1:List TChange) (_a2:List Int):Objs:=[]
def Qm (a0:List TGroup) (a1:List TChange) (a2:List Int):List Prop:=[(Az a0.length∧(Az a1.length∧∀(c:TChange),c∈a1→UF c)∧Az (0:Nat)∧∀(x:List TRow),x∈[]→Az x.length∧∀(r:TRow),r∈x→YN r),((!(AI a0 a1 a2))=true→a1.length≤(7000:Nat)∧∀(c:TChange),c∈a1→Az c.5.length),((!(AI a0 a1 a2))=true→AL BX BW DZ (Dj (a1,a2,(↑a2.length:Int),(0:Int),[])) (a1,a2,(↑a2.length:Int),(0:Int),[])),((!(AI a0 a1 a2))=true→AL BZ BY D0 (Dk (a1,(↑a1.length:Int),(0:Int),(CJ (a1,a2,(↑a2.length:Int),(0:Int),[])).snd.snd.snd.snd)) (a1,(↑a1.length:Int),(0:Int),(CJ (a1,a2,(↑a2.length:Int),(0:Int),[])).snd.snd.snd.snd)),((!(AI a0 a1 a2))=true→(CP a0 a1 a2).length≤(7000:Nat)∧∀(c:TChange),c∈(CP a0 a1 a2)→Az c.5.length),((!(AI a0 a1 a2))=true→Az (stR a0 a1).length),((!(AI a0 a1 a2))=true→∀(r:TRow),r∈stR a0 a1→Ai r.2.length)]
set_option maxRecDepth 100000 in
theorem Ahl (a0:List TGroup) (a1:List TChange) (a2:List Int):EU (AA A31 NJ) 9 19 [.sl .group a0,.sl .change a1,Ak .ints a2] 0 []=some (1,Ml a0 a1 a2,0,SJ a0 a1 a2,[(Az a0.length∧(Az a1.length∧∀(c:TChange),c∈a1→UF c)∧Az (0:Nat)∧∀(x:List TRow),x∈[]→Az x.length∧∀(r:TRow),r∈x→YN r),((!(AI a0 a1 a2))=true→a1.length≤(7000:Nat)∧∀(c:TChange),c∈a1→Az c.5.length),((!(AI a0 a1 a2))=true→Aj Try.prog (19:FuncId) (0:Nat)=Aj Try.prog (19:FuncId) (0:Nat)),((!(AI a0 a1 a2))=true→AL BX BW DZ (Dj (a1,a2,(↑a2.length:Int),(0:Int),[])) (a1,a2,(↑a2.length:Int),(0:Int),[])),((!(AI a0 a1 a2))=true→Aj Try.prog (19:FuncId) (2:Nat)=Aj Try.prog (19:FuncId) (2:Nat)),((!(AI a0 a1 a2))=true→AL BZ BY D0 (Dk (a1,(↑a1.length:Int),(0:Int),(CJ (a1,a2,(↑a2.length:Int),(0:Int),[])).snd.snd.snd.snd)) (a1,(↑a1.length:Int),(0:Int),(CJ (a1,a2,(↑a2.length:Int),(0:Int),[])).snd.snd.snd.snd)),((!(AI a0 a1 a2))=true→(CP a0 a1 a2).length≤(7000:Nat)∧∀(c:TChange),c∈(CP a0 a1 a2)→Az c.5.length),((!(AI a0 a1 a2))=true→Az (stR a0 a1).length),((!(AI a0 a1 a2))=true→∀(r:TRow),r∈stR a0 a1→Ai r.2.length),((!(AI a0 a1 a2))=true→false=false)]):=by kernel_rfl
set_option maxRecDepth 100000 in
theorem Alm (a0:List TGroup) (a1:List TChange) (a2:List Int) (hp:∀p∈Qm a0 a1 a2,p):CallOk Try.prog 19 [.sl .group a0,.sl .change a1,Ak .ints a2] 0 [] 1 (Ml a0 a1 a2) 0 (SJ a0 a1 a2):=by
 have n0:=N0 hp
 have n1:=N0 (N1 hp)
 have n2:((!(AI a0 a1 a2))=true→Aj Try.prog (19:FuncId) (0:Nat)=Aj Try.prog (19:FuncId) (0:Nat)):=by intros;rfl
 have n3:=N0 (N1 (N1 hp))
 have n4:((!(AI a0 a1 a2))=true→Aj Try.prog (19:FuncId) (2:Nat)=Aj Try.prog (19:FuncId) (2:Nat)):=by intros;rfl
 have n5:=N0 (N1 (N1 (N1 hp)))
 have n6:=N0 (N1 (N1 (N1 (N1 hp))))
 have n7:=N0 (N1 (N1 (N1 (N1 (N1 hp)))))
 have n8:=N0 (N1 (N1 (N1 (N1 (N1 (N1 hp))))))
 have n9:((!(AI a0 a1 a2))=true→false=false):=by intros;rfl
 exact AH (Aw Au6 VQ) (Ahl a0 a1 a2) (Aa n0 (Aa n1 (Aa n2 (Aa n3 (Aa n4 (Aa n5 (Aa n6 (Aa n7 (Aa n8 (Aa n9 Ab))))))))))
end Go.Proofs.Yteebobbhhgmeiaa
namespace Go.Proofs.Yteebobbhhgmeiaa
open Go.RowKit
theorem Bvt {a1:List TChange} (w1:a1.length≤maxLen∧∀y∈a1,Wfd .change y):Az a1.length∧∀c∈a1,UF c:=
 ⟨w1.1,fun c hc=>⟨(w1.2 c hc).2.2.2.2.1,fun w hw=>⟨((w1.2 c hc).2.2.2.2.2 w hw).1,((w1.2 c hc).2.2.2.2.2 w hw).2.2.2⟩⟩⟩
theorem Bxd {l:List TGroup} {cs:List TChange} (hl:Az l.length) (hc:Az cs.length∧∀c∈cs,UF c):(Az l.length∧(Az cs.length∧∀c∈cs,UF c)∧Az (0:Nat)∧∀x∈([]:List (List TRow)),Az x.length∧∀r∈x,YN r)∧(M2 l cs []=true→cs.length≤6000):=by
 have h1:Az ([]:List (List TRow)).length:=by unfold Az;exact Nat.zero_le _
 have h2:∀x∈([]:List (List TRow)),Az x.length∧∀r∈x,YN r:=fun x hx=>by cases hx
 exact⟨⟨hl,hc,h1,h2⟩,fun h=>((Aw0 l cs [] hl hc h1 h2).2 h).2.1.1⟩
theorem A5k (l:List TGroup) {cs:List TChange} (h:cs.length≤7000):Az (stR l cs).length∧∀r∈stR l cs,Ai r.cells.length:=by
 have h1:=Byc l cs
 refine⟨by unfold Az;omega,fun r hr=>?_⟩
 have g:=((Byd l cs).good r hr).1
 rw[(AV g).2.1]
 have:=(Hr (AV g).1).2
 unfold Ai
 omega
end Go.Proofs.Yteebobbhhgmeiaa
namespace Go.Proofs.Yteebobbhhgmeiaa
open Go.RowKit
theorem Bnx {n:Nat} (hn:n≤100000):IntKind.u64.wrap (n:Int)=n:=by
 simp only[IntKind.wrap,IntKind.signed,IntKind.bits,Bool.false_and,Bool.false_eq_true,if_false]
 omega
theorem Bne (k:Int) {n:Nat} (h0:0 <n) (hn:n≤100000):0≤IntKind.i64.wrap ((IntKind.u64.wrap k).tmod (IntKind.u64.wrap (n:Int)))∧IntKind.i64.wrap ((IntKind.u64.wrap k).tmod (IntKind.u64.wrap (n:Int))) <(n:Int):=by
 obtain⟨b1,_⟩:=Bkk k
 have h1:0≤(IntKind.u64.wrap k).tmod (n:Int):=Int.tmod_nonneg _ b1
 have h2:(IntKind.u64.wrap k).tmod (n:Int) <(n:Int):=Int.tmod_lt_of_pos _ (by omega)
 rw[Bnx hn,i64_in (by omega)]
 exact⟨h1,h2⟩
def Bt1 (cs:List TChange) (ks:List Int) (i:Nat):TChange:=cs.getD (IntKind.i64.wrap ((IntKind.u64.wrap (ks.getD i (Ae TC.i64))).tmod (IntKind.u64.wrap (cs.length:Int)))).toNat (Ae TC.change)
def S0 (cs:List TChange) (ks:List Int) (i:Nat):List TChange:=(List.range i).map (Bt1 cs ks)
def PM (cs:List TChange) (i:Nat):List TChange:=(List.range i).map fun j=>cs.getD (cs.length - 1 - j) (Ae TC.change)
theorem Bir (cs:List TChange) (ks:List Int) (i:Nat):S0 cs ks (i+1)=S0 cs ks i++[Bt1 cs ks i]:=by
 unfold S0
 rw[List.range_succ,List.map_append]
 rfl
theorem Bkj (cs:List TChange) (i:Nat):PM cs (i+1)=PM cs i++[cs.getD (cs.length - 1 - i) (Ae TC.change)]:=by
 unfold PM
 rw[List.range_succ,List.map_append]
 rfl
theorem Zd (cs:List TChange) (ks:List Int) (i:Nat):(S0 cs ks i).length=i:=by unfold S0;simp
theorem A5q (cs:List TChange) (i:Nat):(PM cs i).length=i:=by unfold PM;simp
theorem Btn {cs:List TChange} {ks:List Int} (h0:0 <cs.length) (hn:cs.length≤100000) (z:TChange):z∈cs↔z∈S0 cs ks ks.length++PM cs cs.length:=by
 constructor
 ·intro hz
  obtain⟨j,hj,rfl⟩:=List.mem_iff_getElem.1 hz
  refine List.mem_append.2 (.inr (List.mem_map.2 ⟨cs.length - 1 - j,List.mem_range.2 (by omega),?_⟩))
  rw[show cs.length - 1 - (cs.length - 1 - j)=j by omega,List.getD_eq_getElem?_getD,List.getElem?_eq_getElem hj]
  rfl
 ·intro hz
  rcases List.mem_append.1 hz with hz|hz
  ·obtain⟨i,_,rfl⟩:=List.mem_map.1 hz
   unfold Bt1
   have:=Bne (ks.getD i (Ae TC.i64)) h0 hn
   exact getD_in cs (Ae TC.change) _ (by omega)
  ·obtain⟨i,_,rfl⟩:=List.mem_map.1 hz
   exact getD_in cs (Ae TC.change) _ (by omega)
end Go.Proofs.Yteebobbhhgmeiaa
namespace Go.Proofs.Yteebobbhhgmeiaa
open Go.RowKit
theorem Bxh (cs:List TChange) (ks:List Int) (h0:0 <cs.length) (hn:cs.length≤6000) (hk:ks.length≤60):
  AL BX BW DZ (Dj (cs,ks,(ks.length:Int),0,[])) (cs,ks,(ks.length:Int),0,[])∧(CJ (cs,ks,(ks.length:Int),0,[])).snd.snd.snd.snd=S0 cs ks ks.length:=by
 obtain⟨h1,hx⟩:=Auu (fun i=>((cs,ks,(ks.length:Int),(i:Int),S0 cs ks i):Be)) ks.length BX BW DZ (Dj (cs,ks,(ks.length:Int),0,[])) (cs,ks,(ks.length:Int),0,[]) rfl (by show ks.length≤((ks.length:Int) - 0).toNat;omega)
  (fun i _=>by
   show(!!decide ((i:Int) <(ks.length:Int)))=_
   rw[nn,MA])
  (fun i hi=>by
   show(cs,ks,(ks.length:Int),IntKind.i64.wrap ((i:Int)+1),Jj cs ks (ks.length:Int) (i:Int) (S0 cs ks i))=(cs,ks,(ks.length:Int),((i+1:Nat):Int),S0 cs ks (i+1))
   rw[ES (by omega),Bir]
   unfold Jj Di
   rw[Int.toNat_natCast]
   rfl)
  (fun i _=>by
   have hin:(!!decide ((i:Int) <(ks.length:Int)))=true→(i:Int) <(ks.length:Int):=fun h=>by rw[nn] at h;exact of_decide_eq_true h
   refine Aa (fun h=>⟨by show(0:Int)≤(i:Int);omega,hin h⟩) (Aa (fun _=>?_) (Aa (fun _=>?_) (Aa (fun h=>?_) Ab)))
   ·show IntKind.u64.wrap (cs.length:Int)≠0
    rw[Bnx (by omega)]
    omega
   ·exact Bne (n:=cs.length) (ks.getD ((i:Int)).toNat (Ae TC.i64)) h0 (by omega)
   ·have:=hin h
    show Ai ((S0 cs ks i).length+1)
    rw[Zd]
    unfold Ai
    omega)
 refine⟨h1,?_⟩
 have hx':CJ (cs,ks,(ks.length:Int),0,[])=(cs,ks,(ks.length:Int),(ks.length:Int),S0 cs ks ks.length):=hx
 rw[hx']
theorem Bm5 (cs o:List TChange) (hn:cs.length≤6000) (ho:o.length≤60):
  AL BZ BY D0 (Dk (cs,(cs.length:Int),0,o)) (cs,(cs.length:Int),0,o)∧(Jl (cs,(cs.length:Int),0,o)).snd.snd.snd=o++PM cs cs.length:=by
 have hk:∀i:Nat,i <cs.length→∀o':List TChange,Bn cs (cs.length:Int) (i:Int) o'=((cs.length - 1 - i:Nat):Int):=fun i hi o'=>by
  unfold Bn
  rw[i64_in (n:=(cs.length:Int) - 1) (by omega),i64_in (by omega)]
  omega
 obtain⟨h1,hx⟩:=Auu (fun i=>((cs,(cs.length:Int),(i:Int),o++PM cs i):Bf)) cs.length BZ BY D0 (Dk (cs,(cs.length:Int),0,o)) (cs,(cs.length:Int),0,o) (by show _=(cs,(cs.length:Int),((0:Nat):Int),o++[]);rw[List.append_nil];rfl) (by show cs.length≤((cs.length:Int) - 0).toNat;omega)
  (fun i _=>by
   show(!!decide ((i:Int) <(cs.length:Int)))=_
   rw[nn,MA])
  (fun i hi=>by
   show(cs,(cs.length:Int),IntKind.i64.wrap ((i:Int)+1),Jk cs (cs.length:Int) (i:Int) (o++PM cs i))=(cs,(cs.length:Int),((i+1:Nat):Int),o++PM cs (i+1))
   unfold Jk
   rw[ES (by omega),hk i hi,Int.toNat_natCast,Bkj,List.append_assoc])
  (fun i _=>by
   have hin:(!!decide ((i:Int) <(cs.length:Int)))=true→i <cs.length:=fun h=>by rw[nn] at h;have:=of_decide_eq_true h;omega
   refine Aa (fun h=>?_) (Aa (fun h=>?_) Ab)
   ·have:=hin h
    show 0≤Bn cs (cs.length:Int) (i:Int) (o++PM cs i)∧Bn cs (cs.length:Int) (i:Int) (o++PM cs i) <(cs.length:Int)
    rw[hk i this]
    omega
   ·have:=hin h
    show Ai ((o++PM cs i).length+1)
    rw[List.length_append,A5q]
    unfold Ai
    omega)
 refine⟨h1,?_⟩
 have hx':Jl (cs,(cs.length:Int),0,o)=(cs,(cs.length:Int),(cs.length:Int),o++PM cs cs.length):=hx
 rw[hx']
theorem Btm (a0:List TGroup) (a1:List TChange) (a2:List Int) (w0:a0.length≤maxLen∧∀y∈a0,Wfd .group y) (w1:a1.length≤maxLen∧∀y∈a1,Wfd .change y):(∀p∈Qm a0 a1 a2,p)∧J7 a0 a1 a2=true:=by
 obtain⟨hL,hlt⟩:=Bxd (l:=a0) (cs:=a1) w0.1 (Bvt w1)
 have hw:∀c∈a1,Az c.5.length:=fun c hc=>((Bvt w1).2 c hc).1
 have hk:(!(AI a0 a1 a2))=true→a1.length≤6000∧a2.length≤60∧0 <a1.length:=fun h=>by
  have h':AI a0 a1 a2=false:=by simpa using h
  unfold AI at h'
  rw[Bdy] at h'
  obtain⟨h1,h2⟩:=Bool.or_eq_false_iff.1 h'
  obtain⟨h3,h4⟩:=Bool.or_eq_false_iff.1 h1
  have h5:=of_decide_eq_false h4
  have h6:a1.length≠0:=by simpa using h2
  exact⟨hlt (by simpa using h3),by omega,by omega⟩
 have hp:(!(AI a0 a1 a2))=true→_:=fun h=>Bxh a1 a2 (hk h).2.2 (hk h).1 (hk h).2.1
 have e0:(!(AI a0 a1 a2))=true→CP a0 a1 a2=S0 a1 a2 a2.length++PM a1 a1.length:=fun h=>by
  unfold CP
  rw[(hp h).2]
  exact(Bm5 a1 _ (hk h).1 (by rw[Zd];exact(hk h).2.1)).2
 have hm:(!(AI a0 a1 a2))=true→∀z,z∈a1↔z∈CP a0 a1 a2:=fun h z=>by
  rw[e0 h]
  have:=(hk h).1
  exact Btn (hk h).2.2 (by omega) z
 refine⟨Aa hL (Aa (fun h=>⟨by have:=(hk h).1;omega,hw⟩) (Aa (fun h=>(hp h).1) (Aa (fun h=>?_) (Aa (fun h=>⟨?_,fun c hc=>hw c ((hm h c).2 hc)⟩) (Aa (fun h=>(A5k a0 (by have:=(hk h).1;omega)).1) (Aa (fun h=>(A5k a0 (by have:=(hk h).1;omega)).2) Ab)))))),?_⟩
 ·rw[(hp h).2]
  exact(Bm5 a1 _ (hk h).1 (by rw[Zd];exact(hk h).2.1)).1
 ·obtain⟨h1,h2,_⟩:=hk h
  rw[e0 h,List.length_append,Zd,A5q]
  omega
 ·unfold J7
  cases h1:AI a0 a1 a2 with
  |true=>rfl
  |false=>
   have h:(!(AI a0 a1 a2))=true:=by rw[h1];rfl
   rw[←Bus (l:=a0) (hm h),←Bgp (l:=a0) (hm h),Bom,beq_self_eq_true]
   rfl
end Go.Proofs.Yteebobbhhgmeiaa
namespace Go.Proofs.Yteebobbhhgmeiaa
open Go.RowKit
set_option maxRecDepth 100000
theorem op3:Opn Try.prog .i64 3:=Bxq Try.underlying3
theorem op4:Opn Try.prog .bool 4:=Btv Try.underlying4
theorem op9:Opn Try.prog .str 9:=Bxr Try.underlying9
theorem B3g:Opn Try.prog .vec 31:=fun en w base spare held m cs y h=>by
 obtain⟨xs,n,_,_,hl,hz,hg⟩:=DataW.trod_array Try.underlying31 h
 have hl:cs.length=2:=hl.trans (by kernel_rfl)
 obtain⟨x0,w0,g0⟩:=B2h (i:=0) (k:=1) op3 (by kernel_rfl) (by omega) (by omega) hg
 obtain⟨x1,w1,g1⟩:=B2h (i:=1) (k:=1) op3 (by kernel_rfl) (by omega) (by omega) hg
 exact⟨⟨x0,x1⟩,⟨w0,w1⟩,fun F N nx hF=>HLd (o:=0) (k:=1) (g0 F N nx hF) (HLd (o:=1) (k:=1) (g1 F N nx hF) (HLe (o:=2) hl))⟩
theorem B3h:Opn Try.prog .stamp 51:=fun en w base spare held m cs y h=>by
 obtain⟨xs,n,_,_,hl,hz,hg⟩:=DataW.trod_struct Try.underlying51 h
 have hz:xs.length=2:=hz
 have hl:cs.length=2:=hl.trans (by kernel_rfl)
 obtain⟨x0,w0,g0⟩:=Aru (i:=0) (o:=0) (k:=1) op3 rfl rfl rfl (by kernel_rfl) (by omega) hg
 obtain⟨x1,w1,g1⟩:=Aru (i:=1) (o:=1) (k:=1) op3 rfl rfl rfl (by kernel_rfl) (by omega) hg
 exact⟨⟨x0,x1⟩,⟨w0,w1⟩,fun F N nx hF=>HLd (o:=0) (k:=1) (g0 F N nx hF) (HLd (o:=1) (k:=1) (g1 F N nx hF) (HLe (o:=2) hl))⟩
theorem B3i:Opn Try.prog .group 79:=fun en w base spare held m cs y h=>by
 obtain⟨xs,n,_,_,hl,hz,hg⟩:=DataW.trod_struct Try.underlying79 h
 have hz:xs.length=2:=hz
 have hl:cs.length=2:=hl.trans (by kernel_rfl)
 obtain⟨x0,w0,g0⟩:=Aru (i:=0) (o:=0) (k:=1) op9 rfl rfl rfl (by kernel_rfl) (by omega) hg
 obtain⟨x1,w1,g1⟩:=Aru (i:=1) (o:=1) (k:=1) op3 rfl rfl rfl (by kernel_rfl) (by omega) hg
 exact⟨⟨x0,x1⟩,⟨w0,w1⟩,fun F N nx hF=>HLd (o:=0) (k:=1) (g0 F N nx hF) (HLd (o:=1) (k:=1) (g1 F N nx hF) (HLe (o:=2) hl))⟩
theorem B22:Au7 Try.prog .group 66:=Aik Try.underlying66 (by kernel_rfl) B3i
theorem B21:Opn Try.prog .write 139:=fun en w base spare held m cs y h=>by
 obtain⟨xs,n,_,_,hl,hz,hg⟩:=DataW.trod_struct Try.underlying139 h
 have hz:xs.length=4:=hz
 have hl:cs.length=4:=hl.trans (by kernel_rfl)
 obtain⟨x0,w0,g0⟩:=Aru (i:=0) (o:=0) (k:=1) op9 rfl rfl rfl (by kernel_rfl) (by omega) hg
 obtain⟨x1,w1,g1⟩:=Aru (i:=1) (o:=1) (k:=1) op3 rfl rfl rfl (by kernel_rfl) (by omega) hg
 obtain⟨x2,w2,g2⟩:=Aru (i:=2) (o:=2) (k:=1) op4 rfl rfl rfl (by kernel_rfl) (by omega) hg
 obtain⟨x3,w3,g3⟩:=Aru (i:=3) (o:=3) (k:=1) op9 rfl rfl rfl (by kernel_rfl) (by omega) hg
 exact⟨⟨x0,x1,x2,x3⟩,⟨w0,w1,w2,w3⟩,fun F N nx hF=>HLd (o:=0) (k:=1) (g0 F N nx hF) (HLd (o:=1) (k:=1) (g1 F N nx hF) (HLd (o:=2) (k:=1) (g2 F N nx hF) (HLd (o:=3) (k:=1) (g3 F N nx hF) (HLe (o:=4) hl))))⟩
theorem B1k:Au7 Try.prog .write 134:=Aik Try.underlying134 (by kernel_rfl) B21
theorem B20:Opn Try.prog .change 136:=fun en w base spare held m cs y h=>by
 obtain⟨xs,n,_,_,hl,hz,hg⟩:=DataW.trod_struct Try.underlying136 h
 have hz:xs.length=5:=hz
 have hl:cs.length=7:=hl.trans (by kernel_rfl)
 obtain⟨x0,w0,g0⟩:=Aru (i:=0) (o:=0) (k:=1) op3 rfl rfl rfl (by kernel_rfl) (by omega) hg
 obtain⟨x1,w1,g1⟩:=Aru (i:=1) (o:=1) (k:=1) op3 rfl rfl rfl (by kernel_rfl) (by omega) hg
 obtain⟨x2,w2,g2⟩:=Aru (i:=2) (o:=2) (k:=2) B3h rfl rfl rfl (by kernel_rfl) (by omega) hg
 obtain⟨x3,w3,g3⟩:=Aru (i:=3) (o:=4) (k:=2) B3g rfl rfl rfl (by kernel_rfl) (by omega) hg
 obtain⟨x4,w4,g4⟩:=B3f (i:=4) (o:=6) (k:=1) B1k rfl rfl rfl (by kernel_rfl) (by omega) hg
 exact⟨⟨x0,x1,x2,x3,x4⟩,⟨w0,w1,w2,w3,w4⟩,fun F N nx hF=>HLd (o:=0) (k:=1) (g0 F N nx hF) (HLd (o:=1) (k:=1) (g1 F N nx hF) (HLd (o:=2) (k:=2) (g2 F N nx hF) (HLd (o:=4) (k:=2) (g3 F N nx hF) (HLd (o:=6) (k:=1) (g4 F N nx hF) (HLe (o:=7) hl)))))⟩
theorem B1i:Au7 Try.prog .change 126:=Aik Try.underlying126 (by kernel_rfl) B20
theorem B1j:Au7 Try.prog .i64 133:=Aik Try.underlying133 (by kernel_rfl) op3
end Go.Proofs.Yteebobbhhgmeiaa
namespace Go.Proofs.Yteebobbhhgmeiaa
open Go.ChangeShapes Go.WideShapes Go.ChangeAt Go.RowKit
theorem own:ownKnob Try.prog.godebug=none:=by kernel_rfl
theorem Bxa:laidOutB Try.prog=true:=by kernel_rfl
section
variable {P:Program} {H:Type} {enc:TypeId×Value→H} {w:World} {base:Nat} {spare:Nat→Bool} {held:Bool} {v:Value} {d:DataW H} {p:List MemPlace}
end
theorem ZQ {H:Type} {enc:TypeId×Value→H} {W W':World} (hb:Below W.heap.size W W'):∀(ts:List TypeId) (vs:List Value) (ds:List (DataW H)) (ps:List MemPlace),
  (∀t∈ts,Try.prog.readableRec t=true∧t <Try.prog.types.size)→DataW.TrodAll enc Try.prog W 0 (fun _=>true) true ts vs ds ps→(∀x∈ps,x.block <W.heap.size)→
  DataW.TrodAll enc Try.prog W' 0 (fun b=>decide (b <W.heap.size)) true ts vs ds ps
 | [],vs,ds,ps,_,h,_=>by
  obtain⟨rfl,rfl,rfl⟩:=trodAll_nil h
  exact trodAll_mk0
 | t::ts,vs,ds,ps,hr,h,hlt=>by
  obtain⟨v,vs',d,ds',p,q,rfl,rfl,rfl,h0,h1⟩:=trodAll_cons h
  exact trodAll_cons_mk (Below.trod Bxa (hr t (by simp)).1 (hr t (by simp)).2 h0 hb fun x hx=>hlt x (by simp[hx]))
   (ZQ hb ts vs' ds' q (fun t' ht'=>hr t' (by simp[ht'])) h1 fun x hx=>hlt x (by simp[hx]))
section
variable {H:Type} {enc:TypeId×Value→H} {w:World} {base:Nat} {spare:Nat→Bool} {held:Bool} {v:Value} {d:DataW H} {p:List MemPlace}
end
end Go.Proofs.Yteebobbhhgmeiaa
namespace Go.Proofs.Yteebobbhhgmeiaa
open Go.RowKit Go.WideShapes Go.ChangeShapes
section
variable {H:Type} {en:TypeId×Value→H} {P:Program} {w:World} {base:Nat} {spare:Nat→Bool} {held:Bool} {t e:TypeId} {v:Value} {d:DataW H} {p:List MemPlace} {r:Reach} {b0:Nat} {c:TC}
theorem Avc (ht:P.underlying t=some (.slice e)) (ho:Au7 P c t) (hv:Value.okWide P w r b0 t v) (h:DataW.Trod en P w base spare held t v d p):
  ∃l:List (U c),(l.length≤maxLen∧∀x∈l,Wfd c x)∧∀(F:Nat→Prop) (N:Nm) (nx:Nat),FB w F→Hv F N nx w (.sl c l) v:=by
 obtain⟨a,len,cap,rfl⟩:=okWide_slice ht hv
 obtain⟨fuel,hf⟩:=h
 obtain⟨l,h1,h2⟩:=ho en w base spare held fuel _ _ hf
 refine⟨l,h1,fun F N nx hF=>?_⟩
 obtain⟨y,ys,e,h3,_⟩:=(h2 F N nx hF).inv
 have e':[Value.slice a len cap]=y::ys:=e
 cases e'
 exact h3
end
theorem Brz {P:Program} {f:FuncId} {args:List A} {nx':Nat} {o':Objs} {b:Bool} (h:CallOk P f args 0 [] 1 (.v (.bool b)) nx' o') (W:World) (vs:List Value) (ha:∀(F:Nat→Prop) (N:Nm) (nx:Nat),FB W F→HL F N nx W args vs):
  Calls P f vs.toArray W fun e W'=>e=.returned (.bool b)∧Below W.heap.size W W':=by
 have hr:HRel (fun b=>b <W.heap.size) ⟨fun _=>0,fun _=> .nilFunc⟩ 0 [] W:=⟨fun g hg=>hg,fun i ob hi=>(by cases hi),fun i ob g hi=>(by cases hi),fun i j x y g hi=>(by cases hi)⟩
 refine(h _ _ W vs hr (ha _ _ _ fun b hb=>hb)).mono fun e W' ⟨y,F',N',he,_,_,hy,hb⟩=>?_
 rw[hy.v_inv] at he
 exact⟨he,hb (Nat.le_refl _)⟩
end Go.Proofs.Yteebobbhhgmeiaa
namespace Go.Proofs.Yteebobbhhgmeiaa.modelOrder
open Go.ChangeShapes Go.WideShapes Go.ChangeAt Go.RowKit
set_option maxRecDepth 100000 in
theorem lifted (os:Os) (started:os.Started) (H:Type) (enc:TypeId×Value→H):
  ReturnsInHanded {} Try.checked os 19 .any (Rows.modelOrderSpec.pre6 enc Try.prog Try.f19 Rows.modelOrderRow.domain false) (Rows.modelOrderSpec.post enc Try.prog Try.f19 false true false false):=by
 refine returnsInHanded_of_change (C:=Try.checked) own started (by kernel_rfl) Try.func19
  (ChangeSpec.witness6 (enc:=enc) (C:=Try.checked) false ⟨#[],#[.slice none 0 0,.slice none 0 0,.slice none 0 0],[]⟩ 8 (by kernel_rfl) (by kernel_rfl) (by kernel_rfl) (by kernel_rfl)) ?_
 intro W base args ds gs before hval0 hW hcnd _
 have hval:∀(j:Nat) t v,Try.f19.params[j]?=some t→args[j]?=some v→Value.okWide Try.prog W .any base t v:=hval0
 have hW':=hW
 have hlt:∀x∈before,x.block <W.heap.size:=fun x hx=>hW.lt x hx
 obtain⟨p,q,hA0,hV,rfl,hfz,hnd⟩:=hW
 have hA:DataW.TrodAll enc Try.prog W 0 (fun _=>true) true Try.f19.params.toList args.toList ds p:=hA0
 rw[Try.params19] at hA hval
 have hA':=hA
 obtain⟨v0,vs0,d0,ds0,p0,q0,hargs,rfl,rfl,h0,r0⟩:=trodAll_cons hA
 obtain⟨v1,vs1,d1,ds1,p1,q1,rfl,rfl,rfl,h1,r1⟩:=trodAll_cons r0
 obtain⟨v2,vs2,d2,ds2,p2,q2,rfl,rfl,rfl,h2,r2⟩:=trodAll_cons r1
 obtain⟨rfl,rfl,rfl⟩:=trodAll_nil r2
 obtain rfl:args=#[v0,v1,v2]:=by cases args;simp_all
 obtain⟨rfl,rfl⟩:=trodVars_none hV
 obtain⟨a0,w0,g0⟩:=Avc Try.underlying66 B22 (hval 0 66 v0 rfl rfl) h0
 obtain⟨a1,w1,g1⟩:=Avc Try.underlying126 B1i (hval 1 126 v1 rfl rfl) h1
 obtain⟨a2,w2,g2⟩:=Avc Try.underlying133 B1j (hval 2 133 v2 rfl rfl) h2
 obtain⟨hn,ht⟩:=Btm a0 a1 a2 w0 w1
 have hc:=Alm a0 a1 a2 hn
 have hr:Ml a0 a1 a2=.v (.bool true):=by show A.v (.bool (J7 a0 a1 a2))=_;rw[ht]
 rw[hr] at hc
 refine(Brz hc W [v0,v1,v2] fun F N nx hF=>HL.cons (g0 F N nx hF) (HL.cons (g1 F N nx hF) (HL.cons (g2 F N nx hF) (HL.nil)))).mono fun e W' ⟨he,bel⟩=>?_
 subst he
 have hread:∀t∈[66,126,133],Try.prog.readableRec t=true∧t <Try.prog.types.size:=by
  intro t ht
  simp only[List.mem_cons,List.not_mem_nil,or_false] at ht
  rcases ht with rfl|rfl|rfl
  all_goals exact⟨by kernel_rfl,of_decide_eq_true (by kernel_rfl)⟩
 exact⟨_,rfl,_,_,_,[],_,[],hW',trodAll_mk1 (shut_bool Try.underlying4 _),
  ZQ bel _ _ _ _ hread hA' (fun x hx=>hlt x (by simpa using hx)),rfl,bel.frame _,fun h=>by cases h⟩
theorem tA:Try.prog.funcNamed Rows.modelOrderRow.func=some 19:=by kernel_rfl
theorem b0:(Rows.modelOrderRow.wf (OpenSpec.ofChange Rows.modelOrderSpec))=true:=by kernel_rfl
theorem b1:(laidOutB Try.prog)=true:=by kernel_rfl
theorem b2:(mapsRowed Try.prog)=true:=by kernel_rfl
theorem b3:(Try.f19.params.all (Try.prog.readableRec ·))=true:=by kernel_rfl
theorem b4:(namedTie Try.prog Rows.modelOrderRow.named Rows.modelOrderSpec.vars)=true:=by kernel_rfl
theorem b5:((Rows.modelOrderRow.stops==[]))=true:=by kernel_rfl
theorem b6:((Try.prog.stops==[]))=true:=by kernel_rfl
theorem b7:((Rows.modelOrderRow.knobs==[]))=true:=by kernel_rfl
theorem b8:((Try.prog.stopKnobs==[]))=true:=by kernel_rfl
theorem b9:((Rows.modelOrderRow.inPlace==Try.prog.inPlace 19))=true:=by kernel_rfl
theorem b10:((Rows.modelOrderRow.unfollowed==Try.prog.unfollowed 19))=true:=by kernel_rfl
theorem b11:((Rows.modelOrderRow.recurses==Try.prog.recurses 19))=true:=by kernel_rfl
theorem b12:((Rows.modelOrderRow.named==Try.prog.varsNamed 19))=true:=by kernel_rfl
theorem b13:((Rows.modelOrderRow.maps==(Try.f19.params.toList++Rows.modelOrderSpec.plain.varTypes Try.prog).any (Try.prog.mapsRec ·)))=true:=by kernel_rfl
theorem b14:((Rows.modelOrderRow.ifaces==(Try.f19.params.toList++Rows.modelOrderSpec.plain.varTypes Try.prog).any (Try.prog.ifacesRec ·)))=true:=by kernel_rfl
theorem b15:((Rows.modelOrderRow.mapsOut==Try.prog.mapsAmong Try.f19.resultTypes.toList))=true:=by kernel_rfl
theorem b16:((Rows.modelOrderRow.loops==(Try.f19.params.toList++Rows.modelOrderSpec.plain.varTypes Try.prog).any (Try.prog.loopsFrom ·)))=true:=by kernel_rfl
theorem b17:((Rows.modelOrderRow.wideKeys==(Try.f19.params.toList++Rows.modelOrderSpec.plain.varTypes Try.prog++Try.f19.resultTypes.toList).any (Try.prog.wideKeysFrom ·)))=true:=by kernel_rfl
theorem b18:(Rows.modelOrderSpec.vars.all (Try.prog.varReadable ·))=true:=by kernel_rfl
theorem b19:(Try.f19.resultTypes.all (fun t=>Try.prog.readableRec t&&decide (t <Try.prog.types.size)))=true:=by kernel_rfl
theorem b20:((Rows.modelOrderRow.ifacesOut==Try.f19.resultTypes.toList.any (Try.prog.ifacesRec ·)))=true:=by kernel_rfl
theorem b21:((Rows.modelOrderRow.loopsOut==Try.f19.resultTypes.toList.any (Try.prog.loopsFrom ·)))=true:=by kernel_rfl
theorem b22:((Rows.modelOrderRow.plainKeys==Try.prog.plainKeys))=true:=by kernel_rfl
theorem b23:(Rows.modelOrderRow.shortTexts.isNone)=true:=by kernel_rfl
theorem b24:(Try.prog.stopsHeard)=true:=by kernel_rfl
theorem b25:(Try.prog.mayEnter)=true:=by kernel_rfl
theorem b26:((Rows.modelOrderRow.lifted==Try.prog.liftsFinal))=true:=by kernel_rfl
theorem b27:((Try.prog.make==some Rows.modelOrderRow.make))=true:=by kernel_rfl
theorem b28:((Rows.modelOrderRow.kinds==(if Rows.modelOrderRow.domain.isEmpty then[] else Try.f19.params.toList.map fun t=>match Try.prog.underlying t with|some (.int k)=>some k|_=>none)))=true:=by kernel_rfl
theorem b29:((Rows.modelOrderRow.pinned==Rows.modelOrderRow.pinnedBy))=true:=by kernel_rfl
theorem b30:((Rows.modelOrderRow.veiled==(Try.f19.params.toList++Rows.modelOrderSpec.plain.varTypes Try.prog++Try.f19.resultTypes.toList).any (Try.prog.veiledRec ·)))=true:=by kernel_rfl
theorem b31:(Rows.modelOrderRow.veiledFits Try.prog Try.f19.params.toList (Try.f19.params.toList++Rows.modelOrderSpec.plain.varTypes Try.prog++Try.f19.resultTypes.toList))=true:=by kernel_rfl
theorem KM {a b:Bool} (h:a=true) (g:b=true):(a&&b)=true:=by rw[h,g];rfl
set_option maxRecDepth 100000 in
theorem tB:joinedFacts Try.prog 19 Try.f19 Rows.modelOrderSpec Rows.modelOrderRow=true:=by
 unfold joinedFacts
 exact(KM (KM (KM (KM (KM (KM (KM (KM (KM (KM (KM (KM (KM (KM (KM (KM (KM (KM (KM (KM (KM (KM (KM (KM (KM (KM (KM (KM (KM (KM (KM b0 b1) b2) b3) b4) b5) b6) b7) b8) b9) b10) b11) b12) b13) b14) b15) b16) b17) b18) b19) b20) b21) b22) b23) b24) b25) b26) b27) b28) b29) b30) b31)
theorem tC:Try.f19.isInstance Try.prog Rows.modelOrderRow.origin Rows.modelOrderRow.targs:=of_decide_eq_true (by kernel_rfl)
theorem tD0:decide (Check.packageOf Try.f19.name= "main")=false:=by kernel_rfl
theorem tD:Try.f19.isWrapper Try.prog Rows.modelOrderRow.wrapper Rows.modelOrderRow.mainSum:=by
 unfold Func.isWrapper
 rw[if_neg (of_decide_eq_false tD0)]
 exact⟨rfl,rfl⟩
theorem over:Rows.modelOrderRow.holds Try.pinned (OpenSpec.ofChange Rows.modelOrderSpec):=
 OpenClaim.holds_of_wide 19 Try.f19 rfl rfl rfl rfl rfl rfl rfl ⟨rfl,rfl,rfl,rfl,rfl⟩ rfl rfl rfl rfl rfl tA Try.func19 tB tC tD
  (fun os started H enc _=>lifted os started H enc)
theorem proved:Rows.ModelOrderSaid:=over
end Go.Proofs.Yteebobbhhgmeiaa.modelOrder
