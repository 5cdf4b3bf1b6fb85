/- made by a program (rowgen.py): ModelMerges: for every input the law returns true, and each argument reads behind the call as it read before. -/
import Derived.Test.YteebobbhhgmeiaaKMmg
import Derived.Test.YteebobbhhgmeiaaRows

set_option maxRecDepth 100000
namespace Go.Proofs.Yteebobbhhgmeiaa
open Go.RowKit
def Wr (a0:List TGroup) (a1 a2:List TRow):A:=.v (.bool (wiB a0 a1 a2))
def Wp (_a0:List TGroup) (_a1 _a2:List TRow):Objs:=[]
def Ud (_a0:List TGroup) (a1 a2:List TRow):List Prop:=[a1.length+a2.length≤400000]
theorem Ayx (l:List TGroup) (a b:List TRow):Stt l (Iz l a b):=by
 unfold Iz
 cases h:mgE l a b==0 with
 |false=>exact Bt6 l
 |true=>
  obtain⟨g1,g2⟩:=Bz5.1 (by simpa using h:mgE l a b=0)
  exact(JA g1).2.mrg _ (JA g2).2
theorem Bea (l:List TGroup) (a b:List TRow):(Iz l a b).length≤a.length+b.length:=by
 unfold Iz
 cases mgE l a b==0 with
 |false=>exact Nat.zero_le _
 |true=>exact Vs _ _ _
theorem Ari {l:List TGroup} {a:List TRow} (h:Stt l a):∀r∈a,r.cells.length≤4:=fun r hr=>by
 have g:=(h.good r hr).1
 rw[(AK g).2.1]
 exact(FR (AK g).1).2
theorem B9y (l:List TGroup) (a b:List TRow) (hb:a.length+b.length≤400000):(∀p∈Wq l a b,p)∧Qe l a b=wiB l a b:=by
 have hm:=Bea l a b
 have hk1:DP l a b=(!(mgE l a b==0)||(Iz l a b).length !=b.length):=by
  unfold DP
  congr 1
  rw[Bool.eq_iff_iff,bne_iff_ne,bne_iff_ne];omega
 have main:DP l a b=false→AB C6 C5 E5 (D4 (b,((Iz l a b).length:Int),0,Iz l a b)) (b,((Iz l a b).length:Int),0,Iz l a b)∧
   BZ (DO l a b).fst (DO l a b).snd.fst (DO l a b).snd.snd.fst (DO l a b).snd.snd.snd=!JX b.length (fun i=>U3 (BA (Iz l a b) i) (BA b i)):=fun h0=>by
  rw[hk1] at h0
  have hlen:(Iz l a b).length=b.length:=by simpa using(Bool.or_eq_false_iff.1 h0).2
  have hf:∀i:Nat,BZ b ((Iz l a b).length:Int) (i:Int) (Iz l a b)=(decide (i <(Iz l a b).length)&&!U3 (BA (Iz l a b) i) (BA b i)):=fun i=>by
   unfold BZ
   rw[nn,LY,Int.toNat_natCast]
   rfl
  obtain⟨h1,k,hk,hx,_,_,hb'⟩:=Io (fun i=>(b,((Iz l a b).length:Int),(i:Int),Iz l a b):Nat→Bg) (Iz l a b).length (fun i=>!U3 (BA (Iz l a b) i) (BA b i)) C6 C5 E5 (D4 (b,((Iz l a b).length:Int),0,Iz l a b)) (b,((Iz l a b).length:Int),0,Iz l a b) rfl (by show(Iz l a b).length≤(((Iz l a b).length:Int) - 0).toNat;omega)
   (fun i _ _=>by
    show((!!decide ((i:Int) <((Iz l a b).length:Int)))&&!BZ b ((Iz l a b).length:Int) (i:Int) (Iz l a b))=_
    rw[hf,nn,LY]
    cases decide (i <(Iz l a b).length)<;>rfl)
   (fun i hi _=>by
    show(b,((Iz l a b).length:Int),IntKind.i64.wrap ((i:Int)+1),Iz l a b)=(b,((Iz l a b).length:Int),((i+1:Nat):Int),Iz l a b)
    rw[DU (by omega)])
   (fun i _ _=>by
    have hin:(!!decide ((i:Int) <((Iz l a b).length:Int)))=true→(i:Int) <((Iz l a b).length:Int):=fun h=>by rw[nn] at h;exact of_decide_eq_true h
    refine Aa (fun h=>⟨by show(0:Int)≤(i:Int);omega,hin h⟩) (Aa (fun h=>⟨by show(0:Int)≤(i:Int);omega,by have:=hin h;show(i:Int) <(b.length:Int);omega⟩) (Aa (fun h=>?_) Ad))
    have h2:=hin h
    have h3:((Iz l a b).getD ((i:Int)).toNat (Ab TC.row)).2.length≤4:=Ari (Ayx l a b) _ (getD_in _ (Ab TC.row) _ (by omega))
    show Ag ((Iz l a b).getD ((i:Int)).toNat (Ab TC.row)).2.length
    unfold Ag
    omega)
  refine⟨h1,?_⟩
  have hr:DO l a b=(b,((Iz l a b).length:Int),(k:Int),Iz l a b):=hx
  rw[hr]
  show BZ b ((Iz l a b).length:Int) (k:Int) (Iz l a b)=_
  rw[hf,hb',hlen]
  congr 1
  exact Hk fun i _=>Bool.not_not _
 refine⟨Aa hb (Aa (fun h=>(main (by simpa using h)).1) Ad),?_⟩
 unfold Qe wiB
 cases h0:DP l a b with
 | true=>
  rw[hk1] at h0
  rw[cond_true]
  cases he:mgE l a b==0 with
  |false=>rfl
  |true=>
   rw[he] at h0
   have:((Iz l a b).length==b.length)=false:=by simpa using h0
   rw[this]
   rfl
 |false=>
  rw[cond_false,(main h0).2]
  rw[hk1] at h0
  obtain⟨h2,h3⟩:=Bool.or_eq_false_iff.1 h0
  have e1:(mgE l a b==0)=true:=by simpa using h2
  have e2:((Iz l a b).length==b.length)=true:=by simpa using h3
  rw[e1,e2]
  cases JX b.length (fun i=>U3 (BA (Iz l a b) i) (BA b i))<;>rfl
theorem Awk (a0:List TGroup) (a1 a2:List TRow) (hp:∀p∈Ud a0 a1 a2,p):CallOk Try.prog 94 [.sl .group a0,Af .rows a1,Af .rows a2] 0 [] 1 (Wr a0 a1 a2) 0 (Wp a0 a1 a2):=by
 obtain⟨h1,h2⟩:=B9y a0 a1 a2 (hp _ (List.mem_cons_self ..))
 have h:=A12 a0 a1 a2 h1
 unfold Qf at h
 rw[h2] at h
 exact h
def YI:List A→Nat→Objs→Option AV:=A7 [.l .group,.t .rows,.t .rows] 0 Wr Wp Ud
theorem Ape:ET Try.prog 94 YI:=Aq (ks:=[.l .group,.t .rows,.t .rows]) Awk
end Go.Proofs.Yteebobbhhgmeiaa
namespace Go.Proofs.Yteebobbhhgmeiaa
open Go.RowKit
def MN (a0:List TGroup) (_a1:List TRow) (a2:List TRow):Bool:=Bq a0 a2 !=(0:Int)
def Jl (a0:List TGroup) (a1:List TRow) (_a2:List TRow):Bool:=Bq a0 a1 !=(0:Int)
def ZP (a0:List TGroup) (a1:List TRow) (a2:List TRow):List TRow:=bif(Jl a0 a1 a2) then[] else bif(MN a0 a1 a2) then[] else CF a1 a2
def ZQ (a0:List TGroup) (a1:List TRow) (a2:List TRow):Int:=bif(Jl a0 a1 a2) then Bq a0 a1 else bif(MN a0 a1 a2) then Bq a0 a2 else(0:Int)
def ZR (a0:List TGroup) (a1:List TRow) (a2:List TRow):A:=.tup [.sl .row (ZP a0 a1 a2),.v (.int .i64 (ZQ a0 a1 a2))]
def Aus (_a0:List TGroup) (_a1:List TRow) (_a2:List TRow):Objs:=[]
def Amm (a0:List TGroup) (a1:List TRow) (a2:List TRow):List Prop:=[(Am a1.length),(∀(g:TGroup),g∈a0→Am g.1.size),((!(Jl a0 a1 a2))=true→Am a2.length),((!(Jl a0 a1 a2))=true→∀(g:TGroup),g∈a0→Am g.1.size),((!(Jl a0 a1 a2))=true→(!(MN a0 a1 a2))=true→Stt a0 a1∧(∀(r:TRow),r∈a2→Ah a0 r=(0:Int))∧a1.length+a2.length≤(400000:Nat)∧∀(g:TGroup),g∈a0→Am g.1.size)]
theorem Bft (a0:List TGroup) (a1:List TRow) (a2:List TRow):Eo (Au Cmr L0) 9 92 [.sl .group a0,Af .rows a1,Af .rows a2] 0 []=some (1,ZR a0 a1 a2,0,Aus a0 a1 a2,Amm a0 a1 a2):=by kernel_rfl
theorem Bmj (a0:List TGroup) (a1:List TRow) (a2:List TRow) (hp:∀p∈Amm a0 a1 a2,p):CallOk Try.prog 92 [.sl .group a0,Af .rows a1,Af .rows a2] 0 [] 1 (ZR a0 a1 a2) 0 (Aus a0 a1 a2):=Ax (Ap Bxz Av) (Bft a0 a1 a2) hp
def Amn (a0:List TGroup) (a1 a2:List TRow):A:=.tup [.sl .row (Iz a0 a1 a2),.v (.int .i64 (mgE a0 a1 a2))]
def Aml (_a0:List TGroup) (_a1 _a2:List TRow):Objs:=[]
def Ad9 (a0:List TGroup) (a1 a2:List TRow):List Prop:=[a1.length+a2.length≤400000,∀g∈a0,Am g.1.size]
theorem Bfs (a0:List TGroup) (a1 a2:List TRow) (hp:∀p∈Ad9 a0 a1 a2,p):CallOk Try.prog 92 [.sl .group a0,Af .rows a1,Af .rows a2] 0 [] 1 (Amn a0 a1 a2) 0 (Aml a0 a1 a2):=by
 have hb:a1.length+a2.length≤400000:=hp _ (List.mem_cons_self ..)
 have hw:∀g∈a0,Am g.1.size:=hp _ (List.mem_cons_of_mem _ (List.mem_cons_self ..))
 have h0:(!(Jl a0 a1 a2))=true→Bq a0 a1=0:=fun h=>by
  have h':(!(Bq a0 a1 !=0))=true:=h
  simpa using h'
 have h1:(!(MN a0 a1 a2))=true→Bq a0 a2=0:=fun h=>by
  have h':(!(Bq a0 a2 !=0))=true:=h
  simpa using h'
 have wa:Am a1.length:=by unfold Am;omega
 have wb:Am a2.length:=by unfold Am;omega
 have h:=Bmj a0 a1 a2 (Aa wa (Aa hw (Aa (fun _=>wb) (Aa (fun _=>hw) (Aa (fun q0 q1=>⟨(JA (h0 q0)).2,fun r hr=>((JA (h1 q1)).2.good r hr).1,hb,hw⟩) Ad)))))
 have e:ZP a0 a1 a2=Iz a0 a1 a2∧ZQ a0 a1 a2=mgE a0 a1 a2:=by
  unfold ZP ZQ Iz
  cases q0:Jl a0 a1 a2 with
  | true=>
   have g:Bq a0 a1≠0:=by
    have h':(Bq a0 a1 !=0)=true:=q0
    simpa using h'
   have e1:mgE a0 a1 a2=Bq a0 a1:=by
    unfold mgE
    rw[show(Bq a0 a1 !=0)=true from q0]
    rfl
   have e2:(mgE a0 a1 a2==0)=false:=by rw[e1];simpa using g
   rw[e2,e1]
   exact⟨rfl,rfl⟩
  | false=>
   have g:Bq a0 a1=0:=h0 (by rw[q0];rfl)
   cases q1:MN a0 a1 a2 with
   | true=>
    have g1:Bq a0 a2≠0:=by
     have h':(Bq a0 a2 !=0)=true:=q1
     simpa using h'
    have e1:mgE a0 a1 a2=Bq a0 a2:=by
     unfold mgE
     rw[g]
     rfl
    have e2:(mgE a0 a1 a2==0)=false:=by rw[e1];simpa using g1
    rw[e2,e1]
    exact⟨rfl,rfl⟩
   |false=>
    have g1:Bq a0 a2=0:=h1 (by rw[q1];rfl)
    have e1:mgE a0 a1 a2=0:=Bz5.2 ⟨g,g1⟩
    rw[e1]
    refine⟨?_,rfl⟩
    show CF a1 a2=mrg (a1.length+a2.length) a1 a2
    exact A01 (JA g).2.rise (JA g1).2.rise (fun r hr=>((JA g1).2.good r hr).2) (Nat.le_refl _)
 unfold ZR at h
 rw[e.1,e.2] at h
 exact h
def ZS:List A→Nat→Objs→Option AV:=A7 [.l .group,.t .rows,.t .rows] 0 Amn Aml Ad9
theorem Aea:ET Try.prog 92 ZS:=Aq (ks:=[.l .group,.t .rows,.t .rows]) Bfs
noncomputable def B5r:=AU 92 ZS Cmr
theorem Bxu:CD Try.prog B5r:=Ak Aea Bxz
def NO (a0:List TGroup) (a1:List TRow) (a2:List TRow):Bool:=mgE a0 a1 a2==(0:Int)
def VM (a0:List TGroup) (a1:List TRow) (a2:List TRow):Bool:=(NO a0 a1 a2)&&Bc1 (Iz a0 a1 a2) a2
def VN (a0:List TGroup) (a1:List TRow) (a2:List TRow):A:=.v (.bool (VM a0 a1 a2))
def Amr (_a0:List TGroup) (_a1:List TRow) (_a2:List TRow):Objs:=[]
def Aed (a0:List TGroup) (a1:List TRow) (a2:List TRow):List Prop:=[(a1.length+a2.length≤(400000:Nat)),(∀(g:TGroup),g∈a0→Am g.1.size),((NO a0 a1 a2)=true→Am (Iz a0 a1 a2).length),((NO a0 a1 a2)=true→∀(r:TRow),r∈Iz a0 a1 a2→Ag r.2.length)]
theorem A8x (a0:List TGroup) (a1:List TRow) (a2:List TRow):Eo (Au B5r L0) 9 95 [.sl .group a0,Af .rows a1,Af .rows a2] 0 []=some (1,VN a0 a1 a2,0,Amr a0 a1 a2,Aed a0 a1 a2):=by kernel_rfl
theorem Bfy (a0:List TGroup) (a1:List TRow) (a2:List TRow) (hp:∀p∈Aed a0 a1 a2,p):CallOk Try.prog 95 [.sl .group a0,Af .rows a1,Af .rows a2] 0 [] 1 (VN a0 a1 a2) 0 (Amr a0 a1 a2):=Ax (Ap Bxu Av) (A8x a0 a1 a2) hp
def Aee (a0:List TGroup) (a1 a2:List TRow):A:=.v (.bool (wiB a0 a1 a2))
def Aec (_a0:List TGroup) (_a1 _a2:List TRow):Objs:=[]
def ZY (a0:List TGroup) (a1 a2:List TRow):List Prop:=[a1.length+a2.length≤400000,∀g∈a0,Am g.1.size]
theorem A8w (a0:List TGroup) (a1 a2:List TRow) (hp:∀p∈ZY a0 a1 a2,p):CallOk Try.prog 95 [.sl .group a0,Af .rows a1,Af .rows a2] 0 [] 1 (Aee a0 a1 a2) 0 (Aec a0 a1 a2):=by
 have hb:a1.length+a2.length≤400000:=hp _ (List.mem_cons_self ..)
 have hw:∀g∈a0,Am g.1.size:=hp _ (List.mem_cons_of_mem _ (List.mem_cons_self ..))
 have hm:=Bea a0 a1 a2
 have h:=Bfy a0 a1 a2 (Aa hb (Aa hw (Aa (fun _=>by unfold Am;omega) (Aa (fun _ r hr=>by
  have:=Ari (Ayx a0 a1 a2) r hr
  show Ag r.cells.length
  unfold Ag
  omega) Ad))))
 have e:VM a0 a1 a2=wiB a0 a1 a2:=by
  unfold VM NO wiB Bc1
  cases mgE a0 a1 a2==0 with
  |false=>rfl
  | true=>
   cases hl:(Iz a0 a1 a2).length==a2.length with
   |false=>rfl
   |true=>
    have hl':(Iz a0 a1 a2).length=a2.length:=by simpa using hl
    rw[hl']
    rfl
 unfold VN at h
 rw[e] at h
 exact h
def Ams:List A→Nat→Objs→Option AV:=A7 [.l .group,.t .rows,.t .rows] 0 Aee Aec ZY
theorem A5m:ET Try.prog 95 Ams:=Aq (ks:=[.l .group,.t .rows,.t .rows]) A8w
end Go.Proofs.Yteebobbhhgmeiaa
namespace Go.Proofs.Yteebobbhhgmeiaa
open Go.RowKit
noncomputable def B5x:=AU 45 Yl Cmv
theorem Bx9:CD Try.prog B5x:=Ak Acj B7a
noncomputable def B5y:=AU 49 Ap3 B5x
theorem Bya:CD Try.prog B5y:=Ak Atq Bx9
noncomputable def B5z:=AU 46 Ag9 B5y
theorem Byb:CD Try.prog B5z:=Ak Alv Bya
noncomputable def B50:=AU 94 YI B5z
theorem Byc:CD Try.prog B50:=Ak Ape Byb
noncomputable def B51:=AU 92 ZS B50
theorem Byd:CD Try.prog B51:=Ak Aea Byc
noncomputable def B52:=AU 93 VH B51
theorem Bye:CD Try.prog B52:=Ak VI Byd
noncomputable def Bh5:=AU 95 Ams B52
theorem Azg:CD Try.prog Bh5:=Ak A5m Bye
abbrev De:Type:=(List TRow)×Int×Int×(List TRow)
def Nw (x:De):St:=⟨19,2,[(3,.dq 1),(6,.sl .row x.1),(7,.v (.int .i64 x.2.1)),(8,.v (.int .i64 x.2.2.1))],[(1,some (.deep 71 .row x.2.2.2))]⟩
def P5:St→Option De
 |⟨19,2,[(3,.dq 1),(6,.sl .row z0),(7,.v (.int .i64 z1)),(8,.v (.int .i64 z2))],[(1,some (.deep 71 .row z3))]⟩=>some (z0,z1,z2,z3)
 |_=>none
theorem Ao2:∀s x,P5 s=some x→s=Nw x:=fun s x h=>by
 unfold P5 at h
 split at h
 ·cases h;rfl
 ·cases h
def Acm:Co:=⟨1,2,[3,6,7,8],[],[(5,1)],[5],[3],[1]⟩
def A7g:CR:=⟨[.nilD 3 71 .row],[(0,1)],[3,6,7,8],[0]⟩
def Awe (a0:List TRow) (_a1:Int) (a2:Int) (a3:List TRow):List TRow:=a3++[S5 TC.row TC.cell (TRow.mk (a0.getD a2.toNat (Ab TC.row)).1 []) (Fg (a0.getD a2.toNat (Ab TC.row)))]
def GY (x:De):De:=(x.1,x.2.1,IntKind.i64.wrap (x.2.2.1+(1:Int)),Awe x.1 x.2.1 x.2.2.1 x.2.2.2)
def GX (x:De):Cnd:=some (!!decide (x.2.2.1 <x.2.1))
def OE (x:De):List Prop:=[((!!decide (x.2.2.1 <x.2.1))=true→(0:Int)≤x.2.2.1∧x.2.2.1 <(↑x.1.length:Int)),((!!decide (x.2.2.1 <x.2.1))=true→Ag ((0:Nat)+(x.1.getD x.2.2.1.toNat (Ab TC.row)).2.length)),((!!decide (x.2.2.1 <x.2.1))=true→Ag (x.2.2.2.length+(1:Nat)))]
abbrev J8:De→List Prop:=OE
def T3 (x:De):Bd:=[(some 0,some (!decide (x.2.2.1 <x.2.1)),⟨19,2,[(3,.dq 1)],[(1,some (.deep 71 .row x.2.2.2))]⟩)]
def Iy (x:De):Nat:=(x.2.1 - x.2.2.1).toNat
def Wk (x:De):De:=A5 GY GX (Iy x) x
theorem A1d (a0:List TRow) (a1:Int) (a2:Int) (a3:List TRow):Bk (Au Bh5 L0) 9 (Ae Try.prog 90 0) Acm (Nw (a0,a1,a2,a3))=some (OE (a0,a1,a2,a3),T3 (a0,a1,a2,a3),GX (a0,a1,a2,a3),Nw (GY (a0,a1,a2,a3))):=by kernel_rfl
theorem A1e (a0:List TRow) (a1:Int) (a2:Int) (a3:List TRow) (hp:∀p∈J8 (a0,a1,a2,a3),p):∀p∈OE (a0,a1,a2,a3),p:=hp
noncomputable def Wj:=GH (Au Bh5 L0) (Ae Try.prog 90 0) Acm A7g P5 Iy GY GX J8 T3
theorem Awf:∀s b ps outs,Wj s=some (b,ps,outs)→Wf s ⟨ps,outs,none⟩∧Be (Au C0 L0) b s ps outs:=
 A6 (T:=Nw) Azg Av (u:=9) (by kernel_rfl) (by decide) (fun⟨a0,a1,a2,a3⟩=>A1d a0 a1 a2 a3) (fun⟨a0,a1,a2,a3⟩=>A1e a0 a1 a2 a3) Ao2 (fun _=>AI (n:=19) rfl) fun _ _=>rfl
noncomputable def Acl:=CY 0 Wj L0
theorem Awd:Gf Acl:=AP Awf Av
def Aft (a0:List TRow):List TRow:=(Wk (a0,(↑a0.length:Int),(0:Int),[])).snd.snd.snd
def Afv (_a0:List TRow):A:=.dq 0
def Afu (a0:List TRow):Objs:=[(0,some (.deep 71 .row (Aft a0)))]
def Asp (a0:List TRow):List Prop:=[(AB GY GX J8 (Iy (a0,(↑a0.length:Int),(0:Int),[])) (a0,(↑a0.length:Int),(0:Int),[]))]
theorem Bkb (a0:List TRow):Eo (Au Bh5 Acl) 9 90 [Af .rows a0] 0 []=some (1,Afv a0,1,Afu a0,[(Ae Try.prog (90:FuncId) (0:Nat)=Ae Try.prog (90:FuncId) (0:Nat)),(AB GY GX J8 (Iy (a0,(↑a0.length:Int),(0:Int),[])) (a0,(↑a0.length:Int),(0:Int),[]))]):=by kernel_rfl
theorem Bov (a0:List TRow) (hp:∀p∈Asp a0,p):CallOk Try.prog 90 [Af .rows a0] 0 [] 1 (Afv a0) 1 (Afu a0):=by
 have n1:=N0 hp
 exact Ax (Ap Azg Awd) (Bkb a0) (Aa rfl (Aa n1 Ad))
def Asq (_a0:List TRow):A:=.dq 0
def Aso (a0:List TRow):Objs:=[(0,some (.deep 71 .row a0))]
def Akk (a0:List TRow):List Prop:=[a0.length≤6000∧∀r∈a0,r.cells.length≤6000]
theorem Bka (rows:List TRow) (hb:rows.length≤6000) (hc:∀r∈rows,r.cells.length≤6000):(∀p∈Asp rows,p)∧Aft rows=rows:=by
 obtain⟨h1,hx⟩:=Ay1 (fun i=>(rows,(rows.length:Int),(i:Int),rows.take i):Nat→De) rows.length GY GX J8 (Iy (rows,(rows.length:Int),0,[])) (rows,(rows.length:Int),0,[]) rfl (by show rows.length≤((rows.length:Int) - 0).toNat;omega)
  (fun i _=>by
   show(!!decide ((i:Int) <(rows.length:Int)))=_
   rw[nn,LY])
  (fun i hi=>by
   show(rows,(rows.length:Int),IntKind.i64.wrap ((i:Int)+1),rows.take i++[S5 TC.row TC.cell (TRow.mk (rows.getD ((i:Int)).toNat (Ab TC.row)).1 []) (Fg (rows.getD ((i:Int)).toNat (Ab TC.row)))])=(rows,(rows.length:Int),((i+1:Nat):Int),rows.take (i+1))
   rw[DU (by omega),Int.toNat_natCast,Aah rows (Ab TC.row) i hi]
   rfl)
  (fun i hi=>by
   have hin:(!!decide ((i:Int) <(rows.length:Int)))=true→(i:Int) <(rows.length:Int):=fun h=>by rw[nn] at h;exact of_decide_eq_true h
   refine Aa (fun h=>⟨by show(0:Int)≤(i:Int);omega,hin h⟩) (Aa (fun h=>?_) (Aa (fun h=>?_) Ad))
   ·have h2:=hin h
    show Ag (0+(rows.getD ((i:Int)).toNat (Ab TC.row)).2.length)
    rw[Int.toNat_natCast]
    have h3:=hc _ (getD_in rows (Ab TC.row) i (by omega))
    have h4:(rows.getD i (Ab TC.row)).2.length≤6000:=h3
    unfold Ag
    omega
   ·show Ag ((rows.take i).length+1)
    rw[List.length_take]
    unfold Ag
    omega)
 have hx':Wk (rows,(rows.length:Int),0,[])=(rows,(rows.length:Int),(rows.length:Int),rows.take rows.length):=hx
 refine⟨Aa h1 Ad,?_⟩
 unfold Aft
 rw[hx',List.take_length]
theorem Bj9 (a0:List TRow) (hp:∀p∈Akk a0,p):CallOk Try.prog 90 [Af .rows a0] 0 [] 1 (Asq a0) 1 (Aso a0):=by
 obtain⟨hb,hc⟩:=hp _ (List.mem_cons_self ..)
 obtain⟨h1,h2⟩:=Bka a0 hb hc
 have h:=Bov a0 h1
 unfold Afv Afu at h
 rw[h2] at h
 exact h
def A1f:List A→Nat→Objs→Option AV:=A7 [.t .rows] 1 Asq Aso Akk
theorem Bdv:ET Try.prog 90 A1f:=Aq (ks:=[.t .rows]) Bj9
noncomputable def A9o:=AU 90 A1f Bh5
theorem Azh:CD Try.prog A9o:=Ak Bdv Azg
abbrev Bc:Type:=Int×Int×Int×(List TRow)
def H8 (x:Bc):St:=⟨100,5,[(8,.dq 4),(12,.v (.int .i64 x.1)),(76,.v (.int .i64 x.2.1)),(77,.v (.int .i64 x.2.2.1))],[(4,some (.deep 71 .row x.2.2.2))]⟩
def JO:St→Option Bc
 |⟨100,5,[(8,.dq 4),(12,.v (.int .i64 z0)),(76,.v (.int .i64 z1)),(77,.v (.int .i64 z2))],[(4,some (.deep 71 .row z3))]⟩=>some (z0,z1,z2,z3)
 |_=>none
theorem T2:∀s x,JO s=some x→s=H8 x:=fun s x h=>by
 unfold JO at h
 split at h
 ·cases h;rfl
 ·cases h
def N5:Co:=⟨4,5,[8,12,76,77],[],[(4,4)],[4],[8],[4]⟩
def Yn:CR:=⟨[],[(3,4)],[8,12,76,77],[3]⟩
def Bm (a0:Int) (_a1:Int) (a2:Int) (a3:List TRow):List TRow:=a3.set a0.toNat (S5 TC.row TC.cell (a3.getD a0.toNat (Ab TC.row)) ((a3.getD a0.toNat (Ab TC.row)).2.set a2.toNat (TCell.mk ((a3.getD a0.toNat (Ab TC.row)).2.getD a2.toNat (Ab TC.cell)).1 ((a3.getD a0.toNat (Ab TC.row)).2.getD a2.toNat (Ab TC.cell)).2 ((a3.getD a0.toNat (Ab TC.row)).2.getD a2.toNat (Ab TC.cell)).3 (((a3.getD a0.toNat (Ab TC.row)).2.getD a2.toNat (Ab TC.cell)).4++ByteArray.mk #[(63:UInt8)]) ((a3.getD a0.toNat (Ab TC.row)).2.getD a2.toNat (Ab TC.cell)).5)))
def By (x:Bc):Bc:=(x.1,x.2.1,IntKind.i64.wrap (x.2.2.1+(1:Int)),Bm x.1 x.2.1 x.2.2.1 x.2.2.2)
def Bx (x:Bc):Cnd:=some (!!decide (x.2.2.1 <x.2.1))
def Mr (x:Bc):List Prop:=[((!!decide (x.2.2.1 <x.2.1))=true→(0:Int)≤x.1∧x.1 <(↑x.2.2.2.length:Int)),((!!decide (x.2.2.1 <x.2.1))=true→x.1.toNat <x.2.2.2.length),((!!decide (x.2.2.1 <x.2.1))=true→x.1.toNat <x.2.2.2.length∧(0:Int)≤x.2.2.1∧x.2.2.1 <(↑(x.2.2.2.getD x.1.toNat (Ab TC.row)).2.length:Int)),((!!decide (x.2.2.1 <x.2.1))=true→x.1.toNat <x.2.2.2.length∧x.2.2.1.toNat <(x.2.2.2.getD x.1.toNat (Ab TC.row)).2.length),((!!decide (x.2.2.1 <x.2.1))=true→((x.2.2.2.getD x.1.toNat (Ab TC.row)).2.getD x.2.2.1.toNat (Ab TC.cell)).4.size+(1:Nat)≤(9223372036854775807:Nat)),((!!decide (x.2.2.1 <x.2.1))=true→x.1.toNat <x.2.2.2.length∧(0:Int)≤x.2.2.1∧x.2.2.1 <(↑(x.2.2.2.getD x.1.toNat (Ab TC.row)).2.length:Int)),((!!decide (x.2.2.1 <x.2.1))=true→x.1.toNat <x.2.2.2.length),((!!decide (x.2.2.1 <x.2.1))=true→x.2.2.1.toNat <(x.2.2.2.getD x.1.toNat (Ab TC.row)).2.length)]
def CQ (x:Bc):List Prop:=[((!!decide (x.2.2.1 <x.2.1))=true→(0:Int)≤x.1∧x.1 <(↑x.2.2.2.length:Int)),((!!decide (x.2.2.1 <x.2.1))=true→x.1.toNat <x.2.2.2.length∧(0:Int)≤x.2.2.1∧x.2.2.1 <(↑(x.2.2.2.getD x.1.toNat (Ab TC.row)).2.length:Int)),((!!decide (x.2.2.1 <x.2.1))=true→((x.2.2.2.getD x.1.toNat (Ab TC.row)).2.getD x.2.2.1.toNat (Ab TC.cell)).4.size+(1:Nat)≤(9223372036854775807:Nat)),((!!decide (x.2.2.1 <x.2.1))=true→x.2.2.1.toNat <(x.2.2.2.getD x.1.toNat (Ab TC.row)).2.length)]
def LJ (x:Bc):Bd:=[(some 2,some (!decide (x.2.2.1 <x.2.1)),⟨100,5,[(8,.dq 4)],[(4,some (.deep 71 .row x.2.2.2))]⟩)]
def BR (x:Bc):Nat:=(x.2.1 - x.2.2.1).toNat
def Jf (x:Bc):Bc:=A5 By Bx (BR x) x
theorem Xm (a0:Int) (a1:Int) (a2:Int) (a3:List TRow):Bk (Au A9o L0) 9 (Ae Try.prog 22 2) N5 (H8 (a0,a1,a2,a3))=some (Mr (a0,a1,a2,a3),LJ (a0,a1,a2,a3),Bx (a0,a1,a2,a3),H8 (By (a0,a1,a2,a3))):=by kernel_rfl
theorem Xn (a0:Int) (a1:Int) (a2:Int) (a3:List TRow) (hp:∀p∈CQ (a0,a1,a2,a3),p):∀p∈Mr (a0,a1,a2,a3),p:=by
 have n0:((!!decide (a2 <a1))=true→(0:Int)≤a0∧a0 <(↑a3.length:Int)):=N0 hp
 have n1:((!!decide (a2 <a1))=true→a0.toNat <a3.length):=by intro h0;have g:=n0 h0;omega
 have n2:((!!decide (a2 <a1))=true→a0.toNat <a3.length∧(0:Int)≤a2∧a2 <(↑(a3.getD a0.toNat (Ab TC.row)).2.length:Int)):=N0 (N1 hp)
 have n3:((!!decide (a2 <a1))=true→a0.toNat <a3.length∧a2.toNat <(a3.getD a0.toNat (Ab TC.row)).2.length):=by intro h0;have g:=n2 h0;omega
 have n4:=N0 (N1 (N1 hp))
 have n7:=N0 (N1 (N1 (N1 hp)))
 exact(Aa n0 (Aa n1 (Aa n2 (Aa n3 (Aa n4 (Aa n2 (Aa n1 (Aa n7 Ad))))))))
noncomputable def Ms:=GH (Au A9o L0) (Ae Try.prog 22 2) N5 Yn JO BR By Bx CQ LJ
theorem Vi:∀s b ps outs,Ms s=some (b,ps,outs)→Wf s ⟨ps,outs,none⟩∧Be (Au C0 L0) b s ps outs:=
 A6 (T:=H8) Azh Av (u:=9) (by kernel_rfl) (by decide) (fun⟨a0,a1,a2,a3⟩=>Xm a0 a1 a2 a3) (fun⟨a0,a1,a2,a3⟩=>Xn a0 a1 a2 a3) T2 (fun _=>AI (n:=100) rfl) fun _ _=>rfl
noncomputable def H7:=CY 2 Ms L0
theorem Mq:Gf H7:=AP Vi Av
abbrev BJ:Type:=Int×Int×(List TRow)
def H6 (x:BJ):St:=⟨100,4,[(8,.dq 3),(67,.v (.int .i64 x.1)),(68,.v (.int .i64 x.2.1))],[(3,some (.deep 71 .row x.2.2))]⟩
def JN:St→Option BJ
 |⟨100,4,[(8,.dq 3),(67,.v (.int .i64 z0)),(68,.v (.int .i64 z1))],[(3,some (.deep 71 .row z2))]⟩=>some (z0,z1,z2)
 |_=>none
theorem T1:∀s x,JN s=some x→s=H6 x:=fun s x h=>by
 unfold JN at h
 split at h
 ·cases h;rfl
 ·cases h
def N4:Co:=⟨3,4,[8,67,68],[],[(4,3)],[4],[],[3]⟩
def Ym:CR:=⟨[],[(2,3)],[8,67,68],[2]⟩
def Ez (_a0:Int) (a1:Int) (a2:List TRow):List TRow:=(Jf (a1,(↑(a2.getD a1.toNat (Ab TC.row)).2.length:Int),(0:Int),a2)).snd.snd.snd
def C1 (x:BJ):BJ:=(x.1,IntKind.i64.wrap (x.2.1+(1:Int)),Ez x.1 x.2.1 x.2.2)
def CZ (x:BJ):Cnd:=some (!!decide (x.2.1 <x.1))
def Mo (x:BJ):List Prop:=[((!!decide (x.2.1 <x.1))=true→(0:Int)≤x.2.1∧x.2.1 <(↑x.2.2.length:Int)),((!!decide (x.2.1 <x.1))=true→x.2.1.toNat <x.2.2.length),((!!decide (x.2.1 <x.1))=true→x.2.1.toNat <x.2.2.length),((!!decide (x.2.1 <x.1))=true→Ae Try.prog (22:FuncId) (2:Nat)=Ae Try.prog (22:FuncId) (2:Nat)),((!!decide (x.2.1 <x.1))=true→AB By Bx CQ (BR (x.2.1,(↑(x.2.2.getD x.2.1.toNat (Ab TC.row)).2.length:Int),(0:Int),x.2.2)) (x.2.1,(↑(x.2.2.getD x.2.1.toNat (Ab TC.row)).2.length:Int),(0:Int),x.2.2))]
def DI (x:BJ):List Prop:=[((!!decide (x.2.1 <x.1))=true→(0:Int)≤x.2.1∧x.2.1 <(↑x.2.2.length:Int)),((!!decide (x.2.1 <x.1))=true→AB By Bx CQ (BR (x.2.1,(↑(x.2.2.getD x.2.1.toNat (Ab TC.row)).2.length:Int),(0:Int),x.2.2)) (x.2.1,(↑(x.2.2.getD x.2.1.toNat (Ab TC.row)).2.length:Int),(0:Int),x.2.2))]
def LI (x:BJ):Bd:=[(some 0,some (!decide (x.2.1 <x.1)),⟨100,4,[],[(3,some (.deep 71 .row x.2.2))]⟩)]
def D3 (x:BJ):Nat:=(x.1 - x.2.1).toNat
theorem Xk (a0:Int) (a1:Int) (a2:List TRow):Bk (Au A9o H7) 9 (Ae Try.prog 22 0) N4 (H6 (a0,a1,a2))=some (Mo (a0,a1,a2),LI (a0,a1,a2),CZ (a0,a1,a2),H6 (C1 (a0,a1,a2))):=by kernel_rfl
theorem Xl (a0:Int) (a1:Int) (a2:List TRow) (hp:∀p∈DI (a0,a1,a2),p):∀p∈Mo (a0,a1,a2),p:=by
 have n0:((!!decide (a1 <a0))=true→(0:Int)≤a1∧a1 <(↑a2.length:Int)):=N0 hp
 have n1:((!!decide (a1 <a0))=true→a1.toNat <a2.length):=by intro h0;have g:=n0 h0;omega
 have n3:((!!decide (a1 <a0))=true→Ae Try.prog (22:FuncId) (2:Nat)=Ae Try.prog (22:FuncId) (2:Nat)):=by intros;rfl
 have n4:=N0 (N1 hp)
 exact(Aa n0 (Aa n1 (Aa n1 (Aa n3 (Aa n4 Ad)))))
noncomputable def Mp:=GH (Au A9o H7) (Ae Try.prog 22 0) N4 Ym JN D3 C1 CZ DI LI
theorem Vh:∀s b ps outs,Mp s=some (b,ps,outs)→Wf s ⟨ps,outs,none⟩∧Be (Au C0 L0) b s ps outs:=
 A6 (T:=H6) Azh Mq (u:=9) (by kernel_rfl) (by decide) (fun⟨a0,a1,a2⟩=>Xk a0 a1 a2) (fun⟨a0,a1,a2⟩=>Xl a0 a1 a2) T1 (fun _=>AI (n:=100) rfl) fun _ _=>rfl
noncomputable def N3:=CY 0 Mp H7
theorem Vg:Gf N3:=AP Vh Mq
def An (a0:List TGroup) (a1:List TRow) (a2:List TRow):Bool:=!Rv a0 [] [a1,a2]
def AW (a0:List TGroup) (a1:List TRow) (a2:List TRow):Bool:=!Bc1 (Iz a0 a1 a2) (Iz a0 a1 a2)||mgE a0 a1 a2 !=mgE a0 a1 a2
def A8 (a0:List TGroup) (a1:List TRow) (a2:List TRow):Bool:=(AW a0 a1 a2)||Bq a0 a1 !=Bq a0 a1||!wiB a0 a1 a2==wiB a0 a1 a2
def JT (a0:List TGroup) (a1:List TRow) (a2:List TRow):Bool:=bif(An a0 a1 a2) then true else bif(A8 a0 a1 a2) then false else bif Bc1 a1 a1 then true else false
def Mt (a0:List TGroup) (a1:List TRow) (a2:List TRow):A:=.v (.bool (JT a0 a1 a2))
def RB (_a0:List TGroup) (_a1:List TRow) (_a2:List TRow):Objs:=[]
def P4 (a0:List TGroup) (a1:List TRow) (a2:List TRow):List Prop:=[(Am a0.length∧(Am (0:Nat)∧∀(c:TChange),c∈[]→Aik c)∧Am (2:Nat)∧∀(x:List TRow),x∈[a1,a2]→Am x.length∧∀(r:TRow),r∈x→Xf r),((!(An a0 a1 a2))=true→a1.length≤(6000:Nat)∧∀(r:TRow),r∈a1→r.2.length≤(6000:Nat)),((!(An a0 a1 a2))=true→a1.length+a2.length≤(400000:Nat)),((!(An a0 a1 a2))=true→∀(g:TGroup),g∈a0→Am g.1.size),((!(An a0 a1 a2))=true→Am (Iz a0 a1 a2).length),((!(An a0 a1 a2))=true→∀(r:TRow),r∈Iz a0 a1 a2→Ag r.2.length),((!(An a0 a1 a2))=true→(AW a0 a1 a2)=false→Am a1.length),((!(An a0 a1 a2))=true→(AW a0 a1 a2)=false→∀(g:TGroup),g∈a0→Am g.1.size),((!(An a0 a1 a2))=true→((AW a0 a1 a2)||Bq a0 a1 !=Bq a0 a1)=false→a1.length+a2.length≤(400000:Nat)),((!(An a0 a1 a2))=true→((AW a0 a1 a2)||Bq a0 a1 !=Bq a0 a1)=false→∀(g:TGroup),g∈a0→Am g.1.size),((!(An a0 a1 a2))=true→(!(A8 a0 a1 a2))=true→AB C1 CZ DI (D3 ((↑(Iz a0 a1 a2).length:Int),(0:Int),Iz a0 a1 a2)) ((↑(Iz a0 a1 a2).length:Int),(0:Int),Iz a0 a1 a2)),((!(An a0 a1 a2))=true→(!(A8 a0 a1 a2))=true→Am a1.length),((!(An a0 a1 a2))=true→(!(A8 a0 a1 a2))=true→∀(r:TRow),r∈a1→Ag r.2.length)]
theorem Afr (a0:List TGroup) (a1:List TRow) (a2:List TRow):Eo (Au A9o N3) 9 22 [.sl .group a0,Af .rows a1,Af .rows a2] 0 []=some (1,Mt a0 a1 a2,0,RB a0 a1 a2,[(Am a0.length∧(Am (0:Nat)∧∀(c:TChange),c∈[]→Aik c)∧Am (2:Nat)∧∀(x:List TRow),x∈[a1,a2]→Am x.length∧∀(r:TRow),r∈x→Xf r),((!(An a0 a1 a2))=true→a1.length≤(6000:Nat)∧∀(r:TRow),r∈a1→r.2.length≤(6000:Nat)),((!(An a0 a1 a2))=true→a1.length+a2.length≤(400000:Nat)),((!(An a0 a1 a2))=true→a1.length+a2.length≤(400000:Nat)),((!(An a0 a1 a2))=true→∀(g:TGroup),g∈a0→Am g.1.size),((!(An a0 a1 a2))=true→Am (Iz a0 a1 a2).length),((!(An a0 a1 a2))=true→∀(r:TRow),r∈Iz a0 a1 a2→Ag r.2.length),((!(An a0 a1 a2))=true→(AW a0 a1 a2)=false→Am a1.length),((!(An a0 a1 a2))=true→(AW a0 a1 a2)=false→Am a1.length),((!(An a0 a1 a2))=true→(AW a0 a1 a2)=false→∀(g:TGroup),g∈a0→Am g.1.size),((!(An a0 a1 a2))=true→((AW a0 a1 a2)||Bq a0 a1 !=Bq a0 a1)=false→a1.length+a2.length≤(400000:Nat)),((!(An a0 a1 a2))=true→((AW a0 a1 a2)||Bq a0 a1 !=Bq a0 a1)=false→a1.length+a2.length≤(400000:Nat)),((!(An a0 a1 a2))=true→((AW a0 a1 a2)||Bq a0 a1 !=Bq a0 a1)=false→∀(g:TGroup),g∈a0→Am g.1.size),((!(An a0 a1 a2))=true→(!(A8 a0 a1 a2))=true→Ae Try.prog (22:FuncId) (0:Nat)=Ae Try.prog (22:FuncId) (0:Nat)),((!(An a0 a1 a2))=true→(!(A8 a0 a1 a2))=true→AB C1 CZ DI (D3 ((↑(Iz a0 a1 a2).length:Int),(0:Int),Iz a0 a1 a2)) ((↑(Iz a0 a1 a2).length:Int),(0:Int),Iz a0 a1 a2)),((!(An a0 a1 a2))=true→(!(A8 a0 a1 a2))=true→Am a1.length),((!(An a0 a1 a2))=true→(!(A8 a0 a1 a2))=true→∀(r:TRow),r∈a1→Ag r.2.length),((!(An a0 a1 a2))=true→(!(A8 a0 a1 a2))=true→false=false)]):=by kernel_rfl
theorem Akh (a0:List TGroup) (a1:List TRow) (a2:List TRow) (hp:∀p∈P4 a0 a1 a2,p):CallOk Try.prog 22 [.sl .group a0,Af .rows a1,Af .rows a2] 0 [] 1 (Mt a0 a1 a2) 0 (RB a0 a1 a2):=by
 have n0:=N0 hp
 have n1:((!(An a0 a1 a2))=true→a1.length≤(6000:Nat)∧∀(r:TRow),r∈a1→r.2.length≤(6000:Nat)):=N0 (N1 hp)
 have n2:((!(An a0 a1 a2))=true→a1.length+a2.length≤(400000:Nat)):=N0 (N1 (N1 hp))
 have n4:=N0 (N1 (N1 (N1 hp)))
 have n5:=N0 (N1 (N1 (N1 (N1 hp))))
 have n6:=N0 (N1 (N1 (N1 (N1 (N1 hp)))))
 have n7:((!(An a0 a1 a2))=true→(AW a0 a1 a2)=false→Am a1.length):=N0 (N1 (N1 (N1 (N1 (N1 (N1 hp))))))
 have n9:=N0 (N1 (N1 (N1 (N1 (N1 (N1 (N1 hp)))))))
 have n10:((!(An a0 a1 a2))=true→((AW a0 a1 a2)||Bq a0 a1 !=Bq a0 a1)=false→a1.length+a2.length≤(400000:Nat)):=N0 (N1 (N1 (N1 (N1 (N1 (N1 (N1 (N1 hp))))))))
 have n12:=N0 (N1 (N1 (N1 (N1 (N1 (N1 (N1 (N1 (N1 hp)))))))))
 have n13:((!(An a0 a1 a2))=true→(!(A8 a0 a1 a2))=true→Ae Try.prog (22:FuncId) (0:Nat)=Ae Try.prog (22:FuncId) (0:Nat)):=by intros;rfl
 have n14:=N0 (N1 (N1 (N1 (N1 (N1 (N1 (N1 (N1 (N1 (N1 hp))))))))))
 have n15:=N0 (N1 (N1 (N1 (N1 (N1 (N1 (N1 (N1 (N1 (N1 (N1 hp)))))))))))
 have n16:=N0 (N1 (N1 (N1 (N1 (N1 (N1 (N1 (N1 (N1 (N1 (N1 (N1 hp))))))))))))
 have n17:((!(An a0 a1 a2))=true→(!(A8 a0 a1 a2))=true→false=false):=by intros;rfl
 exact Ax (Ap Azh Vg) (Afr a0 a1 a2) (Aa n0 (Aa n1 (Aa n2 (Aa n2 (Aa n4 (Aa n5 (Aa n6 (Aa n7 (Aa n7 (Aa n9 (Aa n10 (Aa n10 (Aa n12 (Aa n13 (Aa n14 (Aa n15 (Aa n16 (Aa n17 Ad))))))))))))))))))
end Go.Proofs.Yteebobbhhgmeiaa
namespace Go.Proofs.Yteebobbhhgmeiaa
open Go.RowKit
theorem Bs7 {α:Type} (l:List α) (d:α) {i k:Nat} (x:α) (h:k≠i):(l.set i x).getD k d=l.getD k d:=by
 rw[List.getD_eq_getElem?_getD,List.getElem?_set_ne (Ne.symm h),List.getD_eq_getElem?_getD]
theorem Buy {α:Type} (l:List α) (d:α) {i:Nat} (x:α) (h:i <l.length):(l.set i x).getD i d=x:=by
 rw[List.getD_eq_getElem?_getD,List.getElem?_set_self h]
 rfl
theorem B8g (i:Nat) (rs:List TRow) (hi:i <rs.length) (hn:(rs.getD i (Ab TC.row)).cells.length≤6000) (hv:∀c∈(rs.getD i (Ab TC.row)).cells,c.value.size≤6000):
  AB By Bx CQ (BR ((i:Int),((rs.getD i (Ab TC.row)).cells.length:Int),0,rs)) ((i:Int),((rs.getD i (Ab TC.row)).cells.length:Int),0,rs)∧
  (Jf ((i:Int),((rs.getD i (Ab TC.row)).cells.length:Int),0,rs)).2.2.2.length=rs.length∧∀k,k≠i→(Jf ((i:Int),((rs.getD i (Ab TC.row)).cells.length:Int),0,rs)).2.2.2.getD k (Ab TC.row)=rs.getD k (Ab TC.row):=by
 obtain⟨h1,⟨j,_,_,_,_,h2,h3,_⟩,_⟩:=Yu (next:=By) (goes:=Bx) (ps:=CQ)
  (fun x=>∃j:Nat,j≤(rs.getD i (Ab TC.row)).cells.length∧x.1=(i:Int)∧x.2.1=((rs.getD i (Ab TC.row)).cells.length:Int)∧x.2.2.1=(j:Int)∧x.2.2.2.length=rs.length∧(∀k,k≠i→x.2.2.2.getD k (Ab TC.row)=rs.getD k (Ab TC.row))∧
   (x.2.2.2.getD i (Ab TC.row)).2.length=(rs.getD i (Ab TC.row)).cells.length∧∀m,j≤m→(x.2.2.2.getD i (Ab TC.row)).2.getD m (Ab TC.cell)=(rs.getD i (Ab TC.row)).cells.getD m (Ab TC.cell))
  (fun x=>(((rs.getD i (Ab TC.row)).cells.length:Int) - x.2.2.1).toNat)
  (fun x hx=>by
   obtain⟨j,hj,e1,e2,e3,e4,e5,e6,e7⟩:=hx
   obtain⟨x1,x2,x3,xs⟩:=x
   simp only at e1 e2 e3 e4 e5 e6 e7
   subst e1 e2 e3
   have hin:(!!decide ((j:Int) <((rs.getD i (Ab TC.row)).cells.length:Int)))=true→j <(rs.getD i (Ab TC.row)).cells.length:=fun h=>by rw[nn] at h;have:=of_decide_eq_true h;omega
   have ei:((i:Int)).toNat=i:=Int.toNat_natCast i
   have ej:((j:Int)).toNat=j:=Int.toNat_natCast j
   refine⟨Aa (fun h=>?_) (Aa (fun h=>?_) (Aa (fun h=>?_) (Aa (fun h=>?_) Ad))),fun h=>?_⟩
   ·show(0:Int)≤(i:Int)∧(i:Int) <(xs.length:Int)
    omega
   ·have:=hin h
    show((i:Int)).toNat <xs.length∧(0:Int)≤(j:Int)∧(j:Int) <((xs.getD ((i:Int)).toNat (Ab TC.row)).2.length:Int)
    rw[ei,e6]
    omega
   ·have hlt:=hin h
    show((xs.getD ((i:Int)).toNat (Ab TC.row)).2.getD ((j:Int)).toNat (Ab TC.cell)).4.size+1≤9223372036854775807
    rw[ei,ej,e7 j (Nat.le_refl _)]
    have h9:=hv _ (getD_in _ (Ab TC.cell) j hlt)
    have h8:((rs.getD i (Ab TC.row)).cells.getD j (Ab TC.cell)).4.size≤6000:=h9
    omega
   ·have:=hin h
    show((j:Int)).toNat <(xs.getD ((i:Int)).toNat (Ab TC.row)).2.length
    rw[ei,ej,e6]
    exact this
   ·have hlt:=hin h
    have hw:IntKind.i64.wrap ((j:Int)+1)=((j+1:Nat):Int):=DU (by omega)
    have hix:i <xs.length:=by omega
    have hself:∀r:TRow,(xs.set i r).getD i (Ab TC.row)=r:=fun r=>Buy xs (Ab TC.row) r hix
    constructor
    ·refine⟨j+1,hlt,rfl,rfl,hw,?_,fun k hk=>?_,?_,fun m hm=>?_⟩
     ·show(Bm (i:Int) ((rs.getD i (Ab TC.row)).cells.length:Int) (j:Int) xs).length=rs.length
      unfold Bm
      rw[List.length_set]
      exact e4
     ·show(Bm (i:Int) ((rs.getD i (Ab TC.row)).cells.length:Int) (j:Int) xs).getD k (Ab TC.row)=_
      unfold Bm
      rw[ei,Bs7 _ _ _ hk]
      exact e5 k hk
     ·show((Bm (i:Int) ((rs.getD i (Ab TC.row)).cells.length:Int) (j:Int) xs).getD i (Ab TC.row)).2.length=_
      unfold Bm
      rw[ei,hself]
      show(List.set _ _ _).length=_
      rw[List.length_set]
      exact e6
     ·show((Bm (i:Int) ((rs.getD i (Ab TC.row)).cells.length:Int) (j:Int) xs).getD i (Ab TC.row)).2.getD m (Ab TC.cell)=_
      unfold Bm
      rw[ei,ej,hself]
      show(List.set _ _ _).getD m (Ab TC.cell)=_
      rw[Bs7 _ _ _ (by omega)]
      exact e7 m (by omega)
    ·show(((rs.getD i (Ab TC.row)).cells.length:Int) - IntKind.i64.wrap ((j:Int)+1)).toNat <(((rs.getD i (Ab TC.row)).cells.length:Int) - (j:Int)).toNat
     rw[hw]
     omega)
  (BR ((i:Int),((rs.getD i (Ab TC.row)).cells.length:Int),0,rs)) ((i:Int),((rs.getD i (Ab TC.row)).cells.length:Int),0,rs) ⟨0,Nat.zero_le _,rfl,rfl,rfl,rfl,fun _ _=>rfl,rfl,fun _ _=>rfl⟩ (by show _≤(((rs.getD i (Ab TC.row)).cells.length:Int) - 0).toNat;exact Nat.le_refl _)
 exact⟨h1,h2,h3⟩
theorem B4u (rows:List TRow) (hb:rows.length≤12000) (hs:∀r∈rows,r.cells.length≤6000∧∀c∈r.cells,c.value.size≤6000):
  AB C1 CZ DI (D3 ((rows.length:Int),0,rows)) ((rows.length:Int),0,rows):=
 (Yu (next:=C1) (goes:=CZ) (ps:=DI)
  (fun x=>∃i:Nat,i≤rows.length∧x.1=(rows.length:Int)∧x.2.1=(i:Int)∧x.2.2.length=rows.length∧∀k,i≤k→x.2.2.getD k (Ab TC.row)=rows.getD k (Ab TC.row))
  (fun x=>((rows.length:Int) - x.2.1).toNat)
  (fun x hx=>by
   obtain⟨i,hi,e1,e2,e3,e4⟩:=hx
   obtain⟨x1,x2,xs⟩:=x
   simp only at e1 e2 e3 e4
   subst e1 e2
   have hin:(!!decide ((i:Int) <(rows.length:Int)))=true→i <rows.length:=fun h=>by rw[nn] at h;have:=of_decide_eq_true h;omega
   have ei:((i:Int)).toNat=i:=Int.toNat_natCast i
   have key:i <rows.length→_:=fun h=>B8g i xs (by omega) (by rw[e4 i (Nat.le_refl _)];exact(hs _ (getD_in rows _ i h)).1) (by rw[e4 i (Nat.le_refl _)];exact(hs _ (getD_in rows _ i h)).2)
   refine⟨Aa (fun h=>?_) (Aa (fun h=>?_) Ad),fun h=>?_⟩
   ·have:=hin h
    show(0:Int)≤(i:Int)∧(i:Int) <(xs.length:Int)
    omega
   ·show AB By Bx CQ (BR ((i:Int),((xs.getD ((i:Int)).toNat (Ab TC.row)).2.length:Int),(0:Int),xs)) ((i:Int),((xs.getD ((i:Int)).toNat (Ab TC.row)).2.length:Int),(0:Int),xs)
    rw[ei]
    exact(key (hin h)).1
   ·have hlt:=hin h
    have hw:IntKind.i64.wrap ((i:Int)+1)=((i+1:Nat):Int):=DU (by omega)
    obtain⟨_,k2,k3⟩:=key hlt
    refine⟨⟨i+1,hlt,rfl,hw,?_,fun k hk=>?_⟩,?_⟩
    ·show(Ez (rows.length:Int) (i:Int) xs).length=rows.length
     unfold Ez
     rw[ei]
     exact k2.trans e3
    ·show(Ez (rows.length:Int) (i:Int) xs).getD k (Ab TC.row)=rows.getD k (Ab TC.row)
     unfold Ez
     rw[ei]
     exact(k3 k (by omega)).trans (e4 k (by omega))
    ·show((rows.length:Int) - IntKind.i64.wrap ((i:Int)+1)).toNat <((rows.length:Int) - (i:Int)).toNat
     rw[hw]
     omega)
  (D3 ((rows.length:Int),0,rows)) ((rows.length:Int),0,rows) ⟨0,Nat.zero_le _,rfl,rfl,rfl,fun _ _=>rfl⟩ (Nat.le_refl _)).1
theorem Boo {p:Int} {c:TCell} (h:Bw p c=true):c.value.size≤64:=by
 unfold Bw at h
 cases h1:(p==1&&!HG c.dead||(p==2&&(c.gone||!CM c.dead)||!(p==1||p==2))) with
 |true=>rw[h1] at h;cases h
 | false=>
  rw[h1,cond_false] at h
  cases h2:!BY c with
  |true=>
   unfold BY at h2
   rw[Bool.not_not] at h2
   have h3:=(Bool.and_eq_true_iff.1 (Bool.and_eq_true_iff.1 h2).2).2
   have h4:c.value.size=0:=by simpa using h3
   omega
  |false=>
   rw[h2,cond_false] at h
   have h3:=(Bool.and_eq_true_iff.1 (Bool.and_eq_true_iff.1 h).1).2
   have h4:=of_decide_eq_true h3
   omega
theorem Bu6 (l:List TGroup) (a b:List TRow):∀r∈Iz l a b,r.cells.length≤6000∧∀c∈r.cells,c.value.size≤6000:=fun r hr=>by
 have g:=((Ayx l a b).good r hr).1
 have h4:=Ari (Ayx l a b) r hr
 refine⟨by omega,fun c hc=>?_⟩
 obtain⟨i,hi,rfl⟩:=List.getElem_of_mem hc
 have hl:=(AK g).2.1
 have:=Boo (J6 g (i:=i) (by omega))
 have e:HH r.cells i=r.cells[i]:=by unfold HH;rw[List.getD_eq_getElem?_getD,List.getElem?_eq_getElem hi];rfl
 rw[e] at this
 omega
theorem B3z (a0:List TGroup) (a1 a2:List TRow) (w0:a0.length≤maxLen∧∀y∈a0,Wfd .group y) (w1:a1.length≤maxLen∧∀y∈a1,Wfd .row y) (w2:a2.length≤maxLen∧∀y∈a2,Wfd .row y):(∀p∈P4 a0 a1 a2,p)∧JT a0 a1 a2=true:=by
 have wr:∀{a:List TRow},(a.length≤maxLen∧∀y∈a,Wfd .row y)→Am a.length∧∀r∈a,Xf r:=fun {a} w=>⟨w.1,fun r hr=>⟨(w.2 r hr).1,(w.2 r hr).2.1,fun c hc=>((w.2 r hr).2.2 c hc).2.2.2.1⟩⟩
 have hx:∀x∈[a1,a2],Am x.length∧∀r∈x,Xf r:=fun x hx=>by
  rcases List.mem_cons.1 hx with rfl|hx
  ·exact wr w1
  ·rw[List.mem_singleton.1 hx];exact wr w2
 have hw:Am a0.length∧(Am (0:Nat)∧∀c∈([]:List TChange),Aik c)∧Am (2:Nat)∧∀x∈[a1,a2],Am x.length∧∀r∈x,Xf r:=
  ⟨w0.1,⟨by unfold Am;omega,fun c hc=>by cases hc⟩,by unfold Am;omega,hx⟩
 have hg:∀g∈a0,Am g.1.size:=fun g hg=>(w0.2 g hg).1
 have hlt:(!(An a0 a1 a2))=true→(a1.length≤6000∧∀r∈a1,S6 6000 r)∧(a2.length≤6000∧∀r∈a2,S6 6000 r):=fun h=>by
  unfold An at h
  rw[Bool.not_not] at h
  have:=((A1i a0 [] [a1,a2] hw.1 hw.2.1 hw.2.2.1 hw.2.2.2).2 h).2.2
  exact⟨this a1 (List.mem_cons_self ..),this a2 (List.mem_cons_of_mem _ (List.mem_cons_self ..))⟩
 have hm:=Bea a0 a1 a2
 have hsm:=Bu6 a0 a1 a2
 have bb:∀{n:Nat},n≤6000→Ag n:=fun h=>by unfold Ag;omega
 have wb:∀{n:Nat},n≤12000→Am n:=fun h=>by unfold Am;omega
 have hn:(!(An a0 a1 a2))=true→a1.length+a2.length≤12000:=fun h=>by
  have h1:=(hlt h).1.1
  have h2:=(hlt h).2.1
  omega
 refine⟨Aa hw (Aa (fun h=>⟨(hlt h).1.1,fun r hr=>((hlt h).1.2 r hr).2.1⟩) (Aa (fun h=>by have:=hn h;omega) (Aa (fun _=>hg) (Aa (fun h=>wb (by have:=hn h;omega)) (Aa (fun _ r hr=>bb (hsm r hr).1)
  (Aa (fun h _=>wb (by have:=hn h;omega)) (Aa (fun _ _=>hg) (Aa (fun h _=>by have:=hn h;omega) (Aa (fun _ _=>hg) (Aa (fun h _=>B4u _ (by have:=hn h;omega) hsm) (Aa (fun h _=>wb (by have:=hn h;omega)) (Aa (fun h _ r hr=>bb ((hlt h).1.2 r hr).2.1) Ad)))))))))))),?_⟩
 unfold JT
 have k1:AW a0 a1 a2=false:=by
  unfold AW
  rw[A97,bne_self_eq_false]
  rfl
 have k0:A8 a0 a1 a2=false:=by
  unfold A8
  rw[k1,bne_self_eq_false]
  cases wiB a0 a1 a2<;>rfl
 rw[k0,A97]
 cases An a0 a1 a2<;>rfl
end Go.Proofs.Yteebobbhhgmeiaa
namespace Go.Proofs.Yteebobbhhgmeiaa
open Go.RowKit
set_option maxRecDepth 100000
theorem op3:Opn Try.prog .i64 3:=B37 Try.underlying3
theorem op4:Opn Try.prog .bool 4:=B0g Try.underlying4
theorem op9:Opn Try.prog .str 9:=B38 Try.underlying9
theorem B9o:Opn Try.prog .vec 31:=fun en w base spare held m cs y h=>by
 obtain⟨xs,n,_,_,hl,hz,hg⟩:=DataW.trod_array Try.underlying31 h
 have hl:cs.length=2:=hl.trans (by kernel_rfl)
 obtain⟨x0,w0,g0⟩:=B87 (i:=0) (k:=1) op3 (by kernel_rfl) (by omega) (by omega) hg
 obtain⟨x1,w1,g1⟩:=B87 (i:=1) (k:=1) op3 (by kernel_rfl) (by omega) (by omega) hg
 exact⟨⟨x0,x1⟩,⟨w0,w1⟩,fun F N nx hF=>HLd (o:=0) (k:=1) (g0 F N nx hF) (HLd (o:=1) (k:=1) (g1 F N nx hF) (HLe (o:=2) hl))⟩
theorem B96:Opn Try.prog .stamp 51:=fun en w base spare held m cs y h=>by
 obtain⟨xs,n,_,_,hl,hz,hg⟩:=DataW.trod_struct Try.underlying51 h
 have hz:xs.length=2:=hz
 have hl:cs.length=2:=hl.trans (by kernel_rfl)
 obtain⟨x0,w0,g0⟩:=A66 (i:=0) (o:=0) (k:=1) op3 rfl rfl rfl (by kernel_rfl) (by omega) hg
 obtain⟨x1,w1,g1⟩:=A66 (i:=1) (o:=1) (k:=1) op3 rfl rfl rfl (by kernel_rfl) (by omega) hg
 exact⟨⟨x0,x1⟩,⟨w0,w1⟩,fun F N nx hF=>HLd (o:=0) (k:=1) (g0 F N nx hF) (HLd (o:=1) (k:=1) (g1 F N nx hF) (HLe (o:=2) hl))⟩
theorem B97:Opn Try.prog .cell 55:=fun en w base spare held m cs y h=>by
 obtain⟨xs,n,_,_,hl,hz,hg⟩:=DataW.trod_struct Try.underlying55 h
 have hz:xs.length=5:=hz
 have hl:cs.length=8:=hl.trans (by kernel_rfl)
 obtain⟨x0,w0,g0⟩:=A66 (i:=0) (o:=0) (k:=2) B96 rfl rfl rfl (by kernel_rfl) (by omega) hg
 obtain⟨x1,w1,g1⟩:=A66 (i:=1) (o:=2) (k:=2) B9o rfl rfl rfl (by kernel_rfl) (by omega) hg
 obtain⟨x2,w2,g2⟩:=A66 (i:=2) (o:=4) (k:=1) op4 rfl rfl rfl (by kernel_rfl) (by omega) hg
 obtain⟨x3,w3,g3⟩:=A66 (i:=3) (o:=5) (k:=1) op9 rfl rfl rfl (by kernel_rfl) (by omega) hg
 obtain⟨x4,w4,g4⟩:=A66 (i:=4) (o:=6) (k:=2) B9o rfl rfl rfl (by kernel_rfl) (by omega) hg
 exact⟨⟨x0,x1,x2,x3,x4⟩,⟨w0,w1,w2,w3,w4⟩,fun F N nx hF=>HLd (o:=0) (k:=2) (g0 F N nx hF) (HLd (o:=2) (k:=2) (g1 F N nx hF) (HLd (o:=4) (k:=1) (g2 F N nx hF) (HLd (o:=5) (k:=1) (g3 F N nx hF) (HLd (o:=6) (k:=2) (g4 F N nx hF) (HLe (o:=8) hl)))))⟩
theorem B99:Opn Try.prog .group 79:=fun en w base spare held m cs y h=>by
 obtain⟨xs,n,_,_,hl,hz,hg⟩:=DataW.trod_struct Try.underlying79 h
 have hz:xs.length=2:=hz
 have hl:cs.length=2:=hl.trans (by kernel_rfl)
 obtain⟨x0,w0,g0⟩:=A66 (i:=0) (o:=0) (k:=1) op9 rfl rfl rfl (by kernel_rfl) (by omega) hg
 obtain⟨x1,w1,g1⟩:=A66 (i:=1) (o:=1) (k:=1) op3 rfl rfl rfl (by kernel_rfl) (by omega) hg
 exact⟨⟨x0,x1⟩,⟨w0,w1⟩,fun F N nx hF=>HLd (o:=0) (k:=1) (g0 F N nx hF) (HLd (o:=1) (k:=1) (g1 F N nx hF) (HLe (o:=2) hl))⟩
theorem B9p:A9p Try.prog .group 66:=A2y Try.underlying66 (by kernel_rfl) B99
theorem B9q:A9p Try.prog .cell 69:=A2y Try.underlying69 (by kernel_rfl) B97
theorem B98:Opn Try.prog .row 71:=fun en w base spare held m cs y h=>by
 obtain⟨xs,n,_,_,hl,hz,hg⟩:=DataW.trod_struct Try.underlying71 h
 have hz:xs.length=2:=hz
 have hl:cs.length=2:=hl.trans (by kernel_rfl)
 obtain⟨x0,w0,g0⟩:=A66 (i:=0) (o:=0) (k:=1) op9 rfl rfl rfl (by kernel_rfl) (by omega) hg
 obtain⟨x1,w1,g1⟩:=B95 (i:=1) (o:=1) (k:=1) B9q rfl rfl rfl (by kernel_rfl) (by omega) hg
 exact⟨⟨x0,x1⟩,⟨w0,w1⟩,fun F N nx hF=>HLd (o:=0) (k:=1) (g0 F N nx hF) (HLd (o:=1) (k:=1) (g1 F N nx hF) (HLe (o:=2) hl))⟩
theorem B6c:A9p Try.prog .row 67:=A2y Try.underlying67 (by kernel_rfl) B98
end Go.Proofs.Yteebobbhhgmeiaa
namespace Go.Proofs.Yteebobbhhgmeiaa
open Go.ChangeShapes Go.WideShapes Go.ChangeAt Go.RowKit
theorem own:ownKnob Try.prog.godebug=none:=by kernel_rfl
theorem B3t:laidOutB Try.prog=true:=by kernel_rfl
section
variable {P:Program} {H:Type} {enc:TypeId×Value→H} {w:World} {base:Nat} {spare:Nat→Bool} {held:Bool} {v:Value} {d:DataW H} {p:List MemPlace}
end
theorem Ab6 {H:Type} {enc:TypeId×Value→H} {W W':World} (hb:Below W.heap.size W W'):∀(ts:List TypeId) (vs:List Value) (ds:List (DataW H)) (ps:List MemPlace),
  (∀t∈ts,Try.prog.readableRec t=true∧t <Try.prog.types.size)→DataW.TrodAll enc Try.prog W 0 (fun _=>true) true ts vs ds ps→(∀x∈ps,x.block <W.heap.size)→
  DataW.TrodAll enc Try.prog W' 0 (fun b=>decide (b <W.heap.size)) true ts vs ds ps
 | [],vs,ds,ps,_,h,_=>by
  obtain⟨rfl,rfl,rfl⟩:=trodAll_nil h
  exact trodAll_mk0
 | t::ts,vs,ds,ps,hr,h,hlt=>by
  obtain⟨v,vs',d,ds',p,q,rfl,rfl,rfl,h0,h1⟩:=trodAll_cons h
  exact trodAll_cons_mk (Below.trod B3t (hr t (by simp)).1 (hr t (by simp)).2 h0 hb fun x hx=>hlt x (by simp[hx]))
   (Ab6 hb ts vs' ds' q (fun t' ht'=>hr t' (by simp[ht'])) h1 fun x hx=>hlt x (by simp[hx]))
section
variable {H:Type} {enc:TypeId×Value→H} {w:World} {base:Nat} {spare:Nat→Bool} {held:Bool} {v:Value} {d:DataW H} {p:List MemPlace}
end
end Go.Proofs.Yteebobbhhgmeiaa
namespace Go.Proofs.Yteebobbhhgmeiaa
open Go.RowKit Go.WideShapes Go.ChangeShapes
section
variable {H:Type} {en:TypeId×Value→H} {P:Program} {w:World} {base:Nat} {spare:Nat→Bool} {held:Bool} {t e:TypeId} {v:Value} {d:DataW H} {p:List MemPlace} {r:Reach} {b0:Nat} {c:TC}
theorem Azm (ht:P.underlying t=some (.slice e)) (ho:A9p P c t) (hv:Value.okWide P w r b0 t v) (h:DataW.Trod en P w base spare held t v d p):
  ∃l:List (U c),(l.length≤maxLen∧∀x∈l,Wfd c x)∧∀(F:Nat→Prop) (N:Nm) (nx:Nat),FB w F→Hv F N nx w (.sl c l) v:=by
 obtain⟨a,len,cap,rfl⟩:=okWide_slice ht hv
 obtain⟨fuel,hf⟩:=h
 obtain⟨l,h1,h2⟩:=ho en w base spare held fuel _ _ hf
 refine⟨l,h1,fun F N nx hF=>?_⟩
 obtain⟨y,ys,e,h3,_⟩:=(h2 F N nx hF).inv
 have e':[Value.slice a len cap]=y::ys:=e
 cases e'
 exact h3
end
theorem Byn {P:Program} {f:FuncId} {args:List A} {nx':Nat} {o':Objs} {b:Bool} (h:CallOk P f args 0 [] 1 (.v (.bool b)) nx' o') (W:World) (vs:List Value) (ha:∀(F:Nat→Prop) (N:Nm) (nx:Nat),FB W F→HL F N nx W args vs):
  Calls P f vs.toArray W fun e W'=>e=.returned (.bool b)∧Below W.heap.size W W':=by
 have hr:HRel (fun b=>b <W.heap.size) ⟨fun _=>0,fun _=> .nilFunc⟩ 0 [] W:=⟨fun g hg=>hg,fun i ob hi=>(by cases hi),fun i ob g hi=>(by cases hi),fun i j x y g hi=>(by cases hi)⟩
 refine(h _ _ W vs hr (ha _ _ _ fun b hb=>hb)).mono fun e W' ⟨y,F',N',he,_,_,hy,hb⟩=>?_
 rw[hy.v_inv] at he
 exact⟨he,hb (Nat.le_refl _)⟩
end Go.Proofs.Yteebobbhhgmeiaa
namespace Go.Proofs.Yteebobbhhgmeiaa.modelMerges
open Go.ChangeShapes Go.WideShapes Go.ChangeAt Go.RowKit
theorem lifted (os:Os) (started:os.Started) (H:Type) (enc:TypeId×Value→H):
  ReturnsInHanded {} Try.checked os 22 .any (Rows.modelMergesSpec.pre6 enc Try.prog Try.f22 Rows.modelMergesRow.domain false) (Rows.modelMergesSpec.post enc Try.prog Try.f22 false true false false):=by
 refine returnsInHanded_of_change (C:=Try.checked) own started (by kernel_rfl) Try.func22
  (ChangeSpec.witness6 (enc:=enc) (C:=Try.checked) false ⟨#[],#[.slice none 0 0,.slice none 0 0,.slice none 0 0],[]⟩ 8 (by kernel_rfl) (by kernel_rfl) (by kernel_rfl) (by kernel_rfl)) ?_
 intro W base args ds gs before hval0 hW hcnd _
 have hval:∀(j:Nat) t v,Try.f22.params[j]?=some t→args[j]?=some v→Value.okWide Try.prog W .any base t v:=hval0
 have hW':=hW
 have hlt:∀x∈before,x.block <W.heap.size:=fun x hx=>hW.lt x hx
 obtain⟨p,q,hA0,hV,rfl,hfz,hnd⟩:=hW
 have hA:DataW.TrodAll enc Try.prog W 0 (fun _=>true) true Try.f22.params.toList args.toList ds p:=hA0
 rw[Try.params22] at hA hval
 have hA':=hA
 obtain⟨v0,vs0,d0,ds0,p0,q0,hargs,rfl,rfl,h0,r0⟩:=trodAll_cons hA
 obtain⟨v1,vs1,d1,ds1,p1,q1,rfl,rfl,rfl,h1,r1⟩:=trodAll_cons r0
 obtain⟨v2,vs2,d2,ds2,p2,q2,rfl,rfl,rfl,h2,r2⟩:=trodAll_cons r1
 obtain⟨rfl,rfl,rfl⟩:=trodAll_nil r2
 obtain rfl:args=#[v0,v1,v2]:=by cases args;simp_all
 obtain⟨rfl,rfl⟩:=trodVars_none hV
 obtain⟨a0,w0,g0⟩:=Azm Try.underlying66 B9p (hval 0 66 v0 rfl rfl) h0
 obtain⟨a1,w1,g1⟩:=Azm Try.underlying67 B6c (hval 1 67 v1 rfl rfl) h1
 obtain⟨a2,w2,g2⟩:=Azm Try.underlying67 B6c (hval 2 67 v2 rfl rfl) h2
 obtain⟨hn,ht⟩:=B3z a0 a1 a2 w0 w1 w2
 have hc:=Akh a0 a1 a2 hn
 have hr:Mt a0 a1 a2=.v (.bool true):=by show A.v (.bool (JT a0 a1 a2))=_;rw[ht]
 rw[hr] at hc
 refine(Byn hc W [v0,v1,v2] fun F N nx hF=>HL.cons (g0 F N nx hF) (HL.cons (g1 F N nx hF) (HL.cons (g2 F N nx hF) (HL.nil)))).mono fun e W' ⟨he,bel⟩=>?_
 subst he
 have hread:∀t∈[66,67,67],Try.prog.readableRec t=true∧t <Try.prog.types.size:=by
  intro t ht
  simp only[List.mem_cons,List.not_mem_nil,or_false] at ht
  rcases ht with rfl|rfl|rfl
  all_goals exact⟨by kernel_rfl,of_decide_eq_true (by kernel_rfl)⟩
 exact⟨_,rfl,_,_,_,[],_,[],hW',trodAll_mk1 (shut_bool Try.underlying4 _),
  Ab6 bel _ _ _ _ hread hA' (fun x hx=>hlt x (by simpa using hx)),rfl,bel.frame _,fun h=>by cases h⟩
theorem tA:Try.prog.funcNamed Rows.modelMergesRow.func=some 22:=by kernel_rfl
theorem b0:(Rows.modelMergesRow.wf (OpenSpec.ofChange Rows.modelMergesSpec))=true:=by kernel_rfl
theorem b1:(laidOutB Try.prog)=true:=by kernel_rfl
theorem b2:(mapsRowed Try.prog)=true:=by kernel_rfl
theorem b3:(Try.f22.params.all (Try.prog.readableRec ·))=true:=by kernel_rfl
theorem b4:(namedTie Try.prog Rows.modelMergesRow.named Rows.modelMergesSpec.vars)=true:=by kernel_rfl
theorem b5:((Rows.modelMergesRow.stops==[]))=true:=by kernel_rfl
theorem b6:((Try.prog.stops==[]))=true:=by kernel_rfl
theorem b7:((Rows.modelMergesRow.knobs==[]))=true:=by kernel_rfl
theorem b8:((Try.prog.stopKnobs==[]))=true:=by kernel_rfl
theorem b9:((Rows.modelMergesRow.inPlace==Try.prog.inPlace 22))=true:=by kernel_rfl
theorem b10:((Rows.modelMergesRow.unfollowed==Try.prog.unfollowed 22))=true:=by kernel_rfl
theorem b11:((Rows.modelMergesRow.recurses==Try.prog.recurses 22))=true:=by kernel_rfl
theorem b12:((Rows.modelMergesRow.named==Try.prog.varsNamed 22))=true:=by kernel_rfl
theorem b13:((Rows.modelMergesRow.maps==(Try.f22.params.toList++Rows.modelMergesSpec.plain.varTypes Try.prog).any (Try.prog.mapsRec ·)))=true:=by kernel_rfl
theorem b14:((Rows.modelMergesRow.ifaces==(Try.f22.params.toList++Rows.modelMergesSpec.plain.varTypes Try.prog).any (Try.prog.ifacesRec ·)))=true:=by kernel_rfl
theorem b15:((Rows.modelMergesRow.mapsOut==Try.prog.mapsAmong Try.f22.resultTypes.toList))=true:=by kernel_rfl
theorem b16:((Rows.modelMergesRow.loops==(Try.f22.params.toList++Rows.modelMergesSpec.plain.varTypes Try.prog).any (Try.prog.loopsFrom ·)))=true:=by kernel_rfl
theorem b17:((Rows.modelMergesRow.wideKeys==(Try.f22.params.toList++Rows.modelMergesSpec.plain.varTypes Try.prog++Try.f22.resultTypes.toList).any (Try.prog.wideKeysFrom ·)))=true:=by kernel_rfl
theorem b18:(Rows.modelMergesSpec.vars.all (Try.prog.varReadable ·))=true:=by kernel_rfl
theorem b19:(Try.f22.resultTypes.all (fun t=>Try.prog.readableRec t&&decide (t <Try.prog.types.size)))=true:=by kernel_rfl
theorem b20:((Rows.modelMergesRow.ifacesOut==Try.f22.resultTypes.toList.any (Try.prog.ifacesRec ·)))=true:=by kernel_rfl
theorem b21:((Rows.modelMergesRow.loopsOut==Try.f22.resultTypes.toList.any (Try.prog.loopsFrom ·)))=true:=by kernel_rfl
theorem b22:((Rows.modelMergesRow.plainKeys==Try.prog.plainKeys))=true:=by kernel_rfl
theorem b23:(Rows.modelMergesRow.shortTexts.isNone)=true:=by kernel_rfl
theorem b24:(Try.prog.stopsHeard)=true:=by kernel_rfl
theorem b25:(Try.prog.mayEnter)=true:=by kernel_rfl
theorem b26:((Rows.modelMergesRow.lifted==Try.prog.liftsFinal))=true:=by kernel_rfl
theorem b27:((Try.prog.make==some Rows.modelMergesRow.make))=true:=by kernel_rfl
theorem b28:((Rows.modelMergesRow.kinds==(if Rows.modelMergesRow.domain.isEmpty then[] else Try.f22.params.toList.map fun t=>match Try.prog.underlying t with|some (.int k)=>some k|_=>none)))=true:=by kernel_rfl
theorem b29:((Rows.modelMergesRow.pinned==Rows.modelMergesRow.pinnedBy))=true:=by kernel_rfl
theorem b30:((Rows.modelMergesRow.veiled==(Try.f22.params.toList++Rows.modelMergesSpec.plain.varTypes Try.prog++Try.f22.resultTypes.toList).any (Try.prog.veiledRec ·)))=true:=by kernel_rfl
theorem b31:(Rows.modelMergesRow.veiledFits Try.prog Try.f22.params.toList (Try.f22.params.toList++Rows.modelMergesSpec.plain.varTypes Try.prog++Try.f22.resultTypes.toList))=true:=by kernel_rfl
theorem Ll {a b:Bool} (h:a=true) (g:b=true):(a&&b)=true:=by rw[h,g];rfl
theorem tB:joinedFacts Try.prog 22 Try.f22 Rows.modelMergesSpec Rows.modelMergesRow=true:=by
 unfold joinedFacts
 exact(Ll (Ll (Ll (Ll (Ll (Ll (Ll (Ll (Ll (Ll (Ll (Ll (Ll (Ll (Ll (Ll (Ll (Ll (Ll (Ll (Ll (Ll (Ll (Ll (Ll (Ll (Ll (Ll (Ll (Ll (Ll b0 b1) b2) b3) b4) b5) b6) b7) b8) b9) b10) b11) b12) b13) b14) b15) b16) b17) b18) b19) b20) b21) b22) b23) b24) b25) b26) b27) b28) b29) b30) b31)
theorem tC:Try.f22.isInstance Try.prog Rows.modelMergesRow.origin Rows.modelMergesRow.targs:=of_decide_eq_true (by kernel_rfl)
theorem tD0:decide (Check.packageOf Try.f22.name= "main")=false:=by kernel_rfl
theorem tD:Try.f22.isWrapper Try.prog Rows.modelMergesRow.wrapper Rows.modelMergesRow.mainSum:=by
 unfold Func.isWrapper
 rw[if_neg (of_decide_eq_false tD0)]
 exact⟨rfl,rfl⟩
theorem over:Rows.modelMergesRow.holds Try.pinned (OpenSpec.ofChange Rows.modelMergesSpec):=
 OpenClaim.holds_of_wide 22 Try.f22 rfl rfl rfl rfl rfl rfl rfl ⟨rfl,rfl,rfl,rfl,rfl⟩ rfl rfl rfl rfl rfl tA Try.func22 tB tC tD
  (fun os started H enc _=>lifted os started H enc)
theorem proved:Rows.ModelMergesSaid:=over
end Go.Proofs.Yteebobbhhgmeiaa.modelMerges
