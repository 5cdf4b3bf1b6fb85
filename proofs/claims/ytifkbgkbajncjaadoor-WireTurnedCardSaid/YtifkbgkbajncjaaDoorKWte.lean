/- made by a program (rowgen.py): WireTurned: for every input the law returns true, and each argument reads behind the call as it read before. -/
import Derived.Test.YtifkbgkbajncjaaDoorKWtd

set_option maxRecDepth 100000
namespace Go.Proofs.YtifkbgkbajncjaaDoor
open Go.RowKit
abbrev Bx:Type:=Int×Int
def Iq (x:Bx):St:=⟨29,0,[(0,.v (.int .u32 x.1)),(18,.v (.int .i64 x.2))],[]⟩
def J1:St→Option Bx
 |⟨29,0,[(0,.v (.int .u32 z0)),(18,.v (.int .i64 z1))],[]⟩=>some (z0,z1)
 |_=>none
theorem Up:∀s x,J1 s=some x→s=Iq x:=fun s x h=>by
 unfold J1 at h
 split at h
 ·cases h;rfl
 ·cases h
def PV:F4:=⟨0,0,[0,18],[],[],[],[0],[]⟩
def Aau:Gi:=⟨[],[],[0,18],[]⟩
def LR (_a0:Int) (a1:Int):Bool:=!decide (a1 <(8:Int))
def Hh (a0:Int) (_a1:Int):Int:=IntKind.u32.wrap (↑(BitVec.ofInt (32:Nat) (IntKind.u32.wrap (a0*(2:Int)))^^^BitVec.ofInt (32:Nat) (IntKind.u32.wrap (a0.fdiv (2147483648:Int)*(79764919:Int)))).toNat:Int)
def Db (x:Bx):Bx:=(Hh x.1 x.2,IntKind.i64.wrap (x.2+(1:Int)))
def Da (x:Bx):Cnd:=some (!(LR x.1 x.2))
def I4 (_x:Bx):List Prop:=[]
abbrev FS:Bx→List Prop:=I4
def LS (x:Bx):Bh:=[(some 2,some ((LR x.1 x.2)),⟨29,0,[(0,.v (.int .u32 x.1))],[]⟩)]
def Eu (x:Bx):Nat:=((8:Int) - x.2).toNat
def I5 (x:Bx):Bx:=Ba Db Da (Eu x) x
theorem Y1 (a0:Int) (a1:Int):Dq (AI C0 L0) 9 (An Tryd.prog 73 2) PV (Iq (a0,a1))=some (I4 (a0,a1),LS (a0,a1),Da (a0,a1),Iq (Db (a0,a1))):=by kernel_rfl
theorem Y2 (a0:Int) (a1:Int) (hp:∀p∈FS (a0,a1),p):∀p∈I4 (a0,a1),p:=hp
noncomputable def M8:=Jl (AI C0 L0) (An Tryd.prog 73 2) PV Aau J1 Eu Db Da FS LS
theorem Wg:∀s b ps outs,M8 s=some (b,ps,outs)→Wf s ⟨ps,outs,none⟩∧DE (AI C0 L0) b s ps outs:=
 C5 (T:=Iq) Af2 AX (u:=9) (by kernel_rfl) (by decide) (fun⟨a0,a1⟩=>Y1 a0 a1) (fun⟨a0,a1⟩=>Y2 a0 a1) Up (fun _=>Bc (n:=29) rfl) fun _ _=>rfl
noncomputable def Ip:=Gt 2 M8 L0
theorem M7:Ij Ip:=BK Wg AX
abbrev Bw:Type:=Int×(List UInt8)×Int×Int
def Io (x:Bw):St:=⟨29,0,[(0,.v (.int .u32 x.1)),(7,.sl .u8 x.2.1),(8,.v (.int .i64 x.2.2.1)),(9,.v (.int .i64 x.2.2.2))],[]⟩
def J0:St→Option Bw
 |⟨29,0,[(0,.v (.int .u32 z0)),(7,.sl .u8 z1),(8,.v (.int .i64 z2)),(9,.v (.int .i64 z3))],[]⟩=>some (z0,z1,z2,z3)
 |_=>none
theorem Uo:∀s x,J0 s=some x→s=Io x:=fun s x h=>by
 unfold J0 at h
 split at h
 ·cases h;rfl
 ·cases h
def PU:F4:=⟨0,0,[0,7,8,9],[],[],[],[0],[]⟩
def Aat:Gi:=⟨[],[],[0,7,8,9],[]⟩
def I3 (a0:Int) (a1:List UInt8) (_a2:Int) (a3:Int):Int:=(I5 (IntKind.u32.wrap (↑(BitVec.ofInt (32:Nat) a0^^^BitVec.ofInt (32:Nat) (IntKind.u32.wrap (IntKind.u32.wrap (↑(UInt8.toNat (a1.getD a3.toNat (Aj TC.u8))):Int)*(16777216:Int)))).toNat:Int),(0:Int))).fst
def BM (x:Bw):Bw:=(I3 x.1 x.2.1 x.2.2.1 x.2.2.2,x.2.1,x.2.2.1,IntKind.i64.wrap (x.2.2.2+(1:Int)))
def BL (x:Bw):Cnd:=some (!!decide (x.2.2.2 <x.2.2.1))
def M4 (x:Bw):List Prop:=[((!!decide (x.2.2.2 <x.2.2.1))=true→(0:Int)≤x.2.2.2∧x.2.2.2 <(↑x.2.1.length:Int)),((!!decide (x.2.2.2 <x.2.2.1))=true→An Tryd.prog (73:FuncId) (2:Nat)=An Tryd.prog (73:FuncId) (2:Nat)),((!!decide (x.2.2.2 <x.2.2.1))=true→AN Db Da FS (Eu (IntKind.u32.wrap (↑(BitVec.ofInt (32:Nat) x.1^^^BitVec.ofInt (32:Nat) (IntKind.u32.wrap (IntKind.u32.wrap (↑(UInt8.toNat (x.2.1.getD x.2.2.2.toNat (Aj TC.u8))):Int)*(16777216:Int)))).toNat:Int),(0:Int))) (IntKind.u32.wrap (↑(BitVec.ofInt (32:Nat) x.1^^^BitVec.ofInt (32:Nat) (IntKind.u32.wrap (IntKind.u32.wrap (↑(UInt8.toNat (x.2.1.getD x.2.2.2.toNat (Aj TC.u8))):Int)*(16777216:Int)))).toNat:Int),(0:Int)))]
def DB (x:Bw):List Prop:=[((!!decide (x.2.2.2 <x.2.2.1))=true→(0:Int)≤x.2.2.2∧x.2.2.2 <(↑x.2.1.length:Int)),((!!decide (x.2.2.2 <x.2.2.1))=true→AN Db Da FS (Eu (IntKind.u32.wrap (↑(BitVec.ofInt (32:Nat) x.1^^^BitVec.ofInt (32:Nat) (IntKind.u32.wrap (IntKind.u32.wrap (↑(UInt8.toNat (x.2.1.getD x.2.2.2.toNat (Aj TC.u8))):Int)*(16777216:Int)))).toNat:Int),(0:Int))) (IntKind.u32.wrap (↑(BitVec.ofInt (32:Nat) x.1^^^BitVec.ofInt (32:Nat) (IntKind.u32.wrap (IntKind.u32.wrap (↑(UInt8.toNat (x.2.1.getD x.2.2.2.toNat (Aj TC.u8))):Int)*(16777216:Int)))).toNat:Int),(0:Int)))]
def LQ (x:Bw):Bh:=[(some 0,some (!decide (x.2.2.2 <x.2.2.1)),⟨29,0,[(0,.v (.int .u32 x.1))],[]⟩)]
def Cs (x:Bw):Nat:=(x.2.2.1 - x.2.2.2).toNat
def M6 (x:Bw):Bw:=Ba BM BL (Cs x) x
theorem YZ (a0:Int) (a1:List UInt8) (a2:Int) (a3:Int):Dq (AI C0 Ip) 9 (An Tryd.prog 73 0) PU (Io (a0,a1,a2,a3))=some (M4 (a0,a1,a2,a3),LQ (a0,a1,a2,a3),BL (a0,a1,a2,a3),Io (BM (a0,a1,a2,a3))):=by kernel_rfl
theorem Y0 (a0:Int) (a1:List UInt8) (a2:Int) (a3:Int) (hp:∀p∈DB (a0,a1,a2,a3),p):∀p∈M4 (a0,a1,a2,a3),p:=by
 have n0:=N0 hp
 have n1:((!!decide (a3 <a2))=true→An Tryd.prog (73:FuncId) (2:Nat)=An Tryd.prog (73:FuncId) (2:Nat)):=by intros;rfl
 have n2:=N0 (N1 hp)
 exact(Aa n0 (Aa n1 (Aa n2 Am)))
noncomputable def M5:=Jl (AI C0 Ip) (An Tryd.prog 73 0) PU Aat J0 Cs BM BL DB LQ
theorem We:∀s b ps outs,M5 s=some (b,ps,outs)→Wf s ⟨ps,outs,none⟩∧DE (AI C0 L0) b s ps outs:=
 C5 (T:=Io) Af2 M7 (u:=9) (by kernel_rfl) (by decide) (fun⟨a0,a1,a2,a3⟩=>YZ a0 a1 a2 a3) (fun⟨a0,a1,a2,a3⟩=>Y0 a0 a1 a2 a3) Uo (fun _=>Bc (n:=29) rfl) fun _ _=>rfl
noncomputable def PT:=Gt 0 M5 Ip
theorem Wd:Ij PT:=BK We M7
def LP (a0:Int) (a1:List UInt8):Int:=(M6 (a0,a1,(↑a1.length:Int),(0:Int))).fst
def PX (a0:Int) (a1:List UInt8):A:=.v (.int .u32 (LP a0 a1))
def PW (_a0:Int) (_a1:List UInt8):Objs:=[]
def Uq (a0:Int) (a1:List UInt8):List Prop:=[(AN BM BL DB (Cs (a0,a1,(↑a1.length:Int),(0:Int))) (a0,a1,(↑a1.length:Int),(0:Int)))]
theorem Ai6 (a0:Int) (a1:List UInt8):I6 (AI C0 PT) 9 73 [Ar .u32 a0,Ar .bytes a1] 0 []=some (1,PX a0 a1,0,PW a0 a1,[(An Tryd.prog (73:FuncId) (0:Nat)=An Tryd.prog (73:FuncId) (0:Nat)),(AN BM BL DB (Cs (a0,a1,(↑a1.length:Int),(0:Int))) (a0,a1,(↑a1.length:Int),(0:Int)))]):=by kernel_rfl
theorem Am0 (a0:Int) (a1:List UInt8) (hp:∀p∈Uq a0 a1,p):CallOk Tryd.prog 73 [Ar .u32 a0,Ar .bytes a1] 0 [] 1 (PX a0 a1) 0 (PW a0 a1):=by
 have n1:=N0 hp
 exact AW (AJ Af2 Wd) (Ai6 a0 a1) (Aa rfl (Aa n1 Am))
def XL:List A→Nat→Objs→Option CJ:=Fc [.t .u32,.t .bytes] 0 PX PW Uq
theorem Aes:IV Tryd.prog 73 XL:=AM (ks:=[.t .u32,.t .bytes]) Am0
noncomputable def Axs:=CA 73 XL C0
theorem Alr:FM Tryd.prog Axs:=Az Aes Af2
def G4 (a0:Int) (_a1:List UInt8):Int:=IntKind.u32.wrap (↑(BitVec.ofInt (32:Nat) (4294967295:Int)^^^BitVec.ofInt (32:Nat) a0).toNat:Int)
def On (a0:Int) (a1:List UInt8):Int:=IntKind.u32.wrap (↑(BitVec.ofInt (32:Nat) (4294967295:Int)^^^BitVec.ofInt (32:Nat) (LP (G4 a0 a1) a1)).toNat:Int)
def Tf (a0:Int) (a1:List UInt8):A:=.v (.int .u32 (On a0 a1))
def Te (_a0:Int) (_a1:List UInt8):Objs:=[]
def PP (a0:Int) (a1:List UInt8):List Prop:=[(AN BM BL DB (Cs ((G4 a0 a1),a1,(↑a1.length:Int),(0:Int))) ((G4 a0 a1),a1,(↑a1.length:Int),(0:Int)))]
theorem Amx (a0:Int) (a1:List UInt8):I6 (AI Axs L0) 9 71 [Ar .u32 a0,Ar .bytes a1] 0 []=some (1,Tf a0 a1,0,Te a0 a1,PP a0 a1):=by kernel_rfl
theorem Aqw (a0:Int) (a1:List UInt8) (hp:∀p∈PP a0 a1,p):CallOk Tryd.prog 71 [Ar .u32 a0,Ar .bytes a1] 0 [] 1 (Tf a0 a1) 0 (Te a0 a1):=AW (AJ Alr AX) (Amx a0 a1) hp
def Aaq:List A→Nat→Objs→Option CJ:=Fc [.t .u32,.t .bytes] 0 Tf Te PP
theorem Ai1:IV Tryd.prog 71 Aaq:=AM (ks:=[.t .u32,.t .bytes]) Aqw
noncomputable def Axt:=CA 71 Aaq Axs
theorem Als:FM Tryd.prog Axt:=Az Ai1 Alr
def Wc (a0:List UInt8):A:=.v (.int .u32 (On (0:Int) a0))
def Agt (_a0:List UInt8):Objs:=[]
def Aas (a0:List UInt8):List Prop:=[(AN BM BL DB (Cs (G4 (0:Int) a0,a0,(↑a0.length:Int),(0:Int))) (G4 (0:Int) a0,a0,(↑a0.length:Int),(0:Int)))]
theorem Aqy (a0:List UInt8):I6 (AI Axt L0) 9 65 [Ar .bytes a0] 0 []=some (1,Wc a0,0,Agt a0,Aas a0):=by kernel_rfl
theorem Av0 (a0:List UInt8) (hp:∀p∈Aas a0,p):CallOk Tryd.prog 65 [Ar .bytes a0] 0 [] 1 (Wc a0) 0 (Agt a0):=AW (AJ Als AX) (Aqy a0) hp
def Tg (a0:List UInt8):A:=.v (.int .u32 (wB (HO a0)))
def Aar (_a0:List UInt8):Objs:=[]
def XK (a0:List UInt8):List Prop:=[AD a0.length]
theorem A8i (x:BitVec 32):Hh (wB x) 0=wB (crS x):=by
 unfold Hh crS
 rw[Baf,Baj,A8b,Aoj,Aoj,As4]
def A3d (x:BitVec 32):Nat→BitVec 32
 |0=>x
 |n+1=>crS (A3d x n)
theorem A6m (x:BitVec 32):AN Db Da FS (Eu (wB x,0)) (wB x,0)∧(I5 (wB x,0)).fst=wB (cr8 x):=by
 obtain⟨h1,h2⟩:=Aw6 (fun i=>((wB (A3d x i),(i:Int)):Bx)) 8 Db Da FS (Eu (wB x,0)) (wB x,0) rfl (by show 8≤((8:Int) - 0).toNat;decide)
  (fun i _=>by
   show(!!decide ((i:Int) <8))=_
   rw[nn]
   exact Ux (n:=8))
  (fun i hi=>by
   show(Hh (wB (A3d x i)) 0,IntKind.i64.wrap ((i:Int)+1))=_
   rw[A8i,IT (by omega)]
   rfl) (fun i _ p hp=>by cases hp)
 have h3:I5 (wB x,0)=(wB (A3d x 8),8):=h2
 exact⟨h1,by rw[h3];rfl⟩
theorem Ai5 (r:BitVec 32) (b:List UInt8) (hb:AD b.length):AN BM BL DB (Cs (wB r,b,(b.length:Int),0)) (wB r,b,(b.length:Int),0)∧LP (wB r) b=wB (YY r b):=by
 unfold AD at hb
 have e0:∀i,IntKind.u32.wrap (((BitVec.ofInt 32 (wB (YY r (b.take i)))^^^BitVec.ofInt 32 (IntKind.u32.wrap (IntKind.u32.wrap (↑(UInt8.toNat (b.getD ((i:Int)).toNat (Aj TC.u8))):Int)*16777216))).toNat:Nat):Int)=wB (YY r (b.take i)^^^hiB (b.getD i 0)):=fun i=>by rw[Bav,Aoj,Aoj,As4,Int.toNat_natCast];rfl
 obtain⟨h1,h2⟩:=Aw6 (fun i=>((wB (YY r (b.take i)),b,(b.length:Int),(i:Int)):Bw)) b.length BM BL DB (Cs (wB r,b,(b.length:Int),0)) (wB r,b,(b.length:Int),0) rfl (by show _≤((b.length:Int) - 0).toNat;omega)
  (fun i _=>by
   show(!!decide ((i:Int) <(b.length:Int)))=_
   rw[nn,Ux])
  (fun i hi=>by
   show(I3 (wB (YY r (b.take i))) b (b.length:Int) (i:Int),b,(b.length:Int),IntKind.i64.wrap ((i:Int)+1))=(wB (YY r (b.take (i+1))),b,(b.length:Int),((i+1:Nat):Int))
   rw[Ayv _ _ _ hi,IT (by omega)]
   unfold I3
   rw[e0,(A6m _).2]
   rfl) (fun i _=>Aa (fun h=>by
    have h':(!!decide ((i:Int) <(b.length:Int)))=true:=h
    rw[nn] at h'
    have:=of_decide_eq_true h'
    show(0:Int)≤(i:Int)∧(i:Int) <(b.length:Int)
    omega) (Aa (fun _=>by
    have:=(A6m (YY r (b.take i)^^^hiB (b.getD i 0))).1
    rw[←e0 i] at this
    exact this) Am))
 refine⟨h1,?_⟩
 have h3:M6 (wB r,b,(b.length:Int),0)=(wB (YY r (b.take b.length)),b,(b.length:Int),(b.length:Int)):=h2
 unfold LP
 rw[h3,List.take_length]
theorem Aqx (a0:List UInt8) (hp:∀p∈XK a0,p):CallOk Tryd.prog 65 [Ar .bytes a0] 0 [] 1 (Tg a0) 0 (Aar a0):=by
 obtain⟨h1,h2⟩:=Ai5 (BitVec.allOnes 32) a0 (hp _ (List.mem_cons_self ..))
 have h:=Av0 a0 (Aa h1 Am)
 have e:Wc a0=Tg a0:=by
  show A.v (.int .u32 (On 0 a0))=.v (.int .u32 (wB (HO a0)))
  unfold On HO
  rw[show G4 0 a0=wB (BitVec.allOnes 32) from by unfold G4;decide,h2,Aoj,A9z]
 rw[e] at h
 exact h
def Agu:List A→Nat→Objs→Option CJ:=Fc [.t .bytes] 0 Tg Aar XK
theorem Amz:IV Tryd.prog 65 Agu:=AM (ks:=[.t .bytes]) Aqx
noncomputable def Axu:=CA 65 Agu Axt
theorem Alt:FM Tryd.prog Axu:=Az Amz Als
def Td (a0:List UInt8):List UInt8:=[]++a0
def Agr (a0:List UInt8):List UInt8:=(Td a0)++[UInt8.ofNat (IntKind.u8.wrap ((wB (HO a0)).fdiv (16777216:Int))).toNat,UInt8.ofNat (IntKind.u8.wrap ((wB (HO a0)).fdiv (65536:Int))).toNat,UInt8.ofNat (IntKind.u8.wrap ((wB (HO a0)).fdiv (256:Int))).toNat,UInt8.ofNat (IntKind.u8.wrap (wB (HO a0))).toNat]
def Ags (_a0:List UInt8):A:=.sq 0
def Rr (a0:List UInt8):Objs:=[(0,some (.arr 5 1 (.ty .u8 (Agr a0))))]
def Aqv (a0:List UInt8):List Prop:=[(AD a0.length),(Ai ((0:Nat)+a0.length)),(Ai ((Td a0).length+(4:Nat)))]
theorem Aqu (a0:List UInt8):I6 (AI Axu L0) 9 43 [Ar .bytes a0] 0 []=some (1,Ags a0,1,Rr a0,[(AD a0.length),(Ai ((0:Nat)+a0.length)),(Ai ((Td a0).length+(4:Nat))),((0:Int)≤IntKind.u8.wrap ((wB (HO a0)).fdiv (16777216:Int))∧IntKind.u8.wrap ((wB (HO a0)).fdiv (16777216:Int)) <(256:Int)),((0:Int)≤IntKind.u8.wrap ((wB (HO a0)).fdiv (65536:Int))∧IntKind.u8.wrap ((wB (HO a0)).fdiv (65536:Int)) <(256:Int)),((0:Int)≤IntKind.u8.wrap ((wB (HO a0)).fdiv (256:Int))∧IntKind.u8.wrap ((wB (HO a0)).fdiv (256:Int)) <(256:Int)),((0:Int)≤IntKind.u8.wrap (wB (HO a0))∧IntKind.u8.wrap (wB (HO a0)) <(256:Int))]):=by kernel_rfl
theorem Avz (a0:List UInt8) (hp:∀p∈Aqv a0,p):CallOk Tryd.prog 43 [Ar .bytes a0] 0 [] 1 (Ags a0) 1 (Rr a0):=by
 have n0:=N0 hp
 have n1:=N0 (N1 hp)
 have n2:=N0 (N1 (N1 hp))
 have n3:((0:Int)≤IntKind.u8.wrap ((wB (HO a0)).fdiv (16777216:Int))∧IntKind.u8.wrap ((wB (HO a0)).fdiv (16777216:Int)) <(256:Int)):=by intros;exact Ki _
 have n4:((0:Int)≤IntKind.u8.wrap ((wB (HO a0)).fdiv (65536:Int))∧IntKind.u8.wrap ((wB (HO a0)).fdiv (65536:Int)) <(256:Int)):=by intros;exact Ki _
 have n5:((0:Int)≤IntKind.u8.wrap ((wB (HO a0)).fdiv (256:Int))∧IntKind.u8.wrap ((wB (HO a0)).fdiv (256:Int)) <(256:Int)):=by intros;exact Ki _
 have n6:((0:Int)≤IntKind.u8.wrap (wB (HO a0))∧IntKind.u8.wrap (wB (HO a0)) <(256:Int)):=by intros;exact Ki _
 exact AW (AJ Alt AX) (Aqu a0) (Aa n0 (Aa n1 (Aa n2 (Aa n3 (Aa n4 (Aa n5 (Aa n6 Am)))))))
def Aap (_a0:List UInt8):A:=.sq 0
def Om (a0:List UInt8):Objs:=[(0,some (.arr 5 1 (.ty .u8 (Ws a0))))]
def XH (a0:List UInt8):List Prop:=[Ai (a0.length+4)]
theorem Ag0 (s:BitVec 32):[UInt8.ofNat (IntKind.u8.wrap ((wB s).fdiv 16777216)).toNat,UInt8.ofNat (IntKind.u8.wrap ((wB s).fdiv 65536)).toNat,UInt8.ofNat (IntKind.u8.wrap ((wB s).fdiv 256)).toNat,UInt8.ofNat (IntKind.u8.wrap (wB s)).toNat]=Asq s:=by
 have e0:UInt8.ofNat (IntKind.u8.wrap (wB s)).toNat=UInt8.ofNat s.toNat:=by
  have h:=PC s 0
  rw[show((2^0:Nat):Int)=1 from rfl,Int.fdiv_one,show 2^0=1 from rfl,Nat.div_one] at h
  exact h
 have h1:=PC s 24
 have h2:=PC s 16
 have h3:=PC s 8
 rw[show((2^24:Nat):Int)=16777216 from rfl] at h1
 rw[show((2^16:Nat):Int)=65536 from rfl] at h2
 rw[show((2^8:Nat):Int)=256 from rfl] at h3
 rw[e0,h1,h2,h3]
 rfl
theorem Aqt (l:List UInt8):Agr l=Ws l:=congrArg (l++·) (Ag0 (HO l))
theorem Aqs (a0:List UInt8) (hp:∀p∈XH a0,p):CallOk Tryd.prog 43 [Ar .bytes a0] 0 [] 1 (Aap a0) 1 (Om a0):=by
 have hb:=hp _ (List.mem_cons_self ..)
 unfold Ai at hb
 have h:=Avz a0 (Aa (by unfold AD;omega) (Aa (by unfold Ai;omega) (Aa (by show Ai (a0.length+4);unfold Ai;omega) Am)))
 have e:Rr a0=Om a0:=by unfold Rr Om;rw[Aqt]
 rw[e] at h
 exact h
def Wb:List A→Nat→Objs→Option CJ:=Fc [.t .bytes] 1 Aap Om XH
theorem XI:IV Tryd.prog 43 Wb:=AM (ks:=[.t .bytes]) Aqs
noncomputable def A53:=CA 43 Wb Axu
theorem Axv:FM Tryd.prog A53:=Az XI Alt
def BV (a0:List UInt8):Int:=IntKind.i64.wrap ((↑a0.length:Int) - (4:Int))
def Hg (a0:List UInt8):Int:=IntKind.i64.wrap ((BV a0)+(2:Int))
def Gy (a0:List UInt8):Int:=IntKind.i64.wrap ((BV a0)+(1:Int))
def Hf (a0:List UInt8):Int:=IntKind.i64.wrap ((BV a0)+(3:Int))
def Gx (a0:List UInt8):Int:=wB (HO (List.take ((BV a0).toNat - (0:Nat)) (List.drop (0:Nat) a0)))
def DV (a0:List UInt8):Bool:=decide ((BV a0) <(0:Int))
def Ky (a0:List UInt8):Bool:=(↑(UInt8.toNat (a0.getD (BV a0).toNat (Aj TC.u8))):Int)==IntKind.u8.wrap ((Gx a0).fdiv (16777216:Int))
def Oo (a0:List UInt8):Bool:=(Ky a0)&&(↑(UInt8.toNat (a0.getD (Gy a0).toNat (Aj TC.u8))):Int)==IntKind.u8.wrap ((Gx a0).fdiv (65536:Int))&&(↑(UInt8.toNat (a0.getD (Hg a0).toNat (Aj TC.u8))):Int)==IntKind.u8.wrap ((Gx a0).fdiv (256:Int))
def PQ (a0:List UInt8):Bool:=bif(DV a0) then false else(Oo a0)&&(↑(UInt8.toNat (a0.getD (Hf a0).toNat (Aj TC.u8))):Int)==IntKind.u8.wrap (Gx a0)
def PR (a0:List UInt8):A:=.v (.bool (PQ a0))
def XJ (_a0:List UInt8):Objs:=[]
def Oq (a0:List UInt8):List Prop:=[((!(DV a0))=true→(0:Int)≤(0:Int)∧(0:Int)≤(BV a0)∧(BV a0)≤(↑a0.length:Int)),((!(DV a0))=true→AD (List.take ((BV a0).toNat - (0:Nat)) (List.drop (0:Nat) a0)).length),((!(DV a0))=true→(0:Int)≤(BV a0)∧(BV a0) <(↑a0.length:Int)),((!(DV a0))=true→(Ky a0)=true→(0:Int)≤(Gy a0)∧(Gy a0) <(↑a0.length:Int)),((!(DV a0))=true→((Ky a0)&&(↑(UInt8.toNat (a0.getD (Gy a0).toNat (Aj TC.u8))):Int)==IntKind.u8.wrap ((Gx a0).fdiv (65536:Int)))=true→(0:Int)≤(Hg a0)∧(Hg a0) <(↑a0.length:Int)),((!(DV a0))=true→(Oo a0)=true→(0:Int)≤(Hf a0)∧(Hf a0) <(↑a0.length:Int))]
theorem Ai4 (a0:List UInt8):I6 (AI A53 L0) 9 46 [Ar .bytes a0] 0 []=some (1,PR a0,0,XJ a0,Oq a0):=by kernel_rfl
theorem Amy (a0:List UInt8) (hp:∀p∈Oq a0,p):CallOk Tryd.prog 46 [Ar .bytes a0] 0 [] 1 (PR a0) 0 (XJ a0):=AW (AJ Axv AX) (Ai4 a0) hp
def Un (a0:List UInt8):A:=.v (.bool (HD a0))
def Um (_a0:List UInt8):Objs:=[]
def Si (a0:List UInt8):List Prop:=[Ai a0.length]
theorem ZJ (x:UInt8) (v:Int):((x.toNat:Int)==IntKind.u8.wrap v)=(x==UInt8.ofNat (IntKind.u8.wrap v).toNat):=by
 have h0:0≤IntKind.u8.wrap v∧IntKind.u8.wrap v <256:=by show 0≤v % 2^8∧v % 2^8 <256;omega
 generalize IntKind.u8.wrap v=w at*
 have hx:x.toNat <256:=x.toNat_lt
 rw[Bool.eq_iff_iff,beq_iff_eq,beq_iff_eq]
 constructor
 ·intro h
  rw[←h,Int.toNat_natCast,UInt8.ofNat_toNat]
 ·intro h
  rw[h,UInt8.toNat_ofNat']
  omega
theorem A3x (b:List UInt8) (n:Nat) (hn:b.length=n+4) (w x y z:UInt8):(b.getD n 0==w&&b.getD (n+1) 0==x&&b.getD (n+2) 0==y&&b.getD (n+3) 0==z)=(b==b.take n++[w,x,y,z]):=by
 have e:b=b.take n++[b.getD n 0,b.getD (n+1) 0,b.getD (n+2) 0,b.getD (n+3) 0]:=by
  refine List.ext_getElem (by simp;omega) fun i h1 h2=>?_
  by_cases hi:i <n
  ·rw[List.getElem_append_left (by simp;omega),List.getElem_take]
  ·rw[List.getElem_append_right (by simp;omega)]
   have g:∀j,(hj:j <b.length)→b.getD j 0=b[j]:=fun j hj=>by rw[List.getD_eq_getElem?_getD,List.getElem?_eq_getElem hj,Option.getD_some]
   have hl:(b.take n).length=n:=by simp;omega
   rcases(show i=n∨i=n+1∨i=n+2∨i=n+3 by omega) with rfl|rfl|rfl|rfl
   ·simp only[hl,Nat.sub_self,List.getElem_cons_zero];exact(g _ h1).symm
   ·simp only[hl,Nat.add_sub_cancel_left,List.getElem_cons_succ,List.getElem_cons_zero];exact(g _ h1).symm
   ·simp only[hl,Nat.add_sub_cancel_left,List.getElem_cons_succ,List.getElem_cons_zero];exact(g _ h1).symm
   ·simp only[hl,Nat.add_sub_cancel_left,List.getElem_cons_succ,List.getElem_cons_zero];exact(g _ h1).symm
 generalize b.getD n 0=p at*
 generalize b.getD (n+1) 0=q at*
 generalize b.getD (n+2) 0=r at*
 generalize b.getD (n+3) 0=s at*
 rw[Bool.eq_iff_iff]
 simp only[Bool.and_eq_true,beq_iff_eq]
 constructor
 ·rintro⟨⟨⟨rfl,rfl⟩,rfl⟩,rfl⟩
  exact e
 ·intro h
  have:=List.append_cancel_left (e.symm.trans h)
  simp only[List.cons.injEq] at this
  exact⟨⟨⟨this.1,this.2.1⟩,this.2.2.1⟩,this.2.2.2.1⟩
theorem Ai3 (b:List UInt8) (hb:Ai b.length):(∀p∈Oq b,p)∧PQ b=HD b:=by
 unfold Ai at hb
 have k7:BV b=(b.length:Int) - 4:=i64_in (by omega)
 have k2:DV b=decide ((b.length:Int) - 4 <0):=by unfold DV;rw[k7]
 have k5:Gy b=(b.length:Int) - 4+1:=by unfold Gy;rw[k7];exact i64_in (by omega)
 have k6:Hg b=(b.length:Int) - 4+2:=by unfold Hg;rw[k7];exact i64_in (by omega)
 have k4:Hf b=(b.length:Int) - 4+3:=by unfold Hf;rw[k7];exact i64_in (by omega)
 have hin:(!(DV b))=true→4≤b.length:=fun h=>by
  rw[k2,Bool.not_eq_true',decide_eq_false_iff_not] at h
  omega
 refine⟨Aa (fun h=>by rw[k7];have:=hin h;omega) (Aa (fun _=>?_) (Aa (fun h=>by rw[k7];have:=hin h;omega) (Aa (fun h _=>by rw[k5];have:=hin h;omega) (Aa (fun h _=>by rw[k6];have:=hin h;omega) (Aa (fun h _=>by rw[k4];have:=hin h;omega) Am))))),?_⟩
 ·unfold AD
  rw[List.length_take,List.length_drop]
  omega
 ·unfold PQ HD
  by_cases h:4≤b.length
  ·obtain⟨n,hn⟩:∃n,b.length=n+4:=⟨b.length - 4,by omega⟩
   have h7:(BV b).toNat=n:=by rw[k7];omega
   have h5:(Gy b).toNat=n+1:=by rw[k5];omega
   have h6:(Hg b).toNat=n+2:=by rw[k6];omega
   have h4:(Hf b).toNat=n+3:=by rw[k4];omega
   have h3:Gx b=wB (HO (b.take n)):=by unfold Gx;rw[h7];rfl
   rw[k2,decide_eq_false (by omega),cond_false,decide_eq_true h,Bool.true_and,show b.length - 4=n by omega]
   unfold Oo Ky
   rw[h7,h5,h6,h4,h3,ZJ,ZJ,ZJ,ZJ]
   unfold Ws
   rw[←Ag0]
   exact A3x b n hn _ _ _ _
  ·rw[k2,decide_eq_true (by omega),cond_true,decide_eq_false h,Bool.false_and]
theorem Ai2 (a0:List UInt8) (hp:∀p∈Si a0,p):CallOk Tryd.prog 46 [Ar .bytes a0] 0 [] 1 (Un a0) 0 (Um a0):=by
 obtain⟨h1,h2⟩:=Ai3 a0 (hp _ (List.mem_cons_self ..))
 have h:=Amy a0 h1
 unfold PR at h
 rw[h2] at h
 exact h
def PS:List A→Nat→Objs→Option CJ:=Fc [.t .bytes] 0 Un Um Si
theorem Sj:IV Tryd.prog 46 PS:=AM (ks:=[.t .bytes]) Ai2
end Go.Proofs.YtifkbgkbajncjaaDoor
namespace Go.Proofs.YtifkbgkbajncjaaDoor
open Go.RowKit
def Ma (a0:Int):Bool:=!(decide (a0 <(0:Int))||decide (a0 >(4611686018427387903:Int)))&&(!decide (a0≥(1073741824:Int))&&decide (a0≥(16384:Int)))
def L9 (a0:Int):Bool:=!(decide (a0 <(0:Int))||decide (a0 >(4611686018427387903:Int)))&&(!decide (a0≥(1073741824:Int))&&(!decide (a0≥(16384:Int))&&decide (a0≥(64:Int))))
def QF (a0:Int):Bool:=!(decide (a0 <(0:Int))||decide (a0 >(4611686018427387903:Int)))&&(!(!(decide (a0 <(0:Int))||decide (a0 >(4611686018427387903:Int)))&&decide (a0≥(1073741824:Int)))&&(!(Ma a0)&&!(L9 a0)))
def AV (a0:Int):Int:=bif !(!(decide (a0 <(0:Int))||decide (a0 >(4611686018427387903:Int)))&&decide (a0≥(1073741824:Int)))&&(!(Ma a0)&&(!(L9 a0)&&!(QF a0))) then(0:Int) else IntKind.i64.wrap ((bif(QF a0) then(0:Int) else IntKind.i64.wrap ((bif(L9 a0) then(0:Int) else IntKind.i64.wrap ((bif(Ma a0) then(0:Int) else(4:Int))+(2:Int)))+(1:Int)))+(1:Int))
def Tv (a0:Int):A:=.v (.int .i64 (AV a0))
def Tu (_a0:Int):Objs:=[]
def QG (_a0:Int):List Prop:=[]
theorem Aoi (a0:Int):I6 (AI C0 L0) 9 37 [Ar .i64 a0] 0 []=some (1,Tv a0,0,Tu a0,QG a0):=by kernel_rfl
theorem Ary (a0:Int) (hp:∀p∈QG a0,p):CallOk Tryd.prog 37 [Ar .i64 a0] 0 [] 1 (Tv a0) 0 (Tu a0):=AW (AJ Af2 AX) (Aoi a0) hp
def Ach:List A→Nat→Objs→Option CJ:=Fc [.t .i64] 0 Tv Tu QG
theorem Aj4:IV Tryd.prog 37 Ach:=AM (ks:=[.t .i64]) Ary
noncomputable def Axi:=CA 37 Ach C0
theorem Aic:FM Tryd.prog Axi:=Az Aj4 Af2
abbrev Dm:Type:=Int×Int×Int×Int×(List UInt8)
def KE (x:Dm):St:=⟨59,2,[(1,.v (.int .i64 x.1)),(5,.sq 1),(6,.v (.int .i64 x.2.1)),(16,.v (.int .i64 x.2.2.1)),(17,.v (.int .i64 x.2.2.2.1))],[(1,some (.arr 5 1 (.ty .u8 x.2.2.2.2)))]⟩
def MC:St→Option Dm
 |⟨59,2,[(1,.v (.int .i64 z0)),(5,.sq 1),(6,.v (.int .i64 z1)),(16,.v (.int .i64 z2)),(17,.v (.int .i64 z3))],[(1,some (.arr 5 1 (.ty .u8 z4)))]⟩=>some (z0,z1,z2,z3,z4)
 |_=>none
theorem Zj:∀s x,MC s=some x→s=KE x:=fun s x h=>by
 unfold MC at h
 split at h
 ·cases h;rfl
 ·cases h
def U6:F4:=⟨1,2,[1,5,6,16,17],[],[(3,1)],[3],[5],[1]⟩
def Aj3:Gi:=⟨[],[(0,1)],[1,5,6,16,17],[0]⟩
def GJ (a0:Int) (a1:Int) (_a2:Int) (a3:Int) (_a4:List UInt8):Int:=IntKind.u8.wrap (a0.fdiv ((2:Int)^min (IntKind.u64.wrap (IntKind.i64.wrap ((8:Int)*IntKind.i64.wrap (IntKind.i64.wrap (a1 - (1:Int)) - a3)))).toNat (64:Nat)))
def Acd (a0:Int) (a1:Int) (a2:Int) (a3:Int) (a4:List UInt8):List UInt8:=a4++[UInt8.ofNat (GJ a0 a1 a2 a3 a4).toNat]
def ES (x:Dm):Dm:=(x.1,x.2.1,x.2.2.1,IntKind.i64.wrap (x.2.2.2.1+(1:Int)),Acd x.1 x.2.1 x.2.2.1 x.2.2.2.1 x.2.2.2.2)
def ER (x:Dm):Cnd:=some (!!decide (x.2.2.2.1 <x.2.2.1))
def QD (x:Dm):List Prop:=[((!!decide (x.2.2.2.1 <x.2.2.1))=true→(0:Int)≤IntKind.u64.wrap (IntKind.i64.wrap ((8:Int)*IntKind.i64.wrap (IntKind.i64.wrap (x.2.1 - (1:Int)) - x.2.2.2.1)))),((!!decide (x.2.2.2.1 <x.2.2.1))=true→Ai (x.2.2.2.2.length+(1:Nat))),((!!decide (x.2.2.2.1 <x.2.2.1))=true→(0:Int)≤(GJ x.1 x.2.1 x.2.2.1 x.2.2.2.1 x.2.2.2.2)∧(GJ x.1 x.2.1 x.2.2.1 x.2.2.2.1 x.2.2.2.2) <(256:Int))]
def GQ (x:Dm):List Prop:=[((!!decide (x.2.2.2.1 <x.2.2.1))=true→Ai (x.2.2.2.2.length+(1:Nat)))]
def Pe (x:Dm):Bh:=[(some 0,some (!decide (x.2.2.2.1 <x.2.2.1)),⟨59,2,[(5,.sq 1)],[(1,some (.arr 5 1 (.ty .u8 x.2.2.2.2)))]⟩)]
def FX (x:Dm):Nat:=(x.2.2.1 - x.2.2.2.1).toNat
def Lg (x:Dm):Dm:=Ba ES ER (FX x) x
theorem Afc (a0:Int) (a1:Int) (a2:Int) (a3:Int) (a4:List UInt8):Dq (AI Axi L0) 9 (An Tryd.prog 14 0) U6 (KE (a0,a1,a2,a3,a4))=some (QD (a0,a1,a2,a3,a4),Pe (a0,a1,a2,a3,a4),ER (a0,a1,a2,a3,a4),KE (ES (a0,a1,a2,a3,a4))):=by kernel_rfl
theorem Afd (a0:Int) (a1:Int) (a2:Int) (a3:Int) (a4:List UInt8) (hp:∀p∈GQ (a0,a1,a2,a3,a4),p):∀p∈QD (a0,a1,a2,a3,a4),p:=by
 have n0:((!!decide (a3 <a2))=true→(0:Int)≤IntKind.u64.wrap (IntKind.i64.wrap ((8:Int)*IntKind.i64.wrap (IntKind.i64.wrap (a1 - (1:Int)) - a3)))):=by intros;exact A5w _
 have n1:=N0 hp
 have n2:((!!decide (a3 <a2))=true→(0:Int)≤(GJ a0 a1 a2 a3 a4)∧(GJ a0 a1 a2 a3 a4) <(256:Int)):=by intros;exact Ki _
 exact(Aa n0 (Aa n1 (Aa n2 Am)))
noncomputable def QE:=Jl (AI Axi L0) (An Tryd.prog 14 0) U6 Aj3 MC FX ES ER GQ Pe
theorem Ace:∀s b ps outs,QE s=some (b,ps,outs)→Wf s ⟨ps,outs,none⟩∧DE (AI C0 L0) b s ps outs:=
 C5 (T:=KE) Aic AX (u:=9) (by kernel_rfl) (by decide) (fun⟨a0,a1,a2,a3,a4⟩=>Afc a0 a1 a2 a3 a4) (fun⟨a0,a1,a2,a3,a4⟩=>Afd a0 a1 a2 a3 a4) Zj (fun _=>Bc (n:=59) rfl) fun _ _=>rfl
noncomputable def U5:=Gt 0 QE L0
theorem Acc:Ij U5:=BK Ace AX
def FE (_a0:List UInt8) (a1:Int):Bool:=AV a1==(8:Int)
def Bp (_a0:List UInt8) (a1:Int):Bool:=AV a1==(4:Int)
def AP (_a0:List UInt8) (a1:Int):Bool:=AV a1==(2:Int)
def Ax (a0:List UInt8) (_a1:Int):Int:=(↑([]++a0).length:Int)
def AL (a0:List UInt8) (a1:Int):List UInt8:=(Lg (a1,AV a1,AV a1,(0:Int),[]++a0)).snd.snd.snd.snd
def Ji (a0:List UInt8) (a1:Int):Int:=IntKind.u8.wrap (↑(BitVec.ofInt (8:Nat) (↑(UInt8.toNat ((AL a0 a1).getD (Ax a0 a1).toNat (Aj TC.u8))):Int) ||| BitVec.ofInt (8:Nat) (192:Int)).toNat:Int)
def Jh (a0:List UInt8) (a1:Int):Int:=IntKind.u8.wrap (↑(BitVec.ofInt (8:Nat) (↑(UInt8.toNat ((AL a0 a1).getD (Ax a0 a1).toNat (Aj TC.u8))):Int) ||| BitVec.ofInt (8:Nat) (128:Int)).toNat:Int)
def Jg (a0:List UInt8) (a1:Int):Int:=IntKind.u8.wrap (↑(BitVec.ofInt (8:Nat) (↑(UInt8.toNat ((AL a0 a1).getD (Ax a0 a1).toNat (Aj TC.u8))):Int) ||| BitVec.ofInt (8:Nat) (64:Int)).toNat:Int)
def WU (a0:List UInt8) (a1:Int):List UInt8:=bif(AP a0 a1) then(AL a0 a1).set (Ax a0 a1).toNat (UInt8.ofNat (Jg a0 a1).toNat) else bif(Bp a0 a1) then(AL a0 a1).set (Ax a0 a1).toNat (UInt8.ofNat (Jh a0 a1).toNat) else bif(FE a0 a1) then(AL a0 a1).set (Ax a0 a1).toNat (UInt8.ofNat (Ji a0 a1).toNat) else(AL a0 a1)
def Ahf (_a0:List UInt8) (_a1:Int):A:=.sq 0
def RF (a0:List UInt8) (a1:Int):Objs:=[(0,some (.arr 5 1 (.ty .u8 (WU a0 a1))))]
def Acf (a0:List UInt8) (a1:Int):List Prop:=[(Ai ((0:Nat)+a0.length)),(AN ES ER GQ (FX (a1,AV a1,AV a1,(0:Int),[]++a0)) (a1,AV a1,AV a1,(0:Int),[]++a0)),((AP a0 a1)=true→(0:Int)≤(Ax a0 a1)∧(Ax a0 a1) <(↑(AL a0 a1).length:Int)),((AP a0 a1)=false→(Bp a0 a1)=true→(0:Int)≤(Ax a0 a1)∧(Ax a0 a1) <(↑(AL a0 a1).length:Int)),((AP a0 a1)=false→(Bp a0 a1)=false→(FE a0 a1)=true→(0:Int)≤(Ax a0 a1)∧(Ax a0 a1) <(↑(AL a0 a1).length:Int))]
theorem Arx (a0:List UInt8) (a1:Int):I6 (AI Axi U5) 9 14 [Ar .bytes a0,Ar .i64 a1] 0 []=some (1,Ahf a0 a1,1,RF a0 a1,[(Ai ((0:Nat)+a0.length)),(An Tryd.prog (14:FuncId) (0:Nat)=An Tryd.prog (14:FuncId) (0:Nat)),(AN ES ER GQ (FX (a1,AV a1,AV a1,(0:Int),[]++a0)) (a1,AV a1,AV a1,(0:Int),[]++a0)),((AP a0 a1)=true→(0:Int)≤(Ax a0 a1)∧(Ax a0 a1) <(↑(AL a0 a1).length:Int)),((AP a0 a1)=true→(Ax a0 a1).toNat <(AL a0 a1).length),((AP a0 a1)=true→(0:Int)≤(Ax a0 a1)∧(Ax a0 a1) <(↑(AL a0 a1).length:Int)),((AP a0 a1)=true→(Ax a0 a1).toNat <(AL a0 a1).length),((AP a0 a1)=true→(0:Int)≤(Jg a0 a1)∧(Jg a0 a1) <(256:Int)),((AP a0 a1)=false→(Bp a0 a1)=true→(0:Int)≤(Ax a0 a1)∧(Ax a0 a1) <(↑(AL a0 a1).length:Int)),((AP a0 a1)=false→(Bp a0 a1)=true→(Ax a0 a1).toNat <(AL a0 a1).length),((AP a0 a1)=false→(Bp a0 a1)=true→(0:Int)≤(Ax a0 a1)∧(Ax a0 a1) <(↑(AL a0 a1).length:Int)),((AP a0 a1)=false→(Bp a0 a1)=true→(Ax a0 a1).toNat <(AL a0 a1).length),((AP a0 a1)=false→(Bp a0 a1)=true→(0:Int)≤(Jh a0 a1)∧(Jh a0 a1) <(256:Int)),((AP a0 a1)=false→(Bp a0 a1)=false→(FE a0 a1)=true→(0:Int)≤(Ax a0 a1)∧(Ax a0 a1) <(↑(AL a0 a1).length:Int)),((AP a0 a1)=false→(Bp a0 a1)=false→(FE a0 a1)=true→(Ax a0 a1).toNat <(AL a0 a1).length),((AP a0 a1)=false→(Bp a0 a1)=false→(FE a0 a1)=true→(0:Int)≤(Ax a0 a1)∧(Ax a0 a1) <(↑(AL a0 a1).length:Int)),((AP a0 a1)=false→(Bp a0 a1)=false→(FE a0 a1)=true→(Ax a0 a1).toNat <(AL a0 a1).length),((AP a0 a1)=false→(Bp a0 a1)=false→(FE a0 a1)=true→(0:Int)≤(Ji a0 a1)∧(Ji a0 a1) <(256:Int))]):=by kernel_rfl
theorem Awp (a0:List UInt8) (a1:Int) (hp:∀p∈Acf a0 a1,p):CallOk Tryd.prog 14 [Ar .bytes a0,Ar .i64 a1] 0 [] 1 (Ahf a0 a1) 1 (RF a0 a1):=by
 have n0:=N0 hp
 have n2:=N0 (N1 hp)
 have n3:((AP a0 a1)=true→(0:Int)≤(Ax a0 a1)∧(Ax a0 a1) <(↑(AL a0 a1).length:Int)):=N0 (N1 (N1 hp))
 have n4:((AP a0 a1)=true→(Ax a0 a1).toNat <(AL a0 a1).length):=by intro h0;have g:=n3 h0;omega
 have n7:((AP a0 a1)=true→(0:Int)≤(Jg a0 a1)∧(Jg a0 a1) <(256:Int)):=by intros;exact Ki _
 have n8:((AP a0 a1)=false→(Bp a0 a1)=true→(0:Int)≤(Ax a0 a1)∧(Ax a0 a1) <(↑(AL a0 a1).length:Int)):=N0 (N1 (N1 (N1 hp)))
 have n9:((AP a0 a1)=false→(Bp a0 a1)=true→(Ax a0 a1).toNat <(AL a0 a1).length):=by intro h0 h1;have g:=n8 h0 h1;omega
 have n12:((AP a0 a1)=false→(Bp a0 a1)=true→(0:Int)≤(Jh a0 a1)∧(Jh a0 a1) <(256:Int)):=by intros;exact Ki _
 have n13:((AP a0 a1)=false→(Bp a0 a1)=false→(FE a0 a1)=true→(0:Int)≤(Ax a0 a1)∧(Ax a0 a1) <(↑(AL a0 a1).length:Int)):=N0 (N1 (N1 (N1 (N1 hp))))
 have n14:((AP a0 a1)=false→(Bp a0 a1)=false→(FE a0 a1)=true→(Ax a0 a1).toNat <(AL a0 a1).length):=by intro h0 h1 h2;have g:=n13 h0 h1 h2;omega
 have n17:((AP a0 a1)=false→(Bp a0 a1)=false→(FE a0 a1)=true→(0:Int)≤(Ji a0 a1)∧(Ji a0 a1) <(256:Int)):=by intros;exact Ki _
 exact AW (AJ Aic Acc) (Arx a0 a1) (Aa n0 (Aa rfl (Aa n2 (Aa n3 (Aa n4 (Aa n3 (Aa n4 (Aa n7 (Aa n8 (Aa n9 (Aa n8 (Aa n9 (Aa n12 (Aa n13 (Aa n14 (Aa n13 (Aa n14 (Aa n17 Am))))))))))))))))))
def Acg (_a0:List UInt8) (_a1:Int):A:=.sq 0
def OM (a0:List UInt8) (a1:Int):Objs:=[(0,some (.arr 5 1 (.ty .u8 (a0++Aw a1))))]
def XZ (a0:List UInt8) (_a1:Int):List Prop:=[Ai (a0.length+8)]
theorem Akv (n:Int):AV n=(Fa n:Int):=by
 unfold AV QF L9 Ma Fa
 by_cases h0:n <0∨n >4611686018427387903
 ·have e:(decide (n <0)||decide (n >4611686018427387903))=true:=by simpa using h0
  rw[e,if_pos h0];rfl
 ·have e:(decide (n <0)||decide (n >4611686018427387903))=false:=by
   rw[Bool.eq_false_iff]
   intro hh
   exact h0 (by simpa using hh)
  rw[e,if_neg h0]
  by_cases h1:n≥1073741824
  ·rw[if_pos h1,decide_eq_true h1];rfl
  ·rw[if_neg h1,decide_eq_false h1]
   by_cases h2:n≥16384
   ·rw[if_pos h2,decide_eq_true h2];rfl
   ·rw[if_neg h2,decide_eq_false h2]
    by_cases h3:n≥64
    ·rw[if_pos h3,decide_eq_true h3];rfl
    ·rw[if_neg h3,decide_eq_false h3];rfl
theorem VB (n:Int):Fa n=0∨(0≤n∧n≤4611686018427387903∧szs (Fa n)):=by
 by_cases h:n <0∨n >4611686018427387903
 ·left;unfold Fa;rw[if_pos h]
 ·right;exact⟨by omega,by omega,(Ah6 (by omega) (by omega)).1⟩
theorem A0z (b:List UInt8) (n:Int) (hb:Ai (b.length+8)):
  AN ES ER GQ (FX (n,AV n,AV n,0,[]++b)) (n,AV n,AV n,0,[]++b)∧
  (Lg (n,AV n,AV n,0,[]++b)).2.2.2.2=b++be (Fa n) n.toNat:=by
 have hk8:Fa n≤8:=by
  rcases VB n with h|⟨_,_,h⟩
  ·omega
  ·unfold szs at h;omega
 rw[Akv]
 obtain⟨h1,⟨i,hi,h2⟩,h3⟩:=Abq (next:=ES) (goes:=ER) (ps:=GQ)
  (fun x=>∃i:Nat,i≤Fa n∧x=(n,(Fa n:Int),(Fa n:Int),(i:Int),b++(be (Fa n) n.toNat).take i)) FX (by
   rintro x ⟨i,hi,rfl⟩
   refine⟨Aa (fun hp=>?_) Am,fun hg=>?_⟩
   ·have h':(!!decide ((i:Int) <(Fa n:Int)))=true:=hp
    have hlt:i <Fa n:=by simpa using h'
    show Ai ((b++(be (Fa n) n.toNat).take i).length+1)
    unfold Ai at*
    rw[List.length_append,List.length_take,Ib]
    omega
   ·have h':(!!decide ((i:Int) <(Fa n:Int)))=true:=hg
    have hlt:i <Fa n:=by simpa using h'
    have hw:IntKind.i64.wrap ((i:Int)+1)=((i+1:Nat):Int):=by rw[i64_in (by omega)];rfl
    have hn0:0≤n:=by rcases VB n with h|⟨h,_⟩<;>omega
    refine⟨⟨i+1,hlt,?_⟩,?_⟩
    ·show(n,(Fa n:Int),(Fa n:Int),IntKind.i64.wrap ((i:Int)+1),(b++(be (Fa n) n.toNat).take i)++[UInt8.ofNat (IntKind.u8.wrap (n.fdiv ((2:Int)^min (IntKind.u64.wrap (IntKind.i64.wrap ((8:Int)*IntKind.i64.wrap (IntKind.i64.wrap ((Fa n:Int) - (1:Int)) - (i:Int))))).toNat (64:Nat)))).toNat])=_
     rw[hw,A0y hn0 hk8 hlt,List.append_assoc,←A24 hlt]
    ·show((Fa n:Int) - IntKind.i64.wrap ((i:Int)+1)).toNat <((Fa n:Int) - (i:Int)).toNat
     rw[hw]
     omega) _ (n,(Fa n:Int),(Fa n:Int),0,[]++b) ⟨0,Nat.zero_le _,by simp⟩ (Nat.le_refl _)
 refine⟨h1,?_⟩
 have h4:Lg (n,(Fa n:Int),(Fa n:Int),0,[]++b)=_:=h2
 rw[h2] at h3
 have h3':(!!decide ((i:Int) <(Fa n:Int)))=false:=h3
 have hn:¬((i:Int) <(Fa n:Int)):=by simpa using h3'
 obtain rfl:i=Fa n:=by omega
 rw[h4,List.take_of_length_le (by rw[Ib];exact Nat.le_refl _)]
theorem Arw (b:List UInt8) (n:Int) (hb:Ai (b.length+8)):(∀p∈Acf b n,p)∧WU b n=b++Aw n:=by
 obtain⟨h1,h2⟩:=A0z b n hb
 have h3:AL b n=b++be (Fa n) n.toNat:=h2
 have h4:(Ax b n).toNat=b.length:=rfl
 have hS:=Akv n
 have hlen:(b++be (Fa n) n.toNat).length=b.length+Fa n:=by rw[List.length_append,Ib]
 have hpos:Fa n≠0→(0:Int)≤Ax b n∧Ax b n <((AL b n).length:Int):=fun h0=>by
  rw[h3,hlen]
  show(0:Int)≤(b.length:Int)∧(b.length:Int) <((b.length+Fa n:Nat):Int)
  omega
 have sz2:∀c:Int,c≠0→(AV n==c)=true→Fa n≠0:=fun c hc h h0=>by
  rw[hS,h0] at h
  have h':(0:Int)=c:=by simpa using h
  exact hc h'.symm
 refine⟨Aa (by unfold Ai at*;omega) (Aa h1 (Aa (fun h=>hpos (sz2 2 (by decide) h)) (Aa (fun _ h=>hpos (sz2 4 (by decide) h)) (Aa (fun _ _ h=>hpos (sz2 8 (by decide) h)) Am)))),?_⟩
 unfold WU
 rw[h3,h4]
 have k7:AP b n=((Fa n:Int)==2):=by show(AV n==2)=_;rw[hS]
 have k6:Bp b n=((Fa n:Int)==4):=by show(AV n==4)=_;rw[hS]
 have k5:FE b n=((Fa n:Int)==8):=by show(AV n==8)=_;rw[hS]
 have b1:Jg b n=IntKind.u8.wrap ((BitVec.ofInt 8 ((((b++be (Fa n) n.toNat).getD b.length (Aj TC.u8)).toNat:Nat):Int) ||| BitVec.ofInt 8 ((64*1:Nat):Int)).toNat:Int):=by rw[←h3,←h4];rfl
 have b0:Jh b n=IntKind.u8.wrap ((BitVec.ofInt 8 ((((b++be (Fa n) n.toNat).getD b.length (Aj TC.u8)).toNat:Nat):Int) ||| BitVec.ofInt 8 ((64*2:Nat):Int)).toNat:Int):=by rw[←h3,←h4];rfl
 have b2:Ji b n=IntKind.u8.wrap ((BitVec.ofInt 8 ((((b++be (Fa n) n.toNat).getD b.length (Aj TC.u8)).toNat:Nat):Int) ||| BitVec.ofInt 8 ((64*3:Nat):Int)).toNat:Int):=by rw[←h3,←h4];rfl
 rw[k7,k6,k5,b1,b0,b2]
 unfold Aw
 rcases VB n with hz|⟨g1,g2,g3⟩
 ·rw[hz];rfl
 ·have hN:=(Ah6 g1 g2).2
  generalize hk:Fa n=k at*
  rcases g3 with rfl|rfl|rfl|rfl
  ·show b++be 1 n.toNat=b++be 1 (n.toNat+0*(64*256^0))
   rw[Nat.zero_mul,Nat.add_zero]
  ·exact Aku (m:=1) (t:=1) b hN (by decide) _
  ·exact Aku (m:=3) (t:=2) b hN (by decide) _
  ·exact Aku (m:=7) (t:=3) b hN (by decide) _
theorem Arv (a0:List UInt8) (a1:Int) (hp:∀p∈XZ a0 a1,p):CallOk Tryd.prog 14 [Ar .bytes a0,Ar .i64 a1] 0 [] 1 (Acg a0 a1) 1 (OM a0 a1):=by
 obtain⟨h1,h2⟩:=Arw a0 a1 (hp _ (List.mem_cons_self ..))
 have h:=Awp a0 a1 h1
 have ho:RF a0 a1=OM a0 a1:=by unfold RF OM;rw[h2]
 rw[ho] at h
 exact h
def Ahg:List A→Nat→Objs→Option CJ:=Fc [.t .bytes,.t .i64] 1 Acg OM XZ
theorem Aoh:IV Tryd.prog 14 Ahg:=AM (ks:=[.t .bytes,.t .i64]) Arv
noncomputable def Axj:=CA 14 Ahg Axi
theorem Aid:FM Tryd.prog Axj:=Az Aoh Aic
abbrev Dl:Type:=Int×(List UInt8)×Int×Int
def KD (x:Dl):St:=⟨46,0,[(6,.v (.int .i64 x.1)),(28,.sl .u8 x.2.1),(29,.v (.int .i64 x.2.2.1)),(30,.v (.int .i64 x.2.2.2))],[]⟩
def MB:St→Option Dl
 |⟨46,0,[(6,.v (.int .i64 z0)),(28,.sl .u8 z1),(29,.v (.int .i64 z2)),(30,.v (.int .i64 z3))],[]⟩=>some (z0,z1,z2,z3)
 |_=>none
theorem Zh:∀s x,MB s=some x→s=KD x:=fun s x h=>by
 unfold MB at h
 split at h
 ·cases h;rfl
 ·cases h
def U4:F4:=⟨0,0,[6,28,29,30],[],[],[],[6],[]⟩
def Aj2:Gi:=⟨[],[],[6,28,29,30],[]⟩
def Ab7 (a0:Int) (a1:List UInt8) (_a2:Int) (a3:Int):Int:=IntKind.i64.wrap (↑(BitVec.ofInt (64:Nat) (IntKind.i64.wrap (a0*(256:Int))) ||| BitVec.ofInt (64:Nat) (IntKind.i64.wrap (↑(UInt8.toNat (a1.getD a3.toNat (Aj TC.u8))):Int))).toNat:Int)
def EQ (x:Dl):Dl:=(Ab7 x.1 x.2.1 x.2.2.1 x.2.2.2,x.2.1,x.2.2.1,IntKind.i64.wrap (x.2.2.2+(1:Int)))
def EP (x:Dl):Cnd:=some (!!decide (x.2.2.2 <x.2.2.1))
def Lf (x:Dl):List Prop:=[((!!decide (x.2.2.2 <x.2.2.1))=true→(0:Int)≤x.2.2.2∧x.2.2.2 <(↑x.2.1.length:Int))]
abbrev GP:Dl→List Prop:=Lf
def Pc (x:Dl):Bh:=[(some 0,some (!decide (x.2.2.2 <x.2.2.1)),⟨46,0,[(6,.v (.int .i64 x.1))],[]⟩)]
def FW (x:Dl):Nat:=(x.2.2.1 - x.2.2.2).toNat
def IF (x:Dl):Dl:=Ba EQ EP (FW x) x
theorem Ae9 (a0:Int) (a1:List UInt8) (a2:Int) (a3:Int):Dq (AI Axj L0) 9 (An Tryd.prog 45 0) U4 (KD (a0,a1,a2,a3))=some (Lf (a0,a1,a2,a3),Pc (a0,a1,a2,a3),EP (a0,a1,a2,a3),KD (EQ (a0,a1,a2,a3))):=by kernel_rfl
theorem Afa (a0:Int) (a1:List UInt8) (a2:Int) (a3:Int) (hp:∀p∈GP (a0,a1,a2,a3),p):∀p∈Lf (a0,a1,a2,a3),p:=hp
noncomputable def Qz:=Jl (AI Axj L0) (An Tryd.prog 45 0) U4 Aj2 MB FW EQ EP GP Pc
theorem Ab8:∀s b ps outs,Qz s=some (b,ps,outs)→Wf s ⟨ps,outs,none⟩∧DE (AI C0 L0) b s ps outs:=
 C5 (T:=KD) Aid AX (u:=9) (by kernel_rfl) (by decide) (fun⟨a0,a1,a2,a3⟩=>Ae9 a0 a1 a2 a3) (fun⟨a0,a1,a2,a3⟩=>Afa a0 a1 a2 a3) Zh (fun _=>Bc (n:=46) rfl) fun _ _=>rfl
noncomputable def U3:=Gt 0 Qz L0
theorem Ab6:Ij U3:=BK Ab8 AX
def Gd (a0:List UInt8):Int:=(↑(UInt8.toNat (a0.getD (0:Nat) (Aj TC.u8))):Int)
def BQ (a0:List UInt8):Bool:=(↑a0.length:Int)==(0:Int)
def FD (a0:List UInt8):Int:=IntKind.i64.wrap ((1:Int)*(2:Int)^min ((Gd a0).fdiv (64:Int)).toNat (64:Nat))
def DN (a0:List UInt8):List UInt8:=List.take ((FD a0).toNat - (1:Nat)) (List.drop (1:Nat) a0)
def EO (a0:List UInt8):Bool:=decide ((↑a0.length:Int) <(FD a0))
def Le (a0:List UInt8):Bool:=decide (AV (IF (IntKind.i64.wrap (IntKind.u8.wrap (↑(BitVec.ofInt (8:Nat) (Gd a0) &&& BitVec.ofInt (8:Nat) (63:Int)).toNat:Int)),(DN a0),(↑(DN a0).length:Int),(0:Int))).fst <(FD a0))
def WR (a0:List UInt8):Int:=bif(BQ a0) then(0:Int) else bif(EO a0) then(0:Int) else bif(Le a0) then(0:Int) else(IF (IntKind.i64.wrap (IntKind.u8.wrap (↑(BitVec.ofInt (8:Nat) (Gd a0) &&& BitVec.ofInt (8:Nat) (63:Int)).toNat:Int)),(DN a0),(↑(DN a0).length:Int),(0:Int))).fst
def WS (a0:List UInt8):Int:=bif(BQ a0) then(0:Int) else bif(EO a0) then(0:Int) else bif(Le a0) then(0:Int) else(FD a0)
def WT (a0:List UInt8):Int:=bif(BQ a0) then(10:Int) else bif(EO a0) then(10:Int) else bif(Le a0) then(11:Int) else(0:Int)
def RE (a0:List UInt8):A:=.v (.tuple ⟨[.int .i64 (WR a0),.int .i64 (WS a0),.int .i64 (WT a0)]⟩)
def Ahd (_a0:List UInt8):Objs:=[]
def Aca (a0:List UInt8):List Prop:=[((!(BQ a0))=true→(0:Int)≤(0:Int)∧(0:Int) <(↑a0.length:Int)),((!(BQ a0))=true→(0:Int)≤(Gd a0).fdiv (64:Int)),((!(BQ a0))=true→(!(EO a0))=true→(0:Int)≤(0:Int)∧(0:Int) <(↑a0.length:Int)),((!(BQ a0))=true→(!(EO a0))=true→(0:Int)≤(1:Int)∧(1:Int)≤(FD a0)∧(FD a0)≤(↑a0.length:Int)),((!(BQ a0))=true→(!(EO a0))=true→AN EQ EP GP (FW (IntKind.i64.wrap (IntKind.u8.wrap (↑(BitVec.ofInt (8:Nat) (Gd a0) &&& BitVec.ofInt (8:Nat) (63:Int)).toNat:Int)),(DN a0),(↑(DN a0).length:Int),(0:Int))) (IntKind.i64.wrap (IntKind.u8.wrap (↑(BitVec.ofInt (8:Nat) (Gd a0) &&& BitVec.ofInt (8:Nat) (63:Int)).toNat:Int)),(DN a0),(↑(DN a0).length:Int),(0:Int)))]
theorem Aru (a0:List UInt8):I6 (AI Axj U3) 9 45 [Ar .bytes a0] 0 []=some (1,RE a0,0,Ahd a0,[((!(BQ a0))=true→(0:Int)≤(0:Int)∧(0:Int) <(↑a0.length:Int)),((!(BQ a0))=true→(0:Int)≤(Gd a0).fdiv (64:Int)),((!(BQ a0))=true→(!(EO a0))=true→(0:Int)≤(0:Int)∧(0:Int) <(↑a0.length:Int)),((!(BQ a0))=true→(!(EO a0))=true→(0:Int)≤(1:Int)∧(1:Int)≤(FD a0)∧(FD a0)≤(↑a0.length:Int)),((!(BQ a0))=true→(!(EO a0))=true→An Tryd.prog (45:FuncId) (0:Nat)=An Tryd.prog (45:FuncId) (0:Nat)),((!(BQ a0))=true→(!(EO a0))=true→AN EQ EP GP (FW (IntKind.i64.wrap (IntKind.u8.wrap (↑(BitVec.ofInt (8:Nat) (Gd a0) &&& BitVec.ofInt (8:Nat) (63:Int)).toNat:Int)),(DN a0),(↑(DN a0).length:Int),(0:Int))) (IntKind.i64.wrap (IntKind.u8.wrap (↑(BitVec.ofInt (8:Nat) (Gd a0) &&& BitVec.ofInt (8:Nat) (63:Int)).toNat:Int)),(DN a0),(↑(DN a0).length:Int),(0:Int)))]):=by kernel_rfl
theorem Awo (a0:List UInt8) (hp:∀p∈Aca a0,p):CallOk Tryd.prog 45 [Ar .bytes a0] 0 [] 1 (RE a0) 0 (Ahd a0):=by
 have n0:=N0 hp
 have n1:=N0 (N1 hp)
 have n2:=N0 (N1 (N1 hp))
 have n3:=N0 (N1 (N1 (N1 hp)))
 have n4:((!(BQ a0))=true→(!(EO a0))=true→An Tryd.prog (45:FuncId) (0:Nat)=An Tryd.prog (45:FuncId) (0:Nat)):=by intros;rfl
 have n5:=N0 (N1 (N1 (N1 (N1 hp))))
 exact AW (AJ Aid Ab6) (Aru a0) (Aa n0 (Aa n1 (Aa n2 (Aa n3 (Aa n4 (Aa n5 Am))))))
def OL (a0:List UInt8):A:=.v (.tuple ⟨[.int .i64 (GH a0).1,.int .i64 (GH a0).2.1,.int .i64 (GH a0).2.2]⟩)
def Ab9 (_a0:List UInt8):Objs:=[]
def XY (_a0:List UInt8):List Prop:=[]
theorem Azq (L:List UInt8) (h7:L.length≤7) (a:Nat) (ha:a <64):
  AN EQ EP GP (FW ((a:Int),L,(L.length:Int),0)) ((a:Int),L,(L.length:Int),0)∧
  (IF ((a:Int),L,(L.length:Int),0)).1=(val a L:Int):=by
 obtain⟨h1,⟨i,hi,h2⟩,h3⟩:=Abq (next:=EQ) (goes:=EP) (ps:=GP)
  (fun x=>∃i:Nat,i≤L.length∧x=((val a (L.take i):Int),L,(L.length:Int),(i:Int))) FW (by
   rintro x ⟨i,hi,rfl⟩
   refine⟨Aa (fun hp=>?_) Am,fun hg=>?_⟩
   ·have h':(!!decide ((i:Int) <(L.length:Int)))=true:=hp
    have hlt:(i:Int) <(L.length:Int):=by simpa using h'
    show(0:Int)≤(i:Int)∧(i:Int) <(L.length:Int)
    exact⟨by omega,hlt⟩
   ·have h':(!!decide ((i:Int) <(L.length:Int)))=true:=hg
    have hlt:i <L.length:=by simpa using h'
    have hw:IntKind.i64.wrap ((i:Int)+1)=((i+1:Nat):Int):=by rw[i64_in (by omega)];rfl
    have hb:val a (L.take i) <64*256^6:=by
     have hv:=OY (L.take i) a
     have hl:=Ak1 (L.take i)
     have e:(L.take i).length=i:=by rw[List.length_take];omega
     rw[e] at hv hl
     have hm:256^i≤256^6:=Nat.pow_le_pow_right (by decide) (by omega)
     have hq:=Nat.mul_le_mul_right (256^i) (show a+1≤64 by omega)
     rw[Nat.add_mul,Nat.one_mul] at hq
     have hq2:=Nat.mul_le_mul_left 64 hm
     omega
    refine⟨⟨i+1,hlt,?_⟩,?_⟩
    ·show(IntKind.i64.wrap ((BitVec.ofInt 64 (IntKind.i64.wrap ((val a (L.take i):Int)*256)) ||| BitVec.ofInt 64 (IntKind.i64.wrap (((L.getD (i:Int).toNat (Aj TC.u8)).toNat:Nat):Int))).toNat:Int),L,(L.length:Int),IntKind.i64.wrap ((i:Int)+1))=_
     rw[hw,A4p hb,Int.toNat_natCast,A15 _ _ _ hlt]
    ·show((L.length:Int) - IntKind.i64.wrap ((i:Int)+1)).toNat <((L.length:Int) - (i:Int)).toNat
     rw[hw]
     omega) _ ((a:Int),L,(L.length:Int),0) ⟨0,Nat.zero_le _,rfl⟩ (Nat.le_refl _)
 refine⟨h1,?_⟩
 have h4:IF ((a:Int),L,(L.length:Int),0)=_:=h2
 rw[h2] at h3
 have h3':(!!decide ((i:Int) <(L.length:Int)))=false:=h3
 have hn:¬((i:Int) <(L.length:Int)):=by simpa using h3'
 obtain rfl:i=L.length:=by omega
 rw[h4,List.take_length]
theorem Art (b:List UInt8):(∀p∈Aca b,p)∧WR b=(GH b).1∧WS b=(GH b).2.1∧WT b=(GH b).2.2:=by
 cases b with
 |nil=>
  have no:(!(BQ []))=true→False:=by intro h;cases h
  exact⟨Aa (fun h=>(no h).elim) (Aa (fun h=>(no h).elim) (Aa (fun h=>(no h).elim) (Aa (fun h=>(no h).elim) (Aa (fun h=>(no h).elim) Am)))),rfl,rfl,rfl⟩
 | cons x r=>
  have hx:x.toNat <256:=x.toNat_lt
  have k4:BQ (x::r)=false:=by
   show(((r.length+1:Nat):Int)==0)=false
   rw[Bool.eq_false_iff]
   intro h
   have:((r.length+1:Nat):Int)=0:=by simpa using h
   omega
  have k3:FD (x::r)=((2^(x.toNat / 64):Nat):Int):=A9t x
  have t3:x.toNat / 64≤3:=by omega
  have hK:=(A1h t3).1
  have k2:DN (x::r)=r.take (2^(x.toNat / 64) - 1):=by
   show List.take ((FD (x::r)).toNat - 1) r=_
   rw[k3,Int.toNat_natCast]
  have k1:EO (x::r)=decide (r.length+1 <2^(x.toNat / 64)):=by
   show decide (((r.length+1:Nat):Int) <FD (x::r))=_
   rw[k3]
   exact decide_eq_decide.2 Int.ofNat_lt
  have k6:IntKind.i64.wrap (IntKind.u8.wrap ((BitVec.ofInt 8 (Gd (x::r)) &&& BitVec.ofInt 8 63).toNat:Int))=((x.toNat % 64:Nat):Int):=A3z x
  generalize hKK:2^(x.toNat / 64)=K at*
  have hlen:(r.take (K - 1)).length≤7:=by rw[List.length_take];unfold szs at hK;omega
  obtain⟨n1,n2⟩:=Azq (r.take (K - 1)) hlen (x.toNat % 64) (by omega)
  have k0:Le (x::r)=decide (Fa (val (x.toNat % 64) (r.take (K - 1))) <K):=by
   unfold Le
   rw[k6,k2,n2,Akv,k3]
   exact decide_eq_decide.2 Int.ofNat_lt
  refine⟨Aa (fun _=>?_) (Aa (fun _=>?_) (Aa (fun _ _=>(by show(0:Int)≤0∧(0:Int) <((r.length+1:Nat):Int);omega)) (Aa (fun _ h=>?_) (Aa (fun _ _=>?_) Am)))),?_⟩
  ·show(0:Int)≤0∧(0:Int) <((r.length+1:Nat):Int)
   omega
  ·show(0:Int)≤((x.toNat:Nat):Int).fdiv 64
   rw[Int.fdiv_eq_ediv_of_nonneg _ (by decide)]
   omega
  ·rw[k1] at h
   have h':¬(r.length+1 <K):=by simpa using h
   rw[k3]
   show(0:Int)≤1∧(1:Int)≤(K:Int)∧(K:Int)≤((r.length+1:Nat):Int)
   unfold szs at hK
   omega
  ·rw[k6,k2]
   exact n1
  ·unfold WR WS WT
   rw[k4,k1,k0,k6,k2,n2,k3,KU,hKK]
   by_cases c1:r.length+1 <K
   ·rw[if_pos c1,decide_eq_true c1];exact⟨rfl,rfl,rfl⟩
   ·rw[if_neg c1,decide_eq_false c1]
    by_cases c2:Fa (val (x.toNat % 64) (r.take (K - 1))) <K
    ·rw[if_pos c2,decide_eq_true c2];exact⟨rfl,rfl,rfl⟩
    ·rw[if_neg c2,decide_eq_false c2];exact⟨rfl,rfl,rfl⟩
theorem Ars (a0:List UInt8) (_hp:∀p∈XY a0,p):CallOk Tryd.prog 45 [Ar .bytes a0] 0 [] 1 (OL a0) 0 (Ab9 a0):=by
 obtain⟨h1,h2,h3,h4⟩:=Art a0
 have h:=Awo a0 h1
 have hr:RE a0=OL a0:=by unfold RE OL;rw[h2,h3,h4]
 rw[hr] at h
 exact h
def Ahe:List A→Nat→Objs→Option CJ:=Fc [.t .bytes] 0 OL Ab9 XY
theorem Aog:IV Tryd.prog 45 Ahe:=AM (ks:=[.t .bytes]) Ars
noncomputable def A8p:=CA 45 Ahe Axj
theorem A2g:FM Tryd.prog A8p:=Az Aog Aid
noncomputable def Ca:=A8p
theorem A5y:FM Tryd.prog Ca:=A2g
end Go.Proofs.YtifkbgkbajncjaaDoor
namespace Go.Proofs.YtifkbgkbajncjaaDoor
open Go.RowKit
def Lw (a0:Int):Bool:=!a0==(1:Int)
def JE (a0:Int):Bool:=bif !((Lw a0)&&!((Lw a0)&&a0==(2:Int))) then true else false
def MQ (a0:Int):A:=.v (.bool (JE a0))
def MP (_a0:Int):Objs:=[]
def Lx (_a0:Int):List Prop:=[]
theorem Ad6 (a0:Int):I6 (AI Ca L0) 9 70 [Ar .i64 a0] 0 []=some (1,MQ a0,0,MP a0,Lx a0):=by kernel_rfl
theorem Aft (a0:Int) (hp:∀p∈Lx a0,p):CallOk Tryd.prog 70 [Ar .i64 a0] 0 [] 1 (MQ a0) 0 (MP a0):=AW (AJ A5y AX) (Ad6 a0) hp
def ST:List A→Nat→Objs→Option CJ:=Fc [.t .i64] 0 MQ MP Lx
theorem ZD:IV Tryd.prog 70 ST:=AM (ks:=[.t .i64]) Aft
noncomputable def A64:=CA 70 ST Ca
theorem As5:FM Tryd.prog A64:=Az ZD A5y
def CN (a0:TStamp):Bool:=bif a0.1==(0:Int)&&a0.2==(0:Int) then true else decide (a0.1 >(0:Int))&&decide (a0.1≤(281474976710656:Int))&&JE a0.2
def OW (a0:TStamp):A:=.v (.bool (CN a0))
def OV (_a0:TStamp):Objs:=[]
def MO (_a0:TStamp):List Prop:=[]
theorem Afr (a0:TStamp):I6 (AI A64 L0) 9 56 [Ar .stamp a0] 0 []=some (1,OW a0,0,OV a0,MO a0):=by kernel_rfl
theorem Akw (a0:TStamp) (hp:∀p∈MO a0,p):CallOk Tryd.prog 56 [Ar .stamp a0] 0 [] 1 (OW a0) 0 (OV a0):=AW (AJ As5 AX) (Afr a0) hp
def Vy:List A→Nat→Objs→Option CJ:=Fc [.t .stamp] 0 OW OV MO
theorem Ad4:IV Tryd.prog 56 Vy:=AM (ks:=[.t .stamp]) Akw
noncomputable def A65:=CA 56 Vy A64
theorem As6:FM Tryd.prog A65:=Az Ad4 As5
def HP (a0:Int) (_a1:Int):Int:=min (max a0 (0:Int)) (1099511627776:Int)
def MS (a0:Int) (a1:Int):A:=.v (.int .i64 (HP a0 a1))
def MR (_a0:Int) (_a1:Int):Objs:=[]
def Ly (_a0:Int) (_a1:Int):List Prop:=[]
theorem Aea (a0:Int) (a1:Int):I6 (AI A65 L0) 9 60 [Ar .i64 a0,Ar .i64 a1] 0 []=some (1,MS a0 a1,0,MR a0 a1,Ly a0 a1):=by kernel_rfl
theorem Afv (a0:Int) (a1:Int) (hp:∀p∈Ly a0 a1,p):CallOk Tryd.prog 60 [Ar .i64 a0,Ar .i64 a1] 0 [] 1 (MS a0 a1) 0 (MR a0 a1):=AW (AJ As6 AX) (Aea a0 a1) hp
def SV:List A→Nat→Objs→Option CJ:=Fc [.t .i64,.t .i64] 0 MS MR Ly
theorem ZE:IV Tryd.prog 60 SV:=AM (ks:=[.t .i64,.t .i64]) Afv
noncomputable def A66:=CA 60 SV A65
theorem As7:FM Tryd.prog A66:=Az ZE As6
noncomputable def A67:=CA 59 (inl (AI A66 L0) 4 59) A66
theorem As8:FM Tryd.prog A67:=Az (Wv (AJ As7 AX) 4 59) As7
def BJ (a0:TVec):Bool:=HP a0.1 (0:Int)==a0.1&&HP a0.2 (0:Int)==a0.2
def TW (a0:TVec):A:=.v (.bool (BJ a0))
def TV (_a0:TVec):Objs:=[]
def YG (_a0:TVec):List Prop:=[]
theorem Apo (a0:TVec):I6 (AI A67 L0) 9 35 [Ar .vec a0] 0 []=some (1,TW a0,0,TV a0,[((0:Int)≤(0:Int)∧(0:Int) <(2:Int)),((0:Nat) <(2:Nat)),((0:Int)≤(0:Int)∧(0:Int) <(2:Int)),((0:Nat) <(2:Nat)),((0:Int)≤(0:Int)∧(0:Int) <(2:Int)),((0:Nat) <(2:Nat)),((0:Int)≤(1:Int)∧(1:Int) <(2:Int)),((1:Nat) <(2:Nat)),((0:Int)≤(1:Int)∧(1:Int) <(2:Int)),((1:Nat) <(2:Nat)),((0:Int)≤(1:Int)∧(1:Int) <(2:Int)),((1:Nat) <(2:Nat))]):=by kernel_rfl
theorem Asy (a0:TVec) (_hp:∀p∈YG a0,p):CallOk Tryd.prog 35 [Ar .vec a0] 0 [] 1 (TW a0) 0 (TV a0):=by
 have n0:((0:Int)≤(0:Int)∧(0:Int) <(2:Int)):=by first|rfl|decide+kernel
 have n1:((0:Nat) <(2:Nat)):=by first|rfl|decide+kernel
 have n6:((0:Int)≤(1:Int)∧(1:Int) <(2:Int)):=by first|rfl|decide+kernel
 have n7:((1:Nat) <(2:Nat)):=by first|rfl|decide+kernel
 exact AW (AJ As8 AX) (Apo a0) (Aa n0 (Aa n1 (Aa n0 (Aa n1 (Aa n0 (Aa n1 (Aa n6 (Aa n7 (Aa n6 (Aa n7 (Aa n6 (Aa n7 Am))))))))))))
def Aeb:List A→Nat→Objs→Option CJ:=Fc [.t .vec] 0 TW TV YG
theorem Ak2:IV Tryd.prog 35 Aeb:=AM (ks:=[.t .vec]) Asy
noncomputable def A8q:=CA 35 Aeb A67
theorem A2h:FM Tryd.prog A8q:=Az Ak2 As8
noncomputable def Cb:=A8q
theorem A5z:FM Tryd.prog Cb:=A2h
end Go.Proofs.YtifkbgkbajncjaaDoor
namespace Go.Proofs.YtifkbgkbajncjaaDoor
open Go.RowKit
def Km (s:TStamp):Bool:=bif s.n==0&&s.site==0 then true else decide (1≤s.n)&&decide (s.n≤281474976710656)&&(s.site==1||s.site==2)
def GX (v:TVec):Bool:=decide (0≤v.a)&&decide (v.a≤1099511627776)&&(decide (0≤v.b)&&decide (v.b≤1099511627776))
def IZ (v:TVec):Bool:=v.a==0&&v.b==0
def A6k (s:TStamp):Int:=bif s.n==0 then 0 else 2*s.n+s.site - 1
def W5 (s:TStamp):List UInt8:=bif Km s then Aw (A6k s) else[]
def MG (v:TVec):List UInt8:=bif GX v then Aw v.a++Aw v.b else[]
def MF (t:ByteArray):List UInt8:=Aw (t.size:Int)++t.data.toList
structure Rd {α:Type} (get:List UInt8→α×Int×Int) (good:α→Prop) (put:α→List UInt8):Prop where
 back:∀x r,good x→get (put x++r)=(x,((put x).length:Int),0)
 front:∀b x k,get b=(x,k,0)→good x∧k=((put x).length:Int)∧∃r,b=put x++r
theorem Ast {b p:List UInt8} (h:b.take p.length=p):∃r,b=p++r:=⟨b.drop p.length,by
 conv=>lhs;rw[←List.take_append_drop p.length b,h]⟩
def okN (n:Int):Prop:=0≤n∧n≤4611686018427387903
theorem rdN:Rd GH okN Aw where
 back:=fun x r h=>by rw[ZM h.1 h.2 r,Cy]
 front:=fun b x k h=>by
  obtain⟨h1,h2,h3,_,h5⟩:=A4t h
  exact⟨⟨h1,h2⟩,by rw[h3,Cy],Ast (by rw[Cy];exact h5)⟩
theorem A3y {b:List UInt8} (h:(GH b).2.2=0):∃r,okN (GH b).1∧(GH b).2.1=((Aw (GH b).1).length:Int)∧b=Aw (GH b).1++r:=by
 obtain⟨h1,h2,r,h3⟩:=rdN.front b (GH b).1 (GH b).2.1 (by rw[←h])
 exact⟨r,h1,h2,h3⟩
theorem Azo (b:List UInt8):(GH b).2.2≠0→(GH b).1=0∧(GH b).2.1=0:=fun h=>by
 cases b with
 |nil=>exact⟨rfl,rfl⟩
 | cons x r=>
  rw[KU] at h⊢
  split
  ·exact⟨rfl,rfl⟩
  ·split
   ·exact⟨rfl,rfl⟩
   ·rename_i h1 h2
    rw[if_neg h1,if_neg h2] at h
    exact absurd rfl h
theorem Anp (b:List UInt8):0≤(GH b).2.1∧(GH b).2.1≤(b.length:Int)∧(GH b).2.1≤8∧0≤(GH b).1∧(GH b).1≤4611686018427387903:=by
 by_cases h:(GH b).2.2=0
 ·obtain⟨r,⟨h1,h1'⟩,h2,h3⟩:=A3y h
  have hl:=congrArg List.length h3
  rw[List.length_append] at hl
  have h8:(Aw (GH b).1).length≤8:=by
   rw[Cy]
   have:=(Ah6 h1 h1').1
   unfold szs at this
   omega
  exact⟨by omega,by omega,by omega,h1,h1'⟩
 ·obtain⟨h1,h2⟩:=Azo b h
  rw[h1,h2]
  omega
theorem Awf {s:TStamp}:Km s=true↔(s.n=0∧s.site=0)∨(1≤s.n∧s.n≤281474976710656∧(s.site=1∨s.site=2)):=by
 unfold Km
 rw[Bool.cond_eq_ite]
 split
 ·rename_i h
  simp only[Bool.and_eq_true,beq_iff_eq] at h
  exact⟨fun _=> .inl h,fun _=>rfl⟩
 ·rename_i h
  simp only[Bool.and_eq_true,beq_iff_eq] at h
  simp only[Bool.and_eq_true,Bool.or_eq_true,beq_iff_eq,decide_eq_true_eq]
  constructor
  ·intro h';exact .inr ⟨h'.1.1,h'.1.2,h'.2⟩
  ·rintro(h'|⟨h1,h2,h3⟩)
   ·exact absurd h' h
   ·exact⟨⟨h1,h2⟩,h3⟩
theorem A5k {s t:TVec} (h1:s.a=t.a) (h2:s.b=t.b):s=t:=by cases s;cases t;simp_all
theorem Amb (n i:Nat):n &&& 2^i=n / 2^i % 2*2^i:=by
 rw[←Nat.toNat_testBit]
 apply Nat.eq_of_testBit_eq
 intro j
 rw[Nat.testBit_and,Nat.testBit_two_pow]
 cases hb:n.testBit i with
 |true=>
  by_cases hij:i=j
  ·subst hij;simp[hb]
  ·simp[hij]
 |false=>
  by_cases hij:i=j
  ·subst hij;simp[hb]
  ·simp[hij]
theorem A2x {n:Int} (h:okN n) (k:Nat) (m:Int) (hm:m=((2^k:Nat):Int)) (hk:k <60):(BitVec.ofInt 64 n &&& BitVec.ofInt 64 m).toNat=n.toNat / 2^k % 2*2^k:=by
 obtain⟨h0,h1⟩:=h
 have hp:2^k <2^60:=Nat.pow_lt_pow_right (by decide) hk
 have e60:(2:Nat)^60=1152921504606846976:=by decide
 rw[BitVec.toNat_and,BitVec.toNat_ofInt,BitVec.toNat_ofInt]
 have m1:(n % ((2^64:Nat):Int)).toNat=n.toNat:=by omega
 have m2:(m % ((2^64:Nat):Int)).toNat=2^k:=by
  subst hm
  generalize 2^k=q at*
  omega
 rw[m1,m2,Amb]
theorem Ats {n:Int} (h:okN n) (k:Nat) (m:Int) (hm:m=((2^k:Nat):Int)) (hk:k <60):decide (IntKind.i64.wrap ((BitVec.ofInt 64 n &&& BitVec.ofInt 64 m).toNat:Int) >0)=(n.toNat / 2^k % 2==1):=by
 rw[A2x h k m hm hk]
 have hp:2^k <2^60:=Nat.pow_lt_pow_right (by decide) hk
 have hp0:0 <2^k:=Nat.pow_pos (by decide)
 have e60:(2:Nat)^60=1152921504606846976:=by decide
 generalize n.toNat / 2^k=x
 generalize 2^k=q at*
 rcases Nat.mod_two_eq_zero_or_one x with e|e
 ·rw[e,Nat.zero_mul]
  rfl
 ·rw[e,Nat.one_mul,i64_in (by omega)]
  have:(q:Int) >0:=by omega
  rw[decide_eq_true this]
  rfl
end Go.Proofs.YtifkbgkbajncjaaDoor
namespace Go.Proofs.YtifkbgkbajncjaaDoor
open Go.RowKit
theorem At1 {x y:ByteArray}:(x.toList==y.toList)=true↔x=y:=by
 rw[beq_iff_eq,ByteArray.toList_eq,ByteArray.toList_eq]
 constructor
 ·intro h
  cases x;cases y
  simpa using h
 ·rintro rfl;rfl
theorem A4e {x:ByteArray}:(x.toList==(ByteArray.mk #[]).toList)=true↔x.size=0:=by
 rw[At1]
 constructor
 ·rintro rfl;rfl
 ·intro h
  cases x with|mk d=>
  have:d.size=0:=h
  rw[Array.eq_empty_of_size_eq_zero this]
theorem Ab3 (x:ByteArray):(x.toList==(ByteArray.mk #[]).toList)=(x.size==0):=by
 rw[Bool.eq_iff_iff,A4e,beq_iff_eq]
def Gh (c:Au):Bool:=!(c.stamp.n==0&&c.stamp.site==0&&(c.vec.a==0&&c.vec.b==0)&&(!c.gone&&c.value.size==0))
def O9 (p:Int) (c:Au):Bool:=
 bif p==1&&!IZ c.dead||(p==2&&(c.gone||!GX c.dead)||!(p==1||p==2)) then false else
 bif !Gh c then true else Km c.stamp&&decide (0 <c.stamp.n)&&GX c.vec&&decide ((c.value.size:Int)≤64)&&!(c.gone&&!(c.value.size==0))
def La (c:Au):Int:=(bif Gh c then 1 else 0)+(bif c.gone then 2 else 0)+(bif IZ c.dead then 0 else 4)
def Ayq (c:Au):List UInt8:=(bif Gh c then W5 c.stamp++MG c.vec++(bif c.gone then[] else MF c.value) else[])++(bif IZ c.dead then[] else MG c.dead)
def Acs (p:Int) (c:Au):List UInt8:=bif O9 p c then Aw (La c)++Ayq c else[]
def YR:Au:=⟨⟨0,0⟩,⟨0,0⟩,false,ByteArray.mk #[],⟨0,0⟩⟩
theorem Axg {v:TVec}:IZ v=true↔v=⟨0,0⟩:=by
 unfold IZ
 simp only[Bool.and_eq_true,beq_iff_eq]
 constructor
 ·intro h;exact A5k h.1 h.2
 ·rintro rfl;exact⟨rfl,rfl⟩
structure A87 (p:Int) (c:Au):Prop where
 pol:p=1∨p=2
 dead:GX c.dead=true
 last:p=1→IZ c.dead=true
 del:p=2→c.gone=false
 st:Gh c=true→Km c.stamp=true∧0 <c.stamp.n∧GX c.vec=true∧(c.value.size:Int)≤64∧(c.gone=true→c.value.size=0)
theorem Ag3 {p:Int} {c:Au}:O9 p c=true↔A87 p c:=by
 unfold O9
 rw[Bool.cond_eq_ite]
 split
 ·rename_i h
  refine⟨fun h=>(by cases h),fun g=>?_⟩
  exfalso
  simp only[Bool.or_eq_true,Bool.and_eq_true,beq_iff_eq,Bool.not_eq_true'] at h
  rcases h with⟨h1,h2⟩|⟨h1,h2⟩|h1
  ·rw[g.last h1] at h2;cases h2
  ·rcases h2 with h2|h2
   ·rw[g.del h1] at h2;cases h2
   ·rw[g.dead] at h2;cases h2
  ·rcases g.pol with h|h
   ·rw[h] at h1;cases h1
   ·rw[h] at h1;cases h1
 ·rename_i h
  have hh:=Bool.eq_false_iff.2 h
  simp only[Bool.or_eq_false_iff] at hh
  obtain⟨h1,h2,h3⟩:=hh
  have hp:p=1∨p=2:=by
   have:(p==1||p==2)=true:=by
    cases hq:(p==1||p==2) with
    |true=>rfl
    |false=>rw[hq] at h3;cases h3
   simpa using this
  have base:GX c.dead=true∧(p=1→IZ c.dead=true)∧(p=2→c.gone=false):=by
   rcases hp with rfl|rfl
   ·have hz:IZ c.dead=true:=by
     cases hz:IZ c.dead with
     |true=>rfl
     |false=>rw[hz] at h1;cases h1
    refine⟨by rw[Axg.1 hz];rfl,fun _=>hz,fun h=>by cases h⟩
   ·have:c.gone=false∧GX c.dead=true:=by
     cases hg:c.gone with
     |true=>rw[hg] at h2;cases h2
     |false=>
      cases hv:GX c.dead with
      |true=>exact⟨rfl,rfl⟩
      |false=>rw[hg,hv] at h2;cases h2
    exact⟨this.2,fun h=>(by cases h),fun _=>this.1⟩
  cases hw:Gh c with
  |false=>exact⟨fun _=>⟨hp,base.1,base.2.1,base.2.2,fun h=>by rw[hw] at h;cases h⟩,fun _=>rfl⟩
  | true=>
   rw[Bool.not_true,cond_false]
   simp only[Bool.and_eq_true,decide_eq_true_eq,Bool.not_eq_true',Bool.and_eq_false_iff,Bool.not_eq_false',beq_iff_eq]
   constructor
   ·rintro⟨⟨⟨⟨g1,g2⟩,g3⟩,g4⟩,g5⟩
    refine⟨hp,base.1,base.2.1,base.2.2,fun _=>⟨g1,g2,g3,g4,fun hg=>?_⟩⟩
    rcases g5 with g5|g5
    ·rw[g5] at hg;cases hg
    ·exact g5
   ·intro g
    obtain⟨g1,g2,g3,g4,g5⟩:=g.st hw
    refine⟨⟨⟨⟨g1,g2⟩,g3⟩,g4⟩,?_⟩
    cases hg:c.gone with
    |false=>exact .inl rfl
    |true=>exact .inr (g5 hg)
theorem Ank (c:Au):okN (La c)∧La c≤7∧((La c).toNat / 2^0 % 2==1)=Gh c∧((La c).toNat / 2^1 % 2==1)=c.gone∧((La c).toNat / 2^2 % 2==1)=!IZ c.dead:=by
 unfold La okN
 cases Gh c<;>cases c.gone<;>cases IZ c.dead<;>decide
end Go.Proofs.YtifkbgkbajncjaaDoor
namespace Go.Proofs.YtifkbgkbajncjaaDoor
open Go.RowKit
theorem Ad5 (n:Int):JE n=(n==1||n==2):=by
 unfold JE Lw
 cases n==1<;>cases n==2<;>rfl
theorem MN (s:TStamp):CN s=Km s:=by
 unfold CN Km
 rw[Ad5]
 rfl
theorem Pv (x:Int):(HP x 0==x)=(decide (0≤x)&&decide (x≤1099511627776)):=by
 unfold HP
 rw[Bool.eq_iff_iff]
 simp only[beq_iff_eq,Bool.and_eq_true,decide_eq_true_eq]
 omega
theorem JX (v:TVec):BJ v=GX v:=by
 unfold BJ GX
 rw[Pv,Pv]
theorem T8 {α:Type} (c:Bool) (x:α):(bif c then x else x)=x:=by cases c<;>rfl
theorem C8 (n:Int):(Aw n).length≤8:=by
 rw[Cy]
 rcases VB n with h|⟨_,_,h⟩
 ·omega
 ·unfold szs at h;omega
theorem Aj8 (s:TStamp):(W5 s).length≤8:=by
 unfold W5
 cases Km s with
 |true=>exact C8 _
 |false=>exact Nat.zero_le _
theorem RH (v:TVec):(MG v).length≤16:=by
 unfold MG
 cases GX v with
 |true=>
  rw[cond_true,List.length_append]
  have h1:=C8 v.a
  have h2:=C8 v.b
  omega
 |false=>exact Nat.zero_le _
theorem TE (t:ByteArray):(MF t).length≤8+t.size:=by
 unfold MF
 rw[List.length_append]
 have h1:=C8 (t.size:Int)
 have hs:t.data.toList.length=t.size:=Array.length_toList
 omega
def Gk (a0:Au):Bool:=!(a0.1.1==(0:Int)&&a0.1.2==(0:Int)&&(a0.2.1==(0:Int)&&a0.2.2==(0:Int)&&(a0.3==false&&(a0.4.toList==(ByteArray.mk #[]).toList&&true))))
def K1 (a0:Au):A:=.v (.bool (Gk a0))
def K0 (_a0:Au):Objs:=[]
def JZ (_a0:Au):List Prop:=[]
theorem YU (a0:Au):I6 (AI Cb L0) 9 64 [Ar .cell a0] 0 []=some (1,K1 a0,0,K0 a0,JZ a0):=by kernel_rfl
theorem Aai (a0:Au) (hp:∀p∈JZ a0,p):CallOk Tryd.prog 64 [Ar .cell a0] 0 [] 1 (K1 a0) 0 (K0 a0):=AW (AJ A5z AX) (YU a0) hp
def PF:List A→Nat→Objs→Option CJ:=Fc [.t .cell] 0 K1 K0 JZ
theorem V5:IV Tryd.prog 64 PF:=AM (ks:=[.t .cell]) Aai
noncomputable def A68:=CA 64 PF Cb
theorem Ata:FM Tryd.prog A68:=Az V5 A5z
def D0 (a0:Int) (a1:Au):Bool:=bif bif a0==(1:Int) then !(a1.5.1==(0:Int)&&a1.5.2==(0:Int)) else !a0==(2:Int)||(a1.3||!BJ a1.5) then bif a0==(1:Int) then false else bif a0==(2:Int) then false else false else bif !Gk a1 then true else decide (a1.1.1 >(0:Int))&&CN a1.1&&BJ a1.2&&decide ((↑a1.4.size:Int)≤(64:Int))&&!(a1.3&&!a1.4.toList==(ByteArray.mk #[]).toList)
def PE (a0:Int) (a1:Au):A:=.v (.bool (D0 a0 a1))
def PD (_a0:Int) (_a1:Au):Objs:=[]
def Og (_a0:Int) (_a1:Au):List Prop:=[]
theorem Aiw (a0:Int) (a1:Au):I6 (AI A68 L0) 9 62 [Ar .i64 a0,Ar .cell a1] 0 []=some (1,PE a0 a1,0,PD a0 a1,Og a0 a1):=by kernel_rfl
theorem XA (a0:Int) (a1:Au) (hp:∀p∈Og a0 a1,p):CallOk Tryd.prog 62 [Ar .i64 a0,Ar .cell a1] 0 [] 1 (PE a0 a1) 0 (PD a0 a1):=AW (AJ Ata AX) (Aiw a0 a1) hp
def XB:List A→Nat→Objs→Option CJ:=Fc [.t .i64,.t .cell] 0 PE PD Og
theorem Aem:IV Tryd.prog 62 XB:=AM (ks:=[.t .i64,.t .cell]) XA
noncomputable def A69:=CA 62 XB A68
theorem Atb:FM Tryd.prog A69:=Az Aem Ata
theorem O3 (c:Au):Gk c=Gh c:=by
 unfold Gk Gh
 have hg:(c.3==false)=!c.gone:=by show(c.gone==false)=!c.gone;cases c.gone<;>rfl
 rw[Ab3,Bool.and_true,hg]
 simp only[Bool.and_assoc]
theorem Oe (p:Int) (c:Au):D0 p c=O9 p c:=by
 unfold D0 O9 IZ
 rw[O3,JX,JX,MN,Ab3]
 have hw:(bif !Gh c then true else decide (c.1.1 >(0:Int))&&Km c.1&&GX c.2&&decide (((c.4.size:Nat):Int)≤(64:Int))&&!(c.3&&!c.4.size==0))=bif !Gh c then true else Km c.stamp&&decide (0 <c.stamp.n)&&GX c.vec&&decide ((c.value.size:Int)≤64)&&!(c.gone&&!(c.value.size==0)):=by
  rw[Bool.and_comm (decide (c.1.1 >(0:Int)))]
 rw[hw]
 generalize (bif !Gh c then true else Km c.stamp&&decide (0 <c.stamp.n)&&GX c.vec&&decide ((c.value.size:Int)≤64)&&!(c.gone&&!(c.value.size==0)))=X
 by_cases h1:p=1
 ·subst h1
  show(bif !(c.5.1==(0:Int)&&c.5.2==(0:Int)) then false else X)=bif !(c.5.1==(0:Int)&&c.5.2==(0:Int))||false then false else X
  rw[Bool.or_false]
 ·have e1:(p==1)=false:=by simpa using h1
  rw[e1]
  by_cases h2:p=2
  ·subst h2
   show(bif c.3||!GX c.5 then false else X)=bif(c.3||!GX c.5)||false then false else X
   rw[Bool.or_false]
  ·have e2:(p==2)=false:=by simpa using h2
   rw[e2]
   rfl
def Q5 (a0:List UInt8) (a1:TStamp):List UInt8:=a0++Aw (bif a1.1==(0:Int)&&a1.2==(0:Int) then(0:Int) else bif CN a1 then IntKind.i64.wrap (IntKind.i64.wrap (IntKind.i64.wrap (a1.1*(2:Int))+a1.2) - (1:Int)) else(-1:Int))
def YB (_a0:List UInt8) (_a1:TStamp):A:=.sq 0
def Mj (a0:List UInt8) (a1:TStamp):Objs:=[(0,some (.arr 5 1 (.ty .u8 (Q5 a0 a1))))]
def Vz (a0:List UInt8) (_a1:TStamp):List Prop:=[(Ai (a0.length+(8:Nat)))]
theorem Akz (a0:List UInt8) (a1:TStamp):I6 (AI A69 L0) 9 38 [Ar .bytes a0,Ar .stamp a1] 0 []=some (1,YB a0 a1,1,Mj a0 a1,Vz a0 a1):=by kernel_rfl
theorem Apj (a0:List UInt8) (a1:TStamp) (hp:∀p∈Vz a0 a1,p):CallOk Tryd.prog 38 [Ar .bytes a0,Ar .stamp a1] 0 [] 1 (YB a0 a1) 1 (Mj a0 a1):=AW (AJ Atb AX) (Akz a0 a1) hp
def VA (_a0:List UInt8) (_a1:TStamp):A:=.sq 0
def KJ (a0:List UInt8) (a1:TStamp):Objs:=[(0,some (.arr 5 1 (.ty .u8 (a0++W5 a1))))]
def SS (a0:List UInt8) (_a1:TStamp):List Prop:=[Ai (a0.length+8)]
theorem Aky (a0:List UInt8) (a1:TStamp):Q5 a0 a1=a0++W5 a1:=by
 unfold Q5 W5 A6k
 rw[MN]
 congr 1
 cases hg:Km a1 with
 | false=>
  have hz:(a1.1==(0:Int)&&a1.2==(0:Int))=false:=by
   rw[Bool.eq_false_iff]
   intro h
   unfold Km at hg
   rw[h] at hg
   cases hg
  rw[hz]
  rfl
 | true=>
  have h':=Awf.1 hg
  rw[cond_true,cond_true]
  congr 1
  by_cases h0:a1.n=0
  ·have hz:(a1.1==(0:Int)&&a1.2==(0:Int))=true:=by
    rcases h' with⟨h1,h2⟩|h1
    ·rw[h1,h2];rfl
    ·omega
   have e:(a1.n==0)=true:=by simpa using h0
   rw[hz,e]
   rfl
  ·have hz:(a1.1==(0:Int)&&a1.2==(0:Int))=false:=by
    have:(a1.1==(0:Int))=false:=by simpa using h0
    rw[this];rfl
   have e:(a1.n==0)=false:=by simpa using h0
   rw[hz,e,cond_false,cond_false,i64_in (n:=a1.1*2) (by omega),i64_in (n:=a1.1*2+a1.2) (by omega),i64_in (by omega)]
   omega
theorem Akx (a0:List UInt8) (a1:TStamp) (hp:∀p∈SS a0 a1,p):CallOk Tryd.prog 38 [Ar .bytes a0,Ar .stamp a1] 0 [] 1 (VA a0 a1) 1 (KJ a0 a1):=by
 have h:=Apj a0 a1 (Aa (hp _ (List.mem_cons_self ..)) Am)
 have ho:Mj a0 a1=KJ a0 a1:=by unfold Mj KJ;rw[Aky]
 rw[ho] at h
 exact h
def YC:List A→Nat→Objs→Option CJ:=Fc [.t .bytes,.t .stamp] 1 VA KJ SS
theorem Afs:IV Tryd.prog 38 YC:=AM (ks:=[.t .bytes,.t .stamp]) Akx
noncomputable def A7a:=CA 38 YC A69
theorem Atc:FM Tryd.prog A7a:=Az Afs Atb
def OZ (a0:List UInt8) (a1:TVec):List UInt8:=a0++Aw a1.1
def Xl (a0:List UInt8) (a1:TVec):List UInt8:=bif !BJ a1 then[]++a0 else(OZ a0 a1)++Aw a1.2
def Ah8 (_a0:List UInt8) (_a1:TVec):A:=.sq 0
def RO (a0:List UInt8) (a1:TVec):Objs:=[(0,some (.arr 5 1 (.ty .u8 (Xl a0 a1))))]
def Aec (a0:List UInt8) (a1:TVec):List Prop:=[((!BJ a1)=true→Ai ((0:Nat)+a0.length)),((!!BJ a1)=true→Ai (a0.length+(8:Nat))),((!!BJ a1)=true→Ai ((OZ a0 a1).length+(8:Nat)))]
theorem As1 (a0:List UInt8) (a1:TVec):I6 (AI A7a L0) 9 16 [Ar .bytes a0,Ar .vec a1] 0 []=some (1,Ah8 a0 a1,1,RO a0 a1,Aec a0 a1):=by kernel_rfl
theorem Axe (a0:List UInt8) (a1:TVec) (hp:∀p∈Aec a0 a1,p):CallOk Tryd.prog 16 [Ar .bytes a0,Ar .vec a1] 0 [] 1 (Ah8 a0 a1) 1 (RO a0 a1):=AW (AJ Atc AX) (As1 a0 a1) hp
def Aed (_a0:List UInt8) (_a1:TVec):A:=.sq 0
def O0 (a0:List UInt8) (a1:TVec):Objs:=[(0,some (.arr 5 1 (.ty .u8 (a0++MG a1))))]
def YH (a0:List UInt8) (_a1:TVec):List Prop:=[Ai (a0.length+16)]
theorem As0 (a0:List UInt8) (a1:TVec):Xl a0 a1=a0++MG a1:=by
 unfold Xl OZ MG
 rw[JX]
 cases GX a1 with
 |false=>exact(List.append_nil a0).symm
 |true=>exact List.append_assoc ..
theorem Asz (a0:List UInt8) (a1:TVec) (hp:∀p∈YH a0 a1,p):CallOk Tryd.prog 16 [Ar .bytes a0,Ar .vec a1] 0 [] 1 (Aed a0 a1) 1 (O0 a0 a1):=by
 have hb:Ai (a0.length+16):=hp _ (List.mem_cons_self ..)
 have h:=Axe a0 a1 (Aa (fun _=>by unfold Ai at*;omega) (Aa (fun _=>by unfold Ai at*;omega) (Aa (fun _=>by
  have:=C8 a1.1
  unfold OZ Ai at*
  rw[List.length_append]
  omega) Am)))
 have ho:RO a0 a1=O0 a0 a1:=by unfold RO O0;rw[As0]
 rw[ho] at h
 exact h
def Ah9:List A→Nat→Objs→Option CJ:=Fc [.t .bytes,.t .vec] 1 Aed O0 YH
theorem App:IV Tryd.prog 16 Ah9:=AM (ks:=[.t .bytes,.t .vec]) Asz
noncomputable def A7b:=CA 16 Ah9 A7a
theorem Atd:FM Tryd.prog A7b:=Az App Atc
def IG (a0:List UInt8) (a1:ByteArray):List UInt8:=a0++Aw (↑a1.size:Int)
def Sy (a0:List UInt8) (a1:ByteArray):List UInt8:=(IG a0 a1)++a1.data.toList
def Sz (_a0:List UInt8) (_a1:ByteArray):A:=.sq 0
def Jy (a0:List UInt8) (a1:ByteArray):Objs:=[(0,some (.arr 5 1 (.ty .u8 (Sy a0 a1))))]
def QB (a0:List UInt8) (a1:ByteArray):List Prop:=[(Ai (a0.length+(8:Nat))),(Ai ((IG a0 a1).length+a1.data.toList.length))]
theorem Acb (a0:List UInt8) (a1:ByteArray):I6 (AI A7b L0) 9 39 [Ar .bytes a0,Ar .str a1] 0 []=some (1,Sz a0 a1,1,Jy a0 a1,QB a0 a1):=by kernel_rfl
theorem Afb (a0:List UInt8) (a1:ByteArray) (hp:∀p∈QB a0 a1,p):CallOk Tryd.prog 39 [Ar .bytes a0,Ar .str a1] 0 [] 1 (Sz a0 a1) 1 (Jy a0 a1):=AW (AJ Atd AX) (Acb a0 a1) hp
def QC (_a0:List UInt8) (_a1:ByteArray):A:=.sq 0
def IH (a0:List UInt8) (a1:ByteArray):Objs:=[(0,some (.arr 5 1 (.ty .u8 (a0++MF a1))))]
def Pd (a0:List UInt8) (a1:ByteArray):List Prop:=[Ai (a0.length+8+a1.size)]
theorem QA (a0:List UInt8) (a1:ByteArray) (hp:∀p∈Pd a0 a1,p):CallOk Tryd.prog 39 [Ar .bytes a0,Ar .str a1] 0 [] 1 (QC a0 a1) 1 (IH a0 a1):=by
 have hb:Ai (a0.length+8+a1.size):=hp _ (List.mem_cons_self ..)
 have h:=Afb a0 a1 (Aa (by unfold Ai at*;omega) (Aa (by
  have:=C8 (a1.size:Int)
  have hs:a1.data.toList.length=a1.size:=Array.length_toList
  unfold IG Ai at*
  rw[List.length_append,hs]
  omega) Am))
 have ho:Jy a0 a1=IH a0 a1:=by unfold Jy IH Sy IG MF;rw[List.append_assoc]
 rw[ho] at h
 exact h
def SA:List A→Nat→Objs→Option CJ:=Fc [.t .bytes,.t .str] 1 QC IH Pd
theorem Zi:IV Tryd.prog 39 SA:=AM (ks:=[.t .bytes,.t .str]) QA
noncomputable def A7c:=CA 39 SA A7b
theorem Ate:FM Tryd.prog A7c:=Az Zi Atd
def CW (_a0:List UInt8) (_a1:Int) (a2:Au):Int:=bif a2.3 then IntKind.i64.wrap (↑(BitVec.ofInt (64:Nat) (bif Gk a2 then(1:Int) else(0:Int)) ||| BitVec.ofInt (64:Nat) (2:Int)).toNat:Int) else bif Gk a2 then(1:Int) else(0:Int)
def G0 (a0:List UInt8) (a1:Int) (a2:Au):List UInt8:=a0++Aw (bif !(a2.5.1==(0:Int)&&a2.5.2==(0:Int)) then IntKind.i64.wrap (↑(BitVec.ofInt (64:Nat) (CW a0 a1 a2) ||| BitVec.ofInt (64:Nat) (4:Int)).toNat:Int) else(CW a0 a1 a2))++W5 a2.1
def Fe (a0:List UInt8) (a1:Int) (a2:Au):Bool:=decide (IntKind.i64.wrap (↑(BitVec.ofInt (64:Nat) (bif !(a2.5.1==(0:Int)&&a2.5.2==(0:Int)) then IntKind.i64.wrap (↑(BitVec.ofInt (64:Nat) (CW a0 a1 a2) ||| BitVec.ofInt (64:Nat) (4:Int)).toNat:Int) else(CW a0 a1 a2)) &&& BitVec.ofInt (64:Nat) (1:Int)).toNat:Int) >(0:Int))
def LK (a0:List UInt8) (a1:Int) (a2:Au):Bool:=decide (IntKind.i64.wrap (↑(BitVec.ofInt (64:Nat) (bif !(a2.5.1==(0:Int)&&a2.5.2==(0:Int)) then IntKind.i64.wrap (↑(BitVec.ofInt (64:Nat) (CW a0 a1 a2) ||| BitVec.ofInt (64:Nat) (4:Int)).toNat:Int) else(CW a0 a1 a2)) &&& BitVec.ofInt (64:Nat) (4:Int)).toNat:Int) >(0:Int))
def Ic (a0:List UInt8) (a1:Int) (a2:Au):List UInt8:=bif(Fe a0 a1 a2) then bif !a2.3 then(G0 a0 a1 a2)++MG a2.2++MF a2.4 else(G0 a0 a1 a2)++MG a2.2 else a0++Aw (bif !(a2.5.1==(0:Int)&&a2.5.2==(0:Int)) then IntKind.i64.wrap (↑(BitVec.ofInt (64:Nat) (CW a0 a1 a2) ||| BitVec.ofInt (64:Nat) (4:Int)).toNat:Int) else(CW a0 a1 a2))
def S7 (a0:List UInt8) (a1:Int) (a2:Au):List UInt8:=bif !D0 a1 a2 then[]++a0 else bif(LK a0 a1 a2) then(Ic a0 a1 a2)++MG (TVec.mk (bif(Fe a0 a1 a2) then bif !a2.3 then a2.5.1 else a2.5.1 else a2.5.1) (bif(Fe a0 a1 a2) then bif !a2.3 then a2.5.2 else a2.5.2 else a2.5.2)) else(Ic a0 a1 a2)
def Aag (_a0:List UInt8) (_a1:Int) (_a2:Au):A:=.sq 0
def Oh (a0:List UInt8) (a1:Int) (a2:Au):Objs:=[(0,some (.arr 5 1 (.ty .u8 (S7 a0 a1 a2))))]
def XE (a0:List UInt8) (a1:Int) (a2:Au):List Prop:=[((!D0 a1 a2)=true→Ai ((0:Nat)+a0.length)),((!!D0 a1 a2)=true→Ai (a0.length+(8:Nat))),((!!D0 a1 a2)=true→(Fe a0 a1 a2)=true→Ai ((a0++Aw (bif !(a2.5.1==(0:Int)&&a2.5.2==(0:Int)) then IntKind.i64.wrap (↑(BitVec.ofInt (64:Nat) (CW a0 a1 a2) ||| BitVec.ofInt (64:Nat) (4:Int)).toNat:Int) else(CW a0 a1 a2))).length+(8:Nat))),((!!D0 a1 a2)=true→(Fe a0 a1 a2)=true→Ai ((G0 a0 a1 a2).length+(16:Nat))),((!!D0 a1 a2)=true→(Fe a0 a1 a2)=true→(!a2.3)=true→Ai (((G0 a0 a1 a2)++MG a2.2).length+(8:Nat)+a2.4.size)),((!!D0 a1 a2)=true→(LK a0 a1 a2)=true→Ai ((Ic a0 a1 a2).length+(16:Nat)))]
theorem Amo (a0:List UInt8) (a1:Int) (a2:Au):I6 (AI A7c L0) 9 42 [Ar .bytes a0,Ar .i64 a1,Ar .cell a2] 0 []=some (1,Aag a0 a1 a2,1,Oh a0 a1 a2,XE a0 a1 a2):=by kernel_rfl
theorem Aqo (a0:List UInt8) (a1:Int) (a2:Au) (hp:∀p∈XE a0 a1 a2,p):CallOk Tryd.prog 42 [Ar .bytes a0,Ar .i64 a1,Ar .cell a2] 0 [] 1 (Aag a0 a1 a2) 1 (Oh a0 a1 a2):=AW (AJ Ate AX) (Amo a0 a1 a2) hp
def XF (_a0:List UInt8) (_a1:Int) (_a2:Au):A:=.sq 0
def LL (a0:List UInt8) (a1:Int) (a2:Au):Objs:=[(0,some (.arr 5 1 (.ty .u8 (a0++Acs a1 a2))))]
def Uf (a0:List UInt8) (_a1:Int) (_a2:Au):List Prop:=[Ai (a0.length+128)]
theorem I1 (a0:List UInt8) (a1:Int) (c:Au):(bif !(c.5.1==(0:Int)&&c.5.2==(0:Int)) then IntKind.i64.wrap (↑(BitVec.ofInt (64:Nat) (CW a0 a1 c) ||| BitVec.ofInt (64:Nat) (4:Int)).toNat:Int) else(CW a0 a1 c))=La c:=by
 unfold CW La
 rw[O3]
 show(bif !(IZ c.dead) then _ else _)=_
 cases Gh c<;>cases c.gone<;>cases IZ c.dead<;>rfl
theorem XC (a0:List UInt8) (a1:Int) (c:Au):Fe a0 a1 c=Gh c:=by
 unfold Fe
 obtain⟨h1,_,h3,_⟩:=Ank c
 rw[I1,Ats h1 0 1 rfl (by decide)]
 exact h3
theorem Amm (a0:List UInt8) (a1:Int) (c:Au):LK a0 a1 c=!IZ c.dead:=by
 unfold LK
 obtain⟨h1,_,_,_,h5⟩:=Ank c
 rw[I1,Ats h1 2 4 rfl (by decide)]
 exact h5
theorem Amn (a0:List UInt8) (a1:Int) (c:Au):S7 a0 a1 c=a0++Acs a1 c:=by
 unfold S7 Ic G0 Acs Ayq
 rw[Oe,I1,XC,Amm]
 have hd:∀w g:Bool,(TVec.mk (bif w then bif !g then c.5.1 else c.5.1 else c.5.1) (bif w then bif !g then c.5.2 else c.5.2 else c.5.2))=c.dead:=by intro w g;cases w<;>cases g<;>rfl
 rw[hd]
 cases O9 a1 c<;>cases Gh c<;>cases c.gone<;>cases IZ c.dead<;>simp
theorem XD (a0:List UInt8) (a1:Int) (a2:Au) (hp:∀p∈Uf a0 a1 a2,p):CallOk Tryd.prog 42 [Ar .bytes a0,Ar .i64 a1,Ar .cell a2] 0 [] 1 (XF a0 a1 a2) 1 (LL a0 a1 a2):=by
 have hb:Ai (a0.length+128):=hp _ (List.mem_cons_self ..)
 unfold Ai at hb
 have n8:=C8 (La a2)
 have s8:=Aj8 a2.stamp
 have v16:=RH a2.vec
 have t8:=TE a2.value
 have k3:(G0 a0 a1 a2).length≤a0.length+16:=by
  unfold G0
  rw[I1,List.length_append,List.length_append]
  omega
 have sz:(!!D0 a1 a2)=true→Fe a0 a1 a2=true→a2.value.size≤64:=fun h1 h2=>by
  rw[Oe,Bool.not_not] at h1
  rw[XC] at h2
  have:=((Ag3.1 h1).st h2).2.2.2.1
  omega
 have h:=Aqo a0 a1 a2 (Aa (fun _=>by unfold Ai;omega) (Aa (fun _=>by unfold Ai;omega) (Aa (fun _ _=>by rw[I1,List.length_append];unfold Ai;omega) (Aa (fun _ _=>by unfold Ai;omega) (Aa (fun h1 h2 _=>by
   have:=sz h1 h2
   rw[List.length_append];unfold Ai;omega) (Aa (fun h1 _=>by
   have:(Ic a0 a1 a2).length≤a0.length+112:=by
    unfold Ic
    rw[I1]
    cases hw:Fe a0 a1 a2 with
    |false=>rw[cond_false,List.length_append];omega
    |true=>
     have:=sz h1 hw
     rw[cond_true]
     cases a2.3 with
     |true=>simp only[Bool.not_true,cond_false,List.length_append];omega
     |false=>simp only[Bool.not_false,cond_true,List.length_append];omega
   unfold Ai;omega) Am))))))
 have ho:Oh a0 a1 a2=LL a0 a1 a2:=by unfold Oh LL;rw[Amn]
 rw[ho] at h
 exact h
def Aah:List A→Nat→Objs→Option CJ:=Fc [.t .bytes,.t .i64,.t .cell] 1 XF LL Uf
theorem Aix:IV Tryd.prog 42 Aah:=AM (ks:=[.t .bytes,.t .i64,.t .cell]) XD
noncomputable def A8r:=CA 42 Aah A7c
theorem A2i:FM Tryd.prog A8r:=Az Aix Ate
noncomputable def A8s:=A8r
theorem A2j:FM Tryd.prog A8s:=A2i
noncomputable def A8t:=A8s
theorem A2k:FM Tryd.prog A8t:=A2j
noncomputable def A8u:=A8t
theorem A2l:FM Tryd.prog A8u:=A2k
noncomputable def A50:=A8u
theorem Axl:FM Tryd.prog A50:=A2l
noncomputable def A51:=A50
theorem Axm:FM Tryd.prog A51:=Axl
noncomputable def Cd:=A51
theorem A8v:FM Tryd.prog Cd:=Axm
end Go.Proofs.YtifkbgkbajncjaaDoor
namespace Go.Proofs.YtifkbgkbajncjaaDoor
open Go.RowKit
noncomputable def Cf:=Cd
theorem Atf:FM Tryd.prog Cf:=A8v
end Go.Proofs.YtifkbgkbajncjaaDoor
namespace Go.Proofs.YtifkbgkbajncjaaDoor
open Go.RowKit
abbrev Bg:Type:=ByteArray×Nat
def GY (x:Bg):St:=⟨36,2,[(26,.own 1 0)],[(1,some (.sit x.1 x.2))]⟩
def H4:St→Option Bg
 |⟨36,2,[(26,.own 1 0)],[(1,some (.sit z0 z1))]⟩=>some (z0,z1)
 |_=>none
theorem QP:∀s x,H4 s=some x→s=GY x:=fun s x h=>by
 unfold H4 at h
 split at h
 ·cases h;rfl
 ·cases h
def Md:F4:=⟨2,2,[26],[],[(1,1)],[1],[2],[1]⟩
def Vb:Gi:=⟨[],[(1,1)],[26],[1]⟩
def D1 (a0:ByteArray) (a1:Nat):Bool:=!!decide (a1 <a0.size)
def BR (a0:ByteArray) (a1:Nat):Bool:=(D1 a0 a1)&&(decide ((↑(Utf8.decode a0 a1).fst:Int) <(97:Int))||decide ((↑(Utf8.decode a0 a1).fst:Int) >(122:Int)))
def RV (a0:ByteArray) (a1:Nat):Nat:=bif decide (a1 <a0.size) then a1+(Utf8.decode a0 a1).snd else a1
def RW (a0:ByteArray) (a1:Nat):Bool:=(D1 a0 a1)&&!(BR a0 a1)
def RX (a0:ByteArray) (a1:Nat):Nat:=bif decide (a1 <a0.size) then a1+(Utf8.decode a0 a1).snd else a1
def RY (a0:ByteArray) (a1:Nat):Nat:=bif decide (a1 <a0.size) then a1+(Utf8.decode a0 a1).snd else a1
def CZ (x:Bg):Bg:=(x.1,RV x.1 x.2)
def CY (x:Bg):Cnd:=some (RW x.1 x.2)
def Kq (x:Bg):List Prop:=[((D1 x.1 x.2)=true→decide (x.2 <x.1.size)=true)]
def FG (_x:Bg):List Prop:=[]
def JP (x:Bg):Bh:=[(some 0,some (!decide (x.2 <x.1.size)),⟨36,2,[(2,.dead)],[(1,some (.sit x.1 (RX x.1 x.2)))]⟩),(none,some ((BR x.1 x.2)),⟨36,2,[(2,.v (.bool (false)))],[(1,some (.sit x.1 (RY x.1 x.2)))]⟩)]
def D2 (x:Bg):Nat:=x.1.size - x.2
def HA (x:Bg):Bg:=Ba CZ CY (D2 x) x
theorem TB (a0:ByteArray) (a1:Nat):Dq (AI Cf L0) 9 (An Tryd.prog 44 0) Md (GY (a0,a1))=some (Kq (a0,a1),JP (a0,a1),CY (a0,a1),GY (CZ (a0,a1))):=by kernel_rfl
theorem TD (a0:ByteArray) (a1:Nat) (_hp:∀p∈FG (a0,a1),p):∀p∈Kq (a0,a1),p:=by
 have n0:((D1 a0 a1)=true→decide (a1 <a0.size)=true):=by intro h;exact(Bool.not_not _).symm.trans h
 exact(Aa n0 Am)
noncomputable def Kr:=Jl (AI Cf L0) (An Tryd.prog 44 0) Md Vb H4 D2 CZ CY FG JP
theorem RZ:∀s b ps outs,Kr s=some (b,ps,outs)→Wf s ⟨ps,outs,none⟩∧DE (AI C0 L0) b s ps outs:=
 C5 (T:=GY) Atf AX (u:=9) (by kernel_rfl) (by decide) (fun⟨a0,a1⟩=>TB a0 a1) (fun⟨a0,a1⟩=>TD a0 a1) QP (fun _=>Bc (n:=36) rfl) fun _ _=>rfl
noncomputable def Mc:=Gt 0 Kr L0
theorem RU:Ij Mc:=BK RZ AX
def ET (a0:Af):Bool:=a0.1.toList==(ByteArray.mk #[]).toList||decide ((↑a0.1.size:Int) >(12:Int))||a0.2 !=(1:Int)&&a0.2 !=(2:Int)
def Ln (a0:Af):Bool:=bif(ET a0) then false else bif BR (HA (a0.1,(0:Nat))).fst (HA (a0.1,(0:Nat))).snd then false else true
def Lo (a0:Af):A:=.v (.bool (Ln a0))
def QQ (_a0:Af):Objs:=[]
def Pi (a0:Af):List Prop:=[((!(ET a0))=true→AN CZ CY FG (D2 (a0.1,(0:Nat))) (a0.1,(0:Nat)))]
theorem Zl (a0:Af):I6 (AI Cf Mc) 9 44 [Ar .group a0] 0 []=some (1,Lo a0,0,QQ a0,[((!(ET a0))=true→An Tryd.prog (44:FuncId) (0:Nat)=An Tryd.prog (44:FuncId) (0:Nat)),((!(ET a0))=true→AN CZ CY FG (D2 (a0.1,(0:Nat))) (a0.1,(0:Nat)))]):=by kernel_rfl
theorem Acr (a0:Af) (hp:∀p∈Pi a0,p):CallOk Tryd.prog 44 [Ar .group a0] 0 [] 1 (Lo a0) 0 (QQ a0):=by
 have n0:((!(ET a0))=true→An Tryd.prog (44:FuncId) (0:Nat)=An Tryd.prog (44:FuncId) (0:Nat)):=by intros;rfl
 have n1:=N0 hp
 exact AW (AJ Atf RU) (Zl a0) (Aa n0 (Aa n1 Am))
def Pj (a0:Af):A:=.v (.bool (NG a0.name&&WY a0.policy))
def Ph (_a0:Af):Objs:=[]
def NM (_a0:Af):List Prop:=[]
theorem Pg (g:Af):(∀p∈Pi g,p)∧Ln g=(NG g.name&&WY g.policy):=by
 have hk0:∀i,BR g.1 i=(decide (i <g.1.size)&&!Abs (g.1.data.toList.getD i 0)):=fun i=>by
  unfold BR D1
  rw[nn]
  by_cases h:i <g.1.size
  ·rw[decide_eq_true h,Bool.true_and,Bool.true_and];exact(Apf g.1 i h).1
  ·rw[decide_eq_false h];rfl
 obtain⟨h1,k,hk,hx,hs,hst⟩:=A4z (fun i=>((g.1,i):ByteArray×Nat)) g.1.size (fun i=>!Abs (g.1.data.toList.getD i 0)) CZ CY FG (D2 (g.1,0)) (g.1,0) rfl (Nat.le_refl _)
  (fun i _ _=>by
   show((!!decide (i <g.1.size))&&!BR g.1 i)=_
   rw[hk0,nn]
   cases decide (i <g.1.size)<;>rfl)
  (fun i hi hj=>by
   show(g.1,(bif decide (i <g.1.size) then i+(Utf8.decode g.1 i).snd else i))=(g.1,i+1)
   have h2:=hj i (Nat.lt_succ_self i)
   rw[decide_eq_true hi,cond_true,(Apf g.1 i hi).2 (by simpa using h2)])
  (fun _ _ _=>Am)
 refine⟨Aa (fun _=>h1) Am,?_⟩
 have hr:HA (g.1,0)=(g.1,k):=hx
 have ha:g.1.data.toList.all Abs=decide (¬k <g.1.size):=by
  have:=Ayl g.1.data.toList 0 Abs k (by rw[NU];exact hk) (fun j hj=>by simpa using hs j hj) (fun h=>by rw[NU] at h;simpa using hst h)
  rw[NU] at this
  exact this
 unfold Ln
 rw[hr]
 show(bif ET g then false else bif BR g.1 k then false else true)=_
 rw[hk0]
 unfold ET NG WY
 rw[Ab3]
 show _=(g.1.data.toList.all Abs&&(decide (1≤g.1.size)&&decide (g.1.size≤12))&&(g.2==1||g.2==2))
 rw[ha]
 have e1:(g.1.size==0)=!decide (1≤g.1.size):=Bat _
 have e2:decide ((g.1.size:Int) >12)=!decide (g.1.size≤12):=by
  rw[←decide_not];exact decide_eq_decide.2 (by generalize g.1.size=m;omega)
 have e3:(g.2 !=1&&g.2 !=2)=!(g.2==1||g.2==2):=by simp[bne]
 rw[e1,e2,e3]
 by_cases h:k <g.1.size
 ·have:=hst h
  rw[this,decide_eq_true h,decide_eq_false (not_not_intro h)]
  simp
 ·rw[decide_eq_false h,decide_eq_true h]
  cases decide (1≤g.1.size)<;>cases decide (g.1.size≤12)<;>cases(g.2==1||g.2==2)<;>rfl
theorem Zk (a0:Af) (_hp:∀p∈NM a0,p):CallOk Tryd.prog 44 [Ar .group a0] 0 [] 1 (Pj a0) 0 (Ph a0):=by
 have h:=Acr a0 (Pg a0).1
 unfold Lo at h
 rw[(Pg a0).2] at h
 exact h
def QR:List A→Nat→Objs→Option CJ:=Fc [.t .group] 0 Pj Ph NM
theorem W0:IV Tryd.prog 44 QR:=AM (ks:=[.t .group]) Zk
noncomputable def Axn:=CA 44 QR Cf
theorem Aie:FM Tryd.prog Axn:=Az W0 Atf
abbrev A5:Type:=(List Af)×Int×Int×(List (U .str×U .i64))
def Hm (x:A5):St:=⟨35,1,[(3,.mp 0),(15,.sl .group x.1),(16,.v (.int .i64 x.2.1)),(17,.v (.int .i64 x.2.2.1))],[(0,some (.map .str .i64 x.2.2.2))]⟩
def IJ:St→Option A5
 |⟨35,1,[(3,.mp 0),(15,.sl .group z0),(16,.v (.int .i64 z1)),(17,.v (.int .i64 z2))],[(0,some (.map .str .i64 z3))]⟩=>some (z0,z1,z2,z3)
 |_=>none
theorem RT:∀s x,IJ s=some x→s=Hm x:=fun s x h=>by
 unfold IJ at h
 split at h
 ·cases h;rfl
 ·cases h
def NL:F4:=⟨1,1,[3,15,16,17],[],[(0,0)],[0],[2],[0]⟩
def WZ:Gi:=⟨[],[(0,0)],[3,15,16,17],[0]⟩
def Dx (a0:List Af) (_a1:Int) (a2:Int) (a3:List (U .str×U .i64)):List (ByteArray×Int):=R7 a3 (a0.getD a2.toNat (Aj TC.group)).1 (IntKind.i64.wrap (HF a3 (a0.getD a2.toNat (Aj TC.group)).1+(1:Int)))
def B8 (a0:List Af) (a1:Int) (a2:Int) (a3:List (U .str×U .i64)):Bool:=!!decide (a2 <a1)&&(!(NG (a0.getD a2.toNat (Aj TC.group)).1&&WY (a0.getD a2.toNat (Aj TC.group)).2)||decide (HF (Dx a0 a1 a2 a3) (a0.getD a2.toNat (Aj TC.group)).1 >(1:Int)))
def Ty (a0:List Af) (a1:Int) (a2:Int) (a3:List (U .str×U .i64)):List (U .str×U .i64):=(Dx a0 a1 a2 a3)
def Tz (a0:List Af) (a1:Int) (a2:Int) (a3:List (U .str×U .i64)):Bool:=!!decide (a2 <a1)&&!(B8 a0 a1 a2 a3)
def GC (a0:List Af) (_a1:Int) (a2:Int) (_a3:List (U .str×U .i64)):Int:=bif !(NG (a0.getD a2.toNat (Aj TC.group)).1&&WY (a0.getD a2.toNat (Aj TC.group)).2) then(2:Int) else(70:Int)
def RS (a0:List Af) (a1:Int) (a2:Int) (a3:List (U .str×U .i64)):List (U .str×U .i64):=bif !(NG (a0.getD a2.toNat (Aj TC.group)).1&&WY (a0.getD a2.toNat (Aj TC.group)).2) then a3 else(Dx a0 a1 a2 a3)
def Cc (x:A5):A5:=(x.1,x.2.1,IntKind.i64.wrap (x.2.2.1+(1:Int)),Ty x.1 x.2.1 x.2.2.1 x.2.2.2)
def B9 (x:A5):Cnd:=some (Tz x.1 x.2.1 x.2.2.1 x.2.2.2)
def H3 (x:A5):List Prop:=[((!!decide (x.2.2.1 <x.2.1))=true→(0:Int)≤x.2.2.1∧x.2.2.1 <(↑x.1.length:Int))]
abbrev ED:A5→List Prop:=H3
def Kp (x:A5):Bh:=[(some 1,some (!decide (x.2.2.1 <x.2.1)),⟨35,1,[(2,.dead)],[(0,some (.map .str .i64 x.2.2.2))]⟩),(none,some ((B8 x.1 x.2.1 x.2.2.1 x.2.2.2)),⟨35,2,[(2,.v (.int .i64 (GC x.1 x.2.1 x.2.2.1 x.2.2.2)))],[(0,some (.map .str .i64 (RS x.1 x.2.1 x.2.2.1 x.2.2.2)))]⟩)]
def Dy (x:A5):Nat:=(x.2.1 - x.2.2.1).toNat
def FF (x:A5):A5:=Ba Cc B9 (Dy x) x
theorem U9 (a0:List Af) (a1:Int) (a2:Int) (a3:List (U .str×U .i64)):Dq (AI Axn L0) 9 (An Tryd.prog 19 1) NL (Hm (a0,a1,a2,a3))=some (H3 (a0,a1,a2,a3),Kp (a0,a1,a2,a3),B9 (a0,a1,a2,a3),Hm (Cc (a0,a1,a2,a3))):=by kernel_rfl
theorem Va (a0:List Af) (a1:Int) (a2:Int) (a3:List (U .str×U .i64)) (hp:∀p∈ED (a0,a1,a2,a3),p):∀p∈H3 (a0,a1,a2,a3),p:=hp
noncomputable def Lm:=Jl (AI Axn L0) (An Tryd.prog 19 1) NL WZ IJ Dy Cc B9 ED Kp
theorem TA:∀s b ps outs,Lm s=some (b,ps,outs)→Wf s ⟨ps,outs,none⟩∧DE (AI C0 L0) b s ps outs:=
 C5 (T:=Hm) Aie AX (u:=9) (by kernel_rfl) (by decide) (fun⟨a0,a1,a2,a3⟩=>U9 a0 a1 a2 a3) (fun⟨a0,a1,a2,a3⟩=>Va a0 a1 a2 a3) RT (fun _=>Bc (n:=35) rfl) fun _ _=>rfl
noncomputable def NK:=Gt 1 Lm L0
theorem Tx:Ij NK:=BK TA AX
def Dn (a0:List Af):Bool:=(↑a0.length:Int)==(0:Int)||decide ((↑a0.length:Int) >(4:Int))
def Ll (a0:List Af):List Af:=(FF (a0,(↑a0.length:Int),(0:Int),[])).fst
def Lk (a0:List Af):Int:=(FF (a0,(↑a0.length:Int),(0:Int),[])).snd.fst
def Lj (a0:List Af):List (U TC.str×U TC.i64):=(FF (a0,(↑a0.length:Int),(0:Int),[])).snd.snd.snd
def Li (a0:List Af):Int:=(FF (a0,(↑a0.length:Int),(0:Int),[])).snd.snd.fst
def HM (a0:List Af):Int:=bif(Dn a0) then bif(↑a0.length:Int)==(0:Int) then(2:Int) else(3:Int) else bif B8 (Ll a0) (Lk a0) (Li a0) (Lj a0) then GC (Ll a0) (Lk a0) (Li a0) (Lj a0) else(0:Int)
def ME (a0:List Af):A:=.v (.int .i64 (HM a0))
def SD (_a0:List Af):Objs:=[]
def QN (a0:List Af):List Prop:=[((!(Dn a0))=true→AN Cc B9 ED (Dy (a0,(↑a0.length:Int),(0:Int),[])) (a0,(↑a0.length:Int),(0:Int),[]))]
theorem Acq (a0:List Af):I6 (AI Axn NK) 9 19 [.sl .group a0] 0 []=some (1,ME a0,0,SD a0,[((!(Dn a0))=true→An Tryd.prog (19:FuncId) (1:Nat)=An Tryd.prog (19:FuncId) (1:Nat)),((!(Dn a0))=true→AN Cc B9 ED (Dy (a0,(↑a0.length:Int),(0:Int),[])) (a0,(↑a0.length:Int),(0:Int),[]))]):=by kernel_rfl
theorem Afe (a0:List Af) (hp:∀p∈QN a0,p):CallOk Tryd.prog 19 [.sl .group a0] 0 [] 1 (ME a0) 0 (SD a0):=by
 have n0:((!(Dn a0))=true→An Tryd.prog (19:FuncId) (1:Nat)=An Tryd.prog (19:FuncId) (1:Nat)):=by intros;rfl
 have n1:=N0 hp
 exact AW (AJ Aie Tx) (Acq a0) (Aa n0 (Aa n1 Am))
def QO (a0:List Af):A:=.v (.int .i64 (B1 a0))
def QM (_a0:List Af):Objs:=[]
def Pf (_a0:List Af):List Prop:=[]
theorem QL (l:List Af):(∀p∈QN l,p)∧HM l=B1 l:=by
 have e4:Dn l=(l.length==0||decide (4 <l.length)):=by
  unfold Dn
  rw[A6j]
  congr 1
  exact dgt l.length 4
 have main:Dn l=false→AN Cc B9 ED (Dy (l,(l.length:Int),0,[])) (l,(l.length:Int),0,[])∧HM l=B1 l:=fun h4=>by
  have hn4:l.length≤4:=by
   rw[e4] at h4
   have:=of_decide_eq_false (Bool.or_eq_false_iff.1 h4).2
   omega
  have hk0:∀i,i≤l.length→(∀j,j <i→YD l j=false)→B8 l (l.length:Int) (i:Int) (NE l i)=(decide (i <l.length)&&YD l i):=fun i hi hs=>by
   unfold B8 Dx
   rw[Int.toNat_natCast,Aa3,if_pos rfl,Aa2 l i hi hs,nn,Ux]
   unfold YD
   congr 2
   cases((l.take i).map (·.name)).any (fun s=>s==(l.getD i (Aj TC.group)).1)<;>rfl
  obtain⟨h1,k,hk,hx,hs,hst⟩:=A4z (fun i=>((l,(l.length:Int),(i:Int),NE l i):A5)) l.length (YD l) Cc B9 ED (Dy (l,(l.length:Int),0,[])) ((l,(l.length:Int),0,[]):A5) rfl
   (by show l.length≤((l.length:Int) - 0).toNat;omega)
   (fun i hi hs=>by
    show((!!decide ((i:Int) <(l.length:Int)))&&!B8 l (l.length:Int) (i:Int) (NE l i))=_
    rw[hk0 i hi hs,nn,Ux]
    cases decide (i <l.length)<;>rfl)
   (fun i hi hs=>by
    show(l,(l.length:Int),IntKind.i64.wrap ((i:Int)+1),Dx l (l.length:Int) (i:Int) (NE l i))=(l,(l.length:Int),((i+1:Nat):Int),NE l (i+1))
    rw[IT (by omega)]
    unfold Dx
    rw[Int.toNat_natCast]
    rfl)
   (fun i hi hs=>Aa (fun h=>by
    have h':(!!decide ((i:Int) <(l.length:Int)))=true:=h
    rw[nn] at h'
    have:=of_decide_eq_true h'
    show(0:Int)≤(i:Int)∧(i:Int) <(l.length:Int)
    omega) Am)
  refine⟨h1,?_⟩
  have hr:FF (l,(l.length:Int),0,[])=(l,(l.length:Int),(k:Int),NE l k):=hx
  unfold HM Ll Lk Lj Li
  rw[hr,h4,cond_false]
  show(bif B8 l (l.length:Int) (k:Int) (NE l k) then GC l (l.length:Int) (k:Int) (NE l k) else 0)=_
  rw[hk0 k hk hs]
  rw[e4] at h4
  obtain⟨h5,h6⟩:=Bool.or_eq_false_iff.1 h4
  unfold B1
  rw[h5,h6,cond_false,cond_false,Awe l k [] (fun j hj hl=>by
   have:=hs j hj
   unfold YD at this
   obtain⟨q1,q2⟩:=Bool.or_eq_false_iff.1 this
   exact⟨by rw[Bool.not_eq_false'] at q1;exact q1,by simpa using q2⟩),List.nil_append]
  by_cases hkl:k <l.length
  ·have hst':=hst hkl
   rw[hst',decide_eq_true hkl,Bool.and_true,cond_true]
   have hd:l.drop k=l.getD k (Aj TC.group)::l.drop (k+1):=by
    rw[List.getD_eq_getElem?_getD,List.getElem?_eq_getElem hkl,Option.getD_some]
    exact List.drop_eq_getElem_cons hkl
   rw[hd]
   unfold To GC
   rw[Int.toNat_natCast]
   unfold YD at hst'
   show(bif !(NG (l.getD k (Aj TC.group)).1&&WY (l.getD k (Aj TC.group)).2) then(2:Int) else 70)=bif !(NG (l.getD k (Aj TC.group)).1&&WY (l.getD k (Aj TC.group)).2) then 2 else _
   cases hq:!(NG (l.getD k (Aj TC.group)).1&&WY (l.getD k (Aj TC.group)).2) with
   |true=>rfl
   |false=>
    rw[hq,Bool.false_or] at hst'
    have hst2:((l.take k).map (·.name)).any (fun s=>s==(l.getD k (Aj TC.group)).name)=true:=hst'
    rw[cond_false,cond_false,hst2]
    rfl
  ·rw[decide_eq_false hkl,Bool.false_and,cond_false,List.drop_eq_nil_of_le (by omega)]
   rfl
 cases h4:Dn l with
 |false=>
  obtain⟨g1,g2⟩:=main h4
  exact⟨Aa (fun _=>g1) Am,g2⟩
 | true=>
  refine⟨Aa (fun h=>by rw[h4] at h;cases h) Am,?_⟩
  unfold HM B1
  rw[h4,cond_true,A6j]
  rw[e4] at h4
  cases h5:l.length==0 with
  |true=>rfl
  |false=>
   rw[h5,Bool.false_or] at h4
   rw[h4]
   rfl
theorem QK (a0:List Af) (_hp:∀p∈Pf a0,p):CallOk Tryd.prog 19 [.sl .group a0] 0 [] 1 (QO a0) 0 (QM a0):=by
 have h:=Afe a0 (QL a0).1
 unfold ME at h
 rw[(QL a0).2] at h
 exact h
def JA:List A→Nat→Objs→Option CJ:=Fc [.l .group] 0 QO QM Pf
theorem Kb:IV Tryd.prog 19 JA:=AM (ks:=[.l .group]) QK
noncomputable def A8y:=CA 19 JA Axn
theorem A2m:FM Tryd.prog A8y:=Az Kb Aie
theorem tlb (a b:ByteArray):(a.toList==b.toList)=(a==b):=by
 rw[Bool.eq_iff_iff,At1,beq_iff_eq]
noncomputable def Ch:=A8y
theorem A8z:FM Tryd.prog Ch:=A2m
end Go.Proofs.YtifkbgkbajncjaaDoor
namespace Go.Proofs.YtifkbgkbajncjaaDoor
open Go.RowKit Go.Shelf
attribute [local go_sem] Oper.semAt_some
def gV (g:Af):Value:=.agg #[.string g.name,.int .i64 g.policy]
def cV (c:Au):Value:=.agg #[.int .i64 c.stamp.n,.int .i64 c.stamp.site,.int .i64 c.vec.a,.int .i64 c.vec.b,.bool c.gone,.string c.value,.int .i64 c.dead.a,.int .i64 c.dead.b]
structure KB (n₀ X:Nat) (W W':World):Prop where
 os:W'.os=W.os
 tape:W'.tape=W.tape
 output:W'.output=W.output
 size:W.heap.size≤W'.heap.size
 block:∀k,k <n₀→k≠X→W'.heap[k]?=W.heap[k]?
theorem KB.refl (n₀ X:Nat) (W:World):KB n₀ X W W:=⟨rfl,rfl,rfl,Nat.le_refl _,fun _ _ _=>rfl⟩
theorem KB.trans {n₀ X:Nat} {A B C:World} (h:KB n₀ X A B) (k:KB n₀ X B C):KB n₀ X A C:=
 ⟨k.os.trans h.os,k.tape.trans h.tape,k.output.trans h.output,Nat.le_trans h.size k.size,fun i h1 h2=>(k.block i h1 h2).trans (h.block i h1 h2)⟩
theorem KB.of_below {n₀ X:Nat} {A B:World} (h:Below n₀ A B):KB n₀ X A B:=⟨h.os,h.tape,h.output,h.size,fun k hk _=>h.block k hk⟩
theorem KB.cell {n₀ X:Nat} {A B:World} {p:Addr} (h:KB n₀ X A B) (hp:p.block <n₀) (hx:p.block≠X):B.cell? p=A.cell? p:=World.cell?_of_block (h.block _ hp hx)
theorem KB.putObj {n₀ X:Nat} {w:World} (hn:n₀≤w.heap.size) (W:World) (l:Nat) (o o':Obj) (hl:w.heap.size≤l) (h:W.heap[l]?=some o) (h1:o.isCells=false) (h2:o.isWalk=false):KB n₀ X W (W.putObj l o'):=
 KB.of_below (belowK_b hn W l o o' hl h h1 h2)
def GsAt (n₀ X:Nat) (W:World) (b off:Nat) (l:List Af):Prop:=(b <n₀∧b≠X)∧∀j g,l[j]?=some g→W.cell? ⟨b,off+j*2,none⟩=some (.string g.name)∧W.cell? ⟨b,off+j*2+1,none⟩=some (.int .i64 g.policy)
def CsAt (n₀ X:Nat) (W:World) (b off:Nat) (l:List Au):Prop:=(b <n₀∧b≠X)∧∀j c,l[j]?=some c→W.cell? ⟨b,off+j*8,none⟩=some (.int .i64 c.stamp.n)∧W.cell? ⟨b,off+j*8+1,none⟩=some (.int .i64 c.stamp.site)∧W.cell? ⟨b,off+j*8+2,none⟩=some (.int .i64 c.vec.a)∧W.cell? ⟨b,off+j*8+3,none⟩=some (.int .i64 c.vec.b)∧W.cell? ⟨b,off+j*8+4,none⟩=some (.bool c.gone)∧W.cell? ⟨b,off+j*8+5,none⟩=some (.string c.value)∧W.cell? ⟨b,off+j*8+6,none⟩=some (.int .i64 c.dead.a)∧W.cell? ⟨b,off+j*8+7,none⟩=some (.int .i64 c.dead.b)
theorem GsAt.kept {n₀ X:Nat} {W W':World} {b off:Nat} {l:List Af} (h:GsAt n₀ X W b off l) (hb:KB n₀ X W W'):GsAt n₀ X W' b off l:=
 ⟨h.1,fun j g hg=>⟨(hb.cell (p:=⟨b,_,none⟩) h.1.1 h.1.2).trans (h.2 j g hg).1,(hb.cell (p:=⟨b,_,none⟩) h.1.1 h.1.2).trans (h.2 j g hg).2⟩⟩
theorem CsAt.kept {n₀ X:Nat} {W W':World} {b off:Nat} {l:List Au} (h:CsAt n₀ X W b off l) (hb:KB n₀ X W W'):CsAt n₀ X W' b off l:=by
 refine⟨h.1,fun j c hc=>?_⟩
 obtain⟨h0,h1,h2,h3,h4,h5,h6,h7⟩:=h.2 j c hc
 have k:∀o,W'.cell? ⟨b,o,none⟩=W.cell? ⟨b,o,none⟩:=fun o=>hb.cell (p:=⟨b,o,none⟩) h.1.1 h.1.2
 exact⟨(k _).trans h0,(k _).trans h1,(k _).trans h2,(k _).trans h3,(k _).trans h4,(k _).trans h5,(k _).trans h6,(k _).trans h7⟩
theorem Ara {W W':World} (h:Below W.heap.size W W'):W.grownBy W' none:=⟨h.os,h.tape,h.output,h.size,fun k hk _=>h.block k hk⟩
def Ay5 (x:Af×Au):Array Value:=#[gV x.1,cV x.2]
theorem A2e {α β:Type} (l:List α) (r:List β) (k:Nat) (x:α) (y:β) (hx:l[k]?=some x) (hy:r[k]?=some y):(l.zip r).take (k+1)=(l.zip r).take k++[(x,y)]:=by
 rw[List.take_add_one,(List.getElem?_zip_eq_some (z:=(x,y))).2 ⟨hx,hy⟩]
 rfl
set_option maxHeartbeats 4000000 in
theorem Aws (n:Nat) (hn:1≤n) (l B2 B3 n₀ b off cap b' off' cap' X:Nat) (gs:List Af) (cs:List Au) (hlen:cs.length=gs.length) (hl4:gs.length≤4)
    (J Jx:List (Af×Au)→World→Prop) (n1:Nat) (hn1:n₀≤n1)
    (hJa:AbidesFrom n1 J)
    (hY:∀pre x W,J pre W→pre.length <gs.length→YieldAt Fence.wide (n - 1) Tryd.prog l (Ay5 x) W fun e W'=>
      (e=.returned (.bool true)∧J (pre++[x]) W'∧KB n₀ X W W')∨(e=.returned (.bool false)∧Jx (pre++[x]) W'))
    (W:World) (hW1:n1=W.heap.size) (h2:W.cell? ⟨B2,0,none⟩=some (.slice (some ⟨b,off,none⟩) gs.length cap)) (h3:W.cell? ⟨B3,1,none⟩=some (.slice (some ⟨b',off',none⟩) cs.length cap')) (hB2:B2 <n₀∧B2≠X) (hB3:B3 <n₀∧B3≠X)
    (hg:GsAt n₀ X W b off gs) (hc:CsAt n₀ X W b' off' cs) (h0:J [] W):
    CallsIn Fence.wide n Tryd.prog 63 #[.func (.yield l) #[] #[],.pointer (some ⟨B2,0,none⟩),.pointer (some ⟨B3,0,none⟩)] W fun e W'=>(∃v,e=.returned v)∧
      ((∃ys,ys=gs.zip cs∧J ys W')∨(∃pre,(∃k,k≤gs.length∧pre=(gs.zip cs).take k)∧Jx pre W')):=by
  refine callsIn_of_wp Tryd.func63 rfl trivial ?_ rfl
  simp only[Tryd.ntmps63,List.size_toArray,List.length_cons,List.length_nil,Nat.reduceAdd,Nat.reduceSub,Array.replicate_succ,Array.replicate_zero,List.push_toArray,List.append_toArray,List.nil_append,List.cons_append]
  gi_wp2
  gi_loopw [8] (fun i wr=>∃k:Nat,k≤gs.length∧i=.int .i64 k∧J ((gs.zip cs).take k) wr∧KB n₀ X W wr∧W.heap.size≤wr.heap.size) (fun i _=>gs.length - (intOf i).toNat)
  case atStart=>exact⟨0,Nat.zero_le _,rfl,h0,KB.refl _ _ _,Nat.le_refl _⟩
  case round=>
    obtain⟨k,hk,rfl,hJs,hnx,hsz⟩:=hrel
    by_cases hlt:k <gs.length
    · have hlt':k <cs.length:=by omega
      obtain⟨hg1,hg2⟩:=(hg.kept hnx).2 k gs[k] (List.getElem?_eq_getElem hlt)
      have h2':=(hnx.cell (p:=⟨B2,0,none⟩) hB2.1 hB2.2).trans h2
      gi_wp2
      have hb3:Below wr.heap.size wr (wr.alloc (.cells #[.string gs[k].name,.int .i64 gs[k].policy] 89)):=(Below.refl _ wr).alloc (Nat.le_refl _) _
      have hv:wr.heap.size=wr.heap.size:=rfl
      have hn:=World.alloc_heap_new wr (.cells #[.string gs[k].name,.int .i64 gs[k].policy] 89)
      generalize wr.alloc (.cells #[.string gs[k].name,.int .i64 gs[k].policy] 89)=W3 at hb3 hn⊢
      have hb4:KB n₀ X wr W3:=KB.of_below (hb3.mono (Nat.le_trans hn1 (by rw[hW1];exact hsz)))
      have hb5:KB n₀ X W3 W3.drew:=KB.of_below ((Below.refl _ W3).drew)
      obtain⟨hc0,hc1,hc2,hc3,hc4,hc5,hc6,hc7⟩:=((hc.kept hnx).kept hb4).2 k cs[k] (List.getElem?_eq_getElem hlt')
      have h3':=((hnx.trans hb4).cell (p:=⟨B3,1,none⟩) hB3.1 hB3.2).trans h3
      have hz:((gs.zip cs).take k).length <gs.length:=by rw[List.length_take,List.length_zip];omega
      have hJ3:J ((gs.zip cs).take k) W3.drew:=hJa _ wr _ none hJs (Ara hb3.drew) (fun r e=>by cases e)
      obtain⟨fn,tmps,assign,body,hy,hR⟩:=hY _ (gs[k],cs[k]) _ hJ3 hz
      have hR2:RoundIn Fence.wide (n - 1) Tryd.prog l fn tmps assign body W3.drew fun e W'=>∃q:Bool,e=.returned (.bool q)∧(q=true→J ((gs.zip cs).take (k+1)) W'∧KB n₀ X wr W')∧(q=false→Jx ((gs.zip cs).take (k+1)) W'):=by
        refine hR.mono ?_
        rw[←A2e gs cs k gs[k] cs[k] (List.getElem?_eq_getElem hlt) (List.getElem?_eq_getElem hlt')]
        rintro e W' (⟨rfl,h1,h2⟩|⟨rfl,h1⟩)
        ·exact⟨true,rfl,⟨fun _=>⟨h1,(hb4.trans hb5).trans h2⟩,fun h=>by cases h⟩⟩
        ·exact⟨false,rfl,⟨fun h=>(by cases h),fun _=>h1⟩⟩
      clear hR
      have hm:Tryd.prog.follows .mixedOrders=true:=by kernel_rfl
      dsimp only[Ay5,gV,cV] at hy
      obtain⟨hn0,hn1'⟩:=cb2 hn
      gi_region_with_o (refine hR2.mono ?_;rintro e W4 ⟨q,rfl,hq1,hq2⟩)
      all_goals (cases q)
      all_goals gi_wp2
      all_goals first
        |(refine bodyPost_ret (results_none rfl _ _ _) rfl ?_;exact⟨⟨_,rfl⟩,.inr ⟨_,⟨k+1,by omega,rfl⟩,hq2 (by trivial)⟩⟩)
        | (obtain⟨q1,q2⟩:=hq1 (by trivial)
           exact⟨⟨k+1,by omega,rfl,q1,hnx.trans q2,Nat.le_trans hsz q2.size⟩,by simp[intOf];omega⟩)
    · obtain rfl:k=gs.length:=by omega
      gi_wp2
      go_end0
      exact⟨⟨_,rfl⟩,.inl ⟨_,rfl,by rw[List.take_of_length_le (by rw[List.length_zip];omega)] at hJs;exact hJs⟩⟩
set_option maxHeartbeats 1000000 in
theorem Aon (n:Nat) (a:Option Addr) (len cap:Nat) (v1:Value) (key:ByteArray) (w:World):
  CallsIn Fence.wide n Tryd.prog 41 #[.slice a len cap,.agg #[.string key,v1]] w fun e w'=>e=.returned (.func (.func 63) #[] #[.pointer (some ⟨w.heap.size,0,none⟩),.pointer (some ⟨w.heap.size+1,0,none⟩)])∧w'=(w.alloc (.cells #[.slice a len cap] 22)).alloc (.cells #[.string key,v1] 60):=by
 refine callsIn_of_wp Tryd.func41 rfl trivial ?_ rfl
 simp only[Tryd.ntmps41,List.size_toArray,List.length_cons,List.length_nil,Nat.reduceAdd,Nat.reduceSub,Array.replicate_succ,Array.replicate_zero,List.push_toArray,List.append_toArray,List.nil_append,List.cons_append]
 gi_wp2
 go_ret
 exact⟨rfl,rfl⟩
theorem X3 (n:Nat) (hn:1≤n) (B2 B3 n₀ X b off cap b' off' cap':Nat) (gs:List Af) (cs:List Au) (hlen:cs.length=gs.length) (hl4:gs.length≤4) (w:World) (hn₀:n₀≤w.heap.size)
  (h2:w.cell? ⟨B2,0,none⟩=some (.slice (some ⟨b,off,none⟩) gs.length cap)) (h3:w.cell? ⟨B3,1,none⟩=some (.slice (some ⟨b',off',none⟩) cs.length cap')) (hB2:B2 <n₀∧B2≠X) (hB3:B3 <n₀∧B3≠X)
  (hg:GsAt n₀ X w b off gs) (hc:CsAt n₀ X w b' off' cs):
  SeqStopsK Fence.wide n Tryd.prog 63 #[.pointer (some ⟨B2,0,none⟩),.pointer (some ⟨B3,0,none⟩)] Ay5 (KB n₀ X) (fun ys=>ys=gs.zip cs) (fun pre=>∃k,k≤gs.length∧pre=(gs.zip cs).take k) gs.length w:=fun l J Jx W hW hJ _ hY h0=>by
 have hk:KB n₀ X w W:=KB.of_below (hW.mono hn₀)
 exact Aws n hn l B2 B3 n₀ b off cap b' off' cap' X gs cs hlen hl4 J Jx W.heap.size (Nat.le_trans hn₀ hW.size) hJ hY W rfl ((hk.cell (p:=⟨B2,0,none⟩) hB2.1 hB2.2).trans h2) ((hk.cell (p:=⟨B3,1,none⟩) hB3.1 hB3.2).trans h3) hB2 hB3 (hg.kept hk) (hc.kept hk) h0
def Ni (p:Int) (G:Int→Au→Bool) (gs:List Af) (key:ByteArray) (cs:List Au):Int:=
 if(p !=0)=true then p else if key.toList.isEmpty=true then 2 else if 32 <(key.size:Int) then 3 else if((cs.length:Int) !=(gs.length:Int))=true then 100 else bif(gs.zip cs).all (fun x=>G x.1.policy x.2) then 0 else 80
theorem Ro {β:Type} (B:Nat) (cs:Array Value) (t:TypeId):Own (fun(_:β) W=>W.heap[B]?=some (.cells cs t (0,0))):=fun s W W' row hs hg hr=>by
 refine(hg.block B (Fv hs) fun e=>?_).trans hs
 obtain⟨o,h1,h2⟩:=hr B e.symm
 rw[hs] at h1
 cases h1
 cases h2
theorem GI (B:Nat) {W W':World} (h:Below W.heap.size W W'):KeepsFrom B W W':=⟨h.size,fun k _ _ hk _=>(h.block k (Fv hk)).trans hk⟩
theorem OO {β:Type} (B n:Nat):OwnFrom B (fun(_:β) W=>n≤W.heap.size):=fun _ _ _ _ hs hg _=>Nat.le_trans hs hg.size
set_option maxHeartbeats 4000000 in
theorem Ao9 (w:World) (a0 a1:Option Addr) (gs:List Af) (cs:List Au) (key:ByteArray) (cap0 cap1:Nat) (p:Int) (G:Int→Au→Bool)
    (hP:∀W,Below w.heap.size w W→Calls Tryd.prog 19 #[.slice a0 gs.length cap0] W fun e W'=>e=.returned (.int .i64 p)∧Below W.heap.size W W')
    (hp0:p=0→1≤gs.length∧gs.length≤4)
    (hC:∀(q:Int) (c:Au) W,Below w.heap.size w W→Calls Tryd.prog 62 #[.int .i64 q,cV c] W fun e W'=>e=.returned (.bool (G q c))∧Below W.heap.size W W')
    (hG:0 <gs.length→∃b off,a0=some ⟨b,off,none⟩∧GsAt w.heap.size w.heap.size w b off gs)
    (hS:0 <cs.length→∃b off,a1=some ⟨b,off,none⟩∧CsAt w.heap.size w.heap.size w b off cs):
    Calls Tryd.prog 40 #[.slice a0 gs.length cap0,.agg #[.string key,.slice a1 cs.length cap1]] w fun e W'=>e=.returned (.int .i64 (Ni p G gs key cs))∧Below w.heap.size w W':=by
  refine(callsIn_wide (n:=5)).1 ?_
  refine callsIn_of_wp_marks Tryd.func40 rfl trivial ?_ rfl
  simp only[Tryd.ntmps40,List.size_toArray,List.length_cons,List.length_nil,Nat.reduceAdd,Nat.reduceSub,Array.replicate_succ,Array.replicate_zero,List.push_toArray,List.append_toArray,List.nil_append,List.cons_append]
  have hw2:Below w.heap.size w ((w.alloc (.cells #[.string key,.slice a1 cs.length cap1] 60)).alloc (.cells #[.int .i64 0] 38)):=((Below.refl _ w).alloc (Nat.le_refl _) _).alloc (by simp) _
  have hr1:=KR (.cells #[.int .i64 0] 38) (FR (w:=w) (.cells #[.string key,.slice a1 cs.length cap1] 60) rfl)
  have hr2:=FR (w:=w.alloc (.cells #[.string key,.slice a1 cs.length cap1] 60)) (.cells #[.int .i64 0] 38) (n:=w.heap.size+1) (by simp)
  gi_wp2_with (first
    |(refine⟨trivial,?_⟩;gi_at_call 19;refine(callsIn_wide.2 (hP _ hw2)).mono ?_;rintro e W1 ⟨rfl,hb1⟩;have hx1:=CV hr1 hb1;have hx2:=CV hr2 hb1;obtain⟨c0,c1⟩:=cb2 hx1;have d0:=cb1 hx2;have f0:=fb1 hx2;have hB1:Below w.heap.size w W1:=hw2.trans (hb1.mono (by simp;omega));clear hr1 hr2 hb1)
    |(refine⟨trivial,?_⟩;gi_at_call 41;refine(Aon _ _ _ _ _ _ _).mono ?_;rintro e W2 ⟨rfl,rfl⟩))
  · have h1:(p !=0)=true:=by assumption
    have e:Ni p G gs key cs=p:=by unfold Ni;rw[if_pos h1]
    have hc:=cb1 (Lv (i:=0) hx2 (.int .i64 p))
    exact⟨.int .i64 p,by simp[results,Tryd.f40,go_sem,hc],by rw[e],hB1.setCell (p:=⟨w.heap.size+1,0,none⟩) (by simp) _⟩
  · have h1:(p !=0)=false:=by assumption
    have h2:key.toList.isEmpty=true:=by assumption
    have e:Ni p G gs key cs=2:=by unfold Ni;rw[if_neg (by rw[h1];simp),if_pos h2]
    have hc:=cb1 (Lv (i:=0) hx2 (.int .i64 2))
    exact⟨.int .i64 2,by simp[results,Tryd.f40,go_sem,hc],by rw[e],hB1.setCell (p:=⟨w.heap.size+1,0,none⟩) (by simp) _⟩
  · have h1:(p !=0)=false:=by assumption
    have h2:key.toList.isEmpty=false:=by assumption
    have h3:32 <(key.size:Int):=by assumption
    have e:Ni p G gs key cs=3:=by unfold Ni;rw[if_neg (by rw[h1];simp),if_neg (by rw[h2];simp),if_pos h3]
    have hc:=cb1 (Lv (i:=0) hx2 (.int .i64 3))
    exact⟨.int .i64 3,by simp[results,Tryd.f40,go_sem,hc],by rw[e],hB1.setCell (p:=⟨w.heap.size+1,0,none⟩) (by simp) _⟩
  · have h1:(p !=0)=false:=by assumption
    have h2:key.toList.isEmpty=false:=by assumption
    have h3:(key.size:Int)≤32:=by assumption
    have h4:((cs.length:Int) !=(gs.length:Int))=true:=by assumption
    have e:Ni p G gs key cs=100:=by unfold Ni;rw[if_neg (by rw[h1];simp),if_neg (by rw[h2];simp),if_neg (by omega),if_pos h4]
    have hc:=cb1 (Lv (i:=0) hx2 (.int .i64 100))
    exact⟨.int .i64 100,by simp[results,Tryd.f40,go_sem,hc],by rw[e],hB1.setCell (p:=⟨w.heap.size+1,0,none⟩) (by simp) _⟩
  have h1:(p !=0)=false:=by assumption
  have h2:key.toList.isEmpty=false:=by assumption
  have h3:(key.size:Int)≤32:=by assumption
  have h4:((cs.length:Int) !=(gs.length:Int))=false:=by assumption
  have e:Ni p G gs key cs=bif(gs.zip cs).all (fun x=>G x.1.policy x.2) then 0 else 80:=by unfold Ni;rw[if_neg (by rw[h1];simp),if_neg (by rw[h2];simp),if_neg (by omega),if_neg (by rw[h4];simp)]
  have hp:p=0:=by simpa using h1
  clear h1
  subst hp
  have hlen : cs.length = gs.length := by have:(cs.length:Int)=gs.length:=by simpa using h4
                                          omega
  obtain⟨hl1,hl4⟩:=hp0 rfl
  obtain⟨b,off,rfl,hg⟩:=hG (by omega)
  obtain⟨b',off',rfl,hc⟩:=hS (by omega)
  have hW2:Below W1.heap.size W1 ((W1.alloc (.cells #[.slice (some ⟨b,off,none⟩) gs.length cap0] 22)).alloc (.cells #[.string key,.slice (some ⟨b',off',none⟩) cs.length cap1] 60)):=((Below.refl _ W1).alloc (Nat.le_refl _) _).alloc (by simp) _
  have hy2:=KR (.cells #[.string key,.slice (some ⟨b',off',none⟩) cs.length cap1] 60) (FR (w:=W1) (.cells #[.slice (some ⟨b,off,none⟩) gs.length cap0] 22) rfl)
  have hy3:=FR (w:=W1.alloc (.cells #[.slice (some ⟨b,off,none⟩) gs.length cap0] 22)) (.cells #[.string key,.slice (some ⟨b',off',none⟩) cs.length cap1] 60) (n:=W1.heap.size+1) (by simp)
  have hz2:=CV hx2 hW2
  have hs1:=Fv hx2
  have hs2:=Fv hy3
  have hB2:=hB1.trans (hW2.mono hB1.size)
  generalize (W1.alloc (.cells #[.slice (some ⟨b,off,none⟩) gs.length cap0] 22)).alloc (.cells #[.string key,.slice (some ⟨b',off',none⟩) cs.length cap1] 60)=W2 at hW2 hy2 hy3 hz2 hs2 hB2⊢
  have hg2:GsAt W2.heap.size W2.heap.size W2 b off gs:=⟨⟨by have:=hg.1.1;omega,by have:=hg.1.1;omega⟩,fun j g hj=>⟨(hB2.cell (p:=⟨b,_,none⟩) hg.1.1).trans (hg.2 j g hj).1,(hB2.cell (p:=⟨b,_,none⟩) hg.1.1).trans (hg.2 j g hj).2⟩⟩
  have hc2:CsAt W2.heap.size W2.heap.size W2 b' off' cs:=by
    refine⟨⟨by have:=hc.1.1;omega,by have:=hc.1.1;omega⟩,fun j c hj=>?_⟩
    have k:∀o,W2.cell? ⟨b',o,none⟩=w.cell? ⟨b',o,none⟩:=fun o=>hB2.cell (p:=⟨b',o,none⟩) hc.1.1
    simp only[k]
    exact hc.2 j c hj
  refine wpIn_rangeFunc_ownH (F:=Fence.wide) rfl (by omega) (gf:=63) (lb:=#[.pointer (some ⟨W1.heap.size,0,none⟩),.pointer (some ⟨W1.heap.size+1,0,none⟩)]) rfl trivial (enters_of Tryd.func63 (by kernel_rfl) rfl)
    (X3 _ (by omega) W1.heap.size (W1.heap.size+1) W2.heap.size W2.heap.size b off cap0 b' off' cap1 gs cs hlen hl4 W2 (Nat.le_refl _) (cb1 hy2) (cb2 hy3).2 ⟨by omega,by omega⟩ ⟨by omega,by omega⟩ hg2 hc2)
    KB.trans (KB.putObj (Nat.le_refl _)) (Below.refl _ _) (fun _=>rfl)
    (fun pre W=>((∀x∈pre,G x.1.policy x.2=true)∧W.heap[w.heap.size+1]?=some (.cells #[.int .i64 0] 38 (0,0)))∧Below w.heap.size w W∧W2.heap.size≤W.heap.size)
    (fun c pre W=>((c=.ret∧∃x∈pre,G x.1.policy x.2=false)∧W.heap[w.heap.size+1]?=some (.cells #[.int .i64 80] 38 (0,0)))∧Below w.heap.size w W∧W2.heap.size≤W.heap.size)
    (OwnFrom.and (OwnFrom.and (ownFrom_pure _ _) (Own.from (Ro _ _ _) _)) (OwnFrom.and (ownFrom_below (Nat.le_refl _) hB2.size) (OO _ _)))
    (fun c=>OwnFrom.and (OwnFrom.and (ownFrom_pure _ _) (Own.from (Ro _ _ _) _)) (OwnFrom.and (ownFrom_below (Nat.le_refl _) hB2.size) (OO _ _)))
    ⟨⟨by simp,hz2⟩,hB2,Nat.le_refl _⟩
    (fun x a' W=>(∃B6 B7,a'={tmps:=#[Value.slice (some ⟨b,off,none⟩) gs.length cap0,Value.agg #[Value.string key,Value.slice (some ⟨b',off',none⟩) cs.length cap1],undef,
          Value.pointer (some {block:=w.heap.size,off:=0}),
          Value.pointer (some {block:=w.heap.size+1,off:=0}),Value.int IntKind.i64 0,Value.pointer (some ⟨B6,0,none⟩),Value.pointer (some ⟨B7,0,none⟩),
          Value.slice (some ⟨b,off,none⟩) gs.length cap0,Value.int IntKind.i64 0,Value.int IntKind.i64 0,Value.bool false,undef,
          Value.bool false,Value.pointer (some {block:=w.heap.size,off:=0}),Value.string key,Value.bool false,
          Value.bool (decide (32 <(key.size:Int))),Value.pointer (some {block:=w.heap.size,off:=0}),
          Value.string key,Value.int IntKind.i64 key.size,Value.bool (decide (32 <(key.size:Int))),Value.bool false,
          Value.pointer (some {block:=w.heap.size,off:=1}),Value.slice (some ⟨b',off',none⟩) cs.length cap1,
          Value.int IntKind.i64 cs.length,Value.slice (some ⟨b,off,none⟩) gs.length cap0,Value.int IntKind.i64 gs.length,
          Value.bool false,Value.slice (some ⟨b,off,none⟩) gs.length cap0,Value.agg #[Value.string key,Value.slice (some ⟨b',off',none⟩) cs.length cap1],
          Value.func (Fn.func 63) #[] #[Value.pointer (some {block:=W1.heap.size,off:=0}),Value.pointer (some {block:=W1.heap.size+1,off:=0})],
          gV x.1,cV x.2,undef,undef,undef,undef,undef],defers:=[]}∧
        (W.heap[B6]?=some (.cells #[.string x.1.name,.int .i64 x.1.policy] 89 (0,0))∧W.heap[B7]?=some (.cells #[.int .i64 x.2.stamp.n,.int .i64 x.2.stamp.site,.int .i64 x.2.vec.a,.int .i64 x.2.vec.b,.bool x.2.gone,.string x.2.value,.int .i64 x.2.dead.a,.int .i64 x.2.dead.b] 87 (0,0)))))
    (fun x a'=>Own.from (fun s X Y row hs hgr hr=>by
      obtain⟨B6,B7,e1,e2,e3⟩:=hs
      exact⟨B6,B7,e1,Ro B6 _ _ s X Y row e2 hgr hr,Ro B7 _ _ s X Y row e3 hgr hr⟩) _) ?assign ?body ?done ?stop
  case assign=>
    rintro l pre x W K ⟨⟨i1,i2⟩,i3,i4⟩ hK
    clear hlen h4
    dsimp only[Ay5,gV,cV] at hK⊢
    gi_wp2
    have hb:Below W.heap.size W ((W.alloc (.cells #[.string x.1.name,.int .i64 x.1.policy] 89)).alloc (.cells #[.int .i64 x.2.stamp.n,.int .i64 x.2.stamp.site,.int .i64 x.2.vec.a,.int .i64 x.2.vec.b,.bool x.2.gone,.string x.2.value,.int .i64 x.2.dead.a,.int .i64 x.2.dead.b] 87)):=((Below.refl _ W).alloc (Nat.le_refl _) _).alloc (by simp) _
    exact hK _ _ (GI _ hb) (KB.of_below (hb.mono i4)) ⟨⟨i1,CV i2 hb⟩,i3.trans (hb.mono i3.size),Nat.le_trans i4 hb.size⟩ ⟨W.heap.size,W.heap.size+1,rfl,KR _ (FR _ rfl),FR _ (by simp)⟩
  case body=>
    rintro l pre x a' W hl hr ⟨⟨i1,i2⟩,i3,i5⟩ ⟨B6,B7,rfl,e6,e7⟩ hlt
    obtain⟨k0,k1⟩:=cb2 e6
    obtain⟨m0,m1,m2,m3,m4,m5,m6,m7⟩:=cb8 e7
    have d0:=cb1 i2
    have f0:=fb1 i2
    cases hGx:G x.1.policy x.2 with
    | true=>
      gi_wp2_with (refine⟨trivial,?_⟩;gi_at_call 62;refine(CallsIn.inRound l (callsIn_wide.2 (hC x.1.policy x.2 _ i3))).mono ?_;rw[hGx];rintro e W' ⟨rfl,hb⟩)
      exact⟨GI _ hb,KB.of_below (hb.mono i5),⟨fun y hy=>(List.mem_append.1 hy).elim (i1 y) (fun e=>by simp at e;subst e;exact hGx),CV i2 hb⟩,i3.trans (hb.mono i3.size),Nat.le_trans i5 hb.size⟩
    | false=>
      gi_wp2_with (refine⟨trivial,?_⟩;gi_at_call 62;refine(CallsIn.inRound l (callsIn_wide.2 (hC x.1.policy x.2 _ i3))).mono ?_;rw[hGx];rintro e W' ⟨rfl,hb⟩;have i4:=CV i2 hb;have d4:=cb1 i4;have f4:=fb1 i4)
      exact⟨(GI _ hb).trans ((KeepsOthers.setCell _ _ _).from _),⟨⟨rfl,x,by simp,hGx⟩,Lv (i:=0) i4 (.int .i64 80)⟩,(i3.trans (hb.mono i3.size)).setCell (p:=⟨w.heap.size+1,0,none⟩) (by simp) _,Nat.le_trans i5 (by rw[Vv];exact hb.size)⟩
  case done=>
    rintro D ys W hD rfl ⟨⟨i1,i2⟩,i3,i5⟩ hK
    have d0:=cb1 i2
    have f0:=fb1 i2
    gi_wp2
    have hK':=(KeepsOthers.setCell W ⟨w.heap.size+1,0,none⟩ (.int .i64 0)).same D _ hK rfl
    refine⟨by simp,.inl ⟨_,_,rfl,run_takeDeferred hK',?_⟩⟩
    have hc5:=cell_kept (World.cell?_setCell_same' W ⟨w.heap.size+1,0,none⟩ (.int .i64 0) (by rw[d0];rfl)) (grownBy_putObj' _ D (.deferred none)) (fun r e=>by cases e;exact⟨_,hK',rfl⟩)
    refine⟨.int .i64 0,?_,?_,(i3.setCell (p:=⟨w.heap.size+1,0,none⟩) (by simp) _).trans (belowK_b (w:=w) (Nat.le_refl _) _ D _ _ (by have:=hB2.size;omega) hK' rfl rfl)⟩
    ·simp[results,Tryd.f40,go_sem,hc5]
    ·rw[List.all_eq_true.2 (fun x hx=>i1 x hx)];rfl
  case stop=>
    rintro D c pre W hD ⟨k,hk,rfl⟩ ⟨⟨⟨rfl,x,hx,hGx⟩,i2⟩,i3,i5⟩ hK
    gi_wp2
    refine⟨by simp,.inl ⟨_,_,rfl,run_takeDeferred hK,?_⟩⟩
    have hc5:=cell_kept (cb1 i2) (grownBy_putObj' _ D (.deferred none)) (fun r e=>by cases e;exact⟨_,hK,rfl⟩)
    refine⟨.int .i64 80,?_,?_,i3.trans (belowK_b (w:=w) (Nat.le_refl _) W D _ _ (by have:=hB2.size;omega) hK rfl rfl)⟩
    ·simp[results,Tryd.f40,go_sem,hc5]
    · have:(gs.zip cs).all (fun x=>G x.1.policy x.2)=false:=by
        cases ha:(gs.zip cs).all (fun x=>G x.1.policy x.2) with
        |false=>rfl
        |true=>have:=(List.all_eq_true.1 ha) x (List.mem_of_mem_take hx);rw[hGx] at this;cases this
      rw[this];rfl
end Go.Proofs.YtifkbgkbajncjaaDoor
namespace Go.Proofs.YtifkbgkbajncjaaDoor
open Go.RowKit
def CK (l:List Af) (r:Aq):Int:=bif B1 l !=0 then B1 l else bif r.key.size==0 then 2 else bif decide (32 <r.key.size) then 3 else bif r.cells.length !=l.length then 100 else bif(l.zip r.cells).all (fun x=>O9 x.1.policy x.2) then 0 else 80
def Yu (a0:List Af) (a1:Aq):A:=.v (.int .i64 (CK a0 a1))
def Yt (_a0:List Af) (_a1:Aq):Objs:=[]
def Vt (_a0:List Af) (_a1:Aq):List Prop:=[]
theorem Aji (k:ByteArray):k.toList.isEmpty=(k.size==0):=by
 rw[ByteArray.toList_eq,Bool.eq_iff_iff,List.isEmpty_iff,beq_iff_eq,←NU]
 exact⟨fun h=>by rw[h];rfl,fun h=>List.eq_nil_of_length_eq_zero h⟩
theorem Azu (l:List Af) (key:ByteArray) (cs:List Au):Ni (B1 l) O9 l key cs=CK l ⟨key,cs⟩:=by
 unfold Ni CK
 rw[Aji]
 have e3:decide (32 <((key.size:Nat):Int))=decide (32 <key.size):=decide_eq_decide.2 (by omega)
 have e4:(((cs.length:Nat):Int) !=(l.length:Int))=(cs.length !=l.length):=by
  rw[Bool.eq_iff_iff,bne_iff_ne,bne_iff_ne];omega
 simp only[Bool.cond_eq_ite,e4,decide_eq_true_eq,show(32 <((key.size:Nat):Int))=(32 <key.size) from propext (by omega)]
theorem Ahy {R:World} {ad:Addr} {v:Value} (h:R.cell? ad=some v):ad=⟨ad.block,ad.off,none⟩:=by
 cases ad with|mk b o s=>
 cases s with
 |none=>rfl
 |some q=>
  exfalso
  unfold World.cell? at h
  cases hb:R.heap[b]? with
  |none=>simp only[hb] at h;cases h
  |some ob=>cases ob<;>simp[hb] at h
theorem A2v (b o k j:Nat):((⟨b,o,none⟩:Addr).add k).add j=⟨b,o+k+j,none⟩:=by
 rw[Bv,Bv]
section
variable {F:Nat→Prop} {N:Nm} {nx:Nat} {R:World}
theorem HC.at0 {l:List A} {b o k j:Nat} {x:Value} (h:HC F N nx R l ((⟨b,o,none⟩:Addr).add k)) (hx:l[j]?=some (.v x)):R.cell? ⟨b,o+k+j,none⟩=some x:=by
 obtain⟨y,h1,h2⟩:=h j _ hx
 rw[A2v] at h1
 rw[h1,h2.v_inv]
theorem A6q {gs:List Af} {v:Value} (hF:∀g,F g→g <R.heap.size) (h:Hv F N nx R (.sl .group gs) v):
  ∃a cap,v=.slice a gs.length cap∧(0 <gs.length→∃b off,a=some ⟨b,off,none⟩∧GsAt R.heap.size R.heap.size R b off gs):=by
 obtain⟨a,cap,e,_,h2⟩:=h.sl_inv
 refine⟨a,cap,e,fun hn=>?_⟩
 obtain⟨ad,rfl,hb,h3⟩:=h2 hn
 have hlt:=hF _ hb
 obtain⟨y,hy,_⟩:=h3 0 gs[0] (List.getElem?_eq_getElem hn) 0 (.v (.string gs[0].name)) rfl
 rw[Nat.zero_mul,add_zero,add_zero] at hy
 have hs:=Ahy hy
 rw[hs] at h3⊢
 refine⟨ad.block,ad.off,rfl,⟨hlt,Nat.ne_of_lt hlt⟩,fun j g hj=>?_⟩
 have h4:=h3 j g hj
 exact⟨h4.at0 (j:=0) (x:=.string g.name) rfl,h4.at0 (j:=1) (x:=.int .i64 g.policy) rfl⟩
theorem A6n {cs:List Au} {v:Value} (hF:∀g,F g→g <R.heap.size) (h:Hv F N nx R (.sl .cell cs) v):
  ∃a cap,v=.slice a cs.length cap∧(0 <cs.length→∃b off,a=some ⟨b,off,none⟩∧CsAt R.heap.size R.heap.size R b off cs):=by
 obtain⟨a,cap,e,_,h2⟩:=h.sl_inv
 refine⟨a,cap,e,fun hn=>?_⟩
 obtain⟨ad,rfl,hb,h3⟩:=h2 hn
 have hlt:=hF _ hb
 obtain⟨y,hy,_⟩:=h3 0 cs[0] (List.getElem?_eq_getElem hn) 0 (.v (.int .i64 cs[0].stamp.n)) rfl
 rw[Nat.zero_mul,add_zero,add_zero] at hy
 have hs:=Ahy hy
 rw[hs] at h3⊢
 refine⟨ad.block,ad.off,rfl,⟨hlt,Nat.ne_of_lt hlt⟩,fun j c hj=>?_⟩
 have h4:=h3 j c hj
 exact⟨h4.at0 (j:=0) (x:=.int .i64 c.stamp.n) rfl,h4.at0 (j:=1) (x:=.int .i64 c.stamp.site) rfl,h4.at0 (j:=2) (x:=.int .i64 c.vec.a) rfl,h4.at0 (j:=3) (x:=.int .i64 c.vec.b) rfl,h4.at0 (j:=4) (x:=.bool c.gone) rfl,h4.at0 (j:=5) (x:=.string c.value) rfl,h4.at0 (j:=6) (x:=.int .i64 c.dead.a) rfl,h4.at0 (j:=7) (x:=.int .i64 c.dead.b) rfl⟩
theorem HRel.bare (hF:∀g,F g→g <R.heap.size) (hg:GlobOk F R):HRel F N 0 [] R:=⟨hF,fun _ _ h=>(by cases h),fun _ _ _ h=>(by cases h),fun _ _ _ _ _ h=>(by cases h),hg⟩
end
theorem CallOk.plain {P:Program} {f:FuncId} {args:List A} {x:Value} (h:CallOk P f args 0 [] 1 (.v x) 0 []) {F:Nat→Prop} {N:Nm} {R:World} {vs:List Value} (hF:∀g,F g→g <R.heap.size) (hg:GlobOk F R) (hv:HL F N 0 R args vs):
  Calls P f vs.toArray R fun e R'=>e=.returned x∧Below R.heap.size R R':=
 (h F N R vs (HRel.bare hF hg) hv).mono fun e R' ⟨y,F',N',e1,_,_,h4,h5⟩=>⟨by rw[e1,h4.v_inv],h5 (Nat.le_refl _)⟩
theorem Ys (a0:List Af) (a1:Aq) (_hp:∀p∈Vt a0 a1,p):CallOk Tryd.prog 40 [.sl .group a0,Ar .row a1] 0 [] 1 (Yu a0 a1) 0 (Yt a0 a1):=by
 intro F N R vs hR hv
 obtain⟨v0,vs,rfl,h0,hv⟩:=hv.inv
 obtain⟨v1,vs,rfl,h1,hv⟩:=hv.inv
 rw[hv.inv0]
 obtain⟨us,rfl,h2⟩:=Hv.agg_inv (xs:=[.v (.string a1.key),.sl .cell a1.cells]) h1
 clear h1
 have h1:=h2
 obtain⟨u0,us,rfl,k0,h1⟩:=h1.inv
 obtain⟨u1,us,rfl,k1,h1⟩:=h1.inv
 rw[h1.inv0]
 rw[k0.v_inv]
 obtain⟨aa,cap0,rfl,g0⟩:=A6q hR.flt h0
 obtain⟨ab,cap1,rfl,g1⟩:=A6n hR.flt k1
 refine(Ao9 R aa ab a0 a1.cells a1.key cap0 cap1 (B1 a0) O9 ?_ ZN ?_ g0 g1).mono ?_
 ·intro W hW
  exact(QK a0 (fun _ h=>by cases h)).plain (F:=F) (N:=N) (vs:=[_]) (hR.grow hW).1.flt (hR.grow hW).1.gl (HL.cons (h0.step (hR.grow hW).2) HL.nil)
 ·intro q c W hW
  have h:=(XA q c (fun _ h=>by cases h)).plain (F:=F) (N:=N) (R:=W) (vs:=[.int .i64 q,cV c]) (hR.grow hW).1.flt (hR.grow hW).1.gl (HL.cons (.v _) (HL.cons (.v _) HL.nil))
  rw[Oe] at h
  exact h
 ·rintro e W ⟨rfl,hb⟩
  rw[Azu]
  exact⟨_,F,N,rfl,(hR.grow hb).1,Step.of_below hb,.v _,fun _=>hb⟩
def Adr:List A→Nat→Objs→Option CJ:=Fc [.l .group,.t .row] 0 Yu Yt Vt
theorem Akq:IV Tryd.prog 40 Adr:=AM (ks:=[.l .group,.t .row]) Ys
noncomputable def A80:=CA 40 Adr Ch
theorem A2n:FM Tryd.prog A80:=Az Akq A8z
noncomputable def Ci:=A80
theorem A52:FM Tryd.prog Ci:=A2n
end Go.Proofs.YtifkbgkbajncjaaDoor
namespace Go.Proofs.YtifkbgkbajncjaaDoor
open Go.RowKit
def eqC (a b:Au):Bool:=a.stamp.n==b.stamp.n&&a.stamp.site==b.stamp.site&&(a.vec.a==b.vec.a&&a.vec.b==b.vec.b)&&a.gone==b.gone&&a.value==b.value&&(a.dead.a==b.dead.a&&a.dead.b==b.dead.b)
def Aaz:List Au→List Au→Bool
 | [],[]=>true
 |x::xs,y::ys=>eqC x y&&Aaz xs ys
 |_,_=>false
def Anb (a b:Aq):Bool:=a.key==b.key&&Aaz a.cells b.cells
def Xw (r:Aq):Bool:=r.cells.all fun c=>eqC c YR
theorem Ajc {a b:Au}:eqC a b=true↔a=b:=by
 unfold eqC
 simp only[Bool.and_eq_true,beq_iff_eq]
 constructor
 ·rintro⟨⟨⟨⟨⟨h1,h2⟩,h3,h4⟩,h5⟩,h6⟩,h7,h8⟩
  cases a with|mk s v g t d=>cases b with|mk s' v' g' t' d'=>
  cases s;cases s';cases v;cases v';cases d;cases d'
  cases h1;cases h2;cases h3;cases h4;cases h5;cases h6;cases h7;cases h8
  rfl
 ·rintro rfl
  exact⟨⟨⟨⟨⟨rfl,rfl⟩,rfl,rfl⟩,rfl⟩,rfl⟩,rfl,rfl⟩
theorem Aa0:∀{a b:List Au},Aaz a b=true↔a=b
 | [],[]=>by simp[Aaz]
 | [],_::_=>by simp[Aaz]
 |_::_,[]=>by simp[Aaz]
 |x::xs,y::ys=>by
  unfold Aaz
  rw[Bool.and_eq_true,Ajc,Aa0]
  simp
theorem A7s:∀(a b:List Au),a.length=b.length→Aaz a b=Ml a.length (fun i=>eqC (a.getD i (Aj TC.cell)) (b.getD i (Aj TC.cell))):=fun a b h=>by
 rw[Bool.eq_iff_iff,Aa0,JG]
 constructor
 ·rintro rfl i _
  exact Ajc.2 rfl
 ·intro g
  refine List.ext_getElem h fun i h1 h2=>?_
  have:=Ajc.1 (g i h1)
  rw[List.getD_eq_getElem?_getD,List.getD_eq_getElem?_getD,List.getElem?_eq_getElem h1,List.getElem?_eq_getElem h2] at this
  exact this
def TH (a0:Au) (a1:Au):Bool:=a0.1.1==a1.1.1&&a0.1.2==a1.1.2&&(a0.2.1==a1.2.1&&a0.2.2==a1.2.2)&&a0.3==a1.3&&a0.4.toList==a1.4.toList&&(a0.5.1==a1.5.1&&a0.5.2==a1.5.2)
def TI (a0:Au) (a1:Au):A:=.v (.bool (TH a0 a1))
def Ac0 (_a0:Au) (_a1:Au):Objs:=[]
def Ya (_a0:Au) (_a1:Au):List Prop:=[]
theorem Aox (a0:Au) (a1:Au):I6 (AI Ci L0) 9 69 [Ar .cell a0,Ar .cell a1] 0 []=some (1,TI a0 a1,0,Ac0 a0 a1,Ya a0 a1):=by kernel_rfl
theorem Ar4 (a0:Au) (a1:Au) (hp:∀p∈Ya a0 a1,p):CallOk Tryd.prog 69 [Ar .cell a0,Ar .cell a1] 0 [] 1 (TI a0 a1) 0 (Ac0 a0 a1):=AW (AJ A52 AX) (Aox a0 a1) hp
def Yb (a0:Au) (a1:Au):A:=.v (.bool (eqC a0 a1))
def X9 (_a0:Au) (_a1:Au):Objs:=[]
def Ve (_a0:Au) (_a1:Au):List Prop:=[]
theorem Aow (a0:Au) (a1:Au) (_hp:∀p∈Ve a0 a1,p):CallOk Tryd.prog 69 [Ar .cell a0,Ar .cell a1] 0 [] 1 (Yb a0 a1) 0 (X9 a0 a1):=by
 have h:=Ar4 a0 a1 (fun _ h=>by cases h)
 have e:TH a0 a1=eqC a0 a1:=by unfold TH;rw[tlb];rfl
 unfold TI at h
 rw[e] at h
 exact h
def Ac1:List A→Nat→Objs→Option CJ:=Fc [.t .cell,.t .cell] 0 Yb X9 Ve
theorem Akc:IV Tryd.prog 69 Ac1:=AM (ks:=[.t .cell,.t .cell]) Aow
noncomputable def Axo:=CA 69 Ac1 Ci
theorem Aif:FM Tryd.prog Axo:=Az Akc A52
abbrev BF:Type:=Int×Aq×Aq
def JC (x:BF):St:=⟨39,2,[(2,.own 0 0),(3,.own 1 0),(5,.v (.int .i64 x.1))],[(0,some (.box 60 [.v (.string x.2.1.key),.sl .cell x.2.1.cells])),(1,some (.box 60 [.v (.string x.2.2.key),.sl .cell x.2.2.cells]))]⟩
def Lr:St→Option BF
 |⟨39,2,[(2,.own 0 0),(3,.own 1 0),(5,.v (.int .i64 z0))],[(0,some (.box 60 [.v (.string z1),.sl .cell z2])),(1,some (.box 60 [.v (.string z3),.sl .cell z4]))]⟩=>some (z0,⟨z1,z2⟩,⟨z3,z4⟩)
 |_=>none
theorem Xb:∀s x,Lr s=some x→s=JC x:=fun s x h=>by
 unfold Lr at h
 split at h
 ·cases h;rfl
 ·cases h
def SJ:F4:=⟨2,2,[2,3,5],[],[(0,0),(1,1)],[0,1],[4],[0,1]⟩
def Afi:Gi:=⟨[],[(0,0),(1,1)],[2,3,5],[0,1]⟩
def Gn (a0:Int) (a1:Aq) (_a2:Aq):Bool:=!!decide (a0 <(↑a1.2.length:Int))
def C1 (a0:Int) (a1:Aq) (a2:Aq):Bool:=(Gn a0 a1 a2)&&!eqC (a1.2.getD a0.toNat (Aj TC.cell)) (a2.2.getD a0.toNat (Aj TC.cell))
def Zr (a0:Int) (a1:Aq) (a2:Aq):Bool:=(Gn a0 a1 a2)&&!(C1 a0 a1 a2)
def DP (x:BF):BF:=(IntKind.i64.wrap (x.1+(1:Int)),x.2.1,x.2.2)
def DO (x:BF):Cnd:=some (Zr x.1 x.2.1 x.2.2)
def Ke (x:BF):List Prop:=[((Gn x.1 x.2.1 x.2.2)=true→(0:Int)≤x.1∧x.1 <(↑x.2.1.2.length:Int)),((Gn x.1 x.2.1 x.2.2)=true→(0:Int)≤x.1∧x.1 <(↑x.2.2.2.length:Int))]
abbrev Gp:BF→List Prop:=Ke
def NO (x:BF):Bh:=[(some 0,some (!decide (x.1 <(↑x.2.1.2.length:Int))),⟨39,2,[(4,.dead)],[(0,some (.box 60 [.v (.string x.2.1.1),.sl .cell x.2.1.2])),(1,some (.box 60 [.v (.string x.2.2.1),.sl .cell x.2.2.2]))]⟩),(none,some ((C1 x.1 x.2.1 x.2.2)),⟨39,2,[(4,.v (.bool (false)))],[(0,some (.box 60 [.v (.string x.2.1.1),.sl .cell x.2.1.2])),(1,some (.box 60 [.v (.string x.2.2.1),.sl .cell x.2.2.2]))]⟩)]
def Fq (x:BF):Nat:=((↑x.2.1.2.length:Int) - x.1).toNat
def Zt (x:BF):BF:=Ba DP DO (Fq x) x
theorem Ac9 (a0:Int) (a1:Aq) (a2:Aq):Dq (AI Axo L0) 9 (An Tryd.prog 55 0) SJ (JC (a0,a1,a2))=some (Ke (a0,a1,a2),NO (a0,a1,a2),DO (a0,a1,a2),JC (DP (a0,a1,a2))):=by kernel_rfl
theorem Ada (a0:Int) (a1:Aq) (a2:Aq) (hp:∀p∈Gp (a0,a1,a2),p):∀p∈Ke (a0,a1,a2),p:=hp
noncomputable def Po:=Jl (AI Axo L0) (An Tryd.prog 55 0) SJ Afi Lr Fq DP DO Gp NO
theorem Zs:∀s b ps outs,Po s=some (b,ps,outs)→Wf s ⟨ps,outs,none⟩∧DE (AI C0 L0) b s ps outs:=
 C5 (T:=JC) Aif AX (u:=9) (by kernel_rfl) (by decide) (fun⟨a0,a1,a2⟩=>Ac9 a0 a1 a2) (fun⟨a0,a1,a2⟩=>Ada a0 a1 a2) Xb (fun _=>Bc (n:=39) rfl) fun _ _=>rfl
noncomputable def SI:=Gt 0 Po L0
theorem Zq:Ij SI:=BK Zs AX
def G9 (a0:Aq) (a1:Aq):BF:=Zt ((0:Int),a0,a1)
def Gu (a0:Aq) (a1:Aq):Bool:=!a0.1.toList==a1.1.toList||(↑a0.2.length:Int) !=(↑a1.2.length:Int)
def TK (a0:Aq) (a1:Aq):Bool:=bif(Gu a0 a1) then false else bif C1 (G9 a0 a1).fst (G9 a0 a1).snd.fst (G9 a0 a1).snd.snd then false else true
def TL (a0:Aq) (a1:Aq):A:=.v (.bool (TK a0 a1))
def Adb (_a0:Aq) (_a1:Aq):Objs:=[]
def Yf (a0:Aq) (a1:Aq):List Prop:=[((!(Gu a0 a1))=true→AN DP DO Gp (Fq ((0:Int),a0,a1)) ((0:Int),a0,a1))]
theorem Ao0 (a0:Aq) (a1:Aq):I6 (AI Axo SI) 9 55 [Ar .row a0,Ar .row a1] 0 []=some (1,TL a0 a1,0,Adb a0 a1,[((!(Gu a0 a1))=true→An Tryd.prog (55:FuncId) (0:Nat)=An Tryd.prog (55:FuncId) (0:Nat)),((!(Gu a0 a1))=true→AN DP DO Gp (Fq ((0:Int),a0,a1)) ((0:Int),a0,a1))]):=by kernel_rfl
theorem Ar7 (a0:Aq) (a1:Aq) (hp:∀p∈Yf a0 a1,p):CallOk Tryd.prog 55 [Ar .row a0,Ar .row a1] 0 [] 1 (TL a0 a1) 0 (Adb a0 a1):=by
 have n0:((!(Gu a0 a1))=true→An Tryd.prog (55:FuncId) (0:Nat)=An Tryd.prog (55:FuncId) (0:Nat)):=by intros;rfl
 have n1:=N0 hp
 exact AW (AJ Aif Zq) (Ao0 a0 a1) (Aa n0 (Aa n1 Am))
def Yg (a0:Aq) (a1:Aq):A:=.v (.bool (Anb a0 a1))
def Ye (_a0:Aq) (_a1:Aq):Objs:=[]
def Vh (a0:Aq) (_a1:Aq):List Prop:=[Ai a0.cells.length]
theorem Yd (a b:Aq) (hb:Ai a.cells.length):(∀p∈Yf a b,p)∧TK a b=Anb a b:=by
 unfold Ai at hb
 have hk0:Gu a b=(!(a.key==b.key)||a.cells.length !=b.cells.length):=by
  show(!(a.key.toList==b.key.toList)||((a.cells.length:Int) !=(b.cells.length:Int)))=_
  rw[tlb]
  congr 1
  rw[Bool.eq_iff_iff,bne_iff_ne,bne_iff_ne];omega
 have main:Gu a b=false→AN DP DO Gp (Fq (0,a,b)) (0,a,b)∧C1 (G9 a b).fst (G9 a b).snd.fst (G9 a b).snd.snd=!Aaz a.cells b.cells:=fun h0=>by
  rw[hk0] at h0
  have hlen:a.cells.length=b.cells.length:=by simpa using(Bool.or_eq_false_iff.1 h0).2
  have hf:∀i:Nat,C1 (i:Int) a b=(decide (i <a.cells.length)&&!eqC (a.2.getD i (Aj TC.cell)) (b.2.getD i (Aj TC.cell))):=fun i=>by
   unfold C1 Gn
   rw[nn,Ux,Int.toNat_natCast]
  obtain⟨h1,k,hk,hx,_,_,hb'⟩:=Adw (fun i=>(((i:Int),a,b):BF)) a.cells.length (fun i=>!eqC (a.2.getD i (Aj TC.cell)) (b.2.getD i (Aj TC.cell))) DP DO Gp (Fq (0,a,b)) (0,a,b) rfl (by show a.cells.length≤((a.cells.length:Int) - 0).toNat;omega)
   (fun i _ _=>by
    show((!!decide ((i:Int) <(a.cells.length:Int)))&&!C1 i a b)=_
    rw[hf,nn,Ux]
    cases decide (i <a.cells.length)<;>rfl)
   (fun i hi _=>by
    show(IntKind.i64.wrap ((i:Int)+1),a,b)=(((i+1:Nat):Int),a,b)
    rw[IT (by omega)])
   (fun i _ _=>by
    have hin:(!!decide ((i:Int) <(a.cells.length:Int)))=true→(i:Int) <(a.cells.length:Int):=fun h=>by rw[nn] at h;exact of_decide_eq_true h
    exact Aa (fun h=>⟨by show(0:Int)≤(i:Int);omega,hin h⟩) (Aa (fun h=>⟨by show(0:Int)≤(i:Int);omega,by have:=hin h;show(i:Int) <(b.cells.length:Int);omega⟩) Am))
  refine⟨h1,?_⟩
  have hr:G9 a b=((k:Int),a,b):=hx
  rw[hr]
  show C1 (k:Int) a b=_
  rw[hf,hb',A7s _ _ hlen]
  congr 1
  exact Oa fun i _=>Bool.not_not _
 refine⟨Aa (fun h=>(main (by simpa using h)).1) Am,?_⟩
 unfold TK Anb
 cases h0:Gu a b with
 | true=>
  rw[hk0] at h0
  rw[cond_true]
  cases hk:a.key==b.key with
  |false=>rfl
  |true=>
   rw[hk] at h0
   have hne:a.cells.length≠b.cells.length:=by simpa using h0
   cases he:Aaz a.cells b.cells with
   |false=>rfl
   |true=>exact absurd (congrArg List.length (Aa0.1 he)) hne
 |false=>
  rw[cond_false,(main h0).2]
  rw[hk0] at h0
  have:(a.key==b.key)=true:=by simpa using(Bool.or_eq_false_iff.1 h0).1
  rw[this,Bool.true_and]
  cases Aaz a.cells b.cells<;>rfl
theorem Aoz (a0:Aq) (a1:Aq) (hp:∀p∈Vh a0 a1,p):CallOk Tryd.prog 55 [Ar .row a0,Ar .row a1] 0 [] 1 (Yg a0 a1) 0 (Ye a0 a1):=by
 have hb:Ai a0.cells.length:=hp _ (List.mem_cons_self ..)
 have h:=Ar7 a0 a1 (Yd a0 a1 hb).1
 unfold TL at h
 rw[(Yd a0 a1 hb).2] at h
 exact h
def Adc:List A→Nat→Objs→Option CJ:=Fc [.t .row,.t .row] 0 Yg Ye Vh
theorem Ake:IV Tryd.prog 55 Adc:=AM (ks:=[.t .row,.t .row]) Aoz
noncomputable def Axp:=CA 55 Adc Axo
theorem Aig:FM Tryd.prog Axp:=Az Ake Aif
abbrev BG:Type:=(List Au)×Int×Int
def JD (x:BG):St:=⟨16,1,[(6,.sl .cell x.1),(7,.v (.int .i64 x.2.1)),(8,.v (.int .i64 x.2.2))],[]⟩
def Lu:St→Option BG
 |⟨16,1,[(6,.sl .cell z0),(7,.v (.int .i64 z1)),(8,.v (.int .i64 z2))],[]⟩=>some (z0,z1,z2)
 |_=>none
theorem Xf:∀s x,Lu s=some x→s=JD x:=fun s x h=>by
 unfold Lu at h
 split at h
 ·cases h;rfl
 ·cases h
def SP:F4:=⟨1,1,[6,7,8],[],[],[],[2],[]⟩
def Afm:Gi:=⟨[],[],[6,7,8],[]⟩
def DT (a0:List Au) (a1:Int) (a2:Int):Bool:=!!decide (a2 <a1)&&!((a0.getD a2.toNat (Aj TC.cell)).1.1==(0:Int)&&(a0.getD a2.toNat (Aj TC.cell)).1.2==(0:Int)&&((a0.getD a2.toNat (Aj TC.cell)).2.1==(0:Int)&&(a0.getD a2.toNat (Aj TC.cell)).2.2==(0:Int)&&((a0.getD a2.toNat (Aj TC.cell)).3==false&&((a0.getD a2.toNat (Aj TC.cell)).4.toList==(ByteArray.mk #[]).toList&&((a0.getD a2.toNat (Aj TC.cell)).5.1==(0:Int)&&(a0.getD a2.toNat (Aj TC.cell)).5.2==(0:Int))))))
def ZA (a0:List Au) (a1:Int) (a2:Int):Bool:=!!decide (a2 <a1)&&!(DT a0 a1 a2)
def Fs (x:BG):BG:=(x.1,x.2.1,IntKind.i64.wrap (x.2.2+(1:Int)))
def Fr (x:BG):Cnd:=some (ZA x.1 x.2.1 x.2.2)
def Kg (x:BG):List Prop:=[((!!decide (x.2.2 <x.2.1))=true→(0:Int)≤x.2.2∧x.2.2 <(↑x.1.length:Int))]
abbrev Ha:BG→List Prop:=Kg
def NT (x:BG):Bh:=[(some 0,some (!decide (x.2.2 <x.2.1)),⟨16,1,[(2,.dead)],[]⟩),(none,some ((DT x.1 x.2.1 x.2.2)),⟨16,2,[(2,.v (.bool (false)))],[]⟩)]
def Gr (x:BG):Nat:=(x.2.1 - x.2.2).toNat
def ZC (x:BG):BG:=Ba Fs Fr (Gr x) x
theorem Adn (a0:List Au) (a1:Int) (a2:Int):Dq (AI Axp L0) 9 (An Tryd.prog 61 0) SP (JD (a0,a1,a2))=some (Kg (a0,a1,a2),NT (a0,a1,a2),Fr (a0,a1,a2),JD (Fs (a0,a1,a2))):=by kernel_rfl
theorem Ado (a0:List Au) (a1:Int) (a2:Int) (hp:∀p∈Ha (a0,a1,a2),p):∀p∈Kg (a0,a1,a2),p:=hp
noncomputable def Pu:=Jl (AI Axp L0) (An Tryd.prog 61 0) SP Afm Lu Gr Fs Fr Ha NT
theorem ZB:∀s b ps outs,Pu s=some (b,ps,outs)→Wf s ⟨ps,outs,none⟩∧DE (AI C0 L0) b s ps outs:=
 C5 (T:=JD) Aig AX (u:=9) (by kernel_rfl) (by decide) (fun⟨a0,a1,a2⟩=>Adn a0 a1 a2) (fun⟨a0,a1,a2⟩=>Ado a0 a1 a2) Xf (fun _=>Bc (n:=16) rfl) fun _ _=>rfl
noncomputable def SO:=Gt 0 Pu L0
theorem Zz:Ij SO:=BK ZB AX
def Mi (a0:Aq):BG:=ZC (a0.2,(↑a0.2.length:Int),(0:Int))
def TP (a0:Aq):Bool:=bif DT (Mi a0).fst (Mi a0).snd.fst (Mi a0).snd.snd then false else true
def TQ (a0:Aq):A:=.v (.bool (TP a0))
def Adp (_a0:Aq):Objs:=[]
def Yq (a0:Aq):List Prop:=[(AN Fs Fr Ha (Gr (a0.2,(↑a0.2.length:Int),(0:Int))) (a0.2,(↑a0.2.length:Int),(0:Int)))]
theorem Apc (a0:Aq):I6 (AI Axp SO) 9 61 [Ar .row a0] 0 []=some (1,TQ a0,0,Adp a0,[(An Tryd.prog (61:FuncId) (0:Nat)=An Tryd.prog (61:FuncId) (0:Nat)),(AN Fs Fr Ha (Gr (a0.2,(↑a0.2.length:Int),(0:Int))) (a0.2,(↑a0.2.length:Int),(0:Int)))]):=by kernel_rfl
theorem Asi (a0:Aq) (hp:∀p∈Yq a0,p):CallOk Tryd.prog 61 [Ar .row a0] 0 [] 1 (TQ a0) 0 (Adp a0):=by
 have n1:=N0 hp
 exact AW (AJ Aig Zz) (Apc a0) (Aa rfl (Aa n1 Am))
def Yr (a0:Aq):A:=.v (.bool (Xw a0))
def Yp (_a0:Aq):Objs:=[]
def Vs (a0:Aq):List Prop:=[Ai a0.cells.length]
theorem Yo (a:Aq) (hb:Ai a.cells.length):(∀p∈Yq a,p)∧TP a=Xw a:=by
 unfold Ai at hb
 have hz:∀c:Au,(c.1.1==(0:Int)&&c.1.2==(0:Int)&&(c.2.1==(0:Int)&&c.2.2==(0:Int)&&(c.3==false&&(c.4.toList==(ByteArray.mk #[]).toList&&(c.5.1==(0:Int)&&c.5.2==(0:Int))))))=eqC c YR:=fun c=>by
  rw[tlb]
  unfold eqC YR
  simp only[Bool.and_assoc]
 have hf:∀i:Nat,DT a.2 (a.2.length:Int) (i:Int)=(decide (i <a.cells.length)&&!eqC (a.2.getD i (Aj TC.cell)) YR):=fun i=>by
  unfold DT
  rw[nn,Ux,Int.toNat_natCast,hz]
 obtain⟨h1,k,hk,hx,_,_,hb'⟩:=Adw (fun i=>((a.2,(a.2.length:Int),(i:Int)):BG)) a.cells.length (fun i=>!eqC (a.2.getD i (Aj TC.cell)) YR) Fs Fr Ha (Gr (a.2,(a.2.length:Int),0)) (a.2,(a.2.length:Int),0) rfl (by show a.cells.length≤((a.cells.length:Int) - 0).toNat;omega)
  (fun i _ _=>by
   show((!!decide ((i:Int) <(a.cells.length:Int)))&&!DT a.2 (a.2.length:Int) i)=_
   rw[hf,nn,Ux]
   cases decide (i <a.cells.length)<;>rfl)
  (fun i hi _=>by
   show(a.2,(a.2.length:Int),IntKind.i64.wrap ((i:Int)+1))=(a.2,(a.2.length:Int),((i+1:Nat):Int))
   rw[IT (by omega)])
  (fun i _ _=>Aa (fun h=>⟨by show(0:Int)≤(i:Int);omega,by
   have h':(!!decide ((i:Int) <(a.cells.length:Int)))=true:=h
   rw[nn] at h';exact of_decide_eq_true h'⟩) Am)
 refine⟨Aa h1 Am,?_⟩
 have hr:Mi a=(a.2,(a.2.length:Int),(k:Int)):=hx
 unfold TP
 rw[hr]
 show(bif DT a.2 (a.2.length:Int) (k:Int) then false else true)=_
 rw[hf,hb']
 unfold Xw
 rw[A9c a.cells (Aj TC.cell)]
 rw[show Ml a.cells.length (fun i=>!!eqC (a.2.getD i (Aj TC.cell)) YR)=Ml a.cells.length (fun i=>eqC (a.cells.getD i (Aj TC.cell)) YR) from Oa fun i _=>Bool.not_not _]
 cases Ml a.cells.length (fun i=>eqC (a.cells.getD i (Aj TC.cell)) YR)<;>rfl
theorem Apb (a0:Aq) (hp:∀p∈Vs a0,p):CallOk Tryd.prog 61 [Ar .row a0] 0 [] 1 (Yr a0) 0 (Yp a0):=by
 have hb:Ai a0.cells.length:=hp _ (List.mem_cons_self ..)
 have h:=Asi a0 (Yo a0 hb).1
 unfold TQ at h
 rw[(Yo a0 hb).2] at h
 exact h
def Adq:List A→Nat→Objs→Option CJ:=Fc [.t .row] 0 Yr Yp Vs
theorem Akp:IV Tryd.prog 61 Adq:=AM (ks:=[.t .row]) Apb
noncomputable def A81:=CA 61 Adq Axp
theorem A2o:FM Tryd.prog A81:=Az Akp Aig
noncomputable def Cj:=A81
theorem A82:FM Tryd.prog Cj:=A2o
end Go.Proofs.YtifkbgkbajncjaaDoor
namespace Go.Proofs.YtifkbgkbajncjaaDoor
open Go.RowKit
noncomputable def Ck:=Cj
theorem A83:FM Tryd.prog Ck:=A82
end Go.Proofs.YtifkbgkbajncjaaDoor
namespace Go.Proofs.YtifkbgkbajncjaaDoor
open Go.RowKit
theorem Wt {l:List Af} {r:Aq} (h:CK l r=0):B1 l=0∧r.cells.length=l.length∧r.key.size≠0∧r.key.size≤32∧(l.zip r.cells).all (fun x=>O9 x.1.policy x.2)=true:=by
 unfold CK at h
 cases h1:B1 l !=0 with
 |true=>rw[h1,cond_true] at h;rw[h] at h1;cases h1
 | false=>
  rw[h1,cond_false] at h
  cases h2:r.key.size==0 with
  |true=>rw[h2] at h;cases h
  | false=>
   rw[h2,cond_false] at h
   cases h3:decide (32 <r.key.size) with
   |true=>rw[h3] at h;cases h
   | false=>
    rw[h3,cond_false] at h
    cases h4:r.cells.length !=l.length with
    |true=>rw[h4] at h;cases h
    | false=>
     rw[h4,cond_false] at h
     cases h5:(l.zip r.cells).all (fun x=>O9 x.1.policy x.2) with
     |false=>rw[h5] at h;cases h
     |true=>
      have:=of_decide_eq_false h3
      exact⟨by simpa using h1,by simpa using h4,by simpa using h2,by omega,rfl⟩
noncomputable def Cl:=Ck
theorem Axq:FM Tryd.prog Cl:=A83
end Go.Proofs.YtifkbgkbajncjaaDoor
namespace Go.Proofs.YtifkbgkbajncjaaDoor
open Go.RowKit Go.Shelf
attribute [local go_sem] Oper.semAt_some
def OwnB (base:Nat) (W:World) (y:Value) (bs:List UInt8):Prop:=OwnR W 5 1 y bs.length (bs.map A4)∧∀g,BO y=some g→base≤g
theorem OwnB.keep {base:Nat} {W W':World} {y:Value} {bs:List UInt8} (h:OwnB base W y bs) (hk:∀g,base≤g→BO y=some g→W'.heap[g]?=W.heap[g]?):OwnB base W' y bs:=⟨h.1.keep fun g hg=>hk g (h.2 g hg) hg,h.2⟩
theorem OwnB.mono {b b':Nat} {W:World} {y:Value} {bs:List UInt8} (h:OwnB b W y bs) (hb:b'≤b):OwnB b' W y bs:=⟨h.1,fun g hg=>Nat.le_trans hb (h.2 g hg)⟩
theorem A0k (b0 b:Nat) (t:TypeId) (f:List (Af×Au)→List UInt8):Own (fun s W=>∃y,W.heap[b0]?=some (.cells #[y] t (0,0))∧OwnB b W y (f s)):=fun s W W' row ⟨y,h1,h2⟩ hg hr=>by
 have key:∀(g:Nat) (o:Obj),W.heap[g]?=some o→o.isCells=true→W'.heap[g]?=W.heap[g]?:=fun g o ho hc=>by
  refine hg.block g (Fv ho) fun e=>?_
  obtain⟨o',h3,h4⟩:=hr g e.symm
  rw[ho] at h3
  cases h3
  rw[hc] at h4
  cases h4
 refine⟨y,(key b0 _ h1 rfl).trans h1,h2.keep fun g _ hgy=>?_⟩
 rcases h2.1.2 with⟨a,e1,_⟩|⟨g',cap,cur,e1,e3,_⟩
 ·rw[e1] at hgy;cases a<;>cases hgy
 ·rw[e1] at hgy
  cases hgy
  exact key _ _ e3 rfl
theorem OwnB.form {base:Nat} {W:World} {y:Value} {bs:List UInt8} (h:OwnB base W y bs):∃a n c,y=.slice a n c:=by
 obtain⟨a,c,e,_⟩:=h.1.form
 exact⟨a,_,c,e⟩
theorem KB.setCell {n₀ X:Nat} (W:World) (v:Value):KB n₀ X W (W.setCell ⟨X,0,none⟩ v):=
 ⟨rfl,rfl,rfl,by rw[Vv];exact Nat.le_refl _,fun k _ hk=>Below.heap_setCell W ⟨X,0,none⟩ v k hk⟩
theorem Anl {α:Type} (F:α→List UInt8) (n:Nat) (h:∀x,(F x).length≤n):∀l:List α,(l.flatMap F).length≤l.length*n
 | []=>by simp
 |x::r=>by
  have:=Anl F n h r
  have:=h x
  rw[List.flatMap_cons,List.length_append,List.length_cons,Nat.succ_mul]
  omega
set_option maxHeartbeats 1000000 in
theorem Asl (w:World) (a0 a1:Option Addr) (gs:List Af) (cs:List Au) (key:ByteArray) (cap0 cap1:Nat) (na ncap:Nat) (ab:Option Addr) (b0:List UInt8) (pc:Int→Au→List UInt8) (Nx:Nat)
  (hpc:∀q c,(pc q c).length≤Nx)
  (hGd:∀W,Below w.heap.size w W→Calls Tryd.prog 40 #[.slice a0 gs.length cap0,.agg #[.string key,.slice a1 cs.length cap1]] W fun e W'=>e=.returned (.int .i64 0)∧Below W.heap.size W W')
  (hl1:1≤gs.length) (hl4:gs.length≤4) (hlen0:Nat.beq cs.length gs.length=true)
  (hPT:∀W,Below w.heap.size w W→Calls Tryd.prog 39 #[.slice ab na ncap,.string key] W fun e W'=>∃y,e=.returned y∧Below W.heap.size W W'∧OwnB W.heap.size W' y b0)
  (hCP:∀W v bs q c base,Below w.heap.size w W→OwnB base W v bs→bs.length≤b0.length+4*Nx→Calls Tryd.prog 42 #[v,.int .i64 q,cV c] W fun e W'=>∃y,e=.returned y∧Below W.heap.size W W'∧OwnB W.heap.size W' y (bs++pc q c))
  (hG:0 <gs.length→∃b off,a0=some ⟨b,off,none⟩∧GsAt w.heap.size w.heap.size w b off gs)
  (hS:0 <cs.length→∃b off,a1=some ⟨b,off,none⟩∧CsAt w.heap.size w.heap.size w b off cs):
  Calls Tryd.prog 17 #[.slice ab na ncap,.slice a0 gs.length cap0,.agg #[.string key,.slice a1 cs.length cap1]] w fun e W'=>∃y,e=.returned y∧Below w.heap.size w W'∧OwnB w.heap.size W' y (b0++(gs.zip cs).flatMap (fun x=>pc x.1.policy x.2)):=by
 refine(callsIn_wide (n:=5)).1 ?_
 refine callsIn_of_wp_marks Tryd.func17 rfl trivial ?_ rfl
 simp only[Tryd.ntmps17,List.size_toArray,List.length_cons,List.length_nil,Nat.reduceAdd,Nat.reduceSub,Array.replicate_succ,Array.replicate_zero,List.push_toArray,List.append_toArray,List.nil_append,List.cons_append]
 have hw2:Below w.heap.size w ((w.alloc (.cells #[.slice ab na ncap] 35)).alloc (.cells #[.string key,.slice a1 cs.length cap1] 60)):=((Below.refl _ w).alloc (Nat.le_refl _) _).alloc (by simp) _
 have hr1:=KR (.cells #[.string key,.slice a1 cs.length cap1] 60) (FR (w:=w) (.cells #[.slice ab na ncap] 35) rfl)
 have hr2:=FR (w:=w.alloc (.cells #[.slice ab na ncap] 35)) (.cells #[.string key,.slice a1 cs.length cap1] 60) (n:=w.heap.size+1) (by simp)
 obtain⟨k0,k1⟩:=cb2 hr2
 have k2:=cb1 hr1
 gi_wp2_with (first
  |(refine⟨trivial,?_⟩;gi_at_call 40;refine(callsIn_wide.2 (hGd _ hw2)).mono ?_;rintro e W1 ⟨rfl,hb1⟩;have hx1:=CV hr1 hb1;have hx2:=CV hr2 hb1;have d0:=cb1 hx1;have f0:=fb1 hx1;obtain⟨c0,c1⟩:=cb2 hx2;have hB1:Below w.heap.size w W1:=hw2.trans (hb1.mono (by simp;omega));clear hr1 hr2 hb1 k0 k1 k2)
  |(refine⟨trivial,?_⟩;gi_at_call 39;refine(callsIn_wide.2 (hPT _ hB1)).mono ?_;rintro e W2 ⟨y0,rfl,hb2,hy0⟩;obtain⟨ya,yc,rfl,hyc⟩:=hy0.1.form;have hz1:=CV hx1 hb2;have hz2:=CV hx2 hb2;have d2:=cb1 hz1;have f2:=fb1 hz1;obtain⟨c2,c3⟩:=cb2 hz2;have hB2:Below w.heap.size w W2:=hB1.trans (hb2.mono hB1.size);clear d0 f0 c0 c1)
  |(refine⟨trivial,?_⟩;gi_at_call 41;refine(Aon _ _ _ _ _ _ _).mono ?_;rintro e W3 ⟨rfl,rfl⟩))
 have hlen:cs.length=gs.length:=Nat.eq_of_beq_eq_true hlen0
 have hy1:=Lv (i:=0) hz1 (.slice ya b0.length yc)
 have hy2:=A43 hz2 (p:=⟨w.heap.size,0,none⟩) (by simp) (.slice ya b0.length yc)
 have hB3:Below w.heap.size w (W2.setCell ⟨w.heap.size,0,none⟩ (.slice ya b0.length yc)):=hB2.setCell (p:=⟨w.heap.size,0,none⟩) (Nat.le_refl _) _
 have hs1:=Fv hx2
 have hs2:=Fv hy2
 have hyo:OwnB (w.heap.size+1) (W2.setCell ⟨w.heap.size,0,none⟩ (.slice ya b0.length yc)) (.slice ya b0.length yc) b0:=(hy0.mono (Nat.le_of_lt hs1)).keep fun g hg _=>Below.heap_setCell W2 ⟨w.heap.size,0,none⟩ _ g (by simp;omega)
 have hVs:(W2.setCell ⟨w.heap.size,0,none⟩ (.slice ya b0.length yc)).heap.size=W2.heap.size:=Vv _ _ _
 rw[←hVs]
 generalize W2.setCell ⟨w.heap.size,0,none⟩ (.slice ya b0.length yc)=V at hy1 hy2 hB3 hs2 hyo⊢
 clear hVs
 clear hz1 hz2 d2 f2 c2 c3 hx1 hx2 hb2 hy0
 obtain⟨b,off,rfl,hg⟩:=hG (by omega)
 obtain⟨b',off',rfl,hc⟩:=hS (by omega)
 have hW2:Below V.heap.size V ((V.alloc (.cells #[.slice (some ⟨b,off,none⟩) gs.length cap0] 22)).alloc (.cells #[.string key,.slice (some ⟨b',off',none⟩) cs.length cap1] 60)):=((Below.refl _ V).alloc (Nat.le_refl _) _).alloc (by simp) _
 have hv2:=KR (.cells #[.string key,.slice (some ⟨b',off',none⟩) cs.length cap1] 60) (FR (w:=V) (.cells #[.slice (some ⟨b,off,none⟩) gs.length cap0] 22) rfl)
 have hv3:=FR (w:=V.alloc (.cells #[.slice (some ⟨b,off,none⟩) gs.length cap0] 22)) (.cells #[.string key,.slice (some ⟨b',off',none⟩) cs.length cap1] 60) (n:=V.heap.size+1) (by simp)
 have hz1:=CV hy1 hW2
 have hz3:=Fv hv3
 have hB4:=hB3.trans (hW2.mono hB3.size)
 have hyo2:OwnB (w.heap.size+1) ((V.alloc (.cells #[.slice (some ⟨b,off,none⟩) gs.length cap0] 22)).alloc (.cells #[.string key,.slice (some ⟨b',off',none⟩) cs.length cap1] 60)) (.slice ya b0.length yc) b0:=hyo.keep fun g _ hgy=>hW2.block g (hyo.1.lt hgy)
 clear hyo hs1
 rw[show V.heap.size=V.heap.size from rfl] at hv2
 generalize hVW:(V.alloc (.cells #[.slice (some ⟨b,off,none⟩) gs.length cap0] 22)).alloc (.cells #[.string key,.slice (some ⟨b',off',none⟩) cs.length cap1] 60)=W2 at hW2 hv2 hv3 hz1 hz3 hB4 hyo2⊢
 have hlt0:=Fv hy1
 have hg2:GsAt W2.heap.size w.heap.size W2 b off gs:=⟨⟨by have:=hg.1.1;omega,by have:=hg.1.1;omega⟩,fun j g hj=>⟨(hB4.cell (p:=⟨b,_,none⟩) hg.1.1).trans (hg.2 j g hj).1,(hB4.cell (p:=⟨b,_,none⟩) hg.1.1).trans (hg.2 j g hj).2⟩⟩
 have hc2:CsAt W2.heap.size w.heap.size W2 b' off' cs:=by
  refine⟨⟨by have:=hc.1.1;omega,by have:=hc.1.1;omega⟩,fun j c hj=>?_⟩
  have k:∀o,W2.cell? ⟨b',o,none⟩=w.cell? ⟨b',o,none⟩:=fun o=>hB4.cell (p:=⟨b',o,none⟩) hc.1.1
  simp only[k]
  exact hc.2 j c hj
 refine wpIn_rangeFunc_ownH (F:=Fence.wide) rfl (by omega) (gf:=63) (lb:=#[.pointer (some ⟨V.heap.size,0,none⟩),.pointer (some ⟨V.heap.size+1,0,none⟩)]) rfl trivial (enters_of Tryd.func63 (by kernel_rfl) rfl)
  (X3 _ (by omega) V.heap.size (V.heap.size+1) W2.heap.size w.heap.size b off cap0 b' off' cap1 gs cs hlen hl4 W2 (Nat.le_refl _) (cb1 hv2) (cb2 hv3).2 ⟨by omega,by omega⟩ ⟨by omega,by omega⟩ hg2 hc2)
  KB.trans (KB.putObj (Nat.le_refl _)) (Below.refl _ _) (fun _=>rfl)
  (fun pre W=>(∃y,W.heap[w.heap.size]?=some (.cells #[y] 35 (0,0))∧OwnB (w.heap.size+1) W y (b0++pre.flatMap (fun x=>pc x.1.policy x.2)))∧Below w.heap.size w W∧W2.heap.size≤W.heap.size)
  (fun _ _ _=>False)
  (OwnFrom.and (Own.from (A0k w.heap.size (w.heap.size+1) 35 (fun pre=>b0++pre.flatMap (fun x=>pc x.1.policy x.2))) _) (OwnFrom.and (ownFrom_below (Nat.le_refl _) hB4.size) (OO _ _)))
  (fun _ _ _ _ _ hs _ _=>hs)
  ⟨⟨_,hz1,by simpa using hyo2⟩,hB4,Nat.le_refl _⟩
  (fun x a' W=>(∃B6 B7,a'={tmps:=#[Value.slice ab na ncap,Value.slice (some ⟨b,off,none⟩) gs.length cap0,
     Value.agg #[Value.string key,Value.slice (some ⟨b',off',none⟩) cs.length cap1],
     Value.pointer (some {block:=w.heap.size,off:=0}),undef,
     Value.pointer (some {block:=w.heap.size+1,off:=0}),Value.slice none 0 0,Value.pointer (some ⟨B6,0,none⟩),Value.pointer (some ⟨B7,0,none⟩),
     Value.slice (some ⟨b,off,none⟩) gs.length cap0,Value.agg #[Value.string key,Value.slice (some ⟨b',off',none⟩) cs.length cap1],
     Value.int IntKind.i64 0,Value.bool false,undef,undef,undef,Value.slice ab na ncap,
     Value.pointer (some {block:=w.heap.size+1,off:=0}),Value.string key,Value.slice ya b0.length yc,
     Value.slice (some ⟨b,off,none⟩) gs.length cap0,Value.agg #[Value.string key,Value.slice (some ⟨b',off',none⟩) cs.length cap1],
     Value.func (Fn.func 63) #[] #[Value.pointer (some {block:=V.heap.size,off:=0}),Value.pointer (some {block:=V.heap.size+1,off:=0})],
     gV x.1,cV x.2,undef,undef,undef,undef,undef,undef],defers:=[]}∧
    (W.heap[B6]?=some (.cells #[.string x.1.name,.int .i64 x.1.policy] 89 (0,0))∧W.heap[B7]?=some (.cells #[.int .i64 x.2.stamp.n,.int .i64 x.2.stamp.site,.int .i64 x.2.vec.a,.int .i64 x.2.vec.b,.bool x.2.gone,.string x.2.value,.int .i64 x.2.dead.a,.int .i64 x.2.dead.b] 87 (0,0)))))
  (fun x a'=>Own.from (fun s X Y row hs hgr hr=>by
   obtain⟨B6,B7,e1,e2,e3⟩:=hs
   exact⟨B6,B7,e1,Ro B6 _ _ s X Y row e2 hgr hr,Ro B7 _ _ s X Y row e3 hgr hr⟩) _) ?assign ?body ?done ?stop
 case assign=>
  rintro l pre x W K ⟨⟨y,i1,i2⟩,i3,i4⟩ hK
  clear hlen hlen0
  dsimp only[Ay5,gV,cV] at hK⊢
  gi_wp2
  have hb:Below W.heap.size W ((W.alloc (.cells #[.string x.1.name,.int .i64 x.1.policy] 89)).alloc (.cells #[.int .i64 x.2.stamp.n,.int .i64 x.2.stamp.site,.int .i64 x.2.vec.a,.int .i64 x.2.vec.b,.bool x.2.gone,.string x.2.value,.int .i64 x.2.dead.a,.int .i64 x.2.dead.b] 87)):=((Below.refl _ W).alloc (Nat.le_refl _) _).alloc (by simp) _
  exact hK _ _ (GI _ hb) (KB.of_below (hb.mono i4)) ⟨⟨y,CV i1 hb,i2.keep fun g _ hgy=>hb.block g (i2.1.lt hgy)⟩,i3.trans (hb.mono i3.size),Nat.le_trans i4 hb.size⟩ ⟨W.heap.size,W.heap.size+1,rfl,KR _ (FR _ rfl),FR _ (by simp)⟩
 case body=>
  rintro l pre x a' W hl hr ⟨⟨y,i1,i2⟩,i3,i4⟩ ⟨B6,B7,rfl,e6,e7⟩ hlt
  obtain⟨yb,ym,yd,rfl⟩:=i2.form
  obtain⟨k0,k1⟩:=cb2 e6
  obtain⟨m0,m1,m2,m3,m4,m5,m6,m7⟩:=cb8 e7
  have d0:=cb1 i1
  have hbl:(b0++pre.flatMap (fun x=>pc x.1.policy x.2)).length≤b0.length+4*Nx:=by
   have:=Anl (fun x:Af×Au=>pc x.1.policy x.2) Nx (fun x=>hpc _ _) pre
   have h2:pre.length*Nx≤4*Nx:=Nat.mul_le_mul_right _ (by omega)
   rw[List.length_append]
   omega
  clear hlen hlen0
  generalize hbe:b0++pre.flatMap (fun x=>pc x.1.policy x.2)=bs at*
  gi_wp2_with (refine⟨trivial,?_⟩;gi_at_call 42;refine(CallsIn.inRound l (callsIn_wide.2 (hCP _ _ bs x.1.policy x.2 _ (by first|exact i3|exact i3.trans ((Agi _ _).mono i3.size)) i2 hbl))).mono ?_;rintro e W' ⟨y',rfl,hb,hy'⟩;obtain⟨ye,yn,yf,rfl⟩:=hy'.form;have q1:=CV i1 hb;have d4:=cb1 q1;have f4:=fb1 q1)
  have hw:=Fv i1
  refine⟨(GI _ hb).trans ((KeepsOthers.setCell _ _ _).from _),(KB.of_below (hb.mono i4)).trans (KB.setCell _ _),⟨_,Lv (i:=0) q1 _,?_⟩,(i3.trans (hb.mono i3.size)).setCell (p:=⟨w.heap.size,0,none⟩) (Nat.le_refl _) _,Nat.le_trans i4 (by rw[Vv];exact hb.size)⟩
  rw[List.flatMap_append,←List.append_assoc,hbe]
  simp only[List.flatMap_cons,List.flatMap_nil,List.append_nil]
  exact(hy'.mono (b':=w.heap.size+1) (by omega)).keep fun g hg _=>Below.heap_setCell W' ⟨w.heap.size,0,none⟩ _ g (by simp;omega)
 case done=>
  rintro D ys W hD rfl ⟨⟨y,i1,i2⟩,i3,i4⟩ hK
  obtain⟨yb,ym,yd,rfl⟩:=i2.form
  have d0:=cb1 i1
  clear hlen hlen0
  gi_wp2
  refine⟨by simp,.inl ⟨_,_,rfl,run_takeDeferred hK,?_⟩⟩
  refine⟨_,results_tmp rfl _ _ _,_,rfl,i3.trans (belowK_b (w:=w) (Nat.le_refl _) W D _ _ (by have:=hB4.size;omega) hK rfl rfl),(i2.mono (Nat.le_succ _)).keep fun g _ hgy=>?_⟩
  refine World.putObj_heap_other fun e=>?_
  subst e
  rcases i2.1.2 with⟨a,e1,_⟩|⟨g',cap,cur,e1,e3,_⟩
  ·rw[e1] at hgy;cases a<;>cases hgy
  ·rw[e1] at hgy
   cases hgy
   rw[hK] at e3
   cases e3
 case stop=>
  rintro D c pre W hD _ h _
  exact h.elim
end Go.Proofs.YtifkbgkbajncjaaDoor
namespace Go.Proofs.YtifkbgkbajncjaaDoor
open Go.RowKit
def A0w (l:List Af) (r:Aq):List UInt8:=MF r.key++(l.zip r.cells).flatMap (fun x=>Acs x.1.policy x.2)
def JR (l:List Af) (r:Aq):List UInt8:=bif CK l r==0 then A0w l r else[]
def OS (_a0:List UInt8) (a1:List Af) (a2:Aq):Bool:=CK a1 a2 !=(0:Int)
def Ahs (a0:List UInt8) (_a1:List Af) (_a2:Aq):List UInt8:=[]++a0
def Aht (_a0:List UInt8) (_a1:List Af) (_a2:Aq):A:=.sq 0
def RJ (a0:List UInt8) (a1:List Af) (a2:Aq):Objs:=[(0,some (.arr 5 1 (.ty .u8 (Ahs a0 a1 a2))))]
def Ads (a0:List UInt8) (a1:List Af) (a2:Aq):List Prop:=[((OS a0 a1 a2)=true→Ai ((0:Nat)+a0.length)),((!(OS a0 a1 a2))=true→Ai (a0.length+(8:Nat)+a2.1.size)),((!(OS a0 a1 a2))=true→T6 (4:Nat))]
theorem Ask (a0:List UInt8) (a1:List Af) (a2:Aq):I6 (AI Cl L0) 9 17 [Ar .bytes a0,.sl .group a1,Ar .row a2] 0 []=some (1,Aht a0 a1 a2,1,RJ a0 a1 a2,Ads a0 a1 a2):=by kernel_rfl
theorem Aw4 (a0:List UInt8) (a1:List Af) (a2:Aq) (hp:∀p∈Ads a0 a1 a2,p):CallOk Tryd.prog 17 [Ar .bytes a0,.sl .group a1,Ar .row a2] 0 [] 1 (Aht a0 a1 a2) 1 (RJ a0 a1 a2):=AW (AJ Axq AX) (Ask a0 a1 a2) hp
def Adt (_a0:List UInt8) (_a1:List Af) (_a2:Aq):A:=.sq 0
def Jm (a0:List UInt8) (a1:List Af) (a2:Aq):Objs:=[(0,some (.arr 5 1 (.ty .u8 (a0++JR a1 a2))))]
def Yv (a0:List UInt8) (_a1:List Af) (_a2:Aq):List Prop:=[Ai (a0.length+1024)]
section
variable {F:Nat→Prop} {N:Nm} {nx:Nat} {R:World}
theorem Agm:∀{l:List UInt8} {zs:List Value},zs.length=l.length→(∀k,k <l.length→HL F N nx R [.v (A4 (l.getD k 0))] ((zs.drop (k*1)).take 1))→zs=l.map A4
 | [],[],_,_=>rfl
 | [],_::_,h,_=>by cases h
 |_::_,[],h,_=>by cases h
 | x::l,z::zs,h,g=>by
  have h0:=g 0 (Nat.succ_pos _)
  obtain⟨v,vs,e1,e2,e3⟩:=h0.inv
  have hz:z=A4 x:=by
   have e1':[z]=v::vs:=e1
   injection e1' with e1' _
   rw[e1']
   exact e2.v_inv
  rw[List.map_cons,←hz,Agm (l:=l) (zs:=zs) (by simpa using h) fun k hk=>by
   have:=g (k+1) (Nat.succ_lt_succ hk)
   simpa[Nat.mul_one] using this]
theorem Aw5 {l:List UInt8} {k:Nat} (hk:k <l.length):HL F N nx R [.v (A4 (l.getD k 0))] (((l.map A4).drop (k*1)).take 1):=by
 rw[Nat.mul_one,List.drop_eq_getElem_cons (by simpa using hk),List.take_succ_cons,List.take_zero,List.getElem_map,List.getD_eq_getElem?_getD,List.getElem?_eq_getElem hk]
 exact HL.cons (.v _) HL.nil
theorem OwnB.sl {base:Nat} {y:Value} {bs:List UInt8} (h:OwnB base R y bs) (N:Nm):(∀g,BO y=some g→g <R.heap.size)∧Hv (fun g=>BO y=some g) N 0 R (.sl .u8 bs) y:=by
 refine⟨fun g hg=>h.1.lt hg,?_⟩
 obtain⟨hl,h2⟩:=h.1
 rcases h2 with⟨a,e1,e2⟩|⟨g,cap,cur,e1,e2,e3,_,e5,e6⟩
 ·obtain rfl:bs=[]:=List.eq_nil_of_length_eq_zero e2
  rw[e1]
  exact Hv.sl_nil rfl
 ·rw[e1]
  refine Hv.of_sl e3 fun hn=>⟨⟨g,0,none⟩,rfl,?_,fun i d hd j x hx=>?_⟩
  ·obtain⟨m,hm⟩:∃m,bs.length=m+1:=⟨bs.length - 1,by omega⟩
   rw[hm]
   rfl
  ·cases j with
   |succ j=>cases hx
   |zero=>
    have hi:=(List.getElem?_eq_some_iff.1 hd).1
    have hz:(bs.map A4)[i]?=some (A4 d):=by rw[List.getElem?_map,hd];rfl
    rw[←e6,List.getElem?_take_of_lt (by omega)] at hz
    obtain rfl:A.v (A4 d)=x:=Option.some.inj hx
    refine⟨A4 d,?_,.v _⟩
    rw[BU,Bv,BZ e2]
    show cur[0+(i*1+0)]?=_
    rw[Nat.zero_add,Nat.add_zero,Nat.mul_one]
    simpa using hz
end
theorem CallOk.bytes {P:Program} {f:FuncId} {args:List A} {bs:List UInt8} (h:CallOk P f args 0 [] 1 (.sq 0) 1 [(0,some (.arr 5 1 (.ty .u8 bs)))]) {F:Nat→Prop} {N:Nm} {R:World} {vs:List Value} (hF:∀g,F g→g <R.heap.size) (hgl:GlobOk F R) (hv:HL F N 0 R args vs):
  Calls P f vs.toArray R fun e R'=>∃y,e=.returned y∧Below R.heap.size R R'∧OwnB R.heap.size R' y bs:=by
 refine(h F N R vs (HRel.bare hF hgl) hv).mono fun e R' ⟨y,F',N',e1,h2,h3,h4,h5⟩=>⟨y,e1,h5 (Nat.le_refl _),?_⟩
 obtain rfl:y=N'.q 0:=by cases h4;rfl
 obtain⟨_,zs,g1,g2⟩:=h2.ob 0 _ rfl
 have e:zs=bs.map A4:=Agm (F:=F') (N:=N') (nx:=1) (R:=R') (by rw[g1.1];exact Nat.mul_one _) g2
 rw[e] at g1
 refine⟨g1,fun g hg=>?_⟩
 rcases h3.foot g ⟨0,_,rfl,hg⟩ with⟨i,ob,hl,_⟩|h
 ·cases hl
 ·exact h
theorem OwnB.made {P:Program} {f:FuncId} {F:Nat→Prop} {N:Nm} {R:World} {vs:List Value} {bs:List UInt8} (hR:HRel F N 0 [] R)
  (h:Calls P f vs.toArray R fun e R'=>∃y,e=.returned y∧Below R.heap.size R R'∧OwnB R.heap.size R' y bs):
  Calls P f vs.toArray R fun e R'=>∃y F' N',e=.returned y∧HRel F' N' 1 [(0,some (.arr 5 1 (.ty .u8 bs)))] R'∧Step F N 0 [] R F' N' 1 [(0,some (.arr 5 1 (.ty .u8 bs)))] R'∧Hv F' N' 1 R' (.sq 0) y∧(1≤1→Below R.heap.size R R'):=by
 refine h.mono fun e R' ⟨y,e1,hb,h2,h3⟩=>⟨y,F,N.setQ 0 y,e1,?_,?_,?_,fun _=>hb⟩
 ·have hq:(N.setQ 0 y).q 0=y:=by show GM N.q 0 y 0=y;exact A3 _ _ _
  have one:∀i ob,Ak i [(0,some (Ob.arr 5 1 (.ty .u8 bs)))]=some ob→i=0∧ob=.arr 5 1 (.ty .u8 bs):=fun i ob hl=>by
   cases i with
   |zero=>cases hl;exact⟨rfl,rfl⟩
   |succ i=>cases hl
  refine⟨fun g hg=>Nat.lt_of_lt_of_le (hR.flt g hg) hb.size,fun i ob hl=>?_,fun i ob g hl hg hF=>?_,fun i j x z g hl hl' _ _=>(one i x hl).1.trans (one j z hl').1.symm,fun x hx=>⟨(hR.gl x hx).1,by rw[hb.block _ (hR.flt _ (hR.gl x hx).1)];exact(hR.gl x hx).2⟩⟩
  ·obtain⟨rfl,rfl⟩:=one i ob hl
   exact⟨Nat.succ_pos _,bs.map A4,by rw[hq];exact h2,fun k hk=>Aw5 hk⟩
  ·obtain⟨rfl,rfl⟩:=one i ob hl
   have hg':BO ((N.setQ 0 y).q 0)=some g:=hg
   rw[hq] at hg'
   have:=hR.flt g hF
   have:=h3 g hg'
   omega
 ·refine⟨Nat.zero_le _,fun i hi=>absurd hi (Nat.not_lt_zero _),fun i hi=>absurd hi (Nat.not_lt_zero _),fun _ h=>h,fun _ h=> .inl h,fun g ⟨i,ob,hl,hg⟩=> .inr ?_,hb.os,hb.tape,hb.output,hb.size,fun g hg _=>hb.block g hg⟩
  cases i with
  |succ i=>cases hl
  |zero=>
   cases hl
   have hg':BO ((N.setQ 0 y).q 0)=some g:=hg
   rw[show(N.setQ 0 y).q 0=y by show GM N.q 0 y 0=y;exact A3 _ _ _] at hg'
   exact h3 g hg'
 ·have hq:(N.setQ 0 y).q 0=y:=by show GM N.q 0 y 0=y;exact A3 _ _ _
  have:=Hv.sq (F:=F) (N:=N.setQ 0 y) (nx:=1) (R:=R') (i:=0) (Nat.succ_pos _)
  rw[hq] at this
  exact this
theorem Au3 (p:Int) (c:Au):(Acs p c).length≤128:=by
 unfold Acs Ayq
 cases hg:O9 p c with
 |false=>exact Nat.zero_le _
 | true=>
  have n8:=C8 (La c)
  have s8:=Aj8 c.stamp
  have v16:=RH c.vec
  have d16:=RH c.dead
  have t8:=TE c.value
  cases hw:Gh c with
  |false=>cases IZ c.dead<;>simp only[cond_true,cond_false,List.length_append,List.length_nil]<;>omega
  |true=>
   have:=((Ag3.1 hg).st hw).2.2.2.1
   cases IZ c.dead<;>cases c.gone<;>simp only[cond_true,cond_false,List.length_append,List.length_nil]<;>omega
theorem Asj (a0:List UInt8) (a1:List Af) (a2:Aq) (hp:∀p∈Yv a0 a1 a2,p):CallOk Tryd.prog 17 [Ar .bytes a0,.sl .group a1,Ar .row a2] 0 [] 1 (Adt a0 a1 a2) 1 (Jm a0 a1 a2):=by
 have hb:Ai (a0.length+1024):=hp _ (List.mem_cons_self ..)
 unfold Ai at hb
 cases hg:CK a1 a2==0 with
 | false=>
  have hk:OS a0 a1 a2=true:=by
   show(CK a1 a2 !=0)=true
   simpa using hg
  have h:=Aw4 a0 a1 a2 (Aa (fun _=>by unfold Ai;omega) (Aa (fun h=>by rw[hk] at h;cases h) (Aa (fun h=>by rw[hk] at h;cases h) Am)))
  have e:RJ a0 a1 a2=Jm a0 a1 a2:=by
   unfold RJ Jm Ahs JR
   rw[hg,cond_false,List.append_nil,List.nil_append]
  rw[e] at h
  exact h
 | true=>
  have h0:CK a1 a2=0:=by simpa using hg
  obtain⟨h1,hlen,_,h32,_⟩:=Wt h0
  obtain⟨hl1,hl4⟩:=ZN h1
  intro F N R vs hR hv
  obtain⟨v,vs,rfl,hv0,hv⟩:=hv.inv
  obtain⟨v0,vs,rfl,k0,hv⟩:=hv.inv
  obtain⟨v1,vs,rfl,k1,hv⟩:=hv.inv
  rw[hv.inv0]
  have hv0':=hv0
  obtain⟨ab,ncap,rfl,_⟩:=Hv.sl_inv (c:=.u8) (l:=a0) hv0
  obtain⟨us,rfl,k2⟩:=Hv.agg_inv (xs:=[.v (.string a2.key),.sl .cell a2.cells]) k1
  obtain⟨u0,us,rfl,m0,k2⟩:=k2.inv
  obtain⟨u1,us,rfl,m1,k2⟩:=k2.inv
  obtain rfl:=k2.inv0
  obtain rfl:=m0.v_inv
  obtain⟨aa,cap0,rfl,g0⟩:=A6q hR.flt k0
  obtain⟨ac,cap1,rfl,g1⟩:=A6n hR.flt m1
  have ho:Jm a0 a1 a2=[(0,some (.arr 5 1 (.ty .u8 ((a0++MF a2.key)++(a1.zip a2.cells).flatMap (fun x=>Acs x.1.policy x.2)))))]:=by
   unfold Jm JR A0w
   rw[hg,cond_true,List.append_assoc]
  rw[ho]
  refine OwnB.made hR (Asl R aa ac a1 a2.cells a2.key cap0 cap1 a0.length ncap ab (a0++MF a2.key) Acs 128 Au3 ?_ hl1 hl4 (by rw[hlen];exact JH _) ?_ ?_ g0 g1)
  ·intro W hW
   have h:Calls Tryd.prog 40 #[.slice aa a1.length cap0,.agg #[.string a2.key,.slice ac a2.cells.length cap1]] W fun e W'=>e=.returned (.int .i64 (CK a1 a2))∧Below W.heap.size W W':=(Ys a1 a2 (fun _ h=>by cases h)).plain (F:=F) (N:=N) (R:=W) (vs:=[.slice aa a1.length cap0,.agg #[.string a2.key,.slice ac a2.cells.length cap1]]) (fun g hg=>Nat.lt_of_lt_of_le (hR.flt g hg) hW.size) (hR.grow hW).1.gl (HL.cons (k0.step (hR.grow hW).2) (HL.cons (k1.step (hR.grow hW).2) HL.nil))
   rw[h0] at h
   exact h
  ·intro W hW
   exact(QA a0 a2.key (Aa (by unfold Ai;omega) Am)).bytes (F:=F) (N:=N) (R:=W) (vs:=[_,.string a2.key]) (fun g hg=>Nat.lt_of_lt_of_le (hR.flt g hg) hW.size) (hR.grow hW).1.gl (HL.cons (hv0'.step (hR.grow hW).2) (HL.cons (.v _) HL.nil))
  ·intro W v bs q c base hW ho hl
   obtain⟨f1,f2⟩:=ho.sl N
   have gW:=(hR.grow hW).1
   have f3:=f2.step (Ext.wide (F':=fun g=>F g∨BO v=some g) fun g hg=> .inr hg)
   have h8:=TE a2.key
   rw[List.length_append] at hl
   exact(XD bs q c (Aa (by unfold Ai;omega) Am)).bytes (F:=fun g=>F g∨BO v=some g) (N:=N) (R:=W) (vs:=[v,.int .i64 q,cV c]) (fun g hg=>hg.elim (gW.flt g) (f1 g)) (fun x hx=>⟨.inl (gW.gl x hx).1,(gW.gl x hx).2⟩) (HL.cons f3 (HL.cons (.v _) (HL.cons (.v _) HL.nil)))
def Xg:List A→Nat→Objs→Option CJ:=Fc [.t .bytes,.l .group,.t .row] 1 Adt Jm Yv
theorem Yw:IV Tryd.prog 17 Xg:=AM (ks:=[.t .bytes,.l .group,.t .row]) Asj
noncomputable def A84:=CA 17 Xg Cl
theorem A2p:FM Tryd.prog A84:=Az Yw Axq
def Av (a0:Int) (a1:Int) (a2:Int):Int:=bif decide (a0 >a2)||decide (a1 >a2)||decide (a0 >IntKind.i64.wrap (a2 - a1)) then IntKind.i64.wrap (a2+(1:Int)) else IntKind.i64.wrap (a0+a1)
def W7 (a0:Int) (a1:Int) (a2:Int):A:=.v (.int .i64 (Av a0 a1 a2))
def W6 (_a0:Int) (_a1:Int) (_a2:Int):Objs:=[]
def TF (_a0:Int) (_a1:Int) (_a2:Int):List Prop:=[]
theorem Ar2 (a0:Int) (a1:Int) (a2:Int):I6 (AI A84 L0) 9 30 [Ar .i64 a0,Ar .i64 a1,Ar .i64 a2] 0 []=some (1,W7 a0 a1 a2,0,W6 a0 a1 a2,TF a0 a1 a2):=by kernel_rfl
theorem Aw0 (a0:Int) (a1:Int) (a2:Int) (hp:∀p∈TF a0 a1 a2,p):CallOk Tryd.prog 30 [Ar .i64 a0,Ar .i64 a1,Ar .i64 a2] 0 [] 1 (W7 a0 a1 a2) 0 (W6 a0 a1 a2):=AW (AJ A2p AX) (Ar2 a0 a1 a2) hp
def Ahm:List A→Nat→Objs→Option CJ:=Fc [.t .i64,.t .i64,.t .i64] 0 W7 W6 TF
theorem Aos:IV Tryd.prog 30 Ahm:=AM (ks:=[.t .i64,.t .i64,.t .i64]) Aw0
theorem A7g {n k m:Int} (hn:0≤n) (hk:0≤k∧k≤9223372036854775807) (hm:0≤m∧m≤1099511627776):(Av n k m≤m→n+k≤m)∧0≤Av n k m∧(n+k≤m→Av n k m=n+k):=by
 unfold Av
 rw[i64_in (n:=m - k) (by omega),i64_in (n:=m+1) (by omega)]
 by_cases h:n+k≤m
 ·have e:(decide (n >m)||decide (k >m)||decide (n >m - k))=false:=by
   rw[decide_eq_false (by omega),decide_eq_false (by omega),decide_eq_false (by omega)];rfl
  rw[e,cond_false,i64_in (by omega)]
  exact⟨fun _=>h,by omega,fun _=>rfl⟩
 ·have e:(decide (n >m)||decide (k >m)||decide (n >m - k))=true:=by
   rw[decide_eq_true (p:=n >m - k) (by omega),Bool.or_true]
  rw[e,cond_true]
  exact⟨fun h'=>by omega,by omega,fun h'=>absurd h' h⟩
theorem Ah5 {k:Nat} (h:AD k):(0:Int)≤(k:Int)∧(k:Int)≤9223372036854775807:=by unfold AD at h;omega
def Ad1 (m:Nat) (r:Aq):Prop:=r.key.size≤m∧r.cells.length≤m∧∀c∈r.cells,c.value.size≤m
def SX (r:Aq):Prop:=AD r.key.size∧AD r.cells.length∧∀c∈r.cells,AD c.value.size
theorem getD_in {α:Type} (l:List α) (d:α) (i:Nat) (h:i <l.length):l.getD i d∈l:=by
 rw[List.getD_eq_getElem?_getD,List.getElem?_eq_getElem h]
 exact List.getElem_mem h
end Go.Proofs.YtifkbgkbajncjaaDoor
namespace Go.Proofs.YtifkbgkbajncjaaDoor
open Go.RowKit
noncomputable def Ce:=Cf
theorem A8w:FM Tryd.prog Ce:=Atf
end Go.Proofs.YtifkbgkbajncjaaDoor
namespace Go.Proofs.YtifkbgkbajncjaaDoor
open Go.RowKit
noncomputable def Cg:=Ce
theorem A8x:FM Tryd.prog Cg:=A8w
end Go.Proofs.YtifkbgkbajncjaaDoor
namespace Go.Proofs.YtifkbgkbajncjaaDoor
open Go.RowKit
def ltS (a b:ByteArray):Bool:=Op.bytesLess a.toList b.toList
theorem T9:∀x:List UInt8,Op.bytesLess x x=false
 | []=>rfl
 |a::x=>by
  unfold Op.bytesLess
  rw[T9 x]
  simp
theorem Xy:∀{x y z:List UInt8},Op.bytesLess x y=true→Op.bytesLess y z=true→Op.bytesLess x z=true
 |x,[],_,h,_=>by cases x<;>cases h
 |_,_::_,[],_,h=>by cases h
 | [],_::_,_::_,_,_=>rfl
 |a::x,b::y,c::z,h,g=>by
  unfold Op.bytesLess at*
  simp only[Bool.or_eq_true,decide_eq_true_eq,Bool.and_eq_true,beq_iff_eq] at*
  rcases h with h|⟨rfl,h⟩<;>rcases g with g|⟨rfl,g⟩
  ·exact .inl (UInt8.lt_trans h g)
  ·exact .inl h
  ·exact .inl g
  ·exact .inr ⟨rfl,Xy h g⟩
theorem Xx:∀{x y:List UInt8},Op.bytesLess x y=false→x≠y→Op.bytesLess y x=true
 | [],[],_,h=>absurd rfl h
 | [],_::_,h,_=>by cases h
 |_::_,[],_,_=>rfl
 | a::x,b::y,h,g=>by
  unfold Op.bytesLess at*
  simp only[Bool.or_eq_true,Bool.or_eq_false_iff,decide_eq_true_eq,decide_eq_false_iff_not,Bool.and_eq_true,beq_iff_eq] at*
  obtain⟨h1,h2⟩:=h
  by_cases e:a=b
  ·subst e
   refine .inr ⟨rfl,Xx (by simpa using h2) fun e=>g (by rw[e])⟩
  ·left
   have h1':¬a.toNat <b.toNat:=h1
   have h3:a.toNat≠b.toNat:=fun h=>e (UInt8.toNat_inj.1 h)
   show b.toNat <a.toNat
   omega
theorem Awm {a b c:ByteArray} (h:ltS a b=true) (g:ltS b c=true):ltS a c=true:=Xy h g
theorem A75 {a b:ByteArray} (h:ltS a b=true):a≠b:=by
 rintro rfl
 unfold ltS at h
 rw[T9] at h
 cases h
theorem Awl {a b:ByteArray} (h:ltS a b=false) (g:a≠b):ltS b a=true:=by
 refine Xx h fun e=>g ?_
 have:(a.toList==b.toList)=true:=beq_iff_eq.2 e
 rw[tlb] at this
 exact eq_of_beq this
def A8a (l:List Af) (i:Nat):Int:=(l.getD i (Aj TC.group)).policy
def Ayu (cs:List Au) (i:Nat):Au:=cs.getD i (Aj TC.cell)
def Vr (rows:List Aq) (i:Nat):Aq:=rows.getD i (Aj TC.row)
def Qq (rows:List Aq):Nat→ByteArray
 |0=>⟨#[]⟩
 |i+1=>(Vr rows i).key
def leS (a b:ByteArray):Bool:=ltS a b||a==b
def Ajd (l:List Af) (rows:List Aq) (i:Nat):Int:=bif CK l (Vr rows i) !=0 then CK l (Vr rows i) else bif Xw (Vr rows i)||leS (Vr rows i).key (Qq rows i) then 100 else 0
def Gz (l:List Af) (rows:List Aq):Nat→Int
 |0=>0
 |i+1=>bif Gz l rows i !=0 then Gz l rows i else Ajd l rows i
def XN (l:List Af) (rows:List Aq):Int:=bif B1 l !=0 then B1 l else Gz l rows rows.length
theorem Anr (l:List Af) (rows:List Aq):∀n,Gz l rows n=0↔∀i,i <n→Ajd l rows i=0
 |0=>⟨fun _ i h=>absurd h (Nat.not_lt_zero _),fun _=>rfl⟩
 | n +1=>by
  have ih:=Anr l rows n
  unfold Gz
  cases h:Gz l rows n !=0 with
  |true=>
   rw[cond_true]
   have h':Gz l rows n≠0:=by simpa using h
   exact⟨fun e=>absurd e h',fun e=>absurd (ih.2 fun i hi=>e i (by omega)) h'⟩
  | false=>
   rw[cond_false]
   have h':Gz l rows n=0:=by simpa using h
   constructor
   ·intro e i hi
    rcases Nat.lt_or_ge i n with g|g
    ·exact ih.1 h' i g
    ·obtain rfl:i=n:=by omega
     exact e
   ·intro e
    exact e n (Nat.lt_succ_self n)
theorem XO {l:List Af} {rows:List Aq} {k:Nat} (h:Gz l rows k≠0):∀n,k≤n→Gz l rows n=Gz l rows k
 |0,hn=>by
  obtain rfl:k=0:=by omega
  rfl
 | n+1,hn=>by
  rcases Nat.lt_or_ge n k with g|g
  ·obtain rfl:k=n+1:=by omega
   rfl
  ·have ih:=XO h n g
   have hb:(Gz l rows k !=0)=true:=by simpa using h
   show(bif Gz l rows n !=0 then Gz l rows n else _)=_
   rw[ih,hb,cond_true]
def Baq (rows:List Aq):Prop:=rows.Pairwise fun a b=>ltS a.key b.key=true
end Go.Proofs.YtifkbgkbajncjaaDoor
namespace Go.Proofs.YtifkbgkbajncjaaDoor
open Go.RowKit
def Aq4 (l:List Af) (cs:List Au) (i:Nat):List UInt8:=((l.zip cs).take i).flatMap fun x=>Acs x.1.policy x.2
theorem Ay7 {l:List Af} {cs:List Au} (hl:cs.length=l.length) {i:Nat} (hi:i <l.length):Aq4 l cs (i+1)=Aq4 l cs i++Acs (A8a l i) (Ayu cs i):=by
 unfold Aq4
 have hz:i <(l.zip cs).length:=by rw[List.length_zip];omega
 rw[List.take_add_one,List.getElem?_eq_getElem hz,List.flatMap_append,List.getElem_zip]
 have e1:l[i]=l.getD i (Aj TC.group):=by rw[List.getD_eq_getElem?_getD,List.getElem?_eq_getElem hi];rfl
 have e2:cs[i]=cs.getD i (Aj TC.cell):=by rw[List.getD_eq_getElem?_getD,List.getElem?_eq_getElem (by omega)];rfl
 rw[e1,e2]
 simp[A8a,Ayu]
theorem A3j {l:List Af} {cs:List Au} (hl:cs.length=l.length):Aq4 l cs l.length=(l.zip cs).flatMap fun x=>Acs x.1.policy x.2:=by
 unfold Aq4
 rw[List.take_of_length_le (by rw[List.length_zip];omega)]
end Go.Proofs.YtifkbgkbajncjaaDoor
namespace Go.Proofs.YtifkbgkbajncjaaDoor
open Go.RowKit
theorem At0 {l:List Af} {cs:List Au} (hl:cs.length=l.length):∀i,i≤l.length→(Aq4 l cs i).length≤128*i
 |0,_=>by simp[Aq4]
 |i+1,hi=>by
  have:=At0 hl i (by omega)
  have h8:=Au3 (A8a l i) (Ayu cs i)
  rw[Ay7 hl (by omega),List.length_append]
  omega
end Go.Proofs.YtifkbgkbajncjaaDoor
namespace Go.Proofs.YtifkbgkbajncjaaDoor
open Go.RowKit
theorem Al8 {X:Type} (mk:Nat→Int→X) (len:Nat) (step:Nat→Int→Int) (P:Nat→Prop) (m c:Int) (s:Bool) (next:X→X) (goes:X→Cnd) (ps:X→List Prop)
  (hs:∀i n,i <len→0≤n→0≤step i n∧(step i n≤m→n+c≤step i n∧P i)) (hc:0≤c)
  (hg:∀i n,i≤len→A9 (goes (mk i n))=(decide (i <len)&&(s||decide (n≤m)))) (hn:∀i n,i <len→0≤n→next (mk i n)=mk (i+1) (step i n))
  (hp:∀i n,i≤len→0≤n→∀p∈ps (mk i n),p):
  ∀(f i:Nat) (n:Int),i≤len→len≤i+f→0≤n→
  AN next goes ps f (mk i n)∧∃k n',Ba next goes f (mk i n)=mk k n'∧0≤n'∧(n'≤m→n+c*((len:Int) - (i:Int))≤n'∧∀j,i≤j→j <len→P j)
 |0,i,n,hi,hf,h0=>by
  obtain rfl:i=len:=by omega
  have hb:=hg i n (Nat.le_refl _)
  rw[decide_eq_false (Nat.lt_irrefl _),Bool.false_and] at hb
  exact⟨⟨hp i n hi h0,hb⟩,i,n,rfl,h0,fun _=>⟨by rw[Int.sub_self,Int.mul_zero];omega,fun j h1 h2=>by omega⟩⟩
 | f+1,i,n,hi,hf,h0=>by
  have hb:=hg i n hi
  cases hv:A9 (goes (mk i n)) with
  | false=>
   have e:Ba next goes (f+1) (mk i n)=mk i n:=by
    show(bif A9 (goes (mk i n)) then _ else mk i n)=_
    rw[hv];rfl
   rw[e]
   refine⟨⟨hp i n hi h0,fun h=>by rw[hv] at h;cases h⟩,i,n,rfl,h0,fun hm=>?_⟩
   rw[hv] at hb
   rw[decide_eq_true hm,Bool.or_true,Bool.and_true] at hb
   have:¬i <len:=of_decide_eq_false hb.symm
   obtain rfl:i=len:=by omega
   exact⟨by rw[Int.sub_self,Int.mul_zero];omega,fun j h1 h2=>by omega⟩
  | true=>
   rw[hv] at hb
   have hi':i <len:=by
    cases h:decide (i <len) with
    |true=>exact of_decide_eq_true h
    |false=>rw[h] at hb;cases hb
   obtain⟨s1,s2⟩:=hs i n hi' h0
   have e:Ba next goes (f+1) (mk i n)=Ba next goes f (mk (i+1) (step i n)):=by
    show(bif A9 (goes (mk i n)) then Ba next goes f (next (mk i n)) else mk i n)=_
    rw[hv,hn i n hi' h0];rfl
   obtain⟨g1,k,n',g2,g3,g4⟩:=Al8 mk len step P m c s next goes ps hs hc hg hn hp f (i+1) (step i n) hi' (by omega) s1
   rw[e]
   refine⟨⟨hp i n hi h0,fun _=>by rw[hn i n hi' h0];exact g1⟩,k,n',g2,g3,fun hm=>?_⟩
   obtain⟨a1,a2⟩:=g4 hm
   have hpos:0≤c*((len:Int) - ((i+1:Nat):Int)):=Int.mul_nonneg hc (by omega)
   obtain⟨b1,b2⟩:=s2 (by omega)
   have hd:c*((len:Int) - (i:Int))=c*((len:Int) - ((i+1:Nat):Int))+c:=by
    rw[show((len:Int) - (i:Int))=((len:Int) - ((i+1:Nat):Int))+1 by omega,Int.mul_add,Int.mul_one]
   refine⟨by rw[hd];omega,fun j h1 h2=>?_⟩
   by_cases e:j=i
   ·subst e;exact b2
   ·exact a2 j (by omega) h2
theorem PA {X:Type} (mk:Nat→Int→X) (len:Nat) (step:Nat→Int→Int) (P:Nat→Prop) (m c:Int) (s:Bool) (next:X→X) (goes:X→Cnd) (ps:X→List Prop) (f:Nat) (x:X) (n0:Int) (hx:x=mk 0 n0) (hf:len≤f) (h0:0≤n0)
  (hs:∀i n,i <len→0≤n→0≤step i n∧(step i n≤m→n+c≤step i n∧P i)) (hc:0≤c)
  (hg:∀i n,i≤len→A9 (goes (mk i n))=(decide (i <len)&&(s||decide (n≤m)))) (hn:∀i n,i <len→0≤n→next (mk i n)=mk (i+1) (step i n))
  (hp:∀i n,i≤len→0≤n→∀p∈ps (mk i n),p):
  AN next goes ps f x∧∃k n',Ba next goes f x=mk k n'∧0≤n'∧(n'≤m→n0+c*(len:Int)≤n'∧∀j,j <len→P j):=by
 subst hx
 obtain⟨h1,k,n',h2,h3,h4⟩:=Al8 mk len step P m c s next goes ps hs hc hg hn hp f 0 n0 (Nat.zero_le _) (by omega) h0
 refine⟨h1,k,n',h2,h3,fun h=>?_⟩
 obtain⟨h5,h6⟩:=h4 h
 rw[show((len:Int) - ((0:Nat):Int))=(len:Int) by omega] at h5
 exact⟨h5,fun j hj=>h6 j (Nat.zero_le _) hj⟩
theorem M0 {α:Type} {l:List α} {d:α} {P:α→Prop} (h:∀j,j <l.length→P (l.getD j d)):∀x∈l,P x:=fun x hx=>by
 obtain⟨j,hj,rfl⟩:=List.mem_iff_getElem.1 hx
 have:=h j hj
 rw[List.getD_eq_getElem?_getD,List.getElem?_eq_getElem hj] at this
 exact this
end Go.Proofs.YtifkbgkbajncjaaDoor
namespace Go.Proofs.YtifkbgkbajncjaaDoor
open Go.RowKit
noncomputable def VZ:=CA 30 Ahm Cl
theorem N7:FM Tryd.prog VZ:=Az Aos Axq
abbrev Bz:Type:=(List TChange)×Int×Int×Int
def Ix (x:Bz):St:=⟨122,0,[(1,.sl .change x.1),(7,.v (.int .i64 x.2.1)),(8,.v (.int .i64 x.2.2.1)),(9,.v (.int .i64 x.2.2.2))],[]⟩
def J6:St→Option Bz
 |⟨122,0,[(1,.sl .change z0),(7,.v (.int .i64 z1)),(8,.v (.int .i64 z2)),(9,.v (.int .i64 z3))],[]⟩=>some (z0,z1,z2,z3)
 |_=>none
theorem UM:∀s x,J6 s=some x→s=Ix x:=fun s x h=>by
 unfold J6 at h
 split at h
 ·cases h;rfl
 ·cases h
def Qf:F4:=⟨0,0,[1,7,8,9],[],[],[],[7],[]⟩
def Abd:Gi:=⟨[],[],[1,7,8,9],[]⟩
def A6 (a0:List TChange) (a1:Int) (a2:Int) (a3:Int):Bool:=!!(decide (a3 <(↑(a0.getD a2.toNat (Aj TC.change)).5.length:Int))&&decide (a1≤(6000:Int)))
def I9 (a0:List TChange) (a1:Int) (a2:Int) (a3:Int):Int:=Av (Av (Av a1 (10:Int) (6000:Int)) (↑((a0.getD a2.toNat (Aj TC.change)).5.getD a3.toNat (Aj TC.write)).1.size:Int) (6000:Int)) (↑((a0.getD a2.toNat (Aj TC.change)).5.getD a3.toNat (Aj TC.write)).4.size:Int) (6000:Int)
def UL (a0:List TChange) (a1:Int) (a2:Int) (a3:Int):Bool:=!(decide (a3 <(↑(a0.getD a2.toNat (Aj TC.change)).5.length:Int))&&decide (a1≤(6000:Int)))
def Df (x:Bz):Bz:=(x.1,I9 x.1 x.2.1 x.2.2.1 x.2.2.2,x.2.2.1,IntKind.i64.wrap (x.2.2.2+(1:Int)))
def De (x:Bz):Cnd:=some ((A6 x.1 x.2.1 x.2.2.1 x.2.2.2))
def Np (x:Bz):List Prop:=[((0:Int)≤x.2.2.1∧x.2.2.1 <(↑x.1.length:Int)),((A6 x.1 x.2.1 x.2.2.1 x.2.2.2)=true→(0:Int)≤x.2.2.1∧x.2.2.1 <(↑x.1.length:Int)),((A6 x.1 x.2.1 x.2.2.1 x.2.2.2)=true→(0:Int)≤x.2.2.2∧x.2.2.2 <(↑(x.1.getD x.2.2.1.toNat (Aj TC.change)).5.length:Int)),((A6 x.1 x.2.1 x.2.2.1 x.2.2.2)=true→(0:Int)≤x.2.2.1∧x.2.2.1 <(↑x.1.length:Int)),((A6 x.1 x.2.1 x.2.2.1 x.2.2.2)=true→(0:Int)≤x.2.2.2∧x.2.2.2 <(↑(x.1.getD x.2.2.1.toNat (Aj TC.change)).5.length:Int))]
def FU (x:Bz):List Prop:=[((0:Int)≤x.2.2.1∧x.2.2.1 <(↑x.1.length:Int)),((A6 x.1 x.2.1 x.2.2.1 x.2.2.2)=true→(0:Int)≤x.2.2.1∧x.2.2.1 <(↑x.1.length:Int)),((A6 x.1 x.2.1 x.2.2.1 x.2.2.2)=true→(0:Int)≤x.2.2.2∧x.2.2.2 <(↑(x.1.getD x.2.2.1.toNat (Aj TC.change)).5.length:Int))]
def L1 (x:Bz):Bh:=[(some 2,some (UL x.1 x.2.1 x.2.2.1 x.2.2.2),⟨122,0,[(7,.v (.int .i64 x.2.1))],[]⟩)]
def Ew (x:Bz):Nat:=((↑(x.1.getD x.2.2.1.toNat (Aj TC.change)).5.length:Int) - x.2.2.2).toNat
def Fj (x:Bz):Bz:=Ba Df De (Ew x) x
theorem Y7 (a0:List TChange) (a1:Int) (a2:Int) (a3:Int):Dq (AI VZ L0) 9 (An Tryd.prog 10 2) Qf (Ix (a0,a1,a2,a3))=some (Np (a0,a1,a2,a3),L1 (a0,a1,a2,a3),De (a0,a1,a2,a3),Ix (Df (a0,a1,a2,a3))):=by kernel_rfl
theorem Y8 (a0:List TChange) (a1:Int) (a2:Int) (a3:Int) (hp:∀p∈FU (a0,a1,a2,a3),p):∀p∈Np (a0,a1,a2,a3),p:=by
 have n0:=N0 hp
 have n1:((A6 a0 a1 a2 a3)=true→(0:Int)≤a2∧a2 <(↑a0.length:Int)):=N0 (N1 hp)
 have n2:((A6 a0 a1 a2 a3)=true→(0:Int)≤a3∧a3 <(↑(a0.getD a2.toNat (Aj TC.change)).5.length:Int)):=N0 (N1 (N1 hp))
 exact(Aa n0 (Aa n1 (Aa n2 (Aa n1 (Aa n2 Am)))))
noncomputable def Nq:=Jl (AI VZ L0) (An Tryd.prog 10 2) Qf Abd J6 Ew Df De FU L1
theorem WB:∀s b ps outs,Nq s=some (b,ps,outs)→Wf s ⟨ps,outs,none⟩∧DE (AI C0 L0) b s ps outs:=
 C5 (T:=Ix) N7 AX (u:=9) (by kernel_rfl) (by decide) (fun⟨a0,a1,a2,a3⟩=>Y7 a0 a1 a2 a3) (fun⟨a0,a1,a2,a3⟩=>Y8 a0 a1 a2 a3) UM (fun _=>Bc (n:=122) rfl) fun _ _=>rfl
noncomputable def Iw:=Gt 2 Nq L0
theorem No:Ij Iw:=BK WB AX
abbrev By:Type:=(List TChange)×Int×Int
def Iv (x:By):St:=⟨122,0,[(1,.sl .change x.1),(7,.v (.int .i64 x.2.1)),(8,.v (.int .i64 x.2.2))],[]⟩
def J5:St→Option By
 |⟨122,0,[(1,.sl .change z0),(7,.v (.int .i64 z1)),(8,.v (.int .i64 z2))],[]⟩=>some (z0,z1,z2)
 |_=>none
theorem UK:∀s x,J5 s=some x→s=Iv x:=fun s x h=>by
 unfold J5 at h
 split at h
 ·cases h;rfl
 ·cases h
def Qe:F4:=⟨0,0,[1,7,8],[],[],[],[7],[]⟩
def Abc:Gi:=⟨[],[],[1,7,8],[]⟩
def Ct (a0:List TChange) (a1:Int) (a2:Int):Bool:=!!(decide (a2 <(↑a0.length:Int))&&decide (a1≤(6000:Int)))
def Hi (a0:List TChange) (a1:Int) (a2:Int):Int:=(Fj (a0,Av a1 (10:Int) (6000:Int),a2,(0:Int))).snd.fst
def Wz (a0:List TChange) (a1:Int) (a2:Int):Bool:=!(decide (a2 <(↑a0.length:Int))&&decide (a1≤(6000:Int)))
def Dd (x:By):By:=(x.1,Hi x.1 x.2.1 x.2.2,IntKind.i64.wrap (x.2.2+(1:Int)))
def Dc (x:By):Cnd:=some ((Ct x.1 x.2.1 x.2.2))
def Nl (x:By):List Prop:=[((Ct x.1 x.2.1 x.2.2)=true→An Tryd.prog (10:FuncId) (2:Nat)=An Tryd.prog (10:FuncId) (2:Nat)),((Ct x.1 x.2.1 x.2.2)=true→AN Df De FU (Ew (x.1,Av x.2.1 (10:Int) (6000:Int),x.2.2,(0:Int))) (x.1,Av x.2.1 (10:Int) (6000:Int),x.2.2,(0:Int)))]
def FT (x:By):List Prop:=[((Ct x.1 x.2.1 x.2.2)=true→AN Df De FU (Ew (x.1,Av x.2.1 (10:Int) (6000:Int),x.2.2,(0:Int))) (x.1,Av x.2.1 (10:Int) (6000:Int),x.2.2,(0:Int)))]
def LZ (x:By):Bh:=[(some 0,some (Wz x.1 x.2.1 x.2.2),⟨122,0,[(7,.v (.int .i64 x.2.1))],[]⟩)]
def Ev (x:By):Nat:=((↑x.1.length:Int) - x.2.2).toNat
def BW (x:By):By:=Ba Dd Dc (Ev x) x
theorem Y5 (a0:List TChange) (a1:Int) (a2:Int):Dq (AI VZ Iw) 9 (An Tryd.prog 10 0) Qe (Iv (a0,a1,a2))=some (Nl (a0,a1,a2),LZ (a0,a1,a2),Dc (a0,a1,a2),Iv (Dd (a0,a1,a2))):=by kernel_rfl
theorem Y6 (a0:List TChange) (a1:Int) (a2:Int) (hp:∀p∈FT (a0,a1,a2),p):∀p∈Nl (a0,a1,a2),p:=by
 have n0:((Ct a0 a1 a2)=true→An Tryd.prog (10:FuncId) (2:Nat)=An Tryd.prog (10:FuncId) (2:Nat)):=by intros;rfl
 have n1:=N0 hp
 exact(Aa n0 (Aa n1 Am))
noncomputable def Nn:=Jl (AI VZ Iw) (An Tryd.prog 10 0) Qe Abc J5 Ev Dd Dc FT LZ
theorem WA:∀s b ps outs,Nn s=some (b,ps,outs)→Wf s ⟨ps,outs,none⟩∧DE (AI C0 L0) b s ps outs:=
 C5 (T:=Iv) N7 No (u:=9) (by kernel_rfl) (by decide) (fun⟨a0,a1,a2⟩=>Y5 a0 a1 a2) (fun⟨a0,a1,a2⟩=>Y6 a0 a1 a2) UK (fun _=>Bc (n:=122) rfl) fun _ _=>rfl
noncomputable def Iu:=Gt 0 Nn Iw
theorem Nk:Ij Iu:=BK WA No
abbrev BC:Type:=Int×(List Aq)×Int×Int
def IC (x:BC):St:=⟨122,0,[(7,.v (.int .i64 x.1)),(11,.sl .row x.2.1),(12,.v (.int .i64 x.2.2.1)),(13,.v (.int .i64 x.2.2.2))],[]⟩
def J9:St→Option BC
 |⟨122,0,[(7,.v (.int .i64 z0)),(11,.sl .row z1),(12,.v (.int .i64 z2)),(13,.v (.int .i64 z3))],[]⟩=>some (z0,z1,z2,z3)
 |_=>none
theorem UP:∀s x,J9 s=some x→s=IC x:=fun s x h=>by
 unfold J9 at h
 split at h
 ·cases h;rfl
 ·cases h
def Qj:F4:=⟨0,0,[7,11,12,13],[],[],[],[7],[]⟩
def Abg:Gi:=⟨[],[],[7,11,12,13],[]⟩
def Ey (a0:Int) (a1:List Aq) (a2:Int) (a3:Int):Bool:=!!(decide (a3 <(↑(a1.getD a2.toNat (Aj TC.row)).2.length:Int))&&decide (a0≤(6000:Int)))
def Jb (a0:Int) (a1:List Aq) (a2:Int) (a3:Int):Int:=Av (Av a0 (10:Int) (6000:Int)) (↑((a1.getD a2.toNat (Aj TC.row)).2.getD a3.toNat (Aj TC.cell)).4.size:Int) (6000:Int)
def WG (a0:Int) (a1:List Aq) (a2:Int) (a3:Int):Bool:=!(decide (a3 <(↑(a1.getD a2.toNat (Aj TC.row)).2.length:Int))&&decide (a0≤(6000:Int)))
def Cx (x:BC):BC:=(Jb x.1 x.2.1 x.2.2.1 x.2.2.2,x.2.1,x.2.2.1,IntKind.i64.wrap (x.2.2.2+(1:Int)))
def Cw (x:BC):Cnd:=some ((Ey x.1 x.2.1 x.2.2.1 x.2.2.2))
def Jc (x:BC):List Prop:=[((0:Int)≤x.2.2.1∧x.2.2.1 <(↑x.2.1.length:Int)),((Ey x.1 x.2.1 x.2.2.1 x.2.2.2)=true→(0:Int)≤x.2.2.1∧x.2.2.1 <(↑x.2.1.length:Int)),((Ey x.1 x.2.1 x.2.2.1 x.2.2.2)=true→(0:Int)≤x.2.2.2∧x.2.2.2 <(↑(x.2.1.getD x.2.2.1.toNat (Aj TC.row)).2.length:Int))]
abbrev EN:BC→List Prop:=Jc
def L4 (x:BC):Bh:=[(some 8,some (WG x.1 x.2.1 x.2.2.1 x.2.2.2),⟨122,0,[(7,.v (.int .i64 x.1))],[]⟩)]
def Dj (x:BC):Nat:=((↑(x.2.1.getD x.2.2.1.toNat (Aj TC.row)).2.length:Int) - x.2.2.2).toNat
def Fl (x:BC):BC:=Ba Cx Cw (Dj x) x
theorem Zd (a0:Int) (a1:List Aq) (a2:Int) (a3:Int):Dq (AI VZ Iu) 9 (An Tryd.prog 10 8) Qj (IC (a0,a1,a2,a3))=some (Jc (a0,a1,a2,a3),L4 (a0,a1,a2,a3),Cw (a0,a1,a2,a3),IC (Cx (a0,a1,a2,a3))):=by kernel_rfl
theorem Ze (a0:Int) (a1:List Aq) (a2:Int) (a3:Int) (hp:∀p∈EN (a0,a1,a2,a3),p):∀p∈Jc (a0,a1,a2,a3),p:=hp
noncomputable def Ny:=Jl (AI VZ Iu) (An Tryd.prog 10 8) Qj Abg J9 Dj Cx Cw EN L4
theorem WH:∀s b ps outs,Ny s=some (b,ps,outs)→Wf s ⟨ps,outs,none⟩∧DE (AI C0 L0) b s ps outs:=
 C5 (T:=IC) N7 Nk (u:=9) (by kernel_rfl) (by decide) (fun⟨a0,a1,a2,a3⟩=>Zd a0 a1 a2 a3) (fun⟨a0,a1,a2,a3⟩=>Ze a0 a1 a2 a3) UP (fun _=>Bc (n:=122) rfl) fun _ _=>rfl
noncomputable def IB:=Gt 8 Ny Iu
theorem Nw:Ij IB:=BK WH Nk
abbrev BB:Type:=Int×(List Aq)×Int
def IA (x:BB):St:=⟨122,0,[(7,.v (.int .i64 x.1)),(11,.sl .row x.2.1),(12,.v (.int .i64 x.2.2))],[]⟩
def J8:St→Option BB
 |⟨122,0,[(7,.v (.int .i64 z0)),(11,.sl .row z1),(12,.v (.int .i64 z2))],[]⟩=>some (z0,z1,z2)
 |_=>none
theorem UO:∀s x,J8 s=some x→s=IA x:=fun s x h=>by
 unfold J8 at h
 split at h
 ·cases h;rfl
 ·cases h
def Qi:F4:=⟨0,0,[7,11,12],[],[],[],[7],[]⟩
def Abf:Gi:=⟨[],[],[7,11,12],[]⟩
def Bt (a0:Int) (a1:List Aq) (a2:Int):Bool:=!!(decide (a2 <(↑a1.length:Int))&&decide (a0≤(6000:Int)))
def Hk (a0:Int) (a1:List Aq) (a2:Int):Int:=(Fl (Av (Av a0 (10:Int) (6000:Int)) (↑(a1.getD a2.toNat (Aj TC.row)).1.size:Int) (6000:Int),a1,a2,(0:Int))).fst
def WE (a0:Int) (a1:List Aq) (a2:Int):Bool:=!(decide (a2 <(↑a1.length:Int))&&decide (a0≤(6000:Int)))
def Cv (x:BB):BB:=(Hk x.1 x.2.1 x.2.2,x.2.1,IntKind.i64.wrap (x.2.2+(1:Int)))
def Cu (x:BB):Cnd:=some ((Bt x.1 x.2.1 x.2.2))
def Nu (x:BB):List Prop:=[((Bt x.1 x.2.1 x.2.2)=true→(0:Int)≤x.2.2∧x.2.2 <(↑x.2.1.length:Int)),((Bt x.1 x.2.1 x.2.2)=true→An Tryd.prog (10:FuncId) (8:Nat)=An Tryd.prog (10:FuncId) (8:Nat)),((Bt x.1 x.2.1 x.2.2)=true→AN Cx Cw EN (Dj (Av (Av x.1 (10:Int) (6000:Int)) (↑(x.2.1.getD x.2.2.toNat (Aj TC.row)).1.size:Int) (6000:Int),x.2.1,x.2.2,(0:Int))) (Av (Av x.1 (10:Int) (6000:Int)) (↑(x.2.1.getD x.2.2.toNat (Aj TC.row)).1.size:Int) (6000:Int),x.2.1,x.2.2,(0:Int)))]
def EM (x:BB):List Prop:=[((Bt x.1 x.2.1 x.2.2)=true→(0:Int)≤x.2.2∧x.2.2 <(↑x.2.1.length:Int)),((Bt x.1 x.2.1 x.2.2)=true→AN Cx Cw EN (Dj (Av (Av x.1 (10:Int) (6000:Int)) (↑(x.2.1.getD x.2.2.toNat (Aj TC.row)).1.size:Int) (6000:Int),x.2.1,x.2.2,(0:Int))) (Av (Av x.1 (10:Int) (6000:Int)) (↑(x.2.1.getD x.2.2.toNat (Aj TC.row)).1.size:Int) (6000:Int),x.2.1,x.2.2,(0:Int)))]
def L3 (x:BB):Bh:=[(some 6,some (WE x.1 x.2.1 x.2.2),⟨122,0,[(7,.v (.int .i64 x.1))],[]⟩)]
def Di (x:BB):Nat:=((↑x.2.1.length:Int) - x.2.2).toNat
def Fk (x:BB):BB:=Ba Cv Cu (Di x) x
theorem Zb (a0:Int) (a1:List Aq) (a2:Int):Dq (AI VZ IB) 9 (An Tryd.prog 10 6) Qi (IA (a0,a1,a2))=some (Nu (a0,a1,a2),L3 (a0,a1,a2),Cu (a0,a1,a2),IA (Cv (a0,a1,a2))):=by kernel_rfl
theorem Zc (a0:Int) (a1:List Aq) (a2:Int) (hp:∀p∈EM (a0,a1,a2),p):∀p∈Nu (a0,a1,a2),p:=by
 have n0:=N0 hp
 have n1:((Bt a0 a1 a2)=true→An Tryd.prog (10:FuncId) (8:Nat)=An Tryd.prog (10:FuncId) (8:Nat)):=by intros;rfl
 have n2:=N0 (N1 hp)
 exact(Aa n0 (Aa n1 (Aa n2 Am)))
noncomputable def Nv:=Jl (AI VZ IB) (An Tryd.prog 10 6) Qi Abf J8 Di Cv Cu EM L3
theorem WF:∀s b ps outs,Nv s=some (b,ps,outs)→Wf s ⟨ps,outs,none⟩∧DE (AI C0 L0) b s ps outs:=
 C5 (T:=IA) N7 Nw (u:=9) (by kernel_rfl) (by decide) (fun⟨a0,a1,a2⟩=>Zb a0 a1 a2) (fun⟨a0,a1,a2⟩=>Zc a0 a1 a2) UO (fun _=>Bc (n:=122) rfl) fun _ _=>rfl
noncomputable def Iz:=Gt 6 Nv IB
theorem Nt:Ij Iz:=BK WF Nw
abbrev BA:Type:=Int×(List (List Aq))×Int×Int
def Iy (x:BA):St:=⟨122,0,[(7,.v (.int .i64 x.1)),(67,.sl .rows x.2.1),(68,.v (.int .i64 x.2.2.1)),(69,.v (.int .i64 x.2.2.2))],[]⟩
def J7:St→Option BA
 |⟨122,0,[(7,.v (.int .i64 z0)),(67,.sl .rows z1),(68,.v (.int .i64 z2)),(69,.v (.int .i64 z3))],[]⟩=>some (z0,z1,z2,z3)
 |_=>none
theorem UN:∀s x,J7 s=some x→s=Iy x:=fun s x h=>by
 unfold J7 at h
 split at h
 ·cases h;rfl
 ·cases h
def Qh:F4:=⟨0,0,[7,67,68,69],[],[],[],[7],[]⟩
def Abe:Gi:=⟨[],[],[7,67,68,69],[]⟩
def Hj (a0:Int) (a1:List (List Aq)) (_a2:Int) (a3:Int):Int:=(Fk (a0,a1.getD a3.toNat (Aj TC.rows),(0:Int))).fst
def Dh (x:BA):BA:=(Hj x.1 x.2.1 x.2.2.1 x.2.2.2,x.2.1,x.2.2.1,IntKind.i64.wrap (x.2.2.2+(1:Int)))
def Dg (x:BA):Cnd:=some (!!decide (x.2.2.2 <x.2.2.1))
def Nr (x:BA):List Prop:=[((!!decide (x.2.2.2 <x.2.2.1))=true→(0:Int)≤x.2.2.2∧x.2.2.2 <(↑x.2.1.length:Int)),((!!decide (x.2.2.2 <x.2.2.1))=true→An Tryd.prog (10:FuncId) (6:Nat)=An Tryd.prog (10:FuncId) (6:Nat)),((!!decide (x.2.2.2 <x.2.2.1))=true→AN Cv Cu EM (Di (x.1,x.2.1.getD x.2.2.2.toNat (Aj TC.rows),(0:Int))) (x.1,x.2.1.getD x.2.2.2.toNat (Aj TC.rows),(0:Int)))]
def FV (x:BA):List Prop:=[((!!decide (x.2.2.2 <x.2.2.1))=true→(0:Int)≤x.2.2.2∧x.2.2.2 <(↑x.2.1.length:Int)),((!!decide (x.2.2.2 <x.2.2.1))=true→AN Cv Cu EM (Di (x.1,x.2.1.getD x.2.2.2.toNat (Aj TC.rows),(0:Int))) (x.1,x.2.1.getD x.2.2.2.toNat (Aj TC.rows),(0:Int)))]
def L2 (x:BA):Bh:=[(some 4,some (!decide (x.2.2.2 <x.2.2.1)),⟨122,0,[(7,.v (.int .i64 x.1))],[]⟩)]
def Ex (x:BA):Nat:=(x.2.2.1 - x.2.2.2).toNat
def Ja (x:BA):BA:=Ba Dh Dg (Ex x) x
theorem Y9 (a0:Int) (a1:List (List Aq)) (a2:Int) (a3:Int):Dq (AI VZ Iz) 9 (An Tryd.prog 10 4) Qh (Iy (a0,a1,a2,a3))=some (Nr (a0,a1,a2,a3),L2 (a0,a1,a2,a3),Dg (a0,a1,a2,a3),Iy (Dh (a0,a1,a2,a3))):=by kernel_rfl
theorem Za (a0:Int) (a1:List (List Aq)) (a2:Int) (a3:Int) (hp:∀p∈FV (a0,a1,a2,a3),p):∀p∈Nr (a0,a1,a2,a3),p:=by
 have n0:=N0 hp
 have n1:((!!decide (a3 <a2))=true→An Tryd.prog (10:FuncId) (6:Nat)=An Tryd.prog (10:FuncId) (6:Nat)):=by intros;rfl
 have n2:=N0 (N1 hp)
 exact(Aa n0 (Aa n1 (Aa n2 Am)))
noncomputable def Ns:=Jl (AI VZ Iz) (An Tryd.prog 10 4) Qh Abe J7 Ex Dh Dg FV L2
theorem WD:∀s b ps outs,Ns s=some (b,ps,outs)→Wf s ⟨ps,outs,none⟩∧DE (AI C0 L0) b s ps outs:=
 C5 (T:=Iy) N7 Nt (u:=9) (by kernel_rfl) (by decide) (fun⟨a0,a1,a2,a3⟩=>Y9 a0 a1 a2 a3) (fun⟨a0,a1,a2,a3⟩=>Za a0 a1 a2 a3) UN (fun _=>Bc (n:=122) rfl) fun _ _=>rfl
noncomputable def Qg:=Gt 4 Ns Iz
theorem WC:Ij Qg:=BK WD Nt
def LY (a0:List Af) (a1:List TChange) (a2:List (List Aq)):Bool:=decide ((Ja ((BW (a1,Av (0:Int) (↑a0.length:Int) (6000:Int),(0:Int))).snd.fst,a2,(↑a2.length:Int),(0:Int))).fst≤(6000:Int))
def XR (a0:List Af) (a1:List TChange) (a2:List (List Aq)):A:=.v (.bool (LY a0 a1 a2))
def XQ (_a0:List Af) (_a1:List TChange) (_a2:List (List Aq)):Objs:=[]
def UR (a0:List Af) (a1:List TChange) (a2:List (List Aq)):List Prop:=[(AN Dd Dc FT (Ev (a1,Av (0:Int) (↑a0.length:Int) (6000:Int),(0:Int))) (a1,Av (0:Int) (↑a0.length:Int) (6000:Int),(0:Int))),(AN Dh Dg FV (Ex ((BW (a1,Av (0:Int) (↑a0.length:Int) (6000:Int),(0:Int))).snd.fst,a2,(↑a2.length:Int),(0:Int))) ((BW (a1,Av (0:Int) (↑a0.length:Int) (6000:Int),(0:Int))).snd.fst,a2,(↑a2.length:Int),(0:Int)))]
theorem Ajl (a0:List Af) (a1:List TChange) (a2:List (List Aq)):I6 (AI VZ Qg) 9 10 [.sl .group a0,.sl .change a1,.sl .rows a2] 0 []=some (1,XR a0 a1 a2,0,XQ a0 a1 a2,[(An Tryd.prog (10:FuncId) (0:Nat)=An Tryd.prog (10:FuncId) (0:Nat)),(AN Dd Dc FT (Ev (a1,Av (0:Int) (↑a0.length:Int) (6000:Int),(0:Int))) (a1,Av (0:Int) (↑a0.length:Int) (6000:Int),(0:Int))),(An Tryd.prog (10:FuncId) (4:Nat)=An Tryd.prog (10:FuncId) (4:Nat)),(AN Dh Dg FV (Ex ((BW (a1,Av (0:Int) (↑a0.length:Int) (6000:Int),(0:Int))).snd.fst,a2,(↑a2.length:Int),(0:Int))) ((BW (a1,Av (0:Int) (↑a0.length:Int) (6000:Int),(0:Int))).snd.fst,a2,(↑a2.length:Int),(0:Int)))]):=by kernel_rfl
theorem An1 (a0:List Af) (a1:List TChange) (a2:List (List Aq)) (hp:∀p∈UR a0 a1 a2,p):CallOk Tryd.prog 10 [.sl .group a0,.sl .change a1,.sl .rows a2] 0 [] 1 (XR a0 a1 a2) 0 (XQ a0 a1 a2):=by
 have n1:=N0 hp
 have n3:=N0 (N1 hp)
 exact AW (AJ N7 WC) (Ajl a0 a1 a2) (Aa rfl (Aa n1 (Aa rfl (Aa n3 Am))))
def US (a0:List Af) (a1:List TChange) (a2:List (List Aq)):A:=.v (.bool (LY a0 a1 a2))
def UQ (_a0:List Af) (_a1:List TChange) (_a2:List (List Aq)):Objs:=[]
def O1 (c:TChange):Prop:=AD c.writes.length∧∀w∈c.writes,AD w.key.size∧AD w.value.size
def Vx (c:TChange):Prop:=c.writes.length≤6000∧∀w∈c.writes,w.key.size≤6000∧w.value.size≤6000
def So (a0:List Af) (a1:List TChange) (a2:List (List Aq)):List Prop:=[AD a0.length∧(AD a1.length∧∀c∈a1,O1 c)∧AD a2.length∧∀x∈a2,AD x.length∧∀r∈x,SX r]
theorem YS {n k:Int} (hn:0≤n) (hk:0≤k∧k≤9223372036854775807):0≤Av n k 6000∧(Av n k 6000≤6000→n+k≤Av n k 6000∧n+k≤6000):=by
 obtain⟨h1,h2,h3⟩:=A7g (n:=n) (k:=k) (m:=6000) hn hk (by omega)
 exact⟨h2,fun h=>⟨by rw[h3 (h1 h)];omega,h1 h⟩⟩
theorem Ae3 (rows:List Aq) (i:Nat) (hi:i <rows.length) (n0:Int) (h0:0≤n0) (hl:AD (rows.getD i (Aj TC.row)).cells.length) (hw:∀c∈(rows.getD i (Aj TC.row)).cells,AD c.value.size):
  AN Cx Cw EN (Dj (n0,rows,(i:Int),0)) (n0,rows,(i:Int),0)∧
  0≤(Fl (n0,rows,(i:Int),0)).fst∧((Fl (n0,rows,(i:Int),0)).fst≤6000→n0+10*((rows.getD i (Aj TC.row)).cells.length:Int)≤(Fl (n0,rows,(i:Int),0)).fst∧∀c∈(rows.getD i (Aj TC.row)).cells,c.value.size≤6000):=by
 generalize hcs:(rows.getD i (Aj TC.row)).cells=cs at*
 have hcs2:(rows.getD i (Aj TC.row)).2=cs:=hcs
 have hgo:∀(k:Nat) (n:Int),Ey n rows (i:Int) (k:Int)=(decide (k <cs.length)&&(false||decide (n≤6000))):=fun k n=>by
  unfold Ey
  rw[Int.toNat_natCast,hcs2,nn,Ux,Bool.false_or]
 unfold AD at hl
 obtain⟨h1,k,n',hx,h2,h3⟩:=PA (fun k n=>((n,rows,(i:Int),(k:Int)):BC)) cs.length (fun k n=>Av (Av n 10 6000) ((cs.getD k (Aj TC.cell)).4.size:Int) 6000) (fun k=>(cs.getD k (Aj TC.cell)).value.size≤6000) 6000 10 false Cx Cw EN (Dj (n0,rows,(i:Int),0)) (n0,rows,(i:Int),0) n0 rfl
  (by show cs.length≤(((rows.getD ((i:Int)).toNat (Aj TC.row)).2.length:Int) - 0).toNat;rw[Int.toNat_natCast,hcs2];omega) h0
  (fun k n hk hn=>by
   obtain⟨a1,a2⟩:=YS (k:=10) hn (by omega)
   obtain⟨b1,b2⟩:=YS a1 (Ah5 (hw _ (getD_in cs (Aj TC.cell) k hk)))
   refine⟨b1,fun h=>?_⟩
   obtain⟨c1,c2⟩:=b2 h
   obtain⟨d1,d2⟩:=a2 (by omega)
   exact⟨by omega,by show(cs.getD k (Aj TC.cell)).4.size≤6000;omega⟩)
  (by omega)
  (fun k n _=>hgo k n)
  (fun k n hk _=>by
   show(Jb n rows (i:Int) (k:Int),rows,(i:Int),IntKind.i64.wrap ((k:Int)+1))=(_,rows,(i:Int),((k+1:Nat):Int))
   rw[IT (by omega)]
   unfold Jb
   rw[Int.toNat_natCast,Int.toNat_natCast,hcs2])
  (fun k n _ _=>Aa (by show(0:Int)≤(i:Int)∧(i:Int) <(rows.length:Int);omega) (Aa (fun _=>by show(0:Int)≤(i:Int)∧(i:Int) <(rows.length:Int);omega) (Aa (fun h=>by
   have h':Ey n rows (i:Int) (k:Int)=true:=h
   rw[hgo,Bool.and_eq_true] at h'
   have:=of_decide_eq_true h'.1
   show(0:Int)≤(k:Int)∧(k:Int) <((rows.getD ((i:Int)).toNat (Aj TC.row)).2.length:Int)
   rw[Int.toNat_natCast,hcs2]
   omega) Am)))
 have hr:Fl (n0,rows,(i:Int),0)=(n',rows,(i:Int),(k:Int)):=hx
 rw[hr]
 exact⟨h1,h2,fun h=>⟨(h3 h).1,M0 (h3 h).2⟩⟩
theorem Ajo (rows:List Aq) (n0:Int) (h0:0≤n0) (hl:AD rows.length) (hw:∀r∈rows,SX r):
  AN Cv Cu EM (Di (n0,rows,0)) (n0,rows,0)∧
  0≤(Fk (n0,rows,0)).fst∧((Fk (n0,rows,0)).fst≤6000→n0+10*(rows.length:Int)≤(Fk (n0,rows,0)).fst∧∀r∈rows,Ad1 6000 r):=by
 have hgo:∀(k:Nat) (n:Int),Bt n rows (k:Int)=(decide (k <rows.length)&&(false||decide (n≤6000))):=fun k n=>by
  unfold Bt
  rw[nn,Ux,Bool.false_or]
 unfold AD at hl
 have hin:∀(i:Nat) (n:Int),i <rows.length→0≤n→_:=fun i n hi hn=>
  Ae3 rows i hi (Av (Av n 10 6000) ((rows.getD i (Aj TC.row)).1.size:Int) 6000) (YS (YS hn (by omega)).1 (Ah5 (hw _ (getD_in rows (Aj TC.row) i hi)).1)).1 (hw _ (getD_in rows (Aj TC.row) i hi)).2.1 (hw _ (getD_in rows (Aj TC.row) i hi)).2.2
 obtain⟨h1,k,n',hx,h2,h3⟩:=PA (fun k n=>((n,rows,(k:Int)):BB)) rows.length (fun k n=>Hk n rows (k:Int)) (fun k=>Ad1 6000 (rows.getD k (Aj TC.row))) 6000 10 false Cv Cu EM (Di (n0,rows,0)) (n0,rows,0) n0 rfl
  (by show rows.length≤((rows.length:Int) - 0).toNat;omega) h0
  (fun k n hk hn=>by
   obtain⟨_,g2,g3⟩:=hin k n hk hn
   obtain⟨a1,a2⟩:=YS (k:=10) hn (by omega)
   obtain⟨b1,b2⟩:=YS a1 (Ah5 (hw _ (getD_in rows (Aj TC.row) k hk)).1)
   unfold Hk
   rw[Int.toNat_natCast]
   refine⟨g2,fun h=>?_⟩
   obtain⟨c1,c2⟩:=g3 h
   have h':(Fl (Av (Av n 10 6000) ((rows.getD k (Aj TC.row)).1.size:Int) 6000,rows,(k:Int),0)).fst≤6000:=h
   obtain⟨d1,d2⟩:=b2 (by omega)
   obtain⟨e1,e2⟩:=a2 (by omega)
   exact⟨by omega,by show(rows.getD k (Aj TC.row)).1.size≤6000;omega,by omega,c2⟩)
  (by omega)
  (fun k n _=>hgo k n)
  (fun k n hk _=>by
   show(Hk n rows (k:Int),rows,IntKind.i64.wrap ((k:Int)+1))=(_,rows,((k+1:Nat):Int))
   rw[IT (by omega)])
  (fun k n hk hn=>by
   have hlt:Bt n rows (k:Int)=true→k <rows.length:=fun h=>by
    rw[hgo,Bool.and_eq_true] at h
    exact of_decide_eq_true h.1
   refine Aa (fun h=>?_) (Aa (fun h=>?_) Am)
   ·have:=hlt h
    show(0:Int)≤(k:Int)∧(k:Int) <(rows.length:Int)
    omega
   ·have:=(hin k n (hlt h) hn).1
    have e:((k:Int)).toNat=k:=Int.toNat_natCast k
    show AN Cx Cw EN (Dj (Av (Av n 10 6000) ((rows.getD ((k:Int)).toNat (Aj TC.row)).1.size:Int) 6000,rows,(k:Int),0)) (Av (Av n 10 6000) ((rows.getD ((k:Int)).toNat (Aj TC.row)).1.size:Int) 6000,rows,(k:Int),0)
    rw[e]
    exact this)
 have hr:Fk (n0,rows,0)=(n',rows,(k:Int)):=hx
 rw[hr]
 exact⟨h1,h2,fun h=>⟨(h3 h).1,M0 (h3 h).2⟩⟩
theorem An9 (xs:List (List Aq)) (n0:Int) (h0:0≤n0) (hl:AD xs.length) (hw:∀x∈xs,AD x.length∧∀r∈x,SX r):
  AN Dh Dg FV (Ex (n0,xs,(xs.length:Int),0)) (n0,xs,(xs.length:Int),0)∧
  ((Ja (n0,xs,(xs.length:Int),0)).fst≤6000→n0≤6000∧∀x∈xs,x.length≤6000∧∀r∈x,Ad1 6000 r):=by
 unfold AD at hl
 have hin:∀(i:Nat) (n:Int),i <xs.length→0≤n→_:=fun i n hi hn=>
  Ajo (xs.getD i (Aj TC.rows)) n hn (hw _ (getD_in xs (Aj TC.rows) i hi)).1 (hw _ (getD_in xs (Aj TC.rows) i hi)).2
 obtain⟨h1,k,n',hx,h2,h3⟩:=PA (fun k n=>((n,xs,(xs.length:Int),(k:Int)):BA)) xs.length (fun k n=>Hj n xs (xs.length:Int) (k:Int)) (fun k=>(xs.getD k (Aj TC.rows)).length≤6000∧∀r∈xs.getD k (Aj TC.rows),Ad1 6000 r) 6000 0 true Dh Dg FV (Ex (n0,xs,(xs.length:Int),0)) (n0,xs,(xs.length:Int),0) n0 rfl
  (by show xs.length≤((xs.length:Int) - 0).toNat;omega) h0
  (fun k n hk hn=>by
   obtain⟨_,g2,g3⟩:=hin k n hk hn
   unfold Hj
   rw[Int.toNat_natCast]
   refine⟨g2,fun h=>?_⟩
   obtain⟨c1,c2⟩:=g3 h
   have h':(Fk (n,xs.getD k (Aj TC.rows),0)).fst≤6000:=h
   exact⟨by omega,by omega,c2⟩)
  (Int.le_refl _)
  (fun k n _=>by
   show(!!decide ((k:Int) <(xs.length:Int)))=_
   rw[nn,Ux,Bool.true_or,Bool.and_true])
  (fun k n hk _=>by
   show(Hj n xs (xs.length:Int) (k:Int),xs,(xs.length:Int),IntKind.i64.wrap ((k:Int)+1))=(_,xs,(xs.length:Int),((k+1:Nat):Int))
   rw[IT (by omega)])
  (fun k n hk hn=>by
   have hlt:(!!decide ((k:Int) <(xs.length:Int)))=true→k <xs.length:=fun h=>by
    rw[nn] at h
    have:=of_decide_eq_true h
    omega
   refine Aa (fun h=>?_) (Aa (fun h=>?_) Am)
   ·have:=hlt h
    show(0:Int)≤(k:Int)∧(k:Int) <(xs.length:Int)
    omega
   ·have:=(hin k n (hlt h) hn).1
    have e:((k:Int)).toNat=k:=Int.toNat_natCast k
    show AN Cv Cu EM (Di (n,xs.getD ((k:Int)).toNat (Aj TC.rows),0)) (n,xs.getD ((k:Int)).toNat (Aj TC.rows),0)
    rw[e]
    exact this)
 have hr:Ja (n0,xs,(xs.length:Int),0)=(n',xs,(xs.length:Int),(k:Int)):=hx
 rw[hr]
 exact⟨h1,fun h=>⟨by have h':n'≤6000:=h;have:=(h3 h).1;omega,M0 (h3 h).2⟩⟩
theorem Abj (cs:List TChange) (i:Nat) (hi:i <cs.length) (n0:Int) (h0:0≤n0) (hw:O1 (cs.getD i (Aj TC.change))):
  AN Df De FU (Ew (cs,n0,(i:Int),0)) (cs,n0,(i:Int),0)∧
  0≤(Fj (cs,n0,(i:Int),0)).snd.fst∧((Fj (cs,n0,(i:Int),0)).snd.fst≤6000→n0≤(Fj (cs,n0,(i:Int),0)).snd.fst∧Vx (cs.getD i (Aj TC.change))):=by
 obtain⟨hl,hw⟩:=hw
 unfold Vx
 generalize hcs:(cs.getD i (Aj TC.change)).writes=ws at*
 have hcs2:(cs.getD i (Aj TC.change)).5=ws:=hcs
 have hgo:∀(k:Nat) (n:Int),A6 cs n (i:Int) (k:Int)=(decide (k <ws.length)&&(false||decide (n≤6000))):=fun k n=>by
  unfold A6
  rw[Int.toNat_natCast,hcs2,nn,Ux,Bool.false_or]
 unfold AD at hl
 obtain⟨h1,k,n',hx,h2,h3⟩:=PA (fun k n=>((cs,n,(i:Int),(k:Int)):Bz)) ws.length (fun k n=>Av (Av (Av n 10 6000) ((ws.getD k (Aj TC.write)).1.size:Int) 6000) ((ws.getD k (Aj TC.write)).4.size:Int) 6000) (fun k=>(ws.getD k (Aj TC.write)).key.size≤6000∧(ws.getD k (Aj TC.write)).value.size≤6000) 6000 10 false Df De FU (Ew (cs,n0,(i:Int),0)) (cs,n0,(i:Int),0) n0 rfl
  (by show ws.length≤(((cs.getD ((i:Int)).toNat (Aj TC.change)).5.length:Int) - 0).toNat;rw[Int.toNat_natCast,hcs2];omega) h0
  (fun k n hk hn=>by
   obtain⟨w1,w2⟩:=hw _ (getD_in ws (Aj TC.write) k hk)
   obtain⟨a1,a2⟩:=YS (k:=10) hn (by omega)
   obtain⟨b1,b2⟩:=YS a1 (Ah5 w1)
   obtain⟨f1,f2⟩:=YS b1 (Ah5 w2)
   refine⟨f1,fun h=>?_⟩
   obtain⟨g1,g2⟩:=f2 h
   obtain⟨c1,c2⟩:=b2 (by omega)
   obtain⟨d1,d2⟩:=a2 (by omega)
   exact⟨by omega,by omega,by omega⟩)
  (by omega)
  (fun k n _=>hgo k n)
  (fun k n hk _=>by
   show(cs,I9 cs n (i:Int) (k:Int),(i:Int),IntKind.i64.wrap ((k:Int)+1))=(cs,_,(i:Int),((k+1:Nat):Int))
   rw[IT (by omega)]
   unfold I9
   rw[Int.toNat_natCast,Int.toNat_natCast,hcs2])
  (fun k n _ _=>Aa (by show(0:Int)≤(i:Int)∧(i:Int) <(cs.length:Int);omega) (Aa (fun _=>by show(0:Int)≤(i:Int)∧(i:Int) <(cs.length:Int);omega) (Aa (fun h=>by
   have h':A6 cs n (i:Int) (k:Int)=true:=h
   rw[hgo,Bool.and_eq_true] at h'
   have:=of_decide_eq_true h'.1
   show(0:Int)≤(k:Int)∧(k:Int) <((cs.getD ((i:Int)).toNat (Aj TC.change)).5.length:Int)
   rw[Int.toNat_natCast,hcs2]
   omega) Am)))
 have hr:Fj (cs,n0,(i:Int),0)=(cs,n',(i:Int),(k:Int)):=hx
 rw[hr]
 refine⟨h1,h2,fun h=>?_⟩
 have h':n'≤6000:=h
 obtain⟨q1,q2⟩:=h3 h
 refine⟨by show n0≤n';omega,by omega,?_⟩
 exact M0 (P:=fun w:AA=>w.key.size≤6000∧w.value.size≤6000) q2
theorem Zf (cs:List TChange) (n0:Int) (h0:0≤n0) (hl:AD cs.length) (hw:∀c∈cs,O1 c):
  AN Dd Dc FT (Ev (cs,n0,0)) (cs,n0,0)∧
  0≤(BW (cs,n0,0)).snd.fst∧((BW (cs,n0,0)).snd.fst≤6000→n0+10*(cs.length:Int)≤(BW (cs,n0,0)).snd.fst∧∀c∈cs,Vx c):=by
 have hgo:∀(k:Nat) (n:Int),Ct cs n (k:Int)=(decide (k <cs.length)&&(false||decide (n≤6000))):=fun k n=>by
  unfold Ct
  rw[nn,Ux,Bool.false_or]
 unfold AD at hl
 have hin:∀(i:Nat) (n:Int),i <cs.length→0≤n→_:=fun i n hi hn=>
  Abj cs i hi (Av n 10 6000) (YS hn (by omega)).1 (hw _ (getD_in cs (Aj TC.change) i hi))
 obtain⟨h1,k,n',hx,h2,h3⟩:=PA (fun k n=>((cs,n,(k:Int)):By)) cs.length (fun k n=>Hi cs n (k:Int)) (fun k=>Vx (cs.getD k (Aj TC.change))) 6000 10 false Dd Dc FT (Ev (cs,n0,0)) (cs,n0,0) n0 rfl
  (by show cs.length≤((cs.length:Int) - 0).toNat;omega) h0
  (fun k n hk hn=>by
   obtain⟨_,g2,g3⟩:=hin k n hk hn
   obtain⟨a1,a2⟩:=YS (k:=10) hn (by omega)
   unfold Hi
   refine⟨g2,fun h=>?_⟩
   obtain⟨c1,c2⟩:=g3 h
   have h':(Fj (cs,Av n 10 6000,(k:Int),0)).snd.fst≤6000:=h
   obtain⟨e1,e2⟩:=a2 (by omega)
   exact⟨by omega,c2⟩)
  (by omega)
  (fun k n _=>hgo k n)
  (fun k n hk _=>by
   show(cs,Hi cs n (k:Int),IntKind.i64.wrap ((k:Int)+1))=(cs,_,((k+1:Nat):Int))
   rw[IT (by omega)])
  (fun k n hk hn=>Aa (fun h=>by
    have h':Ct cs n (k:Int)=true:=h
    rw[hgo,Bool.and_eq_true] at h'
    exact(hin k n (of_decide_eq_true h'.1) hn).1) Am)
 have hr:BW (cs,n0,0)=(cs,n',(k:Int)):=hx
 rw[hr]
 exact⟨h1,h2,fun h=>⟨(h3 h).1,M0 (h3 h).2⟩⟩
theorem Abi (l:List Af) (cs:List TChange) (xs:List (List Aq)) (hl:AD l.length) (hc:AD cs.length∧∀c∈cs,O1 c) (hr:AD xs.length) (hw:∀x∈xs,AD x.length∧∀r∈x,SX r):(∀p∈UR l cs xs,p)∧
  (LY l cs xs=true→l.length≤6000∧(cs.length≤6000∧∀c∈cs,Vx c)∧∀x∈xs,x.length≤6000∧∀r∈x,Ad1 6000 r):=by
 obtain⟨a1,a2⟩:=YS (n:=0) (k:=(l.length:Int)) (Int.le_refl _) (Ah5 hl)
 obtain⟨b1,b2,b3⟩:=Zf cs _ a1 hc.1 hc.2
 obtain⟨c1,c2⟩:=An9 xs _ b2 hr hw
 refine⟨Aa b1 (Aa c1 Am),fun h=>?_⟩
 have h':=of_decide_eq_true h
 obtain⟨d1,d2⟩:=c2 h'
 obtain⟨e1,e2⟩:=b3 d1
 have:=a2 (by omega)
 exact⟨by omega,⟨by omega,e2⟩,d2⟩
theorem Ajk (a0:List Af) (a1:List TChange) (a2:List (List Aq)) (hp:∀p∈So a0 a1 a2,p):CallOk Tryd.prog 10 [.sl .group a0,.sl .change a1,.sl .rows a2] 0 [] 1 (US a0 a1 a2) 0 (UQ a0 a1 a2):=by
 obtain⟨h1,h2,h3,h4⟩:=hp _ (List.mem_cons_self ..)
 exact An1 a0 a1 a2 (Abi a0 a1 a2 h1 h2 h3 h4).1
def Qk:List A→Nat→Objs→Option CJ:=Fc [.l .group,.l .change,.l .rows] 0 US UQ So
theorem Sp:IV Tryd.prog 10 Qk:=AM (ks:=[.l .group,.l .change,.l .rows]) Ajk
noncomputable def Axr:=CA 10 Qk VZ
theorem Aih:FM Tryd.prog Axr:=Az Sp N7
abbrev Bn:Type:=(List Af)×ByteArray×(List Aq)×Int×Int
def HT (x:Bn):St:=⟨38,0,[(0,.sl .group x.1),(6,.v (.string x.2.1)),(15,.sl .row x.2.2.1),(16,.v (.int .i64 x.2.2.2.1)),(17,.v (.int .i64 x.2.2.2.2))],[]⟩
def Jf:St→Option Bn
 |⟨38,0,[(0,.sl .group z0),(6,.v (.string z1)),(15,.sl .row z2),(16,.v (.int .i64 z3)),(17,.v (.int .i64 z4))],[]⟩=>some (z0,z1,z2,z3,z4)
 |_=>none
theorem Tt:∀s x,Jf s=some x→s=HT x:=fun s x h=>by
 unfold Jf at h
 split at h
 ·cases h;rfl
 ·cases h
def Pb:F4:=⟨0,0,[0,6,15,16,17],[],[],[],[4],[]⟩
def Zg:Gi:=⟨[],[],[0,6,15,16,17],[]⟩
def FA (a0:List Af) (_a1:ByteArray) (a2:List Aq) (_a3:Int) (a4:Int):Bool:=CK a0 (a2.getD a4.toNat (Aj TC.row)) !=(0:Int)
def CR (a0:List Af) (a1:ByteArray) (a2:List Aq) (a3:Int) (a4:Int):Bool:=!!decide (a4 <a3)&&((FA a0 a1 a2 a3 a4)||(Xw (a2.getD a4.toNat (Aj TC.row))||(Op.bytesLess (a2.getD a4.toNat (Aj TC.row)).1.toList a1.toList||(a2.getD a4.toNat (Aj TC.row)).1.toList==a1.toList)))
def UZ (_a0:List Af) (_a1:ByteArray) (a2:List Aq) (_a3:Int) (a4:Int):ByteArray:=(a2.getD a4.toNat (Aj TC.row)).1
def U0 (a0:List Af) (a1:ByteArray) (a2:List Aq) (a3:Int) (a4:Int):Bool:=!!decide (a4 <a3)&&!(CR a0 a1 a2 a3 a4)
def Fz (a0:List Af) (a1:ByteArray) (a2:List Aq) (a3:Int) (a4:Int):Int:=bif(FA a0 a1 a2 a3 a4) then CK a0 (a2.getD a4.toNat (Aj TC.row)) else(100:Int)
def DM (x:Bn):Bn:=(x.1,UZ x.1 x.2.1 x.2.2.1 x.2.2.2.1 x.2.2.2.2,x.2.2.1,x.2.2.2.1,IntKind.i64.wrap (x.2.2.2.2+(1:Int)))
def DL (x:Bn):Cnd:=some (U0 x.1 x.2.1 x.2.2.1 x.2.2.2.1 x.2.2.2.2)
def IE (x:Bn):List Prop:=[((!!decide (x.2.2.2.2 <x.2.2.2.1))=true→(0:Int)≤x.2.2.2.2∧x.2.2.2.2 <(↑x.2.2.1.length:Int)),((!!decide (x.2.2.2.2 <x.2.2.2.1))=true→(!(FA x.1 x.2.1 x.2.2.1 x.2.2.2.1 x.2.2.2.2))=true→Ai (x.2.2.1.getD x.2.2.2.2.toNat (Aj TC.row)).2.length)]
abbrev Gl:Bn→List Prop:=IE
def Ld (x:Bn):Bh:=[(some 0,some (!decide (x.2.2.2.2 <x.2.2.2.1)),⟨38,0,[(4,.dead)],[]⟩),(none,some ((CR x.1 x.2.1 x.2.2.1 x.2.2.2.1 x.2.2.2.2)),⟨38,1,[(4,.v (.int .i64 (Fz x.1 x.2.1 x.2.2.1 x.2.2.2.1 x.2.2.2.2)))],[]⟩)]
def FC (x:Bn):Nat:=(x.2.2.2.1 - x.2.2.2.2).toNat
def EC (x:Bn):Bn:=Ba DM DL (FC x) x
theorem WN (a0:List Af) (a1:ByteArray) (a2:List Aq) (a3:Int) (a4:Int):Dq (AI Axr L0) 9 (An Tryd.prog 36 0) Pb (HT (a0,a1,a2,a3,a4))=some (IE (a0,a1,a2,a3,a4),Ld (a0,a1,a2,a3,a4),DL (a0,a1,a2,a3,a4),HT (DM (a0,a1,a2,a3,a4))):=by kernel_rfl
theorem WO (a0:List Af) (a1:ByteArray) (a2:List Aq) (a3:Int) (a4:Int) (hp:∀p∈Gl (a0,a1,a2,a3,a4),p):∀p∈IE (a0,a1,a2,a3,a4),p:=hp
noncomputable def L8:=Jl (AI Axr L0) (An Tryd.prog 36 0) Pb Zg Jf FC DM DL Gl Ld
theorem U1:∀s b ps outs,L8 s=some (b,ps,outs)→Wf s ⟨ps,outs,none⟩∧DE (AI C0 L0) b s ps outs:=
 C5 (T:=HT) Aih AX (u:=9) (by kernel_rfl) (by decide) (fun⟨a0,a1,a2,a3,a4⟩=>WN a0 a1 a2 a3 a4) (fun⟨a0,a1,a2,a3,a4⟩=>WO a0 a1 a2 a3 a4) Tt (fun _=>Bc (n:=38) rfl) fun _ _=>rfl
noncomputable def Pa:=Gt 0 L8 L0
theorem UY:Ij Pa:=BK U1 AX
def HJ (a0:List Af) (_a1:List Aq):Bool:=B1 a0 !=(0:Int)
def MA (a0:List Af) (a1:List Aq):List Af:=(EC (a0,ByteArray.mk #[],a1,(↑a1.length:Int),(0:Int))).fst
def Mz (a0:List Af) (a1:List Aq):ByteArray:=(EC (a0,ByteArray.mk #[],a1,(↑a1.length:Int),(0:Int))).snd.fst
def My (a0:List Af) (a1:List Aq):List Aq:=(EC (a0,ByteArray.mk #[],a1,(↑a1.length:Int),(0:Int))).snd.snd.fst
def Mx (a0:List Af) (a1:List Aq):Int:=(EC (a0,ByteArray.mk #[],a1,(↑a1.length:Int),(0:Int))).snd.snd.snd.snd
def Mw (a0:List Af) (a1:List Aq):Int:=(EC (a0,ByteArray.mk #[],a1,(↑a1.length:Int),(0:Int))).snd.snd.snd.fst
def OI (a0:List Af) (a1:List Aq):Int:=bif(HJ a0 a1) then B1 a0 else bif CR (MA a0 a1) (Mz a0 a1) (My a0 a1) (Mw a0 a1) (Mx a0 a1) then Fz (MA a0 a1) (Mz a0 a1) (My a0 a1) (Mw a0 a1) (Mx a0 a1) else(0:Int)
def OJ (a0:List Af) (a1:List Aq):A:=.v (.int .i64 (OI a0 a1))
def U2 (_a0:List Af) (_a1:List Aq):Objs:=[]
def Sv (a0:List Af) (a1:List Aq):List Prop:=[((!(HJ a0 a1))=true→AN DM DL Gl (FC (a0,ByteArray.mk #[],a1,(↑a1.length:Int),(0:Int))) (a0,ByteArray.mk #[],a1,(↑a1.length:Int),(0:Int)))]
theorem Ae7 (a0:List Af) (a1:List Aq):I6 (AI Axr Pa) 9 36 [.sl .group a0,Ar .rows a1] 0 []=some (1,OJ a0 a1,0,U2 a0 a1,[((!(HJ a0 a1))=true→An Tryd.prog (36:FuncId) (0:Nat)=An Tryd.prog (36:FuncId) (0:Nat)),((!(HJ a0 a1))=true→AN DM DL Gl (FC (a0,ByteArray.mk #[],a1,(↑a1.length:Int),(0:Int))) (a0,ByteArray.mk #[],a1,(↑a1.length:Int),(0:Int)))]):=by kernel_rfl
theorem Ajy (a0:List Af) (a1:List Aq) (hp:∀p∈Sv a0 a1,p):CallOk Tryd.prog 36 [.sl .group a0,Ar .rows a1] 0 [] 1 (OJ a0 a1) 0 (U2 a0 a1):=by
 have n0:((!(HJ a0 a1))=true→An Tryd.prog (36:FuncId) (0:Nat)=An Tryd.prog (36:FuncId) (0:Nat)):=by intros;rfl
 have n1:=N0 hp
 exact AW (AJ Aih UY) (Ae7 a0 a1) (Aa n0 (Aa n1 Am))
def Sw (a0:List Af) (a1:List Aq):A:=.v (.int .i64 (XN a0 a1))
def Su (_a0:List Af) (_a1:List Aq):Objs:=[]
def Qw (_a0:List Af) (a1:List Aq):List Prop:=[AD a1.length]
theorem At3 (l:List Af) (rows:List Aq) (i:Nat):(Ajd l rows i !=0)=(CK l (Vr rows i) !=0||(Xw (Vr rows i)||leS (Vr rows i).key (Qq rows i))):=by
 unfold Ajd
 cases h:CK l (Vr rows i) !=0 with
 |true=>rw[cond_true,h,Bool.true_or]
 |false=>cases Xw (Vr rows i)||leS (Vr rows i).key (Qq rows i)<;>rfl
theorem Ss (l:List Af) (rows:List Aq) (hb:AD rows.length):(∀p∈Sv l rows,p)∧OI l rows=XN l rows:=by
 unfold AD at hb
 have hf:∀i:Nat,CR l (Qq rows i) rows (rows.length:Int) (i:Int)=(decide (i <rows.length)&&Ajd l rows i !=0):=fun i=>by
  rw[At3]
  unfold CR FA leS ltS
  rw[nn,Ux,Int.toNat_natCast,tlb]
  rfl
 obtain⟨h1,k,hk,hx,hs,hst,_⟩:=Adw (fun i=>((l,Qq rows i,rows,(rows.length:Int),(i:Int)):Bn)) rows.length (fun i=>Ajd l rows i !=0) DM DL Gl (FC (l,ByteArray.mk #[],rows,(rows.length:Int),0)) (l,ByteArray.mk #[],rows,(rows.length:Int),0) rfl (by show rows.length≤((rows.length:Int) - 0).toNat;omega)
  (fun i _ _=>by
   show((!!decide ((i:Int) <(rows.length:Int)))&&!CR l (Qq rows i) rows (rows.length:Int) (i:Int))=_
   rw[hf,nn,Ux]
   cases decide (i <rows.length)<;>rfl)
  (fun i hi _=>by
   show(l,(rows.getD ((i:Int)).toNat (Aj TC.row)).1,rows,(rows.length:Int),IntKind.i64.wrap ((i:Int)+1))=(l,Qq rows (i+1),rows,(rows.length:Int),((i+1:Nat):Int))
   rw[IT (by omega),Int.toNat_natCast]
   rfl)
  (fun i hi _=>by
   have hin:(!!decide ((i:Int) <(rows.length:Int)))=true→(i:Int) <(rows.length:Int):=fun h=>by rw[nn] at h;exact of_decide_eq_true h
   refine Aa (fun h=>⟨by show(0:Int)≤(i:Int);omega,hin h⟩) (Aa (fun _ h2=>?_) Am)
   have h3:CK l (rows.getD ((i:Int)).toNat (Aj TC.row))=0:=by
    have h4:(!(CK l (rows.getD ((i:Int)).toNat (Aj TC.row)) !=0))=true:=h2
    simpa using h4
   obtain⟨g1,g2,_⟩:=Wt h3
   have:=(ZN g1).2
   show Ai (rows.getD ((i:Int)).toNat (Aj TC.row)).cells.length
   unfold Ai
   omega)
 have hr:EC (l,ByteArray.mk #[],rows,(rows.length:Int),0)=(l,Qq rows k,rows,(rows.length:Int),(k:Int)):=hx
 refine⟨Aa (fun _=>h1) Am,?_⟩
 unfold OI XN
 show(bif B1 l !=0 then B1 l else _)=_
 congr 1
 unfold MA Mz My Mx Mw
 rw[hr]
 show(bif CR l (Qq rows k) rows (rows.length:Int) (k:Int) then Fz l (Qq rows k) rows (rows.length:Int) (k:Int) else 0)=_
 rw[hf]
 have h0:Gz l rows k=0:=(Anr l rows k).2 fun i hi=>by simpa using hs i hi
 rcases Nat.lt_or_ge k rows.length with h|h
 ·have he:=hst h
  rw[decide_eq_true h,he]
  have e1:Gz l rows (k+1)=Ajd l rows k:=by
   show(bif Gz l rows k !=0 then Gz l rows k else Ajd l rows k)=_
   rw[h0];rfl
  have hne:Gz l rows (k+1)≠0:=by rw[e1];simpa using he
  rw[XO hne rows.length h,e1]
  show Fz l (Qq rows k) rows (rows.length:Int) (k:Int)=_
  unfold Fz FA
  rw[Int.toNat_natCast]
  rw[At3] at he
  unfold Ajd
  show(bif CK l (Vr rows k) !=0 then CK l (Vr rows k) else 100)=_
  cases hg:CK l (Vr rows k) !=0 with
  |true=>rfl
  |false=>
   rw[hg,Bool.false_or] at he
   rw[he]
   rfl
 ·obtain rfl:k=rows.length:=by omega
  rw[decide_eq_false (Nat.lt_irrefl _),h0]
  rfl
theorem Ae6 (a0:List Af) (a1:List Aq) (hp:∀p∈Qw a0 a1,p):CallOk Tryd.prog 36 [.sl .group a0,Ar .rows a1] 0 [] 1 (Sw a0 a1) 0 (Su a0 a1):=by
 have hb:AD a1.length:=hp _ (List.mem_cons_self ..)
 have h:=Ajy a0 a1 (Ss a0 a1 hb).1
 unfold OJ at h
 rw[(Ss a0 a1 hb).2] at h
 exact h
def OK:List A→Nat→Objs→Option CJ:=Fc [.l .group,.t .rows] 0 Sw Su Qw
theorem Qx:IV Tryd.prog 36 OK:=AM (ks:=[.l .group,.t .rows]) Ae6
noncomputable def A85:=CA 36 OK Axr
theorem A2q:FM Tryd.prog A85:=Az Qx Aih
noncomputable def Cn:=A85
theorem Atg:FM Tryd.prog Cn:=A2q
end Go.Proofs.YtifkbgkbajncjaaDoor
