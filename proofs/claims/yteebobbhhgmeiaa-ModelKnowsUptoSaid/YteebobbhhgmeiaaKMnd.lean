/- made by a program (rowgen.py): ModelKnows: for every input the law returns true, and each argument reads behind the call as it read before. -/
import Derived.Test.YteebobbhhgmeiaaKMnc

set_option maxRecDepth 100000
namespace Go.Proofs.Yteebobbhhgmeiaa
open Go.RowKit
def zc:TC→List Value
 | .u8=>[.int .u8 0]
 | .i64=>[.int .i64 0]
 | .u32=>[.int .u32 0]
 | .bool=>[.bool false]
 | .str=>[.string ByteArray.empty]
 | .bytes=>[.slice none 0 0]
 | .ints=>[.slice none 0 0]
 | .cells=>[.slice none 0 0]
 | .rows=>[.slice none 0 0]
 | .digest=>List.replicate 32 (.int .u8 0)
 |c=>(enc c (Ac c)).map fun x=>match x with
  | .v y=>y
  |_=> .slice none 0 0
theorem B28 (c:TC) (F:Nat→Prop) (N:Nm) (nx:Nat) (R:World):HL F N nx R (enc c (Ac c)) (zc c):=by
 cases c<;>(repeat' (first|exact HL.nil|exact Hv.v _|exact Hv.sl_nil rfl|apply HL.cons))
def Gc (P:Program) (t:TypeId):Option (Nat×Option (List Value)):=(P.info? t).map fun i=>(i.size,i.zero.map fun z=>z.cells.toList)
theorem Bup {P:Program} {t:TypeId} {c:TC} (h:Gc P t=some (size c,some (zc c))) (h0:0 <size c):∃i,P.info? t=some i∧i.size=size c∧0 <size c∧∃z,i.zero=some z∧∀(F:Nat→Prop) (N:Nm) (nx:Nat) (R:World),HL F N nx R (enc c (Ac c)) z.cells.toList:=by
 unfold Gc at h
 cases hi:P.info? t with
 |none=>rw[hi] at h;cases h
 | some i=>
  rw[hi] at h
  have h':some (i.size,i.zero.map fun z=>z.cells.toList)=some (size c,some (zc c)):=h
  injection h' with h'
  injection h' with h1 h2
  cases hz:i.zero with
  |none=>rw[hz] at h2;cases h2
  |some z=>
   rw[hz] at h2
   injection h2 with h2
   have h3:z.cells.toList=zc c:=h2
   exact⟨i,rfl,h1,h0,z,hz,fun F N nx R=>by rw[h3];exact B28 c F N nx R⟩
theorem Bt0 (c:TC):0 <size c:=by cases c<;>decide
def Buq (t:TypeId):Option TC:=bif Nat.beq t 2 then some .i64 else bif Nat.beq t 3 then some .i64 else bif Nat.beq t 4 then some .bool else bif Nat.beq t 5 then some .u8 else bif Nat.beq t 9 then some .str else bif Nat.beq t 25 then some .front else bif Nat.beq t 26 then some .i64 else bif Nat.beq t 30 then some .vec else bif Nat.beq t 31 then some .vec else bif Nat.beq t 33 then some .told else bif Nat.beq t 37 then some .front else bif Nat.beq t 51 then some .stamp else bif Nat.beq t 53 then some .ask else bif Nat.beq t 55 then some .cell else bif Nat.beq t 67 then some .rows else bif Nat.beq t 69 then some .cells else bif Nat.beq t 71 then some .row else bif Nat.beq t 79 then some .group else bif Nat.beq t 84 then some .bytes else bif Nat.beq t 94 then some .view else bif Nat.beq t 108 then some .three else bif Nat.beq t 112 then some .two else bif Nat.beq t 133 then some .ints else bif Nat.beq t 136 then some .change else bif Nat.beq t 139 then some .write else bif Nat.beq t 142 then some .field else bif Nat.beq t 145 then some .ask3 else bif Nat.beq t 226 then some .place else bif Nat.beq t 239 then some .u32 else none
theorem Bxy:Gc Try.prog 2=some (size .i64,some (zc .i64)):=by kernel_rfl
theorem Bxz:Gc Try.prog 3=some (size .i64,some (zc .i64)):=by kernel_rfl
theorem Bx0:Gc Try.prog 4=some (size .bool,some (zc .bool)):=by kernel_rfl
theorem Bx1:Gc Try.prog 5=some (size .u8,some (zc .u8)):=by kernel_rfl
theorem Bx2:Gc Try.prog 9=some (size .str,some (zc .str)):=by kernel_rfl
theorem Bua:Gc Try.prog 25=some (size .front,some (zc .front)):=by kernel_rfl
theorem Bub:Gc Try.prog 26=some (size .i64,some (zc .i64)):=by kernel_rfl
theorem Buc:Gc Try.prog 30=some (size .vec,some (zc .vec)):=by kernel_rfl
theorem Bud:Gc Try.prog 31=some (size .vec,some (zc .vec)):=by kernel_rfl
theorem Bue:Gc Try.prog 33=some (size .told,some (zc .told)):=by kernel_rfl
theorem Buf:Gc Try.prog 37=some (size .front,some (zc .front)):=by kernel_rfl
theorem Bug:Gc Try.prog 51=some (size .stamp,some (zc .stamp)):=by kernel_rfl
theorem Buh:Gc Try.prog 53=some (size .ask,some (zc .ask)):=by kernel_rfl
theorem Bui:Gc Try.prog 55=some (size .cell,some (zc .cell)):=by kernel_rfl
theorem Buj:Gc Try.prog 67=some (size .rows,some (zc .rows)):=by kernel_rfl
theorem Buk:Gc Try.prog 69=some (size .cells,some (zc .cells)):=by kernel_rfl
theorem Bul:Gc Try.prog 71=some (size .row,some (zc .row)):=by kernel_rfl
theorem Bum:Gc Try.prog 79=some (size .group,some (zc .group)):=by kernel_rfl
theorem Bun:Gc Try.prog 84=some (size .bytes,some (zc .bytes)):=by kernel_rfl
theorem Buo:Gc Try.prog 94=some (size .view,some (zc .view)):=by kernel_rfl
theorem Bpc:Gc Try.prog 108=some (size .three,some (zc .three)):=by kernel_rfl
theorem Bpd:Gc Try.prog 112=some (size .two,some (zc .two)):=by kernel_rfl
theorem Bpe:Gc Try.prog 133=some (size .ints,some (zc .ints)):=by kernel_rfl
theorem Bpf:Gc Try.prog 136=some (size .change,some (zc .change)):=by kernel_rfl
theorem Bpg:Gc Try.prog 139=some (size .write,some (zc .write)):=by kernel_rfl
theorem Bph:Gc Try.prog 142=some (size .field,some (zc .field)):=by kernel_rfl
theorem Bpi:Gc Try.prog 145=some (size .ask3,some (zc .ask3)):=by kernel_rfl
theorem Bpj:Gc Try.prog 226=some (size .place,some (zc .place)):=by kernel_rfl
theorem Bpk:Gc Try.prog 239=some (size .u32,some (zc .u32)):=by kernel_rfl
theorem Es {P:Program} {t k:TypeId} {c c0:TC} {r:Option TC} (h:(bif Nat.beq t k then some c0 else r)=some c) (hk:Gc P k=some (size c0,some (zc c0))):Gc P t=some (size c,some (zc c))∨r=some c:=by
 cases hb:Nat.beq t k with
 |true=>rw[hb] at h;cases h;rw[Nat.eq_of_beq_eq_true hb];exact .inl hk
 |false=>rw[hb] at h;exact .inr h
theorem Bur:B3a Try.prog Buq:=fun t c h=>by
 refine Bup ?_ (Bt0 c)
 unfold Buq at h
 rcases Es h Bxy with h|h
 ·exact h
 rcases Es h Bxz with h|h
 ·exact h
 rcases Es h Bx0 with h|h
 ·exact h
 rcases Es h Bx1 with h|h
 ·exact h
 rcases Es h Bx2 with h|h
 ·exact h
 rcases Es h Bua with h|h
 ·exact h
 rcases Es h Bub with h|h
 ·exact h
 rcases Es h Buc with h|h
 ·exact h
 rcases Es h Bud with h|h
 ·exact h
 rcases Es h Bue with h|h
 ·exact h
 rcases Es h Buf with h|h
 ·exact h
 rcases Es h Bug with h|h
 ·exact h
 rcases Es h Buh with h|h
 ·exact h
 rcases Es h Bui with h|h
 ·exact h
 rcases Es h Buj with h|h
 ·exact h
 rcases Es h Buk with h|h
 ·exact h
 rcases Es h Bul with h|h
 ·exact h
 rcases Es h Bum with h|h
 ·exact h
 rcases Es h Bun with h|h
 ·exact h
 rcases Es h Buo with h|h
 ·exact h
 rcases Es h Bpc with h|h
 ·exact h
 rcases Es h Bpd with h|h
 ·exact h
 rcases Es h Bpe with h|h
 ·exact h
 rcases Es h Bpf with h|h
 ·exact h
 rcases Es h Bpg with h|h
 ·exact h
 rcases Es h Bph with h|h
 ·exact h
 rcases Es h Bpi with h|h
 ·exact h
 rcases Es h Bpj with h|h
 ·exact h
 rcases Es h Bpk with h|h
 ·exact h
 cases h
end Go.Proofs.Yteebobbhhgmeiaa
namespace Go.Proofs.Yteebobbhhgmeiaa
open Go.RowKit
theorem eqi (d:Nat) (a b:Int) (w:World):(Op.equalIn (d+1) 3 (.int .i64 a) (.int .i64 b)).run Try.prog w=.ok (a==b) w:=run_equalIn_int w d 3 .i64 .i64 a b Try.underlying3
theorem eqb (d:Nat) (a b:Bool) (w:World):(Op.equalIn (d+1) 4 (.bool a) (.bool b)).run Try.prog w=.ok (a==b) w:=run_equalIn_bool' w d 4 a b Try.underlying4
theorem eqs (d:Nat) (a b:ByteArray) (w:World):(Op.equalIn (d+1) 9 (.string a) (.string b)).run Try.prog w=.ok (a.toList==b.toList) w:=run_equalIn_string w d 9 a b Try.underlying9
@[go_sem] theorem eqVec (d:Nat) (a b x y:Int) (w:World):(Op.equalIn (d+2) 31 (.agg #[.int .i64 a,.int .i64 b]) (.agg #[.int .i64 x,.int .i64 y])).run Try.prog w=.ok (a==x&&b==y) w:=by
 have p0:∀a b w,(part 3 #[.int .i64 a,.int .i64 b] 0).run Try.prog w=Result.ok (.int .i64 a) w:=fun a b w=>by kernel_rfl
 have p1:∀a b w,(part 3 #[.int .i64 a,.int .i64 b] 1).run Try.prog w=Result.ok (.int .i64 b) w:=fun a b w=>by kernel_rfl
 unfold Op.equalIn
 cases h:a==x
 ·simp[Sem.run_bind,run_underlying Try.underlying31,List.range',p0,eqi,h]
 ·cases h':b==y<;>simp[Sem.run_bind,run_underlying Try.underlying31,List.range',p0,p1,eqi,h,h']
@[go_sem] theorem eqInt2 (d:Nat) (a b x y:Int) (w:World):(Op.equalIn (d+2) 30 (.agg #[.int .i64 a,.int .i64 b]) (.agg #[.int .i64 x,.int .i64 y])).run Try.prog w=.ok (a==x&&b==y) w:=by
 have p0:∀a b w,(part 3 #[.int .i64 a,.int .i64 b] 0).run Try.prog w=Result.ok (.int .i64 a) w:=fun a b w=>by kernel_rfl
 have p1:∀a b w,(part 3 #[.int .i64 a,.int .i64 b] 1).run Try.prog w=Result.ok (.int .i64 b) w:=fun a b w=>by kernel_rfl
 unfold Op.equalIn
 cases h:a==x
 ·simp[Sem.run_bind,run_underlying Try.underlying30,List.range',p0,eqi,h]
 ·cases h':b==y<;>simp[Sem.run_bind,run_underlying Try.underlying30,List.range',p0,p1,eqi,h,h']
@[go_sem] theorem eqStamp (d:Nat) (a b x y:Int) (w:World):(Op.equalIn (d+2) 51 (.agg #[.int .i64 a,.int .i64 b]) (.agg #[.int .i64 x,.int .i64 y])).run Try.prog w=.ok (a==x&&b==y) w:=by
 rw[run_equalIn_struct w (d+1) 51 _ _ (by kernel_rfl) (by kernel_rfl)]
 have p0:∀a b w,(part 3 #[.int .i64 a,.int .i64 b] 0).run Try.prog w=Result.ok (.int .i64 a) w:=fun a b w=>by kernel_rfl
 have p1:∀a b w,(part 3 #[.int .i64 a,.int .i64 b] 1).run Try.prog w=Result.ok (.int .i64 b) w:=fun a b w=>by kernel_rfl
 cases h:a==x
 ·simp[Program.fieldsOf,Try.underlying51,Op.eqFields,Sem.run_bind,p0,eqi,h]
 ·cases h':b==y<;>simp[Program.fieldsOf,Try.underlying51,Op.eqFields,Sem.run_bind,p0,p1,eqi,h,h']
@[go_sem] theorem eqFront (d:Nat) (a b c e f u v x y z:Int) (w:World):(Op.equalIn (d+2) 25 (.agg #[.int .i64 a,.int .i64 b,.int .i64 c,.int .i64 e,.int .i64 f]) (.agg #[.int .i64 u,.int .i64 v,.int .i64 x,.int .i64 y,.int .i64 z])).run Try.prog w=.ok (a==u&&(b==v&&(c==x&&(e==y&&(f==z))))) w:=by
 rw[run_equalIn_struct w (d+1) 25 _ _ (by kernel_rfl) (by kernel_rfl)]
 have p0:∀a b c e f w,(part 3 #[.int .i64 a,.int .i64 b,.int .i64 c,.int .i64 e,.int .i64 f] 0).run Try.prog w=Result.ok (.int .i64 a) w:=fun a b c e f w=>by kernel_rfl
 have p1:∀a b c e f w,(part 3 #[.int .i64 a,.int .i64 b,.int .i64 c,.int .i64 e,.int .i64 f] 1).run Try.prog w=Result.ok (.int .i64 b) w:=fun a b c e f w=>by kernel_rfl
 have p2:∀a b c e f w,(part 3 #[.int .i64 a,.int .i64 b,.int .i64 c,.int .i64 e,.int .i64 f] 2).run Try.prog w=Result.ok (.int .i64 c) w:=fun a b c e f w=>by kernel_rfl
 have p3:∀a b c e f w,(part 3 #[.int .i64 a,.int .i64 b,.int .i64 c,.int .i64 e,.int .i64 f] 3).run Try.prog w=Result.ok (.int .i64 e) w:=fun a b c e f w=>by kernel_rfl
 have p4:∀a b c e f w,(part 3 #[.int .i64 a,.int .i64 b,.int .i64 c,.int .i64 e,.int .i64 f] 4).run Try.prog w=Result.ok (.int .i64 f) w:=fun a b c e f w=>by kernel_rfl
 cases h0:a==u
 ·simp[Program.fieldsOf,Try.underlying25,Op.eqFields,Sem.run_bind,p0,eqi,h0]
 ·cases h1:b==v
  ·simp[Program.fieldsOf,Try.underlying25,Op.eqFields,Sem.run_bind,p0,p1,eqi,h0,h1]
  ·cases h2:c==x
   ·simp[Program.fieldsOf,Try.underlying25,Op.eqFields,Sem.run_bind,p0,p1,p2,eqi,h0,h1,h2]
   ·cases h3:e==y
    ·simp[Program.fieldsOf,Try.underlying25,Op.eqFields,Sem.run_bind,p0,p1,p2,p3,eqi,h0,h1,h2,h3]
    ·cases h4:f==z
     ·simp[Program.fieldsOf,Try.underlying25,Op.eqFields,Sem.run_bind,p0,p1,p2,p3,p4,eqi,h0,h1,h2,h3,h4]
     ·simp[Program.fieldsOf,Try.underlying25,Op.eqFields,Sem.run_bind,p0,p1,p2,p3,p4,eqi,h0,h1,h2,h3,h4]
@[go_sem] theorem eqRFront (d:Nat) (a b c e f u v x y z:Int) (w:World):(Op.equalIn (d+2) 37 (.agg #[.int .i64 a,.int .i64 b,.int .i64 c,.int .i64 e,.int .i64 f]) (.agg #[.int .i64 u,.int .i64 v,.int .i64 x,.int .i64 y,.int .i64 z])).run Try.prog w=.ok (a==u&&(b==v&&(c==x&&(e==y&&(f==z))))) w:=by
 rw[run_equalIn_struct w (d+1) 37 _ _ (by kernel_rfl) (by kernel_rfl)]
 have p0:∀a b c e f w,(part 3 #[.int .i64 a,.int .i64 b,.int .i64 c,.int .i64 e,.int .i64 f] 0).run Try.prog w=Result.ok (.int .i64 a) w:=fun a b c e f w=>by kernel_rfl
 have p1:∀a b c e f w,(part 3 #[.int .i64 a,.int .i64 b,.int .i64 c,.int .i64 e,.int .i64 f] 1).run Try.prog w=Result.ok (.int .i64 b) w:=fun a b c e f w=>by kernel_rfl
 have p2:∀a b c e f w,(part 3 #[.int .i64 a,.int .i64 b,.int .i64 c,.int .i64 e,.int .i64 f] 2).run Try.prog w=Result.ok (.int .i64 c) w:=fun a b c e f w=>by kernel_rfl
 have p3:∀a b c e f w,(part 3 #[.int .i64 a,.int .i64 b,.int .i64 c,.int .i64 e,.int .i64 f] 3).run Try.prog w=Result.ok (.int .i64 e) w:=fun a b c e f w=>by kernel_rfl
 have p4:∀a b c e f w,(part 3 #[.int .i64 a,.int .i64 b,.int .i64 c,.int .i64 e,.int .i64 f] 4).run Try.prog w=Result.ok (.int .i64 f) w:=fun a b c e f w=>by kernel_rfl
 cases h0:a==u
 ·simp[Program.fieldsOf,Try.underlying37,Op.eqFields,Sem.run_bind,p0,eqi,h0]
 ·cases h1:b==v
  ·simp[Program.fieldsOf,Try.underlying37,Op.eqFields,Sem.run_bind,p0,p1,eqi,h0,h1]
  ·cases h2:c==x
   ·simp[Program.fieldsOf,Try.underlying37,Op.eqFields,Sem.run_bind,p0,p1,p2,eqi,h0,h1,h2]
   ·cases h3:e==y
    ·simp[Program.fieldsOf,Try.underlying37,Op.eqFields,Sem.run_bind,p0,p1,p2,p3,eqi,h0,h1,h2,h3]
    ·cases h4:f==z
     ·simp[Program.fieldsOf,Try.underlying37,Op.eqFields,Sem.run_bind,p0,p1,p2,p3,p4,eqi,h0,h1,h2,h3,h4]
     ·simp[Program.fieldsOf,Try.underlying37,Op.eqFields,Sem.run_bind,p0,p1,p2,p3,p4,eqi,h0,h1,h2,h3,h4]
@[go_sem] theorem eqCell (d:Nat) (a0 a1 a2 a3 a6 a7 b0 b1 b2 b3 b6 b7:Int) (a4 b4:Bool) (a5 b5:ByteArray) (w:World):(Op.equalIn (d+3) 55 (.agg #[.int .i64 a0,.int .i64 a1,.int .i64 a2,.int .i64 a3,.bool a4,.string a5,.int .i64 a6,.int .i64 a7]) (.agg #[.int .i64 b0,.int .i64 b1,.int .i64 b2,.int .i64 b3,.bool b4,.string b5,.int .i64 b6,.int .i64 b7])).run Try.prog w=.ok ((a0==b0&&a1==b1)&&((a2==b2&&a3==b3)&&((a4==b4)&&((a5.toList==b5.toList)&&(a6==b6&&a7==b7))))) w:=by
 rw[run_equalIn_struct w (d+2) 55 _ _ (by kernel_rfl) (by kernel_rfl)]
 have p0:∀(a0 a1 a2 a3 a6 a7:Int) (a4:Bool) (a5:ByteArray) (w:World),(part 51 #[.int .i64 a0,.int .i64 a1,.int .i64 a2,.int .i64 a3,.bool a4,.string a5,.int .i64 a6,.int .i64 a7] 0).run Try.prog w=Result.ok (.agg #[.int .i64 a0,.int .i64 a1]) w:=fun _ _ _ _ _ _ _ _ _=>by kernel_rfl
 have p1:∀(a0 a1 a2 a3 a6 a7:Int) (a4:Bool) (a5:ByteArray) (w:World),(part 31 #[.int .i64 a0,.int .i64 a1,.int .i64 a2,.int .i64 a3,.bool a4,.string a5,.int .i64 a6,.int .i64 a7] 2).run Try.prog w=Result.ok (.agg #[.int .i64 a2,.int .i64 a3]) w:=fun _ _ _ _ _ _ _ _ _=>by kernel_rfl
 have p2:∀(a0 a1 a2 a3 a6 a7:Int) (a4:Bool) (a5:ByteArray) (w:World),(part 4 #[.int .i64 a0,.int .i64 a1,.int .i64 a2,.int .i64 a3,.bool a4,.string a5,.int .i64 a6,.int .i64 a7] 4).run Try.prog w=Result.ok (.bool a4) w:=fun _ _ _ _ _ _ _ _ _=>by kernel_rfl
 have p3:∀(a0 a1 a2 a3 a6 a7:Int) (a4:Bool) (a5:ByteArray) (w:World),(part 9 #[.int .i64 a0,.int .i64 a1,.int .i64 a2,.int .i64 a3,.bool a4,.string a5,.int .i64 a6,.int .i64 a7] 5).run Try.prog w=Result.ok (.string a5) w:=fun _ _ _ _ _ _ _ _ _=>by kernel_rfl
 have p4:∀(a0 a1 a2 a3 a6 a7:Int) (a4:Bool) (a5:ByteArray) (w:World),(part 31 #[.int .i64 a0,.int .i64 a1,.int .i64 a2,.int .i64 a3,.bool a4,.string a5,.int .i64 a6,.int .i64 a7] 6).run Try.prog w=Result.ok (.agg #[.int .i64 a6,.int .i64 a7]) w:=fun _ _ _ _ _ _ _ _ _=>by kernel_rfl
 cases h0:(a0==b0&&a1==b1)
 ·simp only[Program.fieldsOf,Try.underlying55,Op.eqFields,Sem.run_bind,Sem.run_ite,Sem.run_pure,Result.andThen_ok,p0,eqStamp,h0];simp
 ·cases h1:(a2==b2&&a3==b3)
  ·simp only[Program.fieldsOf,Try.underlying55,Op.eqFields,Sem.run_bind,Sem.run_ite,Sem.run_pure,Result.andThen_ok,p0,p1,eqStamp,eqVec,h0,h1];simp
  ·cases h2:(a4==b4)
   ·simp only[Program.fieldsOf,Try.underlying55,Op.eqFields,Sem.run_bind,Sem.run_ite,Sem.run_pure,Result.andThen_ok,p0,p1,p2,eqStamp,eqVec,eqb,h0,h1,h2];simp
   ·cases h3:(a5.toList==b5.toList)
    ·simp only[Program.fieldsOf,Try.underlying55,Op.eqFields,Sem.run_bind,Sem.run_ite,Sem.run_pure,Result.andThen_ok,p0,p1,p2,p3,eqStamp,eqVec,eqb,eqs,h0,h1,h2,h3];simp
    ·cases h4:(a6==b6&&a7==b7)
     ·simp only[Program.fieldsOf,Try.underlying55,Op.eqFields,Sem.run_bind,Sem.run_ite,Sem.run_pure,Result.andThen_ok,p0,p1,p2,p3,p4,eqStamp,eqVec,eqb,eqs,h0,h1,h2,h3,h4];simp
     ·simp only[Program.fieldsOf,Try.underlying55,Op.eqFields,Sem.run_bind,Sem.run_ite,Sem.run_pure,Result.andThen_ok,p0,p1,p2,p3,p4,eqStamp,eqVec,eqb,eqs,h0,h1,h2,h3,h4];simp
theorem Bc4:Try.prog.eqGuardType Try.prog.depth 31=false:=by kernel_rfl
@[go_sem] theorem grdVec (op:BinOp) (x y:Operand) (xs ys:Array Value) (w:World):(eqGuard op 31 x y (.agg xs) (.agg ys)).run Try.prog w=.ok () w:=run_eqGuard_agg w op 31 x y xs ys Bc4
theorem Bn7:Try.prog.eqGuardType Try.prog.depth 30=false:=by kernel_rfl
@[go_sem] theorem grdInt2 (op:BinOp) (x y:Operand) (xs ys:Array Value) (w:World):(eqGuard op 30 x y (.agg xs) (.agg ys)).run Try.prog w=.ok () w:=run_eqGuard_agg w op 30 x y xs ys Bn7
theorem Ave:Try.prog.eqGuardType Try.prog.depth 51=false:=by kernel_rfl
@[go_sem] theorem grdStamp (op:BinOp) (x y:Operand) (xs ys:Array Value) (w:World):(eqGuard op 51 x y (.agg xs) (.agg ys)).run Try.prog w=.ok () w:=run_eqGuard_agg w op 51 x y xs ys Ave
theorem Bhv:Try.prog.eqGuardType Try.prog.depth 25=false:=by kernel_rfl
@[go_sem] theorem grdFront (op:BinOp) (x y:Operand) (xs ys:Array Value) (w:World):(eqGuard op 25 x y (.agg xs) (.agg ys)).run Try.prog w=.ok () w:=run_eqGuard_agg w op 25 x y xs ys Bhv
theorem Ano:Try.prog.eqGuardType Try.prog.depth 37=false:=by kernel_rfl
@[go_sem] theorem grdRFront (op:BinOp) (x y:Operand) (xs ys:Array Value) (w:World):(eqGuard op 37 x y (.agg xs) (.agg ys)).run Try.prog w=.ok () w:=run_eqGuard_agg w op 37 x y xs ys Ano
theorem A32:Try.prog.eqGuardType Try.prog.depth 55=false:=by kernel_rfl
@[go_sem] theorem grdCell (op:BinOp) (x y:Operand) (xs ys:Array Value) (w:World):(eqGuard op 55 x y (.agg xs) (.agg ys)).run Try.prog w=.ok () w:=run_eqGuard_agg w op 55 x y xs ys A32
end Go.Proofs.Yteebobbhhgmeiaa
namespace Go.Proofs.Yteebobbhhgmeiaa
open Go.RowKit
instance (n:Nat):Decidable (Aey n):=.isFalse id
theorem B27:Try.prog.follows .mixedOrders=true:=by kernel_rfl
theorem Bhu:Try.prog.eqGuardType Try.prog.depth 142=false:=by kernel_rfl
theorem Bwg (d:Nat) (a x:Int) (b y:ByteArray) (w:World):(Op.equalIn (d+2) 142 (.agg #[.int .i64 a,.string b]) (.agg #[.int .i64 x,.string y])).run Try.prog w=.ok (a==x&&b.toList==y.toList) w:=by
 rw[run_equalIn_struct w (d+1) 142 _ _ (by kernel_rfl) (by kernel_rfl)]
 have p0:∀a b w,(part 3 #[.int .i64 a,.string b] 0).run Try.prog w=Result.ok (.int .i64 a) w:=fun a b w=>by kernel_rfl
 have p1:∀a b w,(part 9 #[.int .i64 a,.string b] 1).run Try.prog w=Result.ok (.string b) w:=fun a b w=>by kernel_rfl
 cases h:a==x
 ·simp[Program.fieldsOf,Try.underlying142,Op.eqFields,Sem.run_bind,p0,eqi,h]
 ·cases h':b.toList==y.toList<;>simp[Program.fieldsOf,Try.underlying142,Op.eqFields,Sem.run_bind,p0,p1,eqi,eqs,h,h']
def Bwh:List Value→List Value→Option Bool
 | [.int .i64 a,.int .i64 b],[.int .i64 x,.int .i64 y]=>some (a==x&&b==y)
 |_,_=>none
def B2e:List Value→List Value→Option Bool
 | [.int .i64 a,.string b],[.int .i64 x,.string y]=>some (a==x&&b.toList==y.toList)
 |_,_=>none
def B2f:List Value→List Value→Option Bool
 | [.int .i64 a,.int .i64 b,.int .i64 c,.int .i64 e,.int .i64 f],[.int .i64 u,.int .i64 v,.int .i64 x,.int .i64 y,.int .i64 z]=>some (a==u&&(b==v&&(c==x&&(e==y&&f==z))))
 |_,_=>none
def B2d:List Value→List Value→Option Bool
 | [.int .i64 a0,.int .i64 a1,.int .i64 a2,.int .i64 a3,.bool a4,.string a5,.int .i64 a6,.int .i64 a7],[.int .i64 b0,.int .i64 b1,.int .i64 b2,.int .i64 b3,.bool b4,.string b5,.int .i64 b6,.int .i64 b7]=>
  some ((a0==b0&&a1==b1)&&((a2==b2&&a3==b3)&&((a4==b4)&&((a5.toList==b5.toList)&&(a6==b6&&a7==b7)))))
 |_,_=>none
def Br0 (t:TypeId) (xs ys:List Value):Option Bool:=
 bif Nat.beq t 31 then Bwh xs ys else bif Nat.beq t 51 then Bwh xs ys else bif Nat.beq t 55 then B2d xs ys else bif Nat.beq t 142 then B2e xs ys else bif Nat.beq t 37 then B2f xs ys else none
theorem Br1:B29 Try.prog Br0:=fun t xs ys b h=>by
 unfold Br0 at h
 cases h1:Nat.beq t 31 with
 |true=>
  rw[h1] at h
  rw[Nat.eq_of_beq_eq_true h1]
  refine⟨Bc4,fun R=>?_⟩
  unfold Bwh at h
  simp only[cond_true] at h
  split at h<;>first|(cases h;done)|skip
  cases h
  exact eqVec 9998 _ _ _ _ R
 |false=>
 cases h2:Nat.beq t 51 with
 |true=>
  rw[h1,h2] at h
  rw[Nat.eq_of_beq_eq_true h2]
  refine⟨Ave,fun R=>?_⟩
  unfold Bwh at h
  simp only[cond_true,cond_false] at h
  split at h<;>first|(cases h;done)|skip
  cases h
  exact eqStamp 9998 _ _ _ _ R
 |false=>
 cases h3:Nat.beq t 55 with
 |true=>
  rw[h1,h2,h3] at h
  rw[Nat.eq_of_beq_eq_true h3]
  refine⟨A32,fun R=>?_⟩
  unfold B2d at h
  simp only[cond_true,cond_false] at h
  split at h<;>first|(cases h;done)|skip
  cases h
  exact eqCell 9997 _ _ _ _ _ _ _ _ _ _ _ _ _ _ _ _ R
 |false=>
 cases h4:Nat.beq t 142 with
 |true=>
  rw[h1,h2,h3,h4] at h
  rw[Nat.eq_of_beq_eq_true h4]
  refine⟨Bhu,fun R=>?_⟩
  unfold B2e at h
  simp only[cond_true,cond_false] at h
  split at h<;>first|(cases h;done)|skip
  cases h
  exact Bwg 9998 _ _ _ _ R
 |false=>
 cases h5:Nat.beq t 37 with
 |true=>
  rw[h1,h2,h3,h4,h5] at h
  rw[Nat.eq_of_beq_eq_true h5]
  refine⟨Ano,fun R=>?_⟩
  unfold B2f at h
  simp only[cond_true,cond_false] at h
  split at h<;>first|(cases h;done)|skip
  cases h
  rw[eqRFront 9998]
 |false=>
  rw[h1,h2,h3,h4,h5] at h
  cases h
noncomputable def As (C:Tab) (L:A52):Env:=⟨Try.prog,Br0,C,false,Buq,L⟩
theorem Bwe {C:Tab} {L:A52} (hC:Dd Try.prog C) (hL:∀l s b ps outs,L l s=some (b,ps,outs)→Wf s ⟨ps,outs,none⟩∧Bt (As C L) b s ps outs):VQ (As C L) where
 suf f args nx o k x nx' o' ps h:=(hC f args nx o k x nx' o' ps h).2
 wide:=B27
 eq:=Br1
 C f args nx o k x nx' o' ps h:=(hC f args nx o k x nx' o' ps h).1
 tc:=Bur
 loops:=hL
end Go.Proofs.Yteebobbhhgmeiaa
namespace Go.Proofs.Yteebobbhhgmeiaa
open Go.RowKit
def G9 (L:A52):Prop:=∀l s b ps outs,L l s=some (b,ps,outs)→Wf s ⟨ps,outs,none⟩∧Bt (As C0 L0) b s ps outs
theorem Ay:G9 L0:=fun _ _ _ _ _ h=>by cases h
theorem AV {l0:Nat} {g:St→Option (Code×List Prop×Bj)} {L:A52} (hg:∀s b ps outs,g s=some (b,ps,outs)→Wf s ⟨ps,outs,none⟩∧Bt (As C0 L0) b s ps outs) (hL:G9 L):G9 (DI l0 g L):=fun l s b ps outs h=>by
 unfold DI at h
 cases hb:Nat.beq l l0 with
 |true=>rw[hb] at h;exact hg s b ps outs h
 |false=>rw[hb] at h;exact hL l s b ps outs h
theorem An {C:Tab} {L:A52} (hC:Dd Try.prog C) (hL:G9 L):VQ (As C L):=Bwe hC hL
theorem Bh {C:Tab} {L:A52} (hC:Dd Try.prog C) (hL:G9 L) {u:Nat} {b:Code} {S:De} {En:Dy} {X:Type} {T:X→St} {unT:St→Option X} {fuel:X→Nat} {next:X→X} {goes:X→Cnd} {psA ps:X→List Prop} {outs:X→Bj} (hS:okL S.nb S.nx1 S.ren=true) (hnb:S.nb≤S.nx1)
  (hr:∀x,Bw (As C L) u b S (T x)=some (psA x,outs x,goes x,T (next x))) (hA:∀x,(∀p∈ps x,p)→∀p∈psA x,p) (hu:∀s x,unT s=some x→s=T x)
  (hw:∀x,OK (outs x)∧∀t c y,AL t (outs x)=some (c,y)→y.n=(T x).n) (hTn:∀x y,(T x).n=(T y).n):∀s b0 qs os,HG (As C L) b S En unT fuel next goes ps outs s=some (b0,qs,os)→Wf s ⟨qs,os,none⟩∧Bt (As C0 L0) b0 s qs os:=
 fun _ _ _ _ he=>Bxm (An hC hL) hS hnb hr hA hu hw hTn he
def Bih (n:Nat):Bj→Bool
 | []=>true
 |(t,_,s)::r=>Nat.beq s.n n&&((match AL t r with|some _=>false|none=>true)&&Bih n r)
theorem AK {n:Nat}:∀{o:Bj},Bih n o=true→OK o∧∀t c y,AL t o=some (c,y)→y.n=n
 | [],_=>⟨trivial,fun t c y h=>by cases h⟩
 | (k,d,s)::r,h=>by
  unfold Bih at h
  simp only[Bool.and_eq_true] at h
  obtain⟨h1,h2,h3⟩:=h
  obtain⟨g1,g2⟩:=AK h3
  refine⟨⟨?_,g1⟩,fun t c y hy=>?_⟩
  ·cases hg:AL k r with
   |none=>rfl
   |some x=>rw[hg] at h2;cases h2
  ·have hy':(bif Fs k t then some (d,s) else AL t r)=some (c,y):=hy
   cases hb:Fs k t with
   |true=>rw[hb] at hy';cases hy';exact Nat.eq_of_beq_eq_true h1
   |false=>rw[hb] at hy';exact g2 t c y hy'
theorem Baf (x:Int):0≤IntKind.u8.wrap x∧IntKind.u8.wrap x <256:=by
 simp only[IntKind.wrap,IntKind.bits,IntKind.signed]
 have h1:=Int.emod_nonneg x (show(256:Int)≠0 by decide)
 have h2:=Int.emod_lt_of_pos x (show(0:Int) <256 by decide)
 exact⟨h1,h2⟩
theorem Byb (x:Int):0≤IntKind.u64.wrap x:=by
 simp only[IntKind.wrap,IntKind.bits,IntKind.signed]
 exact Int.emod_nonneg x (by decide)
def B2b (c:TC) (x:A):Option (U c×List Prop):=match Ajk x with
 |some cs=>YG c cs
 |none=>none
def Bvu (c:TC):A→Option (List (U c))
 | .sl c' l=>match TC.same c' c with
  |some h=>some (Am5 h.down l)
  |none=>none
 | .nl=>some []
 | .v x=>bif D5 x then some [] else none
 |_=>none
section
variable {F:Nat→Prop} {N:Nm} {nx:Nat} {R:World}
theorem Blv {c:TC} {x:A} {l:List (U c)} {v:Value} (he:Bvu c x=some l) (h:Hv F N nx R x v):Hv F N nx R (.sl c l) v:=by
 unfold Bvu at he
 split at he<;>first|(cases he;done)|skip
 ·split at he<;>first|(cases he;done)|skip
  rename_i h1 _
  obtain⟨h1⟩:=h1
  subst h1
  cases he
  exact h
 ·cases he
  obtain⟨a,e⟩:=h.nl_inv
  exact Hv.sl_nil e
 ·rename_i x
  cases hb:D5 x with
  |false=>rw[hb] at he;cases he
  |true=>
   rw[hb] at he
   cases he
   exact Hv.sl_nil (by rw[h.v_inv,Gr hb])
theorem Bhw {c:TC} {d:U c} {vs:List Value} (h:HL F N nx R (enc c d) vs) (ha:c.isAgg=true):Hv F N nx R (Af c d) (.agg vs.toArray):=by
 unfold Af
 rw[ha]
 exact YA h
theorem Bsc {c:TC} {d:U c} {vs:List Value} {v:Value} (h:HL F N nx R (enc c d) vs) (ha:c.isAgg=false) (hv:vs[0]?=some v):Hv F N nx R (Af c d) v:=by
 unfold Af
 rw[ha]
 show Hv F N nx R (match enc c d with|x::_=>x| []=> .dead) v
 generalize enc c d=l at h
 cases l with
 |nil=>exact .dead _
 |cons x r=>
  obtain⟨w,ws,rfl,h1,_⟩:=h.inv
  cases hv
  exact h1
def UT (c:TC):A→Bool
 | .v (.agg _)=>c.isAgg
 | .agg _=>c.isAgg
 | .v (.tuple _)=>false
 | .v x=>!c.isAgg&&x.oneCell'
 | .opt _ _ _=>false
 | .tup _=>false
 | .dead=>false
 | .it _ _=>false
 | .sq _=>false
 | .dq _=>false
 | .iv _ _=>false
 | .de _ _ _ _=>false
 | .ie _ _ _ _ _=>false
 |_=>!c.isAgg
def B0o (c:TC) (x:A):Option (U c×List Prop):=bif UT c x then B2b c x else none
theorem Bvw {c:TC} {x:A} {d:U c} {ps:List Prop} {v:Value} (he:B0o c x=some (d,ps)) (hp:∀p∈ps,p) (h:Hv F N nx R x v):Hv F N nx R (Af c d) v:=by
 unfold B0o at he
 cases hf:UT c x with
 |false=>rw[hf] at he;cases he
 | true=>
  rw[hf] at he
  simp only[cond_true] at he
  unfold B2b at he
  split at he<;>first|(cases he;done)|skip
  rename_i cs hcs
  have hd:=A6o (F:=F) (N:=N) (nx:=nx) (R:=R) he hp
  have single:∀{y:A},Hv F N nx R y v→cs=[y]→c.isAgg=false→Hv F N nx R (Af c d) v:=fun {y} hy e hc=>by
   subst e
   exact Bsc (hd [v] (HL.cons hy HL.nil)) hc rfl
  cases x<;>first|(cases hf;done)|skip
  ·rename_i y
   have hv:=h.v_inv
   subst hv
   cases hcs
   have hl:HL F N nx R (toL v.cells.toList) v.cells.toList:=HL.toL _
   cases v with
   |agg xs=>
    have hl':HL F N nx R (toL xs.toList) xs.toList:=hl
    have:=Bhw (hd _ hl') hf
    simpa using this
   |tuple xs=>cases hf
   |_=>
    simp only[UT,Bool.and_eq_true,Bool.not_eq_true'] at hf
    exact Bsc (hd _ hl) hf.1 rfl
  ·cases hcs
   exact single h rfl (by simpa[UT] using hf)
  ·cases hcs
   exact single h rfl (by simpa[UT] using hf)
  ·cases hcs
   exact single h rfl (by simpa[UT] using hf)
  ·cases hcs
   exact single h rfl (by simpa[UT] using hf)
  ·cases hcs
   exact single h rfl (by simpa[UT] using hf)
  ·cases hcs
   exact single h rfl (by simpa[UT] using hf)
  ·cases hcs
   exact single h rfl (by simpa[UT] using hf)
  ·cases hcs
   exact single h rfl (by simpa[UT] using hf)
  ·cases hcs
   exact single h rfl (by simpa[UT] using hf)
  ·cases hcs
   obtain⟨vs,rfl,h2⟩:=h.agg_inv
   exact Bhw (hd _ h2) hf
end
theorem Sl:freeL []=true:=by unfold freeL;rfl
theorem Mc {x:A} {r:List A} (h:x.free=true) (k:freeL r=true):freeL (x::r)=true:=by unfold freeL;rw[h,k];rfl
theorem A5f (c:TC) (d:U c):(Af c d).free=true:=by
 have hfr:∀l:List A,(∀x∈l,x.free=true)→freeL l=true:=fun l=>by
  induction l with
  |nil=>intro _;unfold freeL;rfl
  |cons x r ih=>intro h;unfold freeL;rw[h x (List.mem_cons_self ..),ih fun y hy=>h y (List.mem_cons_of_mem _ hy)];rfl
 have h:=Bco c d
 unfold Af
 cases c.isAgg with
 |true=>
  show(VS (enc c d)).free=true
  unfold VS
  split
  ·unfold A.free;rfl
  ·unfold A.free;exact hfr _ h
 |false=>
  show A.free (match enc c d with|x::_=>x| []=> .dead)=true
  have hl:=Ab5 c d
  have hs:0 <size c:=by cases c<;>decide
  generalize enc c d=l at h hl
  cases l with
  |nil=>rw[←hl] at hs;cases hs
  |cons x r=>exact h x (List.mem_cons_self ..)
theorem Am3 {P:Program} {f:FuncId} {args args':List A} {nx k nx':Nat} {o o':Objs} {x:A} (h:CallOk P f args' nx o k x nx' o') (ha:∀(F:Nat→Prop) (N:Nm) (R:World) (vs:List Value),HL F N nx R args vs→HL F N nx R args' vs):CallOk P f args nx o k x nx' o':=
 fun F N R vs hh hl=>h F N R vs hh (ha F N R vs hl)
inductive Kd where
 |l (c:TC)
 |t (c:TC)
def Fn (X:Type):List Kd→Type
 | []=>X
 | .l c::r=>List (U c)→Fn X r
 | .t c::r=>U c→Fn X r
abbrev FnP:=Fn (List Prop)
def B3b (ps:List Prop):Prop:=∀p∈ps,p
def B19 (q:List Prop):Option A3→Option A3
 |some (k,x,nx,o,p)=>some (k,x,nx,o,q++p)
 |none=>none
def Box (m nx:Nat) (ob:Objs):(ks:List Kd)→Fn A ks→Fn Objs ks→FnP ks→List A→Option A3
 | [],r,o,ps,[]=>some (1,A.pk (Ys nx) r,nx+m,Yr nx o++ob,ps)
 | .l c::ks,r,o,ps,y::ys=>match Bvu c y with
  |some a=>Box m nx ob ks (r a) (o a) (ps a) ys
  |none=>none
 | .t c::ks,r,o,ps,y::ys=>match B0o c y with
  |some (a,q)=>B19 q (Box m nx ob ks (r a) (o a) (ps a) ys)
  |none=>none
 |_,_,_,_,_=>none
def Bg (ks:List Kd) (m:Nat) (r:Fn A ks) (o:Fn Objs ks) (ps:FnP ks):List A→Nat→Objs→Option A3:=fun args nx ob=>Box m nx ob ks r o ps args
def OkG (P:Program) (f:FuncId) (m:Nat):(ks:List Kd)→List A→Fn A ks→Fn Objs ks→FnP ks→Prop
 | [],pre,r,o,ps=>B3b ps→CallOk P f pre 0 [] 1 r m o
 | .l c::ks,pre,r,o,ps=>∀a,OkG P f m ks (pre++[.sl c a]) (r a) (o a) (ps a)
 | .t c::ks,pre,r,o,ps=>∀a,OkG P f m ks (pre++[Af c a]) (r a) (o a) (ps a)
theorem Ajy:∀{a b:List A},freeL a=true→freeL b=true→freeL (a++b)=true
 | [],_,_,h=>h
 |x::a,b,h,g=>by
  unfold freeL at h
  rw[Bool.and_eq_true] at h
  exact Mc h.1 (Ajy h.2 g)
theorem Bxl {P:Program} {f:FuncId} {m nx:Nat} {ob:Objs}:∀(ks:List Kd) (pre ys:List A) (r:Fn A ks) (o:Fn Objs ks) (ps:FnP ks),freeL pre=true→OkG P f m ks pre r o ps→∀{k x nx' o' qs},Box m nx ob ks r o ps ys=some (k,x,nx',o',qs)→
  (∃d,o'=d++ob)∧∃zs,freeL zs=true∧((∀p∈qs,p)→(∀(F:Nat→Prop) (N:Nm) (R:World) (vs:List Value),HL F N nx R ys vs→HL F N nx R zs vs)∧CallOk P f (pre++zs) nx ob k x nx' o'):=by
 intro ks
 induction ks with
 | nil=>
  intro pre ys r o ps hf hok k x nx' o' qs he
  cases ys with
  |cons y ys=>cases he
  |nil=>
   cases he
   exact⟨⟨_,rfl⟩,[],Sl,fun hp=>⟨fun _ _ _ _ h=>h,by rw[List.append_nil];exact Ae3 (hok hp) (Nat.le_refl _) hf nx ob⟩⟩
 | cons kd ks ih=>
  intro pre ys r o ps hf hok k x nx' o' qs he
  cases ys with
  |nil=>cases kd<;>cases he
  | cons y ys=>
   cases kd with
   |l c=>
    unfold Box at he
    split at he<;>first|(cases he;done)|skip
    rename_i a ha
    obtain⟨h1,zs,h2,h3⟩:=ih (pre++[.sl c a]) ys (r a) (o a) (ps a) (Ajy hf (Mc (by unfold A.free;rfl) Sl)) (hok a) he
    refine⟨h1,.sl c a::zs,Mc (by unfold A.free;rfl) h2,fun hp=>⟨fun F N R vs hl=>?_,by have:=(h3 hp).2;rwa[List.append_assoc] at this⟩⟩
    obtain⟨v,w,rfl,q1,q2⟩:=hl.inv
    exact HL.cons (Blv ha q1) ((h3 hp).1 F N R w q2)
   |t c=>
    unfold Box at he
    split at he<;>first|(cases he;done)|skip
    rename_i a q ha
    unfold B19 at he
    split at he<;>first|(cases he;done)|skip
    rename_i k1 x1 nx1 o1 p1 he1
    cases he
    obtain⟨h1,zs,h2,h3⟩:=ih (pre++[Af c a]) ys (r a) (o a) (ps a) (Ajy hf (Mc (A5f _ _) Sl)) (hok a) he1
    refine⟨h1,Af c a::zs,Mc (A5f _ _) h2,fun hp=>?_⟩
    have hp1:=fun p hm=>hp p (List.mem_append.2 (.inl hm))
    have hp2:=h3 fun p hm=>hp p (List.mem_append.2 (.inr hm))
    refine⟨fun F N R vs hl=>?_,by have:=hp2.2;rwa[List.append_assoc] at this⟩
    obtain⟨v,w,rfl,q1,q2⟩:=hl.inv
    exact HL.cons (Bvw ha hp1 q1) (hp2.1 F N R w q2)
theorem Aq {P:Program} {f:FuncId} {ks:List Kd} {m:Nat} {r:Fn A ks} {o:Fn Objs ks} {ps:FnP ks} (h:OkG P f m ks [] r o ps):Fi P f (Bg ks m r o ps):=fun args nx ob k x nx' o' qs he=>by
 obtain⟨h1,zs,_,h3⟩:=Bxl ks [] args r o ps Sl h he
 exact⟨fun hp=>Am3 (h3 hp).2 (h3 hp).1,h1⟩
end Go.Proofs.Yteebobbhhgmeiaa
namespace Go.Proofs.Yteebobbhhgmeiaa
open Go.RowKit
def Iz (k:IntKind) (n:Int):Prop:=(Lit.int k n).wf=true
def WfS (x:TStamp):Prop:=Iz .i64 x.n∧Iz .i64 x.site
def WfV (x:TVec):Prop:=Iz .i64 x.a∧Iz .i64 x.b
def Abs (x:TCell):Prop:=WfS x.stamp∧WfV x.vec∧True∧x.value.size≤maxLen∧WfV x.dead
def Blq (x:TRow):Prop:=x.key.size≤maxLen∧(x.cells.length≤maxLen∧∀y∈x.cells,Abs y)
def Blr (x:TWrite):Prop:=x.key.size≤maxLen∧Iz .i64 x.group∧True∧x.value.size≤maxLen
def Blp (x:TField):Prop:=Iz .i64 x.group∧x.value.size≤maxLen
def Wfd:(c:TC)→U c→Prop
 | .i64,n=>Iz .i64 n
 | .u32,n=>Iz .u32 n
 | .str,s=>s.size≤maxLen
 | .vec,x=>WfV x
 | .stamp,x=>WfS x
 | .cell,x=>Abs x
 | .group,x=>x.name.size≤maxLen∧Iz .i64 x.policy
 | .write,x=>Blr x
 | .row,x=>Blq x
 | .change,x=>Iz .i64 x.site∧Iz .i64 x.seq∧WfS x.stamp∧WfV x.vec∧(x.writes.length≤maxLen∧∀y∈x.writes,Blr y)
 | .field,x=>Blp x
 | .view,x=>x.key.size≤maxLen∧(x.fields.length≤maxLen∧∀y∈x.fields,Blp y)
 | .told,x=>Iz .i64 x.ack∧Iz .i64 x.own∧Iz .i64 x.come
 | .act,x=>Iz .i64 x.kind∧Blq x.row∧x.til.size≤maxLen∧Iz .i64 x.n
 | .front,x=>Iz .i64 x.site∧Iz .i64 x.acked∧Iz .i64 x.stable∧Iz .i64 x.wait∧Iz .i64 x.til
 | .ask,x=>WfS x.stamp∧WfV x.vec∧True∧x.value.size≤maxLen
 | .two,x=>Blq x.row∧Iz .i64 x.group∧Abs x.cell
 | .note,x=>x.name.size≤maxLen∧x.text.size≤maxLen
 | .packet,x=>Iz .i64 x.src∧x.bytes.size≤maxLen
 | .place,x=>x.key.size≤maxLen∧Iz .i64 x.group
 | .bytes,l=>l.length≤maxLen∧∀y∈l,True
 | .ints,l=>l.length≤maxLen∧∀y∈l,Iz .i64 y
 | .cells,l=>l.length≤maxLen∧∀y∈l,Abs y
 | .rows,l=>l.length≤maxLen∧∀y∈l,Blq y
 | .ask3,x=>x.key.size≤maxLen∧x.from_.size≤maxLen∧x.til.size≤maxLen∧Iz .i64 x.n
 | .three,x=>(x.a.length≤maxLen∧∀y∈x.a,Abs y)∧(x.b.length≤maxLen∧∀y∈x.b,Abs y)∧(x.c.length≤maxLen∧∀y∈x.c,Abs y)
 |_,_=>True
def FB (w:World) (F:Nat→Prop):Prop:=∀b,b <w.heap.size→F b
def B16 (P:Program) (c:TC) (t:TypeId) {H:Type} (en:TypeId×Value→H) (w:World) (base:Nat) (spare:Nat→Bool) (held:Bool):Prop:=
 ∀(m:Nat) (cs:List Value) (y:DataW H×List MemPlace),DataW.trod en P w base spare held m t cs=some y→∃x:U c,Wfd c x∧∀(F:Nat→Prop) (N:Nm) (nx:Nat),FB w F→HL F N nx w (enc c x) cs
def Opn (P:Program) (c:TC) (t:TypeId):Prop:=∀{H:Type} (en:TypeId×Value→H) (w:World) (base:Nat) (spare:Nat→Bool) (held:Bool),B16 P c t en w base spare held
def A3f (P:Program) (c:TC) (t:TypeId):Prop:=∀{H:Type} (en:TypeId×Value→H) (w:World) (base:Nat) (spare:Nat→Bool) (held:Bool) (m:Nat) (cs:List Value) (y:DataW H×List MemPlace),
 DataW.trod en P w base spare held m t cs=some y→∃l:List (U c),(l.length≤maxLen∧∀x∈l,Wfd c x)∧∀(F:Nat→Prop) (N:Nm) (nx:Nat),FB w F→HL F N nx w [.sl c l] cs
section
variable {P:Program} {t:TypeId}
theorem Bw5 (hu:P.underlying t=some (.int .i64)):Opn P .i64 t:=fun en w base spare held m cs y h=>by
 obtain⟨n,rfl,_,hw⟩:=DataW.trod_int hu h
 exact⟨n,hw,fun F N nx _=>HL.cons (Hv.v _) HL.nil⟩
theorem Btb (hu:P.underlying t=some .bool):Opn P .bool t:=fun en w base spare held m cs y h=>by
 obtain⟨n,rfl,_⟩:=DataW.trod_bool hu h
 exact⟨n,trivial,fun F N nx _=>HL.cons (Hv.v _) HL.nil⟩
theorem Bw6 (hu:P.underlying t=some .string):Opn P .str t:=fun en w base spare held m cs y h=>by
 obtain⟨n,rfl,_,hw⟩:=DataW.trod_string hu h
 exact⟨n,hw,fun F N nx _=>HL.cons (Hv.v _) HL.nil⟩
theorem Bme {α:Type} {Q:Nat→α→Prop}:∀(n:Nat),(∀i,i <n→∃x,Q i x)→∃l:List α,l.length=n∧∀(i:Nat) (x:α),l[i]?=some x→Q i x
 |0,_=>⟨[],rfl,fun i x h=>by cases h⟩
 | n+1,h=>by
  obtain⟨l,h1,h2⟩:=Bme n fun i hi=>h i (by omega)
  obtain⟨x,hx⟩:=h n (by omega)
  refine⟨l++[x],by simp[h1],fun i y hy=>?_⟩
  rcases Nat.lt_trichotomy i n with hi|rfl|hi
  ·rw[List.getElem?_append_left (by omega)] at hy
   exact h2 i y hy
  ·rw[List.getElem?_append_right (by omega)] at hy
   simp[h1] at hy
   subst hy
   exact hx
  ·rw[List.getElem?_eq_none (by simp;omega)] at hy
   cases hy
theorem Ajl {w:World} {base:Nat} {a:Addr} {n:Nat} {cs:List Value} (h:w.cells? base a n=some cs):base≤a.block∧cs.length=n∧∀(j:Nat) (v:Value),cs[j]?=some v→w.cell? (a.add j)=some v:=by
 unfold World.cells? at h
 split at h
 ·rename_i hb
  refine⟨hb,by simpa using mapM_some_length h,fun j v hv=>?_⟩
  have hl:cs.length=n:=by simpa using mapM_some_length h
  have hj:j <n:=by
   have:=(List.getElem?_eq_some_iff.1 hv).1
   omega
  have:=mapM_some_get h j j (by simp[hj])
  rw[this,hv]
 ·cases h
theorem Axh {c:TC} {e:TypeId} (hu:P.underlying t=some (.slice e)) (hs:P.cellsOf e=size c) (he:Opn P c e):A3f P c t:=fun en w base spare held m cs y h=>by
 rcases DataW.trod_slice hu h with⟨rfl,_⟩|⟨a,len,cap,elems,rest,n,_,rfl,_,hb,hlc,hcm,hel,hg,_⟩
 ·exact⟨[],⟨Nat.zero_le _,fun x hx=>by cases hx⟩,fun F N nx _=>HL.cons (Hv.sl_nil (a:=none) rfl) HL.nil⟩
 ·have each:∀i,i <len→∃x:U c,Wfd c x∧∃zs,w.cells? base (a.add (i*size c)) (size c)=some zs∧∀(F:Nat→Prop) (N:Nm) (nx:Nat),FB w F→HL F N nx w (enc c x) zs:=fun i hi=>by
   have:=hg i hi
   rw[hs] at this
   have h2:elems[i]?≠none:=by
    intro h0
    rw[List.getElem?_eq_none_iff] at h0
    omega
   obtain⟨z,hz⟩:=Option.ne_none_iff_exists'.1 h2
   rw[hz] at this
   obtain⟨zs,h3,h4⟩:=Option.bind_eq_some_iff.1 this
   obtain⟨x,h5,h6⟩:=he en w base spare held n zs z h4
   exact⟨x,h5,zs,h3,h6⟩
  obtain⟨l,h1,h2⟩:=Bme len each
  refine⟨l,⟨by omega,fun x hx=>?_⟩,fun F N nx hF=>HL.cons ?_ HL.nil⟩
  ·obtain⟨i,hi⟩:=List.getElem?_of_mem hx
   exact(h2 i x hi).1
  ·subst h1
   refine Hv.sl a hlc (fun hp=>⟨rfl,?_⟩) (fun i d j x hd hx=>?_) (fun i d j x y hd hx hy=>?_)
   ·obtain⟨_,zs,h3,h4⟩:=h2 0 l[0] (by rw[List.getElem?_eq_getElem hp])
    obtain⟨_,h5,h6⟩:=Ajl h3
    have hsz:0 <zs.length:=by rw[h5];cases c<;>decide
    have:=h6 0 zs[0] (by rw[List.getElem?_eq_getElem hsz])
    have:=World.block_lt_of_cell? w _ this
    rw[IX,IX] at this
    exact hF _ this
   ·obtain⟨_,zs,h3,h4⟩:=h2 i d hd
    obtain⟨v,h5,h6⟩:=(h4 F N nx hF).get hx
    refine⟨v,?_⟩
    rw[←D3]
    exact(Ajl h3).2.2 j v h5
   ·obtain⟨_,zs,h3,h4⟩:=h2 i d hd
    obtain⟨v,h5,h6⟩:=(h4 F N nx hF).get hx
    have:=(Ajl h3).2.2 j v h5
    rw[D3,hy] at this
    cases this
    exact h6
end
section
variable {H:Type} {en:TypeId×Value→H} {P:Program} {w:World} {base:Nat} {spare:Nat→Bool} {held:Bool} {F:Nat→Prop} {N:Nm} {nx:Nat}
theorem Aqw {fs:Array Field} {cs:List Value} {m i:Nat} {xs:List (DataW H×List MemPlace)} {f:Field} {t:TypeId} {o k:Nat} {c:TC} (ho:Opn P c t) (hf:fs[i]?=some f) (ht:f.type=t) (hof:f.offset=o) (hk:P.cellsOf t=k) (hi:i <xs.length)
  (g:∀(i:Nat) (f:Field),fs[i]?=some f→DataW.trod en P w base spare held m f.type ((cs.drop f.offset).take (P.cellsOf f.type))=xs[i]?):∃x:U c,Wfd c x∧∀(F:Nat→Prop) (N:Nm) (nx:Nat),FB w F→HL F N nx w (enc c x) ((cs.drop o).take k):=by
 subst ht hof hk
 have:=g i f hf
 rw[List.getElem?_eq_getElem hi] at this
 exact ho en w base spare held m _ _ this
theorem B3d {fs:Array Field} {cs:List Value} {m i:Nat} {xs:List (DataW H×List MemPlace)} {f:Field} {t:TypeId} {o k:Nat} {c:TC} (ho:A3f P c t) (hf:fs[i]?=some f) (ht:f.type=t) (hof:f.offset=o) (hk:P.cellsOf t=k) (hi:i <xs.length)
  (g:∀(i:Nat) (f:Field),fs[i]?=some f→DataW.trod en P w base spare held m f.type ((cs.drop f.offset).take (P.cellsOf f.type))=xs[i]?):∃l:List (U c),(l.length≤maxLen∧∀x∈l,Wfd c x)∧∀(F:Nat→Prop) (N:Nm) (nx:Nat),FB w F→HL F N nx w [.sl c l] ((cs.drop o).take k):=by
 subst ht hof hk
 have:=g i f hf
 rw[List.getElem?_eq_getElem hi] at this
 exact ho en w base spare held m _ _ this
theorem B2c {cs:List Value} {m i n:Nat} {xs:List (DataW H×List MemPlace)} {t:TypeId} {k:Nat} {c:TC} (ho:Opn P c t) (hk:P.cellsOf t=k) (hx:i <xs.length) (hn:i <n)
  (g:∀(i:Nat),i <n→DataW.trod en P w base spare held m t ((cs.drop (i*P.cellsOf t)).take (P.cellsOf t))=xs[i]?):∃x:U c,Wfd c x∧∀(F:Nat→Prop) (N:Nm) (nx:Nat),FB w F→HL F N nx w (enc c x) ((cs.drop (i*k)).take k):=by
 subst hk
 have:=g i hn
 rw[List.getElem?_eq_getElem hx] at this
 exact ho en w base spare held m _ _ this
theorem HLd {o k:Nat} {cs:List Value} {l r:List A} (h:HL F N nx w l ((cs.drop o).take k)) (h':HL F N nx w r (cs.drop (o+k))):HL F N nx w (l++r) (cs.drop o):=by
 have e:cs.drop o=(cs.drop o).take k++cs.drop (o+k):=by
  rw[←List.drop_drop,List.take_append_drop]
 rw[e]
 exact h.append h'
theorem HLe {o:Nat} {cs:List Value} (h:cs.length=o):HL F N nx w [] (cs.drop o):=by
 rw[List.drop_eq_nil_of_le (by omega)]
 exact HL.nil
end
end Go.Proofs.Yteebobbhhgmeiaa
namespace Go.Proofs.Yteebobbhhgmeiaa
open Go.RowKit
theorem Av6 {X:Type} {next:X→X} {goes:X→Cnd} {ps:X→List Prop} (I:X→Prop) (m:X→Nat) (h:∀x,I x→(∀p∈ps x,p)∧(Bm (goes x)=true→I (next x)∧m (next x) <m x)):
  ∀(n:Nat) (x:X),I x→m x≤n→AD next goes ps n x∧I (A9 next goes n x)∧Bm (goes (A9 next goes n x))=false
 | 0,x,hi,hm=>by
  obtain⟨h1,h2⟩:=h x hi
  have hg:Bm (goes x)=false:=by
   cases hc:Bm (goes x) with
   |false=>rfl
   |true=>have:=(h2 hc).2;omega
  exact⟨⟨h1,hg⟩,hi,hg⟩
 | n+1,x,hi,hm=>by
  obtain⟨h1,h2⟩:=h x hi
  cases hc:Bm (goes x) with
  | false=>
   have e:A9 next goes (n+1) x=x:=by
    show(bif Bm (goes x) then _ else x)=x
    rw[hc];rfl
   rw[e]
   exact⟨⟨h1,fun hh=>by rw[hc] at hh;cases hh⟩,hi,hc⟩
  | true=>
   have e:A9 next goes (n+1) x=A9 next goes n (next x):=by
    show(bif Bm (goes x) then _ else x)=_
    rw[hc];rfl
   obtain⟨h3,h4⟩:=h2 hc
   obtain⟨g1,g2,g3⟩:=Av6 I m h n (next x) h3 (by omega)
   rw[e]
   exact⟨⟨h1,fun _=>g1⟩,g2,g3⟩
theorem i64_in {n:Int} (h:-9223372036854775808≤n∧n≤9223372036854775807):IntKind.i64.wrap n=n:=IntWalk.i64_in n h
end Go.Proofs.Yteebobbhhgmeiaa
namespace Go.Proofs.Yteebobbhhgmeiaa
open Go.RowKit
def K3 (n:Int):Nat:=if n <0∨n >4611686018427387903 then 0 else if n≥1073741824 then 8 else if n≥16384 then 4 else if n≥64 then 2 else 1
def be:Nat→Nat→List UInt8
 |0,_=>[]
 |k+1,N=>UInt8.ofNat (N / 256^k)::be k N
def Bt8 (k:Nat):Nat:=if k=2 then 1 else if k=4 then 2 else if k=8 then 3 else 0
def NF (n:Int):List UInt8:=be (K3 n) (n.toNat+Bt8 (K3 n)*(64*256^(K3 n - 1)))
def val (acc:Nat) (l:List UInt8):Nat:=l.foldl (fun a y=>a*256+y.toNat) acc
def Ak:List UInt8→Int×Int×Int
 | []=>(0,0,10)
 |x::r=>if r.length+1 <2^(x.toNat / 64) then(0,0,10) else if K3 (val (x.toNat % 64) (r.take (2^(x.toNat / 64) - 1))) <2^(x.toNat / 64) then(0,0,11) else((val (x.toNat % 64) (r.take (2^(x.toNat / 64) - 1)):Int),((2^(x.toNat / 64):Nat):Int),0)
theorem YL (x:UInt8) (r:List UInt8):Ak (x::r)=if r.length+1 <2^(x.toNat / 64) then(0,0,10) else if K3 (val (x.toNat % 64) (r.take (2^(x.toNat / 64) - 1))) <2^(x.toNat / 64) then(0,0,11) else((val (x.toNat % 64) (r.take (2^(x.toNat / 64) - 1)):Int),((2^(x.toNat / 64):Nat):Int),0):=rfl
theorem KV:∀(k N:Nat),(be k N).length=k
 |0,_=>rfl
 |k+1,N=>by unfold be;rw[List.length_cons,KV]
theorem Tz (acc:Nat) (x:UInt8) (r:List UInt8):val acc (x::r)=val (acc*256+x.toNat) r:=rfl
theorem UI:∀(l:List UInt8) (acc:Nat),val acc l=acc*256^l.length+val 0 l
 | [],acc=>by show acc=acc*256^0+0;omega
 |x::r,acc=>by
  rw[Tz,Tz,UI r,UI r (0*256+x.toNat),List.length_cons,Nat.pow_succ,Nat.zero_mul,Nat.zero_add,Nat.add_mul,Nat.mul_assoc,Nat.mul_comm 256]
  omega
theorem A96:∀(l:List UInt8),val 0 l <256^l.length
 | []=>by show 0 <256^0;decide
 |x::r=>by
  rw[Tz,UI,List.length_cons,Nat.pow_succ,Nat.zero_mul,Nat.zero_add]
  have h1:=A96 r
  have h2:x.toNat+1≤256:=x.toNat_lt
  have:=Nat.mul_le_mul_right (256^r.length) h2
  rw[Nat.add_mul,Nat.one_mul] at this
  rw[Nat.mul_comm (256^r.length)]
  omega
theorem Bgz:∀(k N a:Nat),be k (N+a*256^k)=be k N
 |0,_,_=>rfl
 |k+1,N,a=>by
  unfold be
  have h:N+a*256^(k+1)=N+a*256*256^k:=by rw[Nat.pow_succ,Nat.mul_assoc,Nat.mul_comm (256^k)]
  rw[h,Bgz k N (a*256),Nat.add_mul_div_right _ _ (Nat.pow_pos (by decide))]
  congr 1
  apply UInt8.toNat_inj.1
  rw[UInt8.toNat_ofNat',UInt8.toNat_ofNat']
  omega
theorem Bre:∀(l:List UInt8),be l.length (val 0 l)=l
 | []=>rfl
 | x::r=>by
  rw[List.length_cons]
  have e:val 0 (x::r)=val 0 r+x.toNat*256^r.length:=by
   rw[Tz,UI,Nat.zero_mul,Nat.zero_add,Nat.add_comm]
  unfold be
  rw[e,Bgz,Bre r,Nat.add_mul_div_right _ _ (Nat.pow_pos (by decide)),Nat.div_eq_of_lt (A96 r),Nat.zero_add]
  congr 1
  exact UInt8.ofNat_toNat
theorem Bu1:∀(k N acc:Nat),val acc (be k N)=acc*256^k+N % 256^k
 |0,N,acc=>by show acc=acc*256^0+N % 256^0;omega
 |k+1,N,acc=>by
  unfold be
  have h8:(UInt8.ofNat (N / 256^k)).toNat=N / 256^k % 256:=by rw[UInt8.toNat_ofNat']
  have hm:=Nat.mod_pow_succ (x:=N) (b:=256) (k:=k)
  rw[Tz,Bu1 k,h8,hm,Nat.pow_succ,Nat.add_mul,Nat.mul_assoc,Nat.mul_comm 256 (256^k),Nat.mul_comm (256^k) (N / 256^k % 256)]
  omega
def szs (k:Nat):Prop:=k=1∨k=2∨k=4∨k=8
theorem Bnc {n:Int} (h0:0≤n) (h1:n≤4611686018427387903):szs (K3 n)∧n.toNat <64*256^(K3 n - 1):=by
 unfold K3 szs
 rw[if_neg (by omega)]
 split
 ·exact⟨by decide,by show n.toNat <64*256^7;omega⟩
 ·split
  ·exact⟨by decide,by show n.toNat <64*256^3;omega⟩
  ·split
   ·exact⟨by decide,by show n.toNat <64*256^1;omega⟩
   ·exact⟨by decide,by show n.toNat <64*256^0;omega⟩
theorem B26 {n k:Nat} (hk:szs k) (h:n <64*256^(k - 1)):K3 n≤k∧1≤K3 n∧n≤4611686018427387903:=by
 unfold K3
 rcases hk with rfl|rfl|rfl|rfl
 ·have h':n <64:=h
  rw[if_neg (by omega),if_neg (by omega),if_neg (by omega),if_neg (by omega)];omega
 ·have h':n <64*256:=h
  rw[if_neg (by omega),if_neg (by omega),if_neg (by omega)]
  split<;>omega
 ·have h':n <64*256^3:=h
  have h'':n <1073741824:=by omega
  rw[if_neg (by omega),if_neg (by omega)]
  split
  ·omega
  ·split<;>omega
 ·have h':n <64*256^7:=h
  have h'':n <4611686018427387904:=by omega
  rw[if_neg (by omega)]
  split
  ·omega
  ·split
   ·omega
   ·split<;>omega
theorem B1l {k:Nat} (hk:szs k):Bt8 k≤3∧2^Bt8 k=k:=by
 rcases hk with rfl|rfl|rfl|rfl<;>decide
theorem Bt9 {t:Nat} (h:t≤3):szs (2^t)∧Bt8 (2^t)=t:=by
 match t,h with
 |0,_=>exact⟨by unfold szs;decide,rfl⟩
 |1,_=>exact⟨by unfold szs;decide,rfl⟩
 |2,_=>exact⟨by unfold szs;decide,rfl⟩
 |3,_=>exact⟨by unfold szs;decide,rfl⟩
 |n+4,h=>omega
theorem Nj (n:Int):(NF n).length=K3 n:=KV _ _
theorem Bwl {n:Int} (h0:0≤n) (h1:n≤4611686018427387903) (r:List UInt8):Ak (NF n++r)=(n,(K3 n:Int),0):=by
 obtain⟨hk,hn⟩:=Bnc h0 h1
 unfold NF
 generalize hkk:K3 n=k at*
 obtain⟨m,rfl⟩:∃m,k=m+1:=⟨k - 1,by unfold szs at hk;omega⟩
 obtain⟨t1,t2⟩:=B1l hk
 generalize Bt8 (m+1)=t at*
 rw[Nat.add_sub_cancel] at hn⊢
 have hp:0 <256^m:=Nat.pow_pos (by decide)
 have e1:(n.toNat+t*(64*256^m)) / 256^m=n.toNat / 256^m+t*64:=by rw[←Nat.mul_assoc,Nat.add_mul_div_right _ _ hp]
 have e2:n.toNat / 256^m <64:=by rw[Nat.div_lt_iff_lt_mul hp];exact hn
 have e3:(n.toNat+t*(64*256^m)) % 256^m=n.toNat % 256^m:=by rw[←Nat.mul_assoc,Nat.add_mul_mod_self_right]
 unfold be
 rw[e1]
 have aux:∀q:Nat,q <64→(UInt8.ofNat (q+t*64)).toNat=q+t*64∧(q+t*64) / 64=t∧(q+t*64) % 64=q:=fun q hq=>by
  rw[UInt8.toNat_ofNat']
  omega
 obtain⟨hx,ht,hm⟩:=aux _ e2
 show Ak (UInt8.ofNat (n.toNat / 256^m+t*64)::(be m (n.toNat+t*(64*256^m))++r))=_
 rw[YL,hx,ht,hm,t2,Nat.add_sub_cancel]
 have hl:(be m (n.toNat+t*(64*256^m))++r).take m=be m (n.toNat+t*(64*256^m)):=by
  rw[List.take_append_of_le_length (by rw[KV];exact Nat.le_refl _),List.take_of_length_le (by rw[KV];exact Nat.le_refl _)]
 rw[hl,Bu1,e3]
 have hv:n.toNat / 256^m*256^m+n.toNat % 256^m=n.toNat:=by rw[Nat.mul_comm];exact Nat.div_add_mod _ _
 rw[hv,if_neg (by rw[List.length_append,KV];omega)]
 have hnn:(n.toNat:Int)=n:=Int.toNat_of_nonneg h0
 rw[hnn,hkk,if_neg (by omega)]
theorem Bxd {b:List UInt8} {n k:Int} (h:Ak b=(n,k,0)):0≤n∧n≤4611686018427387903∧k=(K3 n:Int)∧K3 n≤b.length∧b.take (K3 n)=NF n:=by
 cases b with
 |nil=>cases h
 | cons x r=>
  rw[YL] at h
  split at h
  ·cases h
  ·rename_i hlen
   split at h
   ·cases h
   ·rename_i hsz
    have hxl:x.toNat <256:=x.toNat_lt
    obtain⟨k1,k2⟩:=Bt9 (t:=x.toNat / 64) (by omega)
    generalize hK:2^(x.toNat / 64)=K at*
    obtain⟨m,rfl⟩:∃m,K=m+1:=⟨K - 1,by unfold szs at k1;omega⟩
    rw[Nat.add_sub_cancel] at*
    have hrl:(r.take m).length=m:=by rw[List.length_take];omega
    have hv:=UI (r.take m) (x.toNat % 64)
    have hlt:=A96 (r.take m)
    rw[hrl] at hv hlt
    generalize hN:val (x.toNat % 64) (r.take m)=M at*
    have hM:M <64*256^m:=by
     have:x.toNat % 64+1≤64:=by omega
     have:=Nat.mul_le_mul_right (256^m) this
     rw[Nat.add_mul,Nat.one_mul] at this
     omega
    obtain⟨s1,s2,s3⟩:=B26 k1 (by rw[Nat.add_sub_cancel];exact hM)
    have hs:K3 (M:Int)=m+1:=by omega
    injection h with h1 h
    injection h with h2 h3
    subst h1
    refine⟨by omega,by omega,by rw[hs,←h2],by rw[hs,List.length_cons];omega,?_⟩
    rw[hs]
    unfold NF
    rw[hs,k2,Nat.add_sub_cancel,Int.toNat_natCast]
    have e:M+x.toNat / 64*(64*256^m)=val 0 (x::r.take m):=by
     rw[Tz,Nat.zero_mul,Nat.zero_add,UI,hrl,hv,←Nat.mul_assoc]
     have hx:=Nat.div_add_mod x.toNat 64
     have:x.toNat*256^m=(x.toNat / 64*64+x.toNat % 64)*256^m:=by congr 1;omega
     rw[this,Nat.add_mul]
     omega
    rw[e]
    have hb:=Bre (x::r.take m)
    rw[List.length_cons,hrl] at hb
    rw[hb]
    rfl
theorem Brd:∀(k N i:Nat),i <k→(be k N)[i]?=some (UInt8.ofNat (N / 256^(k - 1 - i)))
 |0,_,_,h=>by omega
 |k+1,N,0,_=>by unfold be;rfl
 |k+1,N,i+1,h=>by
  unfold be
  rw[List.getElem?_cons_succ,Brd k N i (by omega)]
  have:k - 1 - i=k+1 - 1 - (i+1):=by omega
  rw[this]
theorem Bvy {k N i:Nat} (h:i <k):(be k N).take (i+1)=(be k N).take i++[UInt8.ofNat (N / 256^(k - 1 - i))]:=by
 rw[List.take_add_one,Brd k N i h]
 rfl
theorem Bw9 (j:Nat):(2:Int)^(8*j)=((256^j:Nat):Int):=by
 rw[Int.pow_mul]
 norm_cast
theorem Btp {n:Int} {k i:Nat} (hn:0≤n) (hk:k≤8) (hi:i <k):
  UInt8.ofNat (IntKind.u8.wrap (n.fdiv ((2:Int)^min (IntKind.u64.wrap (IntKind.i64.wrap ((8:Int)*IntKind.i64.wrap (IntKind.i64.wrap ((k:Int) - (1:Int)) - (i:Int))))).toNat (64:Nat)))).toNat=UInt8.ofNat (n.toNat / 256^(k - 1 - i)):=by
 have e1:IntKind.u64.wrap (IntKind.i64.wrap ((8:Int)*IntKind.i64.wrap (IntKind.i64.wrap ((k:Int) - (1:Int)) - (i:Int))))=((8*(k - 1 - i):Nat):Int):=by
  rw[i64_in (n:=(k:Int) - 1) (by omega),i64_in (n:=(k:Int) - 1 - (i:Int)) (by omega),i64_in (by omega),IntWalk.u64_in _ (by omega)]
  omega
 rw[e1,Int.toNat_natCast,Nat.min_eq_left (by omega),Bw9]
 have e2:n=(n.toNat:Int):=(Int.toNat_of_nonneg hn).symm
 have e3:n.fdiv ((256^(k - 1 - i):Nat):Int)=((n.toNat / 256^(k - 1 - i):Nat):Int):=by
  rw[Int.fdiv_eq_ediv_of_nonneg _ (Int.natCast_nonneg _)]
  conv=>lhs;rw[e2]
  exact(Int.natCast_ediv _ _).symm
 rw[e3]
 generalize n.toNat / 256^(k - 1 - i)=q
 have e4:IntKind.u8.wrap (q:Int)=((q % 256:Nat):Int):=by
  rw[IntKind.wrap_u8]
  omega
 rw[e4,Int.toNat_natCast]
 apply UInt8.toNat_inj.1
 rw[UInt8.toNat_ofNat',UInt8.toNat_ofNat']
 omega
theorem B1d:∀(t:Fin 4) (q:Fin 64),(BitVec.ofInt 8 (q.val:Int) ||| BitVec.ofInt 8 ((64*t.val:Nat):Int)).toNat=q.val+t.val*64:=by decide+kernel
theorem Bw7 {q t:Nat} (hq:q <64) (ht:t <4):UInt8.ofNat (IntKind.u8.wrap ((BitVec.ofInt 8 (((UInt8.ofNat q).toNat:Nat):Int) ||| BitVec.ofInt 8 ((64*t:Nat):Int)).toNat:Int)).toNat=UInt8.ofNat (q+t*64):=by
 have h1:(UInt8.ofNat q).toNat=q:=by rw[UInt8.toNat_ofNat'];omega
 rw[h1,B1d ⟨t,ht⟩ ⟨q,hq⟩,IntWalk.u8_in _ (by show 0≤((q+t*64:Nat):Int)∧((q+t*64:Nat):Int)≤255;omega),Int.toNat_natCast]
theorem A9u {m N t:Nat} (b:List UInt8) (hN:N <64*256^m) (ht:t <4) (d:UInt8):
  (b++be (m+1) N).set b.length (UInt8.ofNat (IntKind.u8.wrap ((BitVec.ofInt 8 ((((b++be (m+1) N).getD b.length d).toNat:Nat):Int) ||| BitVec.ofInt 8 ((64*t:Nat):Int)).toNat:Int)).toNat)=b++be (m+1) (N+t*(64*256^m)):=by
 have hp:0 <256^m:=Nat.pow_pos (by decide)
 have e2:N / 256^m <64:=by rw[Nat.div_lt_iff_lt_mul hp];exact hN
 have e0:be (m+1) N=UInt8.ofNat (N / 256^m)::be m N:=rfl
 have e1:be (m+1) (N+t*(64*256^m))=UInt8.ofNat (N / 256^m+t*64)::be m N:=by
  show UInt8.ofNat ((N+t*(64*256^m)) / 256^m)::be m (N+t*(64*256^m))=_
  rw[←Nat.mul_assoc,Bgz,Nat.add_mul_div_right _ _ hp]
 have hg:(b++be (m+1) N).getD b.length d=UInt8.ofNat (N / 256^m):=by
  rw[e0,List.getD_eq_getElem?_getD,List.getElem?_append_right (Nat.le_refl _),Nat.sub_self]
  rfl
 rw[hg,Bw7 e2 ht,e0,e1,List.set_append_right _ _ (Nat.le_refl _),Nat.sub_self]
 rfl
theorem Bw8 {a:Nat} (ha:a <64*256^6) {y:UInt8}:IntKind.i64.wrap ((BitVec.ofInt 64 (IntKind.i64.wrap ((a:Int)*256)) ||| BitVec.ofInt 64 (IntKind.i64.wrap ((y.toNat:Nat):Int))).toNat:Int)=((a*256+y.toNat:Nat):Int):=by
 have hy:y.toNat <256:=y.toNat_lt
 have h6:64*256^6=18014398509481984:=by decide
 rw[h6] at ha
 rw[i64_in (n:=(a:Int)*256) (by omega),i64_in (n:=((y.toNat:Nat):Int)) (by omega)]
 have e1:(a:Int)*256=((a*256:Nat):Int):=by omega
 have e2:(BitVec.ofInt 64 ((a*256:Nat):Int) ||| BitVec.ofInt 64 ((y.toNat:Nat):Int)).toNat=a*256+y.toNat:=by
  rw[BitVec.toNat_or,BitVec.toNat_ofInt,BitVec.toNat_ofInt]
  have m1:(((a*256:Nat):Int) % ((2^64:Nat):Int)).toNat=2^8*a:=by omega
  have m2:(((y.toNat:Nat):Int) % ((2^64:Nat):Int)).toNat=y.toNat:=by omega
  rw[m1,m2,←Nat.two_pow_add_eq_or_of_lt hy]
  omega
 rw[e1,e2,i64_in (by omega)]
theorem Bu2 (a:Nat) (L:List UInt8) (i:Nat) (h:i <L.length) {d:UInt8}:((val a (L.take i)*256+(L.getD i d).toNat:Nat):Int)=(val a (L.take (i+1)):Int):=by
 have e:L.take (i+1)=L.take i++[L.getD i d]:=by
  rw[List.take_add_one,List.getD_eq_getElem?_getD,List.getElem?_eq_getElem h]
  rfl
 rw[e]
 unfold val
 rw[List.foldl_append]
 rfl
theorem B2o (x:UInt8):IntKind.i64.wrap ((1:Int)*(2:Int)^min ((((x.toNat:Nat):Int)).fdiv (64:Int)).toNat (64:Nat))=((2^(x.toNat / 64):Nat):Int):=by
 have hx:x.toNat <256:=x.toNat_lt
 have e:((((x.toNat:Nat):Int)).fdiv (64:Int)).toNat=x.toNat / 64:=by
  rw[Int.fdiv_eq_ediv_of_nonneg _ (by decide)]
  omega
 rw[e,Nat.min_eq_left (by omega)]
 have:x.toNat / 64≤3:=by omega
 generalize x.toNat / 64=t at*
 match t,this with
 |0,_=>rfl
 |1,_=>rfl
 |2,_=>rfl
 |3,_=>rfl
 |n+4,h=>omega
theorem Bst:∀q:Fin 256,(BitVec.ofInt 8 (q.val:Int) &&& BitVec.ofInt 8 63).toNat=q.val % 64:=by decide+kernel
theorem Bwk (x:UInt8):IntKind.i64.wrap (IntKind.u8.wrap ((BitVec.ofInt 8 ((x.toNat:Nat):Int) &&& BitVec.ofInt 8 63).toNat:Int))=((x.toNat % 64:Nat):Int):=by
 have hx:x.toNat <256:=x.toNat_lt
 rw[Bst ⟨x.toNat,hx⟩,IntWalk.u8_in _ (by show 0≤((x.toNat % 64:Nat):Int)∧((x.toNat % 64:Nat):Int)≤255;omega),i64_in (by show -9223372036854775808≤((x.toNat % 64:Nat):Int)∧((x.toNat % 64:Nat):Int)≤9223372036854775807;omega)]
end Go.Proofs.Yteebobbhhgmeiaa
namespace Go.Proofs.Yteebobbhhgmeiaa
open Go.RowKit
def QM (a0:Int):Bool:=!(decide (a0 <(0:Int))||decide (a0 >(4611686018427387903:Int)))&&(!decide (a0≥(1073741824:Int))&&decide (a0≥(16384:Int)))
def QL (a0:Int):Bool:=!(decide (a0 <(0:Int))||decide (a0 >(4611686018427387903:Int)))&&(!decide (a0≥(1073741824:Int))&&(!decide (a0≥(16384:Int))&&decide (a0≥(64:Int))))
def Xq (a0:Int):Bool:=!(decide (a0 <(0:Int))||decide (a0 >(4611686018427387903:Int)))&&(!(!(decide (a0 <(0:Int))||decide (a0 >(4611686018427387903:Int)))&&decide (a0≥(1073741824:Int)))&&(!(QM a0)&&!(QL a0)))
def A7 (a0:Int):Int:=bif !(!(decide (a0 <(0:Int))||decide (a0 >(4611686018427387903:Int)))&&decide (a0≥(1073741824:Int)))&&(!(QM a0)&&(!(QL a0)&&!(Xq a0))) then(0:Int) else IntKind.i64.wrap ((bif(Xq a0) then(0:Int) else IntKind.i64.wrap ((bif(QL a0) then(0:Int) else IntKind.i64.wrap ((bif(QM a0) then(0:Int) else(4:Int))+(2:Int)))+(1:Int)))+(1:Int))
def Acy (a0:Int):A:=.v (.int .i64 (A7 a0))
def Acx (_a0:Int):Objs:=[]
def Xr (_a0:Int):List Prop:=[]
theorem Bd2 (a0:Int):Ff (As C0 L0) 9 157 [Af .i64 a0] 0 []=some (1,Acy a0,0,Acx a0,Xr a0):=by kernel_rfl
theorem Big (a0:Int) (hp:∀p∈Xr a0,p):CallOk Try.prog 157 [Af .i64 a0] 0 [] 1 (Acy a0) 0 (Acx a0):=Az (An Byd Ay) (Bd2 a0) hp
def Aw9:List A→Nat→Objs→Option A3:=Bg [.t .i64] 0 Acy Acx Xr
theorem A77:Fi Try.prog 157 Aw9:=Aq (ks:=[.t .i64]) Big
noncomputable def Bps:=A4 157 Aw9 C0
theorem A5m:Dd Try.prog Bps:=Am A77 Byd
abbrev Ep:Type:=Int×Int×Int×Int×(List UInt8)
def Ov (x:Ep):St:=⟨59,2,[(1,.v (.int .i64 x.1)),(5,.sq 1),(6,.v (.int .i64 x.2.1)),(16,.v (.int .i64 x.2.2.1)),(17,.v (.int .i64 x.2.2.2.1))],[(1,some (.arr 5 1 (.ty .u8 x.2.2.2.2)))]⟩
def RL:St→Option Ep
 |⟨59,2,[(1,.v (.int .i64 z0)),(5,.sq 1),(6,.v (.int .i64 z1)),(16,.v (.int .i64 z2)),(17,.v (.int .i64 z3))],[(1,some (.arr 5 1 (.ty .u8 z4)))]⟩=>some (z0,z1,z2,z3,z4)
 |_=>none
theorem Ars:∀s x,RL s=some x→s=Ov x:=fun s x h=>by
 unfold RL at h
 split at h
 ·cases h;rfl
 ·cases h
def Ahp:De:=⟨1,2,[1,5,6,16,17],[],[(3,1)],[3],[5],[1]⟩
def A76:Dy:=⟨[],[(0,1)],[1,5,6,16,17],[0]⟩
def IN (a0:Int) (a1:Int) (_a2:Int) (a3:Int) (_a4:List UInt8):Int:=IntKind.u8.wrap (a0.fdiv ((2:Int)^min (IntKind.u64.wrap (IntKind.i64.wrap ((8:Int)*IntKind.i64.wrap (IntKind.i64.wrap (a1 - (1:Int)) - a3)))).toNat (64:Nat)))
def Aw5 (a0:Int) (a1:Int) (a2:Int) (a3:Int) (a4:List UInt8):List UInt8:=a4++[UInt8.ofNat (IN a0 a1 a2 a3 a4).toNat]
def FU (x:Ep):Ep:=(x.1,x.2.1,x.2.2.1,IntKind.i64.wrap (x.2.2.2.1+(1:Int)),Aw5 x.1 x.2.1 x.2.2.1 x.2.2.2.1 x.2.2.2.2)
def FT (x:Ep):Cnd:=some (!!decide (x.2.2.2.1 <x.2.2.1))
def Xo (x:Ep):List Prop:=[((!!decide (x.2.2.2.1 <x.2.2.1))=true→(0:Int)≤IntKind.u64.wrap (IntKind.i64.wrap ((8:Int)*IntKind.i64.wrap (IntKind.i64.wrap (x.2.1 - (1:Int)) - x.2.2.2.1)))),((!!decide (x.2.2.2.1 <x.2.2.1))=true→Ag (x.2.2.2.2.length+(1:Nat))),((!!decide (x.2.2.2.1 <x.2.2.1))=true→(0:Int)≤(IN x.1 x.2.1 x.2.2.1 x.2.2.2.1 x.2.2.2.2)∧(IN x.1 x.2.1 x.2.2.1 x.2.2.2.1 x.2.2.2.2) <(256:Int))]
def IZ (x:Ep):List Prop:=[((!!decide (x.2.2.2.1 <x.2.2.1))=true→Ag (x.2.2.2.2.length+(1:Nat)))]
def Va (x:Ep):Bj:=[(some 0,some (!decide (x.2.2.2.1 <x.2.2.1)),⟨59,2,[(5,.sq 1)],[(1,some (.arr 5 1 (.ty .u8 x.2.2.2.2)))]⟩)]
def Hg (x:Ep):Nat:=(x.2.2.1 - x.2.2.2.1).toNat
def Pq (x:Ep):Ep:=A9 FU FT (Hg x) x
theorem A10 (a0:Int) (a1:Int) (a2:Int) (a3:Int) (a4:List UInt8):Bw (As Bps L0) 9 (Ae Try.prog 119 0) Ahp (Ov (a0,a1,a2,a3,a4))=some (Xo (a0,a1,a2,a3,a4),Va (a0,a1,a2,a3,a4),FT (a0,a1,a2,a3,a4),Ov (FU (a0,a1,a2,a3,a4))):=by kernel_rfl
theorem A11 (a0:Int) (a1:Int) (a2:Int) (a3:Int) (a4:List UInt8) (hp:∀p∈IZ (a0,a1,a2,a3,a4),p):∀p∈Xo (a0,a1,a2,a3,a4),p:=by
 have n0:((!!decide (a3 <a2))=true→(0:Int)≤IntKind.u64.wrap (IntKind.i64.wrap ((8:Int)*IntKind.i64.wrap (IntKind.i64.wrap (a1 - (1:Int)) - a3)))):=by intros;exact Byb _
 have n1:=N0 hp
 have n2:((!!decide (a3 <a2))=true→(0:Int)≤(IN a0 a1 a2 a3 a4)∧(IN a0 a1 a2 a3 a4) <(256:Int)):=by intros;exact Baf _
 exact(Aa n0 (Aa n1 (Aa n2 Ad)))
noncomputable def Xp:=HG (As Bps L0) (Ae Try.prog 119 0) Ahp A76 RL Hg FU FT IZ Va
theorem Aw6:∀s b ps outs,Xp s=some (b,ps,outs)→Wf s ⟨ps,outs,none⟩∧Bt (As C0 L0) b s ps outs:=
 Bh (T:=Ov) A5m Ay (u:=9) (by kernel_rfl) (by decide) (fun⟨a0,a1,a2,a3,a4⟩=>A10 a0 a1 a2 a3 a4) (fun⟨a0,a1,a2,a3,a4⟩=>A11 a0 a1 a2 a3 a4) Ars (fun _=>AK (n:=59) rfl) fun _ _=>rfl
noncomputable def Aho:=DI 0 Xp L0
theorem Aw4:G9 Aho:=AV Aw6 Ay
def G1 (_a0:List UInt8) (a1:Int):Bool:=A7 a1==(8:Int)
def BM (_a0:List UInt8) (a1:Int):Bool:=A7 a1==(4:Int)
def A1 (_a0:List UInt8) (a1:Int):Bool:=A7 a1==(2:Int)
def AG (a0:List UInt8) (_a1:Int):Int:=(↑([]++a0).length:Int)
def AU (a0:List UInt8) (a1:Int):List UInt8:=(Pq (a1,A7 a1,A7 a1,(0:Int),[]++a0)).snd.snd.snd.snd
def Mz (a0:List UInt8) (a1:Int):Int:=IntKind.u8.wrap (↑(BitVec.ofInt (8:Nat) (↑(UInt8.toNat ((AU a0 a1).getD (AG a0 a1).toNat (Ac TC.u8))):Int) ||| BitVec.ofInt (8:Nat) (192:Int)).toNat:Int)
def My (a0:List UInt8) (a1:Int):Int:=IntKind.u8.wrap (↑(BitVec.ofInt (8:Nat) (↑(UInt8.toNat ((AU a0 a1).getD (AG a0 a1).toNat (Ac TC.u8))):Int) ||| BitVec.ofInt (8:Nat) (128:Int)).toNat:Int)
def Mx (a0:List UInt8) (a1:Int):Int:=IntKind.u8.wrap (↑(BitVec.ofInt (8:Nat) (↑(UInt8.toNat ((AU a0 a1).getD (AG a0 a1).toNat (Ac TC.u8))):Int) ||| BitVec.ofInt (8:Nat) (64:Int)).toNat:Int)
def Alb (a0:List UInt8) (a1:Int):List UInt8:=bif(A1 a0 a1) then(AU a0 a1).set (AG a0 a1).toNat (UInt8.ofNat (Mx a0 a1).toNat) else bif(BM a0 a1) then(AU a0 a1).set (AG a0 a1).toNat (UInt8.ofNat (My a0 a1).toNat) else bif(G1 a0 a1) then(AU a0 a1).set (AG a0 a1).toNat (UInt8.ofNat (Mz a0 a1).toNat) else(AU a0 a1)
def A4i (_a0:List UInt8) (_a1:Int):A:=.sq 0
def YY (a0:List UInt8) (a1:Int):Objs:=[(0,some (.arr 5 1 (.ty .u8 (Alb a0 a1))))]
def Aw7 (a0:List UInt8) (a1:Int):List Prop:=[(Ag ((0:Nat)+a0.length)),(AD FU FT IZ (Hg (a1,A7 a1,A7 a1,(0:Int),[]++a0)) (a1,A7 a1,A7 a1,(0:Int),[]++a0)),((A1 a0 a1)=true→(0:Int)≤(AG a0 a1)∧(AG a0 a1) <(↑(AU a0 a1).length:Int)),((A1 a0 a1)=false→(BM a0 a1)=true→(0:Int)≤(AG a0 a1)∧(AG a0 a1) <(↑(AU a0 a1).length:Int)),((A1 a0 a1)=false→(BM a0 a1)=false→(G1 a0 a1)=true→(0:Int)≤(AG a0 a1)∧(AG a0 a1) <(↑(AU a0 a1).length:Int))]
theorem Bif (a0:List UInt8) (a1:Int):Ff (As Bps Aho) 9 119 [Af .bytes a0,Af .i64 a1] 0 []=some (1,A4i a0 a1,1,YY a0 a1,[(Ag ((0:Nat)+a0.length)),(Ae Try.prog (119:FuncId) (0:Nat)=Ae Try.prog (119:FuncId) (0:Nat)),(AD FU FT IZ (Hg (a1,A7 a1,A7 a1,(0:Int),[]++a0)) (a1,A7 a1,A7 a1,(0:Int),[]++a0)),((A1 a0 a1)=true→(0:Int)≤(AG a0 a1)∧(AG a0 a1) <(↑(AU a0 a1).length:Int)),((A1 a0 a1)=true→(AG a0 a1).toNat <(AU a0 a1).length),((A1 a0 a1)=true→(0:Int)≤(AG a0 a1)∧(AG a0 a1) <(↑(AU a0 a1).length:Int)),((A1 a0 a1)=true→(AG a0 a1).toNat <(AU a0 a1).length),((A1 a0 a1)=true→(0:Int)≤(Mx a0 a1)∧(Mx a0 a1) <(256:Int)),((A1 a0 a1)=false→(BM a0 a1)=true→(0:Int)≤(AG a0 a1)∧(AG a0 a1) <(↑(AU a0 a1).length:Int)),((A1 a0 a1)=false→(BM a0 a1)=true→(AG a0 a1).toNat <(AU a0 a1).length),((A1 a0 a1)=false→(BM a0 a1)=true→(0:Int)≤(AG a0 a1)∧(AG a0 a1) <(↑(AU a0 a1).length:Int)),((A1 a0 a1)=false→(BM a0 a1)=true→(AG a0 a1).toNat <(AU a0 a1).length),((A1 a0 a1)=false→(BM a0 a1)=true→(0:Int)≤(My a0 a1)∧(My a0 a1) <(256:Int)),((A1 a0 a1)=false→(BM a0 a1)=false→(G1 a0 a1)=true→(0:Int)≤(AG a0 a1)∧(AG a0 a1) <(↑(AU a0 a1).length:Int)),((A1 a0 a1)=false→(BM a0 a1)=false→(G1 a0 a1)=true→(AG a0 a1).toNat <(AU a0 a1).length),((A1 a0 a1)=false→(BM a0 a1)=false→(G1 a0 a1)=true→(0:Int)≤(AG a0 a1)∧(AG a0 a1) <(↑(AU a0 a1).length:Int)),((A1 a0 a1)=false→(BM a0 a1)=false→(G1 a0 a1)=true→(AG a0 a1).toNat <(AU a0 a1).length),((A1 a0 a1)=false→(BM a0 a1)=false→(G1 a0 a1)=true→(0:Int)≤(Mz a0 a1)∧(Mz a0 a1) <(256:Int))]):=by kernel_rfl
theorem Bog (a0:List UInt8) (a1:Int) (hp:∀p∈Aw7 a0 a1,p):CallOk Try.prog 119 [Af .bytes a0,Af .i64 a1] 0 [] 1 (A4i a0 a1) 1 (YY a0 a1):=by
 have n0:=N0 hp
 have n2:=N0 (N1 hp)
 have n3:((A1 a0 a1)=true→(0:Int)≤(AG a0 a1)∧(AG a0 a1) <(↑(AU a0 a1).length:Int)):=N0 (N1 (N1 hp))
 have n4:((A1 a0 a1)=true→(AG a0 a1).toNat <(AU a0 a1).length):=by intro h0;have g:=n3 h0;omega
 have n7:((A1 a0 a1)=true→(0:Int)≤(Mx a0 a1)∧(Mx a0 a1) <(256:Int)):=by intros;exact Baf _
 have n8:((A1 a0 a1)=false→(BM a0 a1)=true→(0:Int)≤(AG a0 a1)∧(AG a0 a1) <(↑(AU a0 a1).length:Int)):=N0 (N1 (N1 (N1 hp)))
 have n9:((A1 a0 a1)=false→(BM a0 a1)=true→(AG a0 a1).toNat <(AU a0 a1).length):=by intro h0 h1;have g:=n8 h0 h1;omega
 have n12:((A1 a0 a1)=false→(BM a0 a1)=true→(0:Int)≤(My a0 a1)∧(My a0 a1) <(256:Int)):=by intros;exact Baf _
 have n13:((A1 a0 a1)=false→(BM a0 a1)=false→(G1 a0 a1)=true→(0:Int)≤(AG a0 a1)∧(AG a0 a1) <(↑(AU a0 a1).length:Int)):=N0 (N1 (N1 (N1 (N1 hp))))
 have n14:((A1 a0 a1)=false→(BM a0 a1)=false→(G1 a0 a1)=true→(AG a0 a1).toNat <(AU a0 a1).length):=by intro h0 h1 h2;have g:=n13 h0 h1 h2;omega
 have n17:((A1 a0 a1)=false→(BM a0 a1)=false→(G1 a0 a1)=true→(0:Int)≤(Mz a0 a1)∧(Mz a0 a1) <(256:Int)):=by intros;exact Baf _
 exact Az (An A5m Aw4) (Bif a0 a1) (Aa n0 (Aa rfl (Aa n2 (Aa n3 (Aa n4 (Aa n3 (Aa n4 (Aa n7 (Aa n8 (Aa n9 (Aa n8 (Aa n9 (Aa n12 (Aa n13 (Aa n14 (Aa n13 (Aa n14 (Aa n17 Ad))))))))))))))))))
def Aw8 (_a0:List UInt8) (_a1:Int):A:=.sq 0
def Uj (a0:List UInt8) (a1:Int):Objs:=[(0,some (.arr 5 1 (.ty .u8 (a0++NF a1))))]
def Aod (a0:List UInt8) (_a1:Int):List Prop:=[Ag (a0.length+8)]
theorem A9v (n:Int):A7 n=(K3 n:Int):=by
 unfold A7 Xq QL QM K3
 by_cases h0:n <0∨n >4611686018427387903
 ·have e:(decide (n <0)||decide (n >4611686018427387903))=true:=by simpa using h0
  rw[e,if_pos h0];rfl
 ·have e:(decide (n <0)||decide (n >4611686018427387903))=false:=by
   rw[Bool.eq_false_iff]
   intro hh
   exact h0 (by simpa using hh)
  rw[e,if_neg h0]
  by_cases h1:n≥1073741824
  ·rw[if_pos h1,decide_eq_true h1];rfl
  ·rw[if_neg h1,decide_eq_false h1]
   by_cases h2:n≥16384
   ·rw[if_pos h2,decide_eq_true h2];rfl
   ·rw[if_neg h2,decide_eq_false h2]
    by_cases h3:n≥64
    ·rw[if_pos h3,decide_eq_true h3];rfl
    ·rw[if_neg h3,decide_eq_false h3];rfl
theorem Ai6 (n:Int):K3 n=0∨(0≤n∧n≤4611686018427387903∧szs (K3 n)):=by
 by_cases h:n <0∨n >4611686018427387903
 ·left;unfold K3;rw[if_pos h]
 ·right;exact⟨by omega,by omega,(Bnc (by omega) (by omega)).1⟩
theorem Btq (b:List UInt8) (n:Int) (hb:Ag (b.length+8)):
  AD FU FT IZ (Hg (n,A7 n,A7 n,0,[]++b)) (n,A7 n,A7 n,0,[]++b)∧
  (Pq (n,A7 n,A7 n,0,[]++b)).2.2.2.2=b++be (K3 n) n.toNat:=by
 have hk8:K3 n≤8:=by
  rcases Ai6 n with h|⟨_,_,h⟩
  ·omega
  ·unfold szs at h;omega
 rw[A9v]
 obtain⟨h1,⟨i,hi,h2⟩,h3⟩:=Av6 (next:=FU) (goes:=FT) (ps:=IZ)
  (fun x=>∃i:Nat,i≤K3 n∧x=(n,(K3 n:Int),(K3 n:Int),(i:Int),b++(be (K3 n) n.toNat).take i)) Hg (by
   rintro x ⟨i,hi,rfl⟩
   refine⟨Aa (fun hp=>?_) Ad,fun hg=>?_⟩
   ·have h':(!!decide ((i:Int) <(K3 n:Int)))=true:=hp
    have hlt:i <K3 n:=by simpa using h'
    show Ag ((b++(be (K3 n) n.toNat).take i).length+1)
    unfold Ag at*
    rw[List.length_append,List.length_take,KV]
    omega
   ·have h':(!!decide ((i:Int) <(K3 n:Int)))=true:=hg
    have hlt:i <K3 n:=by simpa using h'
    have hw:IntKind.i64.wrap ((i:Int)+1)=((i+1:Nat):Int):=by rw[i64_in (by omega)];rfl
    have hn0:0≤n:=by rcases Ai6 n with h|⟨h,_⟩<;>omega
    refine⟨⟨i+1,hlt,?_⟩,?_⟩
    ·show(n,(K3 n:Int),(K3 n:Int),IntKind.i64.wrap ((i:Int)+1),(b++(be (K3 n) n.toNat).take i)++[UInt8.ofNat (IntKind.u8.wrap (n.fdiv ((2:Int)^min (IntKind.u64.wrap (IntKind.i64.wrap ((8:Int)*IntKind.i64.wrap (IntKind.i64.wrap ((K3 n:Int) - (1:Int)) - (i:Int))))).toNat (64:Nat)))).toNat])=_
     rw[hw,Btp hn0 hk8 hlt,List.append_assoc,←Bvy hlt]
    ·show((K3 n:Int) - IntKind.i64.wrap ((i:Int)+1)).toNat <((K3 n:Int) - (i:Int)).toNat
     rw[hw]
     omega) _ (n,(K3 n:Int),(K3 n:Int),0,[]++b) ⟨0,Nat.zero_le _,by simp⟩ (Nat.le_refl _)
 refine⟨h1,?_⟩
 have h4:Pq (n,(K3 n:Int),(K3 n:Int),0,[]++b)=_:=h2
 rw[h2] at h3
 have h3':(!!decide ((i:Int) <(K3 n:Int)))=false:=h3
 have hn:¬((i:Int) <(K3 n:Int)):=by simpa using h3'
 obtain rfl:i=K3 n:=by omega
 rw[h4,List.take_of_length_le (by rw[KV];exact Nat.le_refl _)]
theorem Bie (b:List UInt8) (n:Int) (hb:Ag (b.length+8)):(∀p∈Aw7 b n,p)∧Alb b n=b++NF n:=by
 obtain⟨h1,h2⟩:=Btq b n hb
 have h3:AU b n=b++be (K3 n) n.toNat:=h2
 have h4:(AG b n).toNat=b.length:=rfl
 have hS:=A9v n
 have hlen:(b++be (K3 n) n.toNat).length=b.length+K3 n:=by rw[List.length_append,KV]
 have hpos:K3 n≠0→(0:Int)≤AG b n∧AG b n <((AU b n).length:Int):=fun h0=>by
  rw[h3,hlen]
  show(0:Int)≤(b.length:Int)∧(b.length:Int) <((b.length+K3 n:Nat):Int)
  omega
 have sz2:∀c:Int,c≠0→(A7 n==c)=true→K3 n≠0:=fun c hc h h0=>by
  rw[hS,h0] at h
  have h':(0:Int)=c:=by simpa using h
  exact hc h'.symm
 refine⟨Aa (by unfold Ag at*;omega) (Aa h1 (Aa (fun h=>hpos (sz2 2 (by decide) h)) (Aa (fun _ h=>hpos (sz2 4 (by decide) h)) (Aa (fun _ _ h=>hpos (sz2 8 (by decide) h)) Ad)))),?_⟩
 unfold Alb
 rw[h3,h4]
 have k7:A1 b n=((K3 n:Int)==2):=by show(A7 n==2)=_;rw[hS]
 have k6:BM b n=((K3 n:Int)==4):=by show(A7 n==4)=_;rw[hS]
 have k5:G1 b n=((K3 n:Int)==8):=by show(A7 n==8)=_;rw[hS]
 have b1:Mx b n=IntKind.u8.wrap ((BitVec.ofInt 8 ((((b++be (K3 n) n.toNat).getD b.length (Ac TC.u8)).toNat:Nat):Int) ||| BitVec.ofInt 8 ((64*1:Nat):Int)).toNat:Int):=by rw[←h3,←h4];rfl
 have b0:My b n=IntKind.u8.wrap ((BitVec.ofInt 8 ((((b++be (K3 n) n.toNat).getD b.length (Ac TC.u8)).toNat:Nat):Int) ||| BitVec.ofInt 8 ((64*2:Nat):Int)).toNat:Int):=by rw[←h3,←h4];rfl
 have b2:Mz b n=IntKind.u8.wrap ((BitVec.ofInt 8 ((((b++be (K3 n) n.toNat).getD b.length (Ac TC.u8)).toNat:Nat):Int) ||| BitVec.ofInt 8 ((64*3:Nat):Int)).toNat:Int):=by rw[←h3,←h4];rfl
 rw[k7,k6,k5,b1,b0,b2]
 unfold NF
 rcases Ai6 n with hz|⟨g1,g2,g3⟩
 ·rw[hz];rfl
 ·have hN:=(Bnc g1 g2).2
  generalize hk:K3 n=k at*
  rcases g3 with rfl|rfl|rfl|rfl
  ·show b++be 1 n.toNat=b++be 1 (n.toNat+0*(64*256^0))
   rw[Nat.zero_mul,Nat.add_zero]
  ·exact A9u (m:=1) (t:=1) b hN (by decide) _
  ·exact A9u (m:=3) (t:=2) b hN (by decide) _
  ·exact A9u (m:=7) (t:=3) b hN (by decide) _
theorem Bid (a0:List UInt8) (a1:Int) (hp:∀p∈Aod a0 a1,p):CallOk Try.prog 119 [Af .bytes a0,Af .i64 a1] 0 [] 1 (Aw8 a0 a1) 1 (Uj a0 a1):=by
 obtain⟨h1,h2⟩:=Bie a0 a1 (hp _ (List.mem_cons_self ..))
 have h:=Bog a0 a1 h1
 have ho:YY a0 a1=Uj a0 a1:=by unfold YY Uj;rw[h2]
 rw[ho] at h
 exact h
def A4j:List A→Nat→Objs→Option A3:=Bg [.t .bytes,.t .i64] 1 Aw8 Uj Aod
theorem Bd1:Fi Try.prog 119 A4j:=Aq (ks:=[.t .bytes,.t .i64]) Bid
noncomputable def Bpt:=A4 119 A4j Bps
theorem A5n:Dd Try.prog Bpt:=Am Bd1 A5m
abbrev Eo:Type:=Int×(List UInt8)×Int×Int
def Ou (x:Eo):St:=⟨46,0,[(6,.v (.int .i64 x.1)),(28,.sl .u8 x.2.1),(29,.v (.int .i64 x.2.2.1)),(30,.v (.int .i64 x.2.2.2))],[]⟩
def RK:St→Option Eo
 |⟨46,0,[(6,.v (.int .i64 z0)),(28,.sl .u8 z1),(29,.v (.int .i64 z2)),(30,.v (.int .i64 z3))],[]⟩=>some (z0,z1,z2,z3)
 |_=>none
theorem Arq:∀s x,RK s=some x→s=Ou x:=fun s x h=>by
 unfold RK at h
 split at h
 ·cases h;rfl
 ·cases h
def Ahn:De:=⟨0,0,[6,28,29,30],[],[],[],[6],[]⟩
def A75:Dy:=⟨[],[],[6,28,29,30],[]⟩
def Awz (a0:Int) (a1:List UInt8) (_a2:Int) (a3:Int):Int:=IntKind.i64.wrap (↑(BitVec.ofInt (64:Nat) (IntKind.i64.wrap (a0*(256:Int))) ||| BitVec.ofInt (64:Nat) (IntKind.i64.wrap (↑(UInt8.toNat (a1.getD a3.toNat (Ac TC.u8))):Int))).toNat:Int)
def FS (x:Eo):Eo:=(Awz x.1 x.2.1 x.2.2.1 x.2.2.2,x.2.1,x.2.2.1,IntKind.i64.wrap (x.2.2.2+(1:Int)))
def FR (x:Eo):Cnd:=some (!!decide (x.2.2.2 <x.2.2.1))
def Pp (x:Eo):List Prop:=[((!!decide (x.2.2.2 <x.2.2.1))=true→(0:Int)≤x.2.2.2∧x.2.2.2 <(↑x.2.1.length:Int))]
abbrev IY:Eo→List Prop:=Pp
def U8 (x:Eo):Bj:=[(some 0,some (!decide (x.2.2.2 <x.2.2.1)),⟨46,0,[(6,.v (.int .i64 x.1))],[]⟩)]
def Hf (x:Eo):Nat:=(x.2.2.1 - x.2.2.2).toNat
def LH (x:Eo):Eo:=A9 FS FR (Hf x) x
theorem A1x (a0:Int) (a1:List UInt8) (a2:Int) (a3:Int):Bw (As Bpt L0) 9 (Ae Try.prog 114 0) Ahn (Ou (a0,a1,a2,a3))=some (Pp (a0,a1,a2,a3),U8 (a0,a1,a2,a3),FR (a0,a1,a2,a3),Ou (FS (a0,a1,a2,a3))):=by kernel_rfl
theorem A1y (a0:Int) (a1:List UInt8) (a2:Int) (a3:Int) (hp:∀p∈IY (a0,a1,a2,a3),p):∀p∈Pp (a0,a1,a2,a3),p:=hp
noncomputable def Xk:=HG (As Bpt L0) (Ae Try.prog 114 0) Ahn A75 RK Hf FS FR IY U8
theorem Aw0:∀s b ps outs,Xk s=some (b,ps,outs)→Wf s ⟨ps,outs,none⟩∧Bt (As C0 L0) b s ps outs:=
 Bh (T:=Ou) A5n Ay (u:=9) (by kernel_rfl) (by decide) (fun⟨a0,a1,a2,a3⟩=>A1x a0 a1 a2 a3) (fun⟨a0,a1,a2,a3⟩=>A1y a0 a1 a2 a3) Arq (fun _=>AK (n:=46) rfl) fun _ _=>rfl
noncomputable def Ahm:=DI 0 Xk L0
theorem Awy:G9 Ahm:=AV Aw0 Ay
def HF (a0:List UInt8):Int:=(↑(UInt8.toNat (a0.getD (0:Nat) (Ac TC.u8))):Int)
def CU (a0:List UInt8):Bool:=(↑a0.length:Int)==(0:Int)
def G0 (a0:List UInt8):Int:=IntKind.i64.wrap ((1:Int)*(2:Int)^min ((HF a0).fdiv (64:Int)).toNat (64:Nat))
def EQ (a0:List UInt8):List UInt8:=List.take ((G0 a0).toNat - (1:Nat)) (List.drop (1:Nat) a0)
def FQ (a0:List UInt8):Bool:=decide ((↑a0.length:Int) <(G0 a0))
def Po (a0:List UInt8):Bool:=decide (A7 (LH (IntKind.i64.wrap (IntKind.u8.wrap (↑(BitVec.ofInt (8:Nat) (HF a0) &&& BitVec.ofInt (8:Nat) (63:Int)).toNat:Int)),(EQ a0),(↑(EQ a0).length:Int),(0:Int))).fst <(G0 a0))
def Ak8 (a0:List UInt8):Int:=bif(CU a0) then(0:Int) else bif(FQ a0) then(0:Int) else bif(Po a0) then(0:Int) else(LH (IntKind.i64.wrap (IntKind.u8.wrap (↑(BitVec.ofInt (8:Nat) (HF a0) &&& BitVec.ofInt (8:Nat) (63:Int)).toNat:Int)),(EQ a0),(↑(EQ a0).length:Int),(0:Int))).fst
def Ak9 (a0:List UInt8):Int:=bif(CU a0) then(0:Int) else bif(FQ a0) then(0:Int) else bif(Po a0) then(0:Int) else(G0 a0)
def Ala (a0:List UInt8):Int:=bif(CU a0) then(10:Int) else bif(FQ a0) then(10:Int) else bif(Po a0) then(11:Int) else(0:Int)
def YX (a0:List UInt8):A:=.v (.tuple ⟨[.int .i64 (Ak8 a0),.int .i64 (Ak9 a0),.int .i64 (Ala a0)]⟩)
def A4g (_a0:List UInt8):Objs:=[]
def Aw2 (a0:List UInt8):List Prop:=[((!(CU a0))=true→(0:Int)≤(0:Int)∧(0:Int) <(↑a0.length:Int)),((!(CU a0))=true→(0:Int)≤(HF a0).fdiv (64:Int)),((!(CU a0))=true→(!(FQ a0))=true→(0:Int)≤(0:Int)∧(0:Int) <(↑a0.length:Int)),((!(CU a0))=true→(!(FQ a0))=true→(0:Int)≤(1:Int)∧(1:Int)≤(G0 a0)∧(G0 a0)≤(↑a0.length:Int)),((!(CU a0))=true→(!(FQ a0))=true→AD FS FR IY (Hf (IntKind.i64.wrap (IntKind.u8.wrap (↑(BitVec.ofInt (8:Nat) (HF a0) &&& BitVec.ofInt (8:Nat) (63:Int)).toNat:Int)),(EQ a0),(↑(EQ a0).length:Int),(0:Int))) (IntKind.i64.wrap (IntKind.u8.wrap (↑(BitVec.ofInt (8:Nat) (HF a0) &&& BitVec.ofInt (8:Nat) (63:Int)).toNat:Int)),(EQ a0),(↑(EQ a0).length:Int),(0:Int)))]
theorem Bic (a0:List UInt8):Ff (As Bpt Ahm) 9 114 [Af .bytes a0] 0 []=some (1,YX a0,0,A4g a0,[((!(CU a0))=true→(0:Int)≤(0:Int)∧(0:Int) <(↑a0.length:Int)),((!(CU a0))=true→(0:Int)≤(HF a0).fdiv (64:Int)),((!(CU a0))=true→(!(FQ a0))=true→(0:Int)≤(0:Int)∧(0:Int) <(↑a0.length:Int)),((!(CU a0))=true→(!(FQ a0))=true→(0:Int)≤(1:Int)∧(1:Int)≤(G0 a0)∧(G0 a0)≤(↑a0.length:Int)),((!(CU a0))=true→(!(FQ a0))=true→Ae Try.prog (114:FuncId) (0:Nat)=Ae Try.prog (114:FuncId) (0:Nat)),((!(CU a0))=true→(!(FQ a0))=true→AD FS FR IY (Hf (IntKind.i64.wrap (IntKind.u8.wrap (↑(BitVec.ofInt (8:Nat) (HF a0) &&& BitVec.ofInt (8:Nat) (63:Int)).toNat:Int)),(EQ a0),(↑(EQ a0).length:Int),(0:Int))) (IntKind.i64.wrap (IntKind.u8.wrap (↑(BitVec.ofInt (8:Nat) (HF a0) &&& BitVec.ofInt (8:Nat) (63:Int)).toNat:Int)),(EQ a0),(↑(EQ a0).length:Int),(0:Int)))]):=by kernel_rfl
theorem Bof (a0:List UInt8) (hp:∀p∈Aw2 a0,p):CallOk Try.prog 114 [Af .bytes a0] 0 [] 1 (YX a0) 0 (A4g a0):=by
 have n0:=N0 hp
 have n1:=N0 (N1 hp)
 have n2:=N0 (N1 (N1 hp))
 have n3:=N0 (N1 (N1 (N1 hp)))
 have n4:((!(CU a0))=true→(!(FQ a0))=true→Ae Try.prog (114:FuncId) (0:Nat)=Ae Try.prog (114:FuncId) (0:Nat)):=by intros;rfl
 have n5:=N0 (N1 (N1 (N1 (N1 hp))))
 exact Az (An A5n Awy) (Bic a0) (Aa n0 (Aa n1 (Aa n2 (Aa n3 (Aa n4 (Aa n5 Ad))))))
def Ui (a0:List UInt8):A:=.v (.tuple ⟨[.int .i64 (Ak a0).1,.int .i64 (Ak a0).2.1,.int .i64 (Ak a0).2.2]⟩)
def Aw1 (_a0:List UInt8):Objs:=[]
def Aoc (_a0:List UInt8):List Prop:=[]
theorem Br9 (L:List UInt8) (h7:L.length≤7) (a:Nat) (ha:a <64):
  AD FS FR IY (Hf ((a:Int),L,(L.length:Int),0)) ((a:Int),L,(L.length:Int),0)∧
  (LH ((a:Int),L,(L.length:Int),0)).1=(val a L:Int):=by
 obtain⟨h1,⟨i,hi,h2⟩,h3⟩:=Av6 (next:=FS) (goes:=FR) (ps:=IY)
  (fun x=>∃i:Nat,i≤L.length∧x=((val a (L.take i):Int),L,(L.length:Int),(i:Int))) Hf (by
   rintro x ⟨i,hi,rfl⟩
   refine⟨Aa (fun hp=>?_) Ad,fun hg=>?_⟩
   ·have h':(!!decide ((i:Int) <(L.length:Int)))=true:=hp
    have hlt:(i:Int) <(L.length:Int):=by simpa using h'
    show(0:Int)≤(i:Int)∧(i:Int) <(L.length:Int)
    exact⟨by omega,hlt⟩
   ·have h':(!!decide ((i:Int) <(L.length:Int)))=true:=hg
    have hlt:i <L.length:=by simpa using h'
    have hw:IntKind.i64.wrap ((i:Int)+1)=((i+1:Nat):Int):=by rw[i64_in (by omega)];rfl
    have hb:val a (L.take i) <64*256^6:=by
     have hv:=UI (L.take i) a
     have hl:=A96 (L.take i)
     have e:(L.take i).length=i:=by rw[List.length_take];omega
     rw[e] at hv hl
     have hm:256^i≤256^6:=Nat.pow_le_pow_right (by decide) (by omega)
     have hq:=Nat.mul_le_mul_right (256^i) (show a+1≤64 by omega)
     rw[Nat.add_mul,Nat.one_mul] at hq
     have hq2:=Nat.mul_le_mul_left 64 hm
     omega
    refine⟨⟨i+1,hlt,?_⟩,?_⟩
    ·show(IntKind.i64.wrap ((BitVec.ofInt 64 (IntKind.i64.wrap ((val a (L.take i):Int)*256)) ||| BitVec.ofInt 64 (IntKind.i64.wrap (((L.getD (i:Int).toNat (Ac TC.u8)).toNat:Nat):Int))).toNat:Int),L,(L.length:Int),IntKind.i64.wrap ((i:Int)+1))=_
     rw[hw,Bw8 hb,Int.toNat_natCast,Bu2 _ _ _ hlt]
    ·show((L.length:Int) - IntKind.i64.wrap ((i:Int)+1)).toNat <((L.length:Int) - (i:Int)).toNat
     rw[hw]
     omega) _ ((a:Int),L,(L.length:Int),0) ⟨0,Nat.zero_le _,rfl⟩ (Nat.le_refl _)
 refine⟨h1,?_⟩
 have h4:LH ((a:Int),L,(L.length:Int),0)=_:=h2
 rw[h2] at h3
 have h3':(!!decide ((i:Int) <(L.length:Int)))=false:=h3
 have hn:¬((i:Int) <(L.length:Int)):=by simpa using h3'
 obtain rfl:i=L.length:=by omega
 rw[h4,List.take_length]
theorem Bib (b:List UInt8):(∀p∈Aw2 b,p)∧Ak8 b=(Ak b).1∧Ak9 b=(Ak b).2.1∧Ala b=(Ak b).2.2:=by
 cases b with
 |nil=>
  have no:(!(CU []))=true→False:=by intro h;cases h
  exact⟨Aa (fun h=>(no h).elim) (Aa (fun h=>(no h).elim) (Aa (fun h=>(no h).elim) (Aa (fun h=>(no h).elim) (Aa (fun h=>(no h).elim) Ad)))),rfl,rfl,rfl⟩
 | cons x r=>
  have hx:x.toNat <256:=x.toNat_lt
  have k4:CU (x::r)=false:=by
   show(((r.length+1:Nat):Int)==0)=false
   rw[Bool.eq_false_iff]
   intro h
   have:((r.length+1:Nat):Int)=0:=by simpa using h
   omega
  have k3:G0 (x::r)=((2^(x.toNat / 64):Nat):Int):=B2o x
  have t3:x.toNat / 64≤3:=by omega
  have hK:=(Bt9 t3).1
  have k2:EQ (x::r)=r.take (2^(x.toNat / 64) - 1):=by
   show List.take ((G0 (x::r)).toNat - 1) r=_
   rw[k3,Int.toNat_natCast]
  have k1:FQ (x::r)=decide (r.length+1 <2^(x.toNat / 64)):=by
   show decide (((r.length+1:Nat):Int) <G0 (x::r))=_
   rw[k3]
   exact decide_eq_decide.2 Int.ofNat_lt
  have k6:IntKind.i64.wrap (IntKind.u8.wrap ((BitVec.ofInt 8 (HF (x::r)) &&& BitVec.ofInt 8 63).toNat:Int))=((x.toNat % 64:Nat):Int):=Bwk x
  generalize hKK:2^(x.toNat / 64)=K at*
  have hlen:(r.take (K - 1)).length≤7:=by rw[List.length_take];unfold szs at hK;omega
  obtain⟨n1,n2⟩:=Br9 (r.take (K - 1)) hlen (x.toNat % 64) (by omega)
  have k0:Po (x::r)=decide (K3 (val (x.toNat % 64) (r.take (K - 1))) <K):=by
   unfold Po
   rw[k6,k2,n2,A9v,k3]
   exact decide_eq_decide.2 Int.ofNat_lt
  refine⟨Aa (fun _=>?_) (Aa (fun _=>?_) (Aa (fun _ _=>(by show(0:Int)≤0∧(0:Int) <((r.length+1:Nat):Int);omega)) (Aa (fun _ h=>?_) (Aa (fun _ _=>?_) Ad)))),?_⟩
  ·show(0:Int)≤0∧(0:Int) <((r.length+1:Nat):Int)
   omega
  ·show(0:Int)≤((x.toNat:Nat):Int).fdiv 64
   rw[Int.fdiv_eq_ediv_of_nonneg _ (by decide)]
   omega
  ·rw[k1] at h
   have h':¬(r.length+1 <K):=by simpa using h
   rw[k3]
   show(0:Int)≤1∧(1:Int)≤(K:Int)∧(K:Int)≤((r.length+1:Nat):Int)
   unfold szs at hK
   omega
  ·rw[k6,k2]
   exact n1
  ·unfold Ak8 Ak9 Ala
   rw[k4,k1,k0,k6,k2,n2,k3,YL,hKK]
   by_cases c1:r.length+1 <K
   ·rw[if_pos c1,decide_eq_true c1];exact⟨rfl,rfl,rfl⟩
   ·rw[if_neg c1,decide_eq_false c1]
    by_cases c2:K3 (val (x.toNat % 64) (r.take (K - 1))) <K
    ·rw[if_pos c2,decide_eq_true c2];exact⟨rfl,rfl,rfl⟩
    ·rw[if_neg c2,decide_eq_false c2];exact⟨rfl,rfl,rfl⟩
theorem Bia (a0:List UInt8) (_hp:∀p∈Aoc a0,p):CallOk Try.prog 114 [Af .bytes a0] 0 [] 1 (Ui a0) 0 (Aw1 a0):=by
 obtain⟨h1,h2,h3,h4⟩:=Bib a0
 have h:=Bof a0 h1
 have hr:YX a0=Ui a0:=by unfold YX Ui;rw[h2,h3,h4]
 rw[hr] at h
 exact h
def A4h:List A→Nat→Objs→Option A3:=Bg [.t .bytes] 0 Ui Aw1 Aoc
theorem Bd0:Fi Try.prog 114 A4h:=Aq (ks:=[.t .bytes]) Bia
noncomputable def B1q:=A4 114 A4h Bpt
theorem Bva:Dd Try.prog B1q:=Am Bd0 A5n
noncomputable def Ca:=B1q
theorem Bye:Dd Try.prog Ca:=Bva
end Go.Proofs.Yteebobbhhgmeiaa
namespace Go.Proofs.Yteebobbhhgmeiaa
open Go.RowKit
def P3 (a0:Int):Bool:=!a0==(1:Int)
def M2 (a0:Int):Bool:=bif !((P3 a0)&&!((P3 a0)&&a0==(2:Int))) then true else false
def RY (a0:Int):A:=.v (.bool (M2 a0))
def RX (_a0:Int):Objs:=[]
def P4 (_a0:Int):List Prop:=[]
theorem A0j (a0:Int):Ff (As Ca L0) 9 151 [Af .i64 a0] 0 []=some (1,RY a0,0,RX a0,P4 a0):=by kernel_rfl
theorem A27 (a0:Int) (hp:∀p∈P4 a0,p):CallOk Try.prog 151 [Af .i64 a0] 0 [] 1 (RY a0) 0 (RX a0):=Az (An Bye Ay) (A0j a0) hp
def Abk:List A→Nat→Objs→Option A3:=Bg [.t .i64] 0 RY RX P4
theorem Atb:Fi Try.prog 151 Abk:=Aq (ks:=[.t .i64]) A27
noncomputable def Bze:=A4 151 Abk Ca
theorem Bkf:Dd Try.prog Bze:=Am Atb Bye
def Cg (a0:TStamp):Bool:=bif a0.1==(0:Int)&&a0.2==(0:Int) then true else decide (a0.1 >(0:Int))&&decide (a0.1≤(281474976710656:Int))&&M2 a0.2
def UD (a0:TStamp):A:=.v (.bool (Cg a0))
def UC (_a0:TStamp):Objs:=[]
def RV (_a0:TStamp):List Prop:=[]
theorem A24 (a0:TStamp):Ff (As Bze L0) 9 102 [Af .stamp a0] 0 []=some (1,UD a0,0,UC a0,RV a0):=by kernel_rfl
theorem A91 (a0:TStamp) (hp:∀p∈RV a0,p):CallOk Try.prog 102 [Af .stamp a0] 0 [] 1 (UD a0) 0 (UC a0):=Az (An Bkf Ay) (A24 a0) hp
def Ai2:List A→Nat→Objs→Option A3:=Bg [.t .stamp] 0 UD UC RV
theorem A0g:Fi Try.prog 102 Ai2:=Aq (ks:=[.t .stamp]) A91
noncomputable def Bzf:=A4 102 Ai2 Bze
theorem Bkg:Dd Try.prog Bzf:=Am A0g Bkf
def G4 (a0:TStamp):Bool:=bif a0.1==(0:Int)&&a0.2==(0:Int) then true else decide (a0.1≥(1:Int))&&decide (a0.1≤(281474976710656:Int))&&(a0.2==(1:Int)||a0.2==(2:Int))
def Ac7 (a0:TStamp):A:=.v (.bool (G4 a0))
def Ac6 (_a0:TStamp):Objs:=[]
def XL (_a0:TStamp):List Prop:=[]
theorem Bed (a0:TStamp):Ff (As Bzf L0) 9 104 [Af .stamp a0] 0 []=some (1,Ac7 a0,0,Ac6 a0,XL a0):=by kernel_rfl
theorem Bip (a0:TStamp) (hp:∀p∈XL a0,p):CallOk Try.prog 104 [Af .stamp a0] 0 [] 1 (Ac7 a0) 0 (Ac6 a0):=Az (An Bkg Ay) (Bed a0) hp
def Axq:List A→Nat→Objs→Option A3:=Bg [.t .stamp] 0 Ac7 Ac6 XL
theorem A8i:Fi Try.prog 104 Axq:=Aq (ks:=[.t .stamp]) Bip
noncomputable def Bzg:=A4 104 Axq Bzf
theorem Bkh:Dd Try.prog Bzg:=Am A8i Bkg
def Kq (a0:Int) (_a1:Int):Int:=min (max a0 (0:Int)) (1099511627776:Int)
def R4 (a0:Int) (a1:Int):A:=.v (.int .i64 (Kq a0 a1))
def R1 (_a0:Int) (_a1:Int):Objs:=[]
def P7 (_a0:Int) (_a1:Int):List Prop:=[]
theorem A0r (a0:Int) (a1:Int):Ff (As Bzg L0) 9 153 [Af .i64 a0,Af .i64 a1] 0 []=some (1,R4 a0 a1,0,R1 a0 a1,P7 a0 a1):=by kernel_rfl
theorem A3a (a0:Int) (a1:Int) (hp:∀p∈P7 a0 a1,p):CallOk Try.prog 153 [Af .i64 a0,Af .i64 a1] 0 [] 1 (R4 a0 a1) 0 (R1 a0 a1):=Az (An Bkh Ay) (A0r a0 a1) hp
def Abn:List A→Nat→Objs→Option A3:=Bg [.t .i64,.t .i64] 0 R4 R1 P7
theorem Atc:Fi Try.prog 153 Abn:=Aq (ks:=[.t .i64,.t .i64]) A3a
noncomputable def Bzh:=A4 153 Abn Bzg
theorem Bki:Dd Try.prog Bzh:=Am Atc Bkh
def R6 (a0:Int) (a1:Int):A:=.v (.int .i64 (max a0 a1))
def R5 (_a0:Int) (_a1:Int):Objs:=[]
def P8 (_a0:Int) (_a1:Int):List Prop:=[]
theorem A0t (a0:Int) (a1:Int):Ff (As Bzh L0) 9 154 [Af .i64 a0,Af .i64 a1] 0 []=some (1,R6 a0 a1,0,R5 a0 a1,P8 a0 a1):=by kernel_rfl
theorem A3b (a0:Int) (a1:Int) (hp:∀p∈P8 a0 a1,p):CallOk Try.prog 154 [Af .i64 a0,Af .i64 a1] 0 [] 1 (R6 a0 a1) 0 (R5 a0 a1):=Az (An Bki Ay) (A0t a0 a1) hp
def Abo:List A→Nat→Objs→Option A3:=Bg [.t .i64,.t .i64] 0 R6 R5 P8
theorem Atd:Fi Try.prog 154 Abo:=Aq (ks:=[.t .i64,.t .i64]) A3b
noncomputable def Bzi:=A4 154 Abo Bzh
theorem Bkj:Dd Try.prog Bzi:=Am Atd Bki
def R8 (a0:Int) (a1:Int):A:=.v (.int .i64 (min a0 a1))
def R7 (_a0:Int) (_a1:Int):Objs:=[]
def P9 (_a0:Int) (_a1:Int):List Prop:=[]
theorem A0u (a0:Int) (a1:Int):Ff (As Bzi L0) 9 156 [Af .i64 a0,Af .i64 a1] 0 []=some (1,R8 a0 a1,0,R7 a0 a1,P9 a0 a1):=by kernel_rfl
theorem A3c (a0:Int) (a1:Int) (hp:∀p∈P9 a0 a1,p):CallOk Try.prog 156 [Af .i64 a0,Af .i64 a1] 0 [] 1 (R8 a0 a1) 0 (R7 a0 a1):=Az (An Bkj Ay) (A0u a0 a1) hp
def Abp:List A→Nat→Objs→Option A3:=Bg [.t .i64,.t .i64] 0 R8 R7 P9
theorem Ate:Fi Try.prog 156 Abp:=Aq (ks:=[.t .i64,.t .i64]) A3c
noncomputable def Bzj:=A4 156 Abp Bzi
theorem Bkk:Dd Try.prog Bzj:=Am Ate Bkj
noncomputable def Bzk:=A4 152 (inl (As Bzj L0) 4 152) Bzj
theorem Bkl:Dd Try.prog Bzk:=Am (Acg (An Bkk Ay) 4 152) Bkk
def BN (a0:TVec):Bool:=Kq a0.1 (0:Int)==a0.1&&Kq a0.2 (0:Int)==a0.2
def Aer (a0:TVec):A:=.v (.bool (BN a0))
def Aeq (_a0:TVec):Objs:=[]
def Aqn (_a0:TVec):List Prop:=[]
theorem Bgj (a0:TVec):Ff (As Bzk L0) 9 103 [Af .vec a0] 0 []=some (1,Aer a0,0,Aeq a0,[((0:Int)≤(0:Int)∧(0:Int) <(2:Int)),((0:Nat) <(2:Nat)),((0:Int)≤(0:Int)∧(0:Int) <(2:Int)),((0:Nat) <(2:Nat)),((0:Int)≤(0:Int)∧(0:Int) <(2:Int)),((0:Nat) <(2:Nat)),((0:Int)≤(1:Int)∧(1:Int) <(2:Int)),((1:Nat) <(2:Nat)),((0:Int)≤(1:Int)∧(1:Int) <(2:Int)),((1:Nat) <(2:Nat)),((0:Int)≤(1:Int)∧(1:Int) <(2:Int)),((1:Nat) <(2:Nat))]):=by kernel_rfl
theorem Bj7 (a0:TVec) (_hp:∀p∈Aqn a0,p):CallOk Try.prog 103 [Af .vec a0] 0 [] 1 (Aer a0) 0 (Aeq a0):=by
 have n0:((0:Int)≤(0:Int)∧(0:Int) <(2:Int)):=by first|rfl|decide+kernel
 have n1:((0:Nat) <(2:Nat)):=by first|rfl|decide+kernel
 have n6:((0:Int)≤(1:Int)∧(1:Int) <(2:Int)):=by first|rfl|decide+kernel
 have n7:((1:Nat) <(2:Nat)):=by first|rfl|decide+kernel
 exact Az (An Bkl Ay) (Bgj a0) (Aa n0 (Aa n1 (Aa n0 (Aa n1 (Aa n0 (Aa n1 (Aa n6 (Aa n7 (Aa n6 (Aa n7 (Aa n6 (Aa n7 Ad))))))))))))
def A0s:List A→Nat→Objs→Option A3:=Bg [.t .vec] 0 Aer Aeq Aqn
theorem A98:Fi Try.prog 103 A0s:=Aq (ks:=[.t .vec]) Bj7
noncomputable def Bzl:=A4 103 A0s Bzk
theorem Bkm:Dd Try.prog Bzl:=Am A98 Bkl
def JM (a0:TVec) (a1:TVec):TVec:=TVec.mk (min a0.1 a1.1) (min a0.2 a1.2)
def Aet (a0:TVec) (a1:TVec):A:=.v (.agg ⟨[.int .i64 ((JM a0 a1).a),.int .i64 ((JM a0 a1).b)]⟩)
def Aes (_a0:TVec) (_a1:TVec):Objs:=[]
def Aqo (_a0:TVec) (_a1:TVec):List Prop:=[]
theorem Bgk (a0:TVec) (a1:TVec):Ff (As Bzl L0) 9 112 [Af .vec a0,Af .vec a1] 0 []=some (1,Aet a0 a1,0,Aes a0 a1,[((0:Int)≤(0:Int)∧(0:Int) <(2:Int)),((0:Nat) <(2:Nat)),((0:Int)≤(0:Int)∧(0:Int) <(2:Int)),((0:Nat) <(2:Nat)),((0:Int)≤(0:Int)∧(0:Int) <(2:Int)),((0:Nat) <(2:Nat)),((0:Int)≤(1:Int)∧(1:Int) <(2:Int)),((1:Nat) <(2:Nat)),((0:Int)≤(1:Int)∧(1:Int) <(2:Int)),((1:Nat) <(2:Nat)),((0:Int)≤(1:Int)∧(1:Int) <(2:Int)),((1:Nat) <(2:Nat))]):=by kernel_rfl
theorem Bj8 (a0:TVec) (a1:TVec) (_hp:∀p∈Aqo a0 a1,p):CallOk Try.prog 112 [Af .vec a0,Af .vec a1] 0 [] 1 (Aet a0 a1) 0 (Aes a0 a1):=by
 have n0:((0:Int)≤(0:Int)∧(0:Int) <(2:Int)):=by first|rfl|decide+kernel
 have n1:((0:Nat) <(2:Nat)):=by first|rfl|decide+kernel
 have n6:((0:Int)≤(1:Int)∧(1:Int) <(2:Int)):=by first|rfl|decide+kernel
 have n7:((1:Nat) <(2:Nat)):=by first|rfl|decide+kernel
 exact Az (An Bkm Ay) (Bgk a0 a1) (Aa n0 (Aa n1 (Aa n0 (Aa n1 (Aa n0 (Aa n1 (Aa n6 (Aa n7 (Aa n6 (Aa n7 (Aa n6 (Aa n7 Ad))))))))))))
def A0v:List A→Nat→Objs→Option A3:=Bg [.t .vec,.t .vec] 0 Aet Aes Aqo
theorem A99:Fi Try.prog 112 A0v:=Aq (ks:=[.t .vec,.t .vec]) Bj8
noncomputable def Bzm:=A4 112 A0v Bzl
theorem Bkn:Dd Try.prog Bzm:=Am A99 Bkm
def J5 (a0:TVec) (a1:TVec):Bool:=(JM a0 a1).1==a1.1&&(JM a0 a1).2==a1.2
def UK (a0:TVec) (a1:TVec):A:=.v (.bool (J5 a0 a1))
def UJ (_a0:TVec) (_a1:TVec):Objs:=[]
def RZ (_a0:TVec) (_a1:TVec):List Prop:=[]
theorem A29 (a0:TVec) (a1:TVec):Ff (As Bzm L0) 9 53 [Af .vec a0,Af .vec a1] 0 []=some (1,UK a0 a1,0,UJ a0 a1,RZ a0 a1):=by kernel_rfl
theorem A97 (a0:TVec) (a1:TVec) (hp:∀p∈RZ a0 a1,p):CallOk Try.prog 53 [Af .vec a0,Af .vec a1] 0 [] 1 (UK a0 a1) 0 (UJ a0 a1):=Az (An Bkn Ay) (A29 a0 a1) hp
def Ai8:List A→Nat→Objs→Option A3:=Bg [.t .vec,.t .vec] 0 UK UJ RZ
theorem A0o:Fi Try.prog 53 Ai8:=Aq (ks:=[.t .vec,.t .vec]) A97
noncomputable def Bp3:=A4 53 Ai8 Bzm
theorem Bap:Dd Try.prog Bp3:=Am A0o Bkn
def ER (a0:TVec):Bool:=decide (a0.1≥(0:Int))&&decide (a0.1≤(1099511627776:Int))&&decide (a0.2≥(0:Int))&&decide (a0.2≤(1099511627776:Int))
def Adc (a0:TVec):A:=.v (.bool (ER a0))
def Adb (_a0:TVec):Objs:=[]
def XN (_a0:TVec):List Prop:=[]
theorem Beh (a0:TVec):Ff (As Bp3 L0) 9 100 [Af .vec a0] 0 []=some (1,Adc a0,0,Adb a0,XN a0):=by kernel_rfl
theorem Bir (a0:TVec) (hp:∀p∈XN a0,p):CallOk Try.prog 100 [Af .vec a0] 0 [] 1 (Adc a0) 0 (Adb a0):=Az (An Bap Ay) (Beh a0) hp
def Axt:List A→Nat→Objs→Option A3:=Bg [.t .vec] 0 Adc Adb XN
theorem A8l:Fi Try.prog 100 Axt:=Aq (ks:=[.t .vec]) Bir
noncomputable def Bp4:=A4 100 Axt Bp3
theorem Baq:Dd Try.prog Bp4:=Am A8l Bap
def Uq (a0:TVec) (a1:TVec):Bool:=decide (a0.1≥a1.1)&&decide (a0.2≥a1.2)
def Us (a0:TVec) (a1:TVec):A:=.v (.bool (Uq a0 a1))
def Ur (_a0:TVec) (_a1:TVec):Objs:=[]
def RO (_a0:TVec) (_a1:TVec):List Prop:=[]
theorem A15 (a0:TVec) (a1:TVec):Ff (As Bp4 L0) 9 107 [Af .vec a0,Af .vec a1] 0 []=some (1,Us a0 a1,0,Ur a0 a1,RO a0 a1):=by kernel_rfl
theorem A8k (a0:TVec) (a1:TVec) (hp:∀p∈RO a0 a1,p):CallOk Try.prog 107 [Af .vec a0,Af .vec a1] 0 [] 1 (Us a0 a1) 0 (Ur a0 a1):=Az (An Baq Ay) (A15 a0 a1) hp
def Ahu:List A→Nat→Objs→Option A3:=Bg [.t .vec,.t .vec] 0 Us Ur RO
theorem Axs:Fi Try.prog 107 Ahu:=Aq (ks:=[.t .vec,.t .vec]) A8k
noncomputable def Byg:=A4 107 Ahu Bp4
theorem Bp5:Dd Try.prog Byg:=Am Axs Baq
noncomputable def Cb:=Byg
theorem Bko:Dd Try.prog Cb:=Bp5
end Go.Proofs.Yteebobbhhgmeiaa
namespace Go.Proofs.Yteebobbhhgmeiaa
open Go.RowKit
def HJ (s:TStamp):Bool:=bif s.n==0&&s.site==0 then true else decide (1≤s.n)&&decide (s.n≤281474976710656)&&(s.site==1||s.site==2)
def CL (v:TVec):Bool:=decide (0≤v.a)&&decide (v.a≤1099511627776)&&(decide (0≤v.b)&&decide (v.b≤1099511627776))
def G8 (v:TVec):Bool:=v.a==0&&v.b==0
def Byx (s:TStamp):Int:=bif s.n==0 then 0 else 2*s.n+s.site - 1
def B0r (n:Int):TStamp:=if n=0 then⟨0,0⟩ else⟨n / 2,1+n % 2⟩
def Bil (s:TStamp):List UInt8:=bif HJ s then NF (Byx s) else[]
def Axo (v:TVec):List UInt8:=bif CL v then NF v.a++NF v.b else[]
def A8e (t:ByteArray):List UInt8:=NF (t.size:Int)++t.data.toList
def F7 (b:List UInt8):TStamp×Int×Int:=if(Ak b).2.2≠0 then(⟨0,0⟩,0,(Ak b).2.2) else if HJ (B0r (Ak b).1)=true then(B0r (Ak b).1,(Ak b).2.1,0) else(⟨0,0⟩,0,11)
def FN (b:List UInt8):TVec×Int×Int:=if(Ak b).2.2≠0 then(⟨0,0⟩,0,(Ak b).2.2) else
 if(Ak (b.drop (Ak b).2.1.toNat)).2.2≠0 then(⟨0,0⟩,0,(Ak (b.drop (Ak b).2.1.toNat)).2.2) else
 if CL ⟨(Ak b).1,(Ak (b.drop (Ak b).2.1.toNat)).1⟩=true then(⟨(Ak b).1,(Ak (b.drop (Ak b).2.1.toNat)).1⟩,(Ak b).2.1+(Ak (b.drop (Ak b).2.1.toNat)).2.1,0) else(⟨0,0⟩,0,11)
def Wl (b:List UInt8) (m:Int):ByteArray×Int×Int:=if(Ak b).2.2≠0 then(ByteArray.empty,0,(Ak b).2.2) else if(Ak b).1 >m then(ByteArray.empty,0,3) else
 if(b.length:Int) - (Ak b).2.1 <(Ak b).1 then(ByteArray.empty,0,10) else(⟨((b.drop (Ak b).2.1.toNat).take (Ak b).1.toNat).toArray⟩,(Ak b).2.1+(Ak b).1,0)
structure Rd {α:Type} (get:List UInt8→α×Int×Int) (good:α→Prop) (put:α→List UInt8):Prop where
 back:∀x r,good x→get (put x++r)=(x,((put x).length:Int),0)
 front:∀b x k,get b=(x,k,0)→good x∧k=((put x).length:Int)∧∃r,b=put x++r
theorem Bj1 {b p:List UInt8} (h:b.take p.length=p):∃r,b=p++r:=⟨b.drop p.length,by
 conv=>lhs;rw[←List.take_append_drop p.length b,h]⟩
def okN (n:Int):Prop:=0≤n∧n≤4611686018427387903
theorem rdN:Rd Ak okN NF where
 back:=fun x r h=>by rw[Bwl h.1 h.2 r,Nj]
 front:=fun b x k h=>by
  obtain⟨h1,h2,h3,_,h5⟩:=Bxd h
  exact⟨⟨h1,h2⟩,by rw[h3,Nj],Bj1 (by rw[Nj];exact h5)⟩
theorem Bwj {b:List UInt8} (h:(Ak b).2.2=0):∃r,okN (Ak b).1∧(Ak b).2.1=((NF (Ak b).1).length:Int)∧b=NF (Ak b).1++r:=by
 obtain⟨h1,h2,r,h3⟩:=rdN.front b (Ak b).1 (Ak b).2.1 (by rw[←h])
 exact⟨r,h1,h2,h3⟩
theorem Br7 (b:List UInt8):(Ak b).2.2≠0→(Ak b).1=0∧(Ak b).2.1=0:=fun h=>by
 cases b with
 |nil=>exact⟨rfl,rfl⟩
 | cons x r=>
  rw[YL] at h⊢
  split
  ·exact⟨rfl,rfl⟩
  ·split
   ·exact⟨rfl,rfl⟩
   ·rename_i h1 h2
    rw[if_neg h1,if_neg h2] at h
    exact absurd rfl h
theorem Hs (b:List UInt8):0≤(Ak b).2.1∧(Ak b).2.1≤(b.length:Int)∧(Ak b).2.1≤8∧0≤(Ak b).1∧(Ak b).1≤4611686018427387903:=by
 by_cases h:(Ak b).2.2=0
 ·obtain⟨r,⟨h1,h1'⟩,h2,h3⟩:=Bwj h
  have hl:=congrArg List.length h3
  rw[List.length_append] at hl
  have h8:(NF (Ak b).1).length≤8:=by
   rw[Nj]
   have:=(Bnc h1 h1').1
   unfold szs at this
   omega
  exact⟨by omega,by omega,by omega,h1,h1'⟩
 ·obtain⟨h1,h2⟩:=Br7 b h
  rw[h1,h2]
  omega
theorem Bn6 {s:TStamp}:HJ s=true↔(s.n=0∧s.site=0)∨(1≤s.n∧s.n≤281474976710656∧(s.site=1∨s.site=2)):=by
 unfold HJ
 rw[Bool.cond_eq_ite]
 split
 ·rename_i h
  simp only[Bool.and_eq_true,beq_iff_eq] at h
  exact⟨fun _=> .inl h,fun _=>rfl⟩
 ·rename_i h
  simp only[Bool.and_eq_true,beq_iff_eq] at h
  simp only[Bool.and_eq_true,Bool.or_eq_true,beq_iff_eq,decide_eq_true_eq]
  constructor
  ·intro h';exact .inr ⟨h'.1.1,h'.1.2,h'.2⟩
  ·rintro(h'|⟨h1,h2,h3⟩)
   ·exact absurd h' h
   ·exact⟨⟨h1,h2⟩,h3⟩
theorem YM {v:TVec}:CL v=true↔0≤v.a∧v.a≤1099511627776∧0≤v.b∧v.b≤1099511627776:=by
 unfold CL
 simp only[Bool.and_eq_true,decide_eq_true_eq]
 omega
theorem Baa {s t:TVec} (h1:s.a=t.a) (h2:s.b=t.b):s=t:=by cases s;cases t;simp_all
theorem Bbk (n i:Nat):n &&& 2^i=n / 2^i % 2*2^i:=by
 rw[←Nat.toNat_testBit]
 apply Nat.eq_of_testBit_eq
 intro j
 rw[Nat.testBit_and,Nat.testBit_two_pow]
 cases hb:n.testBit i with
 |true=>
  by_cases hij:i=j
  ·subst hij;simp[hb]
  ·simp[hij]
 |false=>
  by_cases hij:i=j
  ·subst hij;simp[hb]
  ·simp[hij]
theorem Blt {n:Int} (h:okN n) (k:Nat) (m:Int) (hm:m=((2^k:Nat):Int)) (hk:k <60):(BitVec.ofInt 64 n &&& BitVec.ofInt 64 m).toNat=n.toNat / 2^k % 2*2^k:=by
 obtain⟨h0,h1⟩:=h
 have hp:2^k <2^60:=Nat.pow_lt_pow_right (by decide) hk
 have e60:(2:Nat)^60=1152921504606846976:=by decide
 rw[BitVec.toNat_and,BitVec.toNat_ofInt,BitVec.toNat_ofInt]
 have m1:(n % ((2^64:Nat):Int)).toNat=n.toNat:=by omega
 have m2:(m % ((2^64:Nat):Int)).toNat=2^k:=by
  subst hm
  generalize 2^k=q at*
  omega
 rw[m1,m2,Bbk]
theorem Ae1 {n:Int} (h:okN n) (k:Nat) (m:Int) (hm:m=((2^k:Nat):Int)) (hk:k <60):decide (IntKind.i64.wrap ((BitVec.ofInt 64 n &&& BitVec.ofInt 64 m).toNat:Int) >0)=(n.toNat / 2^k % 2==1):=by
 rw[Blt h k m hm hk]
 have hp:2^k <2^60:=Nat.pow_lt_pow_right (by decide) hk
 have hp0:0 <2^k:=Nat.pow_pos (by decide)
 have e60:(2:Nat)^60=1152921504606846976:=by decide
 generalize n.toNat / 2^k=x
 generalize 2^k=q at*
 rcases Nat.mod_two_eq_zero_or_one x with e|e
 ·rw[e,Nat.zero_mul]
  rfl
 ·rw[e,Nat.one_mul,i64_in (by omega)]
  have:(q:Int) >0:=by omega
  rw[decide_eq_true this]
  rfl
theorem Bv0 {n:Int} (h:okN n):IntKind.i64.wrap (IntKind.i64.wrap ((BitVec.ofInt 64 n &&& BitVec.ofInt 64 1).toNat:Int)+1)=1+n % 2:=by
 have e:=Blt h 0 1 rfl (by decide)
 rw[e]
 obtain⟨h0,h1⟩:=h
 have e2:n.toNat / 2^0 % 2*2^0=n.toNat % 2:=by rw[Nat.pow_zero,Nat.div_one,Nat.mul_one]
 rw[e2,i64_in (n:=((n.toNat % 2:Nat):Int)) (by omega),i64_in (by omega)]
 omega
end Go.Proofs.Yteebobbhhgmeiaa
namespace Go.Proofs.Yteebobbhhgmeiaa
open Go.RowKit
theorem A6s {x y:ByteArray}:(x.toList==y.toList)=true↔x=y:=by
 rw[beq_iff_eq,ByteArray.toList_eq,ByteArray.toList_eq]
 constructor
 ·intro h
  cases x;cases y
  simpa using h
 ·rintro rfl;rfl
theorem Bmp {x:ByteArray}:(x.toList==(ByteArray.mk #[]).toList)=true↔x.size=0:=by
 rw[A6s]
 constructor
 ·rintro rfl;rfl
 ·intro h
  cases x with|mk d=>
  have:d.size=0:=h
  rw[Array.eq_empty_of_size_eq_zero this]
theorem RG (x:ByteArray):(x.toList==(ByteArray.mk #[]).toList)=(x.size==0):=by
 rw[Bool.eq_iff_iff,Bmp,beq_iff_eq]
theorem B24 {x:ByteArray} (h:x.size=0):x=ByteArray.mk #[]:=A6s.1 (Bmp.2 h)
def BR (c:TCell):Bool:=!(c.stamp.n==0&&c.stamp.site==0&&(c.vec.a==0&&c.vec.b==0)&&(!c.gone&&c.value.size==0))
def Bv (p:Int) (c:TCell):Bool:=
 bif p==1&&!G8 c.dead||(p==2&&(c.gone||!CL c.dead)||!(p==1||p==2)) then false else
 bif !BR c then true else HJ c.stamp&&decide (0 <c.stamp.n)&&CL c.vec&&decide ((c.value.size:Int)≤64)&&!(c.gone&&!(c.value.size==0))
def O1 (c:TCell):Int:=(bif BR c then 1 else 0)+(bif c.gone then 2 else 0)+(bif G8 c.dead then 0 else 4)
def Brf (c:TCell):List UInt8:=(bif BR c then Bil c.stamp++Axo c.vec++(bif c.gone then[] else A8e c.value) else[])++(bif G8 c.dead then[] else Axo c.dead)
def Beb (p:Int) (c:TCell):List UInt8:=bif Bv p c then NF (O1 c)++Brf c else[]
def zeroC:TCell:=⟨⟨0,0⟩,⟨0,0⟩,false,ByteArray.mk #[],⟨0,0⟩⟩
theorem A5l {v:TVec}:G8 v=true↔v=⟨0,0⟩:=by
 unfold G8
 simp only[Bool.and_eq_true,beq_iff_eq]
 constructor
 ·intro h;exact Baa h.1 h.2
 ·rintro rfl;exact⟨rfl,rfl⟩
structure B15 (p:Int) (c:TCell):Prop where
 pol:p=1∨p=2
 dead:CL c.dead=true
 last:p=1→G8 c.dead=true
 del:p=2→c.gone=false
 st:BR c=true→HJ c.stamp=true∧0 <c.stamp.n∧CL c.vec=true∧(c.value.size:Int)≤64∧(c.gone=true→c.value.size=0)
theorem A30 {p:Int} {c:TCell}:Bv p c=true↔B15 p c:=by
 unfold Bv
 rw[Bool.cond_eq_ite]
 split
 ·rename_i h
  refine⟨fun h=>(by cases h),fun g=>?_⟩
  exfalso
  simp only[Bool.or_eq_true,Bool.and_eq_true,beq_iff_eq,Bool.not_eq_true'] at h
  rcases h with⟨h1,h2⟩|⟨h1,h2⟩|h1
  ·rw[g.last h1] at h2;cases h2
  ·rcases h2 with h2|h2
   ·rw[g.del h1] at h2;cases h2
   ·rw[g.dead] at h2;cases h2
  ·rcases g.pol with h|h
   ·rw[h] at h1;cases h1
   ·rw[h] at h1;cases h1
 ·rename_i h
  have hh:=Bool.eq_false_iff.2 h
  simp only[Bool.or_eq_false_iff] at hh
  obtain⟨h1,h2,h3⟩:=hh
  have hp:p=1∨p=2:=by
   have:(p==1||p==2)=true:=by
    cases hq:(p==1||p==2) with
    |true=>rfl
    |false=>rw[hq] at h3;cases h3
   simpa using this
  have base:CL c.dead=true∧(p=1→G8 c.dead=true)∧(p=2→c.gone=false):=by
   rcases hp with rfl|rfl
   ·have hz:G8 c.dead=true:=by
     cases hz:G8 c.dead with
     |true=>rfl
     |false=>rw[hz] at h1;cases h1
    refine⟨by rw[A5l.1 hz];rfl,fun _=>hz,fun h=>by cases h⟩
   ·have:c.gone=false∧CL c.dead=true:=by
     cases hg:c.gone with
     |true=>rw[hg] at h2;cases h2
     |false=>
      cases hv:CL c.dead with
      |true=>exact⟨rfl,rfl⟩
      |false=>rw[hg,hv] at h2;cases h2
    exact⟨this.2,fun h=>(by cases h),fun _=>this.1⟩
  cases hw:BR c with
  |false=>exact⟨fun _=>⟨hp,base.1,base.2.1,base.2.2,fun h=>by rw[hw] at h;cases h⟩,fun _=>rfl⟩
  | true=>
   rw[Bool.not_true,cond_false]
   simp only[Bool.and_eq_true,decide_eq_true_eq,Bool.not_eq_true',Bool.and_eq_false_iff,Bool.not_eq_false',beq_iff_eq]
   constructor
   ·rintro⟨⟨⟨⟨g1,g2⟩,g3⟩,g4⟩,g5⟩
    refine⟨hp,base.1,base.2.1,base.2.2,fun _=>⟨g1,g2,g3,g4,fun hg=>?_⟩⟩
    rcases g5 with g5|g5
    ·rw[g5] at hg;cases hg
    ·exact g5
   ·intro g
    obtain⟨g1,g2,g3,g4,g5⟩:=g.st hw
    refine⟨⟨⟨⟨g1,g2⟩,g3⟩,g4⟩,?_⟩
    cases hg:c.gone with
    |false=>exact .inl rfl
    |true=>exact .inr (g5 hg)
theorem Bcw (c:TCell):okN (O1 c)∧O1 c≤7∧((O1 c).toNat / 2^0 % 2==1)=BR c∧((O1 c).toNat / 2^1 % 2==1)=c.gone∧((O1 c).toNat / 2^2 % 2==1)=!G8 c.dead:=by
 unfold O1 okN
 cases BR c<;>cases c.gone<;>cases G8 c.dead<;>decide
def Gq (n:Int) (k:Nat):Bool:=n.toNat / 2^k % 2==1
def stA (b:List UInt8):Bool×TCell×Int:=
 bif(Ak b).2.2==0&&Gq (Ak b).1 0 then
  (bif !Gq (Ak b).1 1 then
   ((Ak b).2.2==0&&(F7 (b.drop (Ak b).2.1.toNat)).2.2==0&&(FN (b.drop ((Ak b).2.1+(F7 (b.drop (Ak b).2.1.toNat)).2.1).toNat)).2.2==0&&(Wl (b.drop ((Ak b).2.1+(F7 (b.drop (Ak b).2.1.toNat)).2.1+(FN (b.drop ((Ak b).2.1+(F7 (b.drop (Ak b).2.1.toNat)).2.1).toNat)).2.1).toNat) 64).2.2==0,
    ⟨(F7 (b.drop (Ak b).2.1.toNat)).1,(FN (b.drop ((Ak b).2.1+(F7 (b.drop (Ak b).2.1.toNat)).2.1).toNat)).1,Gq (Ak b).1 1,(Wl (b.drop ((Ak b).2.1+(F7 (b.drop (Ak b).2.1.toNat)).2.1+(FN (b.drop ((Ak b).2.1+(F7 (b.drop (Ak b).2.1.toNat)).2.1).toNat)).2.1).toNat) 64).1,⟨0,0⟩⟩,
    (Ak b).2.1+(F7 (b.drop (Ak b).2.1.toNat)).2.1+(FN (b.drop ((Ak b).2.1+(F7 (b.drop (Ak b).2.1.toNat)).2.1).toNat)).2.1+(Wl (b.drop ((Ak b).2.1+(F7 (b.drop (Ak b).2.1.toNat)).2.1+(FN (b.drop ((Ak b).2.1+(F7 (b.drop (Ak b).2.1.toNat)).2.1).toNat)).2.1).toNat) 64).2.1)
  else
   ((Ak b).2.2==0&&(F7 (b.drop (Ak b).2.1.toNat)).2.2==0&&(FN (b.drop ((Ak b).2.1+(F7 (b.drop (Ak b).2.1.toNat)).2.1).toNat)).2.2==0,
    ⟨(F7 (b.drop (Ak b).2.1.toNat)).1,(FN (b.drop ((Ak b).2.1+(F7 (b.drop (Ak b).2.1.toNat)).2.1).toNat)).1,Gq (Ak b).1 1,ByteArray.mk #[],⟨0,0⟩⟩,
    (Ak b).2.1+(F7 (b.drop (Ak b).2.1.toNat)).2.1+(FN (b.drop ((Ak b).2.1+(F7 (b.drop (Ak b).2.1.toNat)).2.1).toNat)).2.1))
 else((Ak b).2.2==0,zeroC,(Ak b).2.1)
def stB (b:List UInt8):Bool×TCell×Int:=
 bif(stA b).1&&Gq (Ak b).1 2 then((stA b).1&&(FN (b.drop (stA b).2.2.toNat)).2.2==0,{(stA b).2.1 with dead:=(FN (b.drop (stA b).2.2.toNat)).1},(stA b).2.2+(FN (b.drop (stA b).2.2.toNat)).2.1)
 else stA b
def A9e (n:Int) (c:TCell):Bool:=decide (n≤7)&&Gq n 0==BR c&&Gq n 1==c.gone&&Gq n 2==!G8 c.dead
def Aq2 (b:List UInt8) (p:Int):TCell×Int×Int:=
 bif !(stB b).1||!A9e (Ak b).1 (stB b).2.1||!Bv p (stB b).2.1 then(zeroC,0,80) else((stB b).2.1,(stB b).2.2,0)
end Go.Proofs.Yteebobbhhgmeiaa
namespace Go.Proofs.Yteebobbhhgmeiaa
open Go.RowKit
theorem A0i (n:Int):M2 n=(n==1||n==2):=by
 unfold M2 P3
 cases n==1<;>cases n==2<;>rfl
theorem Kp (s:TStamp):Cg s=HJ s:=by
 unfold Cg HJ
 rw[A0i]
 rfl
theorem VE (x:Int):(Kq x 0==x)=(decide (0≤x)&&decide (x≤1099511627776)):=by
 unfold Kq
 rw[Bool.eq_iff_iff]
 simp only[beq_iff_eq,Bool.and_eq_true,decide_eq_true_eq]
 omega
theorem K4 (v:TVec):BN v=CL v:=by
 unfold BN CL
 rw[VE,VE]
theorem XI (n:Int):(NF n).length≤8:=by
 rw[Nj]
 rcases Ai6 n with h|⟨_,_,h⟩
 ·omega
 ·unfold szs at h;omega
theorem Bto (s:TStamp):(Bil s).length≤8:=by
 unfold Bil
 cases HJ s with
 |true=>exact XI _
 |false=>exact Nat.zero_le _
theorem A8f (v:TVec):(Axo v).length≤16:=by
 unfold Axo
 cases CL v with
 |true=>
  rw[cond_true,List.length_append]
  have h1:=XI v.a
  have h2:=XI v.b
  omega
 |false=>exact Nat.zero_le _
theorem Bim (t:ByteArray):(A8e t).length≤8+t.size:=by
 unfold A8e
 rw[List.length_append]
 have h1:=XI (t.size:Int)
 have hs:t.data.toList.length=t.size:=Array.length_toList
 omega
def Jj (_a0:Int) (_a1:TStamp) (_a2:TVec) (_a3:Bool) (a4:ByteArray):Bool:=decide ((↑a4.size:Int) >(64:Int))
def IC (a0:Int) (a1:TStamp) (a2:TVec) (a3:Bool) (a4:ByteArray):Bool:=bif a0 !=(1:Int)&&a0 !=(2:Int) then a0 !=(1:Int)&&a0 !=(2:Int) else bif a1.1==(0:Int)&&a1.2==(0:Int) then a1.1==(0:Int)&&a1.2==(0:Int) else bif !Cg a1 then !Cg a1 else bif !BN a2 then !BN a2 else a3&&!a4.toList==(ByteArray.mk #[]).toList
def GP (a0:Int) (a1:TStamp) (a2:TVec) (a3:Bool) (a4:ByteArray):Bool:=(IC a0 a1 a2 a3 a4)||((Jj a0 a1 a2 a3 a4)||a3&&a0==(2:Int))
def Ma (a0:Int) (a1:TStamp) (a2:TVec) (a3:Bool) (a4:ByteArray):Int:=bif(IC a0 a1 a2 a3 a4) then(0:Int) else bif(Jj a0 a1 a2 a3 a4) then(0:Int) else(0:Int)
def HX (a0:Int) (a1:TStamp) (a2:TVec) (a3:Bool) (a4:ByteArray):TCell:=TCell.mk (TStamp.mk (bif(GP a0 a1 a2 a3 a4) then(Ma a0 a1 a2 a3 a4) else a1.1) (bif(GP a0 a1 a2 a3 a4) then(Ma a0 a1 a2 a3 a4) else a1.2)) (TVec.mk (bif(GP a0 a1 a2 a3 a4) then(Ma a0 a1 a2 a3 a4) else a2.1) (bif(GP a0 a1 a2 a3 a4) then(Ma a0 a1 a2 a3 a4) else a2.2)) (bif(GP a0 a1 a2 a3 a4) then bif(IC a0 a1 a2 a3 a4) then false else bif(Jj a0 a1 a2 a3 a4) then false else false else a3) (bif(GP a0 a1 a2 a3 a4) then bif(IC a0 a1 a2 a3 a4) then ByteArray.mk #[] else bif(Jj a0 a1 a2 a3 a4) then ByteArray.mk #[] else ByteArray.mk #[] else a4) (TVec.mk (bif(GP a0 a1 a2 a3 a4) then bif(IC a0 a1 a2 a3 a4) then(0:Int) else bif(Jj a0 a1 a2 a3 a4) then(0:Int) else a2.1 else(0:Int)) (bif(GP a0 a1 a2 a3 a4) then bif(IC a0 a1 a2 a3 a4) then(0:Int) else bif(Jj a0 a1 a2 a3 a4) then(0:Int) else a2.2 else(0:Int)))
def Bnt (a0:Int) (a1:TStamp) (a2:TVec) (a3:Bool) (a4:ByteArray):Int:=bif(GP a0 a1 a2 a3 a4) then bif(IC a0 a1 a2 a3 a4) then(2:Int) else bif(Jj a0 a1 a2 a3 a4) then(3:Int) else(0:Int) else(0:Int)
def Ajh (a0:Int) (a1:TStamp) (a2:TVec) (a3:Bool) (a4:ByteArray):A:=.v (.tuple ⟨[.agg ⟨[.int .i64 ((HX a0 a1 a2 a3 a4).stamp.n),.int .i64 ((HX a0 a1 a2 a3 a4).stamp.site),.int .i64 ((HX a0 a1 a2 a3 a4).vec.a),.int .i64 ((HX a0 a1 a2 a3 a4).vec.b),.bool ((HX a0 a1 a2 a3 a4).gone),.string ((HX a0 a1 a2 a3 a4).value),.int .i64 ((HX a0 a1 a2 a3 a4).dead.a),.int .i64 ((HX a0 a1 a2 a3 a4).dead.b)]⟩,.int .i64 (Bnt a0 a1 a2 a3 a4)]⟩)
def Ajg (_a0:Int) (_a1:TStamp) (_a2:TVec) (_a3:Bool) (_a4:ByteArray):Objs:=[]
def Abw (_a0:Int) (_a1:TStamp) (_a2:TVec) (_a3:Bool) (_a4:ByteArray):List Prop:=[]
theorem Bhe (a0:Int) (a1:TStamp) (a2:TVec) (a3:Bool) (a4:ByteArray):Ff (As Cb L0) 9 36 [Af .i64 a0,Af .stamp a1,Af .vec a2,Af .bool a3,Af .str a4] 0 []=some (1,Ajh a0 a1 a2 a3 a4,0,Ajg a0 a1 a2 a3 a4,Abw a0 a1 a2 a3 a4):=by kernel_rfl
theorem Bnu (a0:Int) (a1:TStamp) (a2:TVec) (a3:Bool) (a4:ByteArray) (hp:∀p∈Abw a0 a1 a2 a3 a4,p):CallOk Try.prog 36 [Af .i64 a0,Af .stamp a1,Af .vec a2,Af .bool a3,Af .str a4] 0 [] 1 (Ajh a0 a1 a2 a3 a4) 0 (Ajg a0 a1 a2 a3 a4):=Az (An Bko Ay) (Bhe a0 a1 a2 a3 a4) hp
def Aji:List A→Nat→Objs→Option A3:=Bg [.t .i64,.t .stamp,.t .vec,.t .bool,.t .str] 0 Ajh Ajg Abw
theorem Am9:Fi Try.prog 36 Aji:=Aq (ks:=[.t .i64,.t .stamp,.t .vec,.t .bool,.t .str]) Bnu
noncomputable def Bzn:=A4 36 Aji Cb
theorem Bkp:Dd Try.prog Bzn:=Am Am9 Bko
def Fl (a0:TCell):Bool:=!(a0.1.1==(0:Int)&&a0.1.2==(0:Int)&&(a0.2.1==(0:Int)&&a0.2.2==(0:Int)&&(a0.3==false&&(a0.4.toList==(ByteArray.mk #[]).toList&&true))))
def OP (a0:TCell):A:=.v (.bool (Fl a0))
def OO (_a0:TCell):Objs:=[]
def Np (_a0:TCell):List Prop:=[]
theorem Aqt (a0:TCell):Ff (As Bzn L0) 9 105 [Af .cell a0] 0 []=some (1,OP a0,0,OO a0,Np a0):=by kernel_rfl
theorem Aun (a0:TCell) (hp:∀p∈Np a0,p):CallOk Try.prog 105 [Af .cell a0] 0 [] 1 (OP a0) 0 (OO a0):=Az (An Bkp Ay) (Aqt a0) hp
def V0:List A→Nat→Objs→Option A3:=Bg [.t .cell] 0 OP OO Np
theorem Ajj:Fi Try.prog 105 V0:=Aq (ks:=[.t .cell]) Aun
noncomputable def Bzo:=A4 105 V0 Bzn
theorem Bkq:Dd Try.prog Bzo:=Am Ajj Bkp
def AX (a0:Int) (a1:TCell):Bool:=bif bif a0==(1:Int) then !(a1.5.1==(0:Int)&&a1.5.2==(0:Int)) else !a0==(2:Int)||(a1.3||!BN a1.5) then bif a0==(1:Int) then false else bif a0==(2:Int) then false else false else bif !Fl a1 then true else decide (a1.1.1 >(0:Int))&&Cg a1.1&&BN a1.2&&decide ((↑a1.4.size:Int)≤(64:Int))&&!(a1.3&&!a1.4.toList==(ByteArray.mk #[]).toList)
def VX (a0:Int) (a1:TCell):A:=.v (.bool (AX a0 a1))
def VW (_a0:Int) (_a1:TCell):Objs:=[]
def TK (_a0:Int) (_a1:TCell):List Prop:=[]
theorem A6e (a0:Int) (a1:TCell):Ff (As Bzo L0) 9 38 [Af .i64 a0,Af .cell a1] 0 []=some (1,VX a0 a1,0,VW a0 a1,TK a0 a1):=by kernel_rfl
theorem Am7 (a0:Int) (a1:TCell) (hp:∀p∈TK a0 a1,p):CallOk Try.prog 38 [Af .i64 a0,Af .cell a1] 0 [] 1 (VX a0 a1) 0 (VW a0 a1):=Az (An Bkq Ay) (A6e a0 a1) hp
def Am8:List A→Nat→Objs→Option A3:=Bg [.t .i64,.t .cell] 0 VX VW TK
theorem A00:Fi Try.prog 38 Am8:=Aq (ks:=[.t .i64,.t .cell]) Am7
noncomputable def Bzp:=A4 38 Am8 Bzo
theorem Bkr:Dd Try.prog Bzp:=Am A00 Bkq
def Oo (a0:Int) (a1:TCell):Bool:=!AX a0 a1||!Fl a1||a1.3||!J5 a1.2 a1.5
def M6 (a0:Int) (a1:TCell):ByteArray:=bif(Oo a0 a1) then ByteArray.mk #[] else a1.4
def Ho (a0:Int) (a1:TCell):Bool:=bif(Oo a0 a1) then false else true
def VZ (a0:Int) (a1:TCell):A:=.v (.tuple ⟨[.string (M6 a0 a1),.bool (Ho a0 a1)]⟩)
def VY (_a0:Int) (_a1:TCell):Objs:=[]
def TO (_a0:Int) (_a1:TCell):List Prop:=[]
theorem A6h (a0:Int) (a1:TCell):Ff (As Bzp L0) 9 40 [Af .i64 a0,Af .cell a1] 0 []=some (1,VZ a0 a1,0,VY a0 a1,TO a0 a1):=by kernel_rfl
theorem Bb7 (a0:Int) (a1:TCell) (hp:∀p∈TO a0 a1,p):CallOk Try.prog 40 [Af .i64 a0,Af .cell a1] 0 [] 1 (VZ a0 a1) 0 (VY a0 a1):=Az (An Bkr Ay) (A6h a0 a1) hp
def Anf:List A→Nat→Objs→Option A3:=Bg [.t .i64,.t .cell] 0 VZ VY TO
theorem A02:Fi Try.prog 40 Anf:=Aq (ks:=[.t .i64,.t .cell]) Bb7
noncomputable def Bzq:=A4 40 Anf Bzp
theorem Bks:Dd Try.prog Bzq:=Am A02 Bkr
theorem Kr (c:TCell):Fl c=BR c:=by
 unfold Fl BR
 have hg:(c.3==false)=!c.gone:=by show(c.gone==false)=!c.gone;cases c.gone<;>rfl
 rw[RG,Bool.and_true,hg]
 simp only[Bool.and_assoc]
theorem IB (p:Int) (c:TCell):AX p c=Bv p c:=by
 unfold AX Bv G8
 rw[Kr,K4,K4,Kp,RG]
 have hw:(bif !BR c then true else decide (c.1.1 >(0:Int))&&HJ c.1&&CL c.2&&decide (((c.4.size:Nat):Int)≤(64:Int))&&!(c.3&&!c.4.size==0))=bif !BR c then true else HJ c.stamp&&decide (0 <c.stamp.n)&&CL c.vec&&decide ((c.value.size:Int)≤64)&&!(c.gone&&!(c.value.size==0)):=by
  rw[Bool.and_comm (decide (c.1.1 >(0:Int)))]
 rw[hw]
 generalize (bif !BR c then true else HJ c.stamp&&decide (0 <c.stamp.n)&&CL c.vec&&decide ((c.value.size:Int)≤64)&&!(c.gone&&!(c.value.size==0)))=X
 by_cases h1:p=1
 ·subst h1
  show(bif !(c.5.1==(0:Int)&&c.5.2==(0:Int)) then false else X)=bif !(c.5.1==(0:Int)&&c.5.2==(0:Int))||false then false else X
  rw[Bool.or_false]
 ·have e1:(p==1)=false:=by simpa using h1
  rw[e1]
  by_cases h2:p=2
  ·subst h2
   show(bif c.3||!CL c.5 then false else X)=bif(c.3||!CL c.5)||false then false else X
   rw[Bool.or_false]
  ·have e2:(p==2)=false:=by simpa using h2
   rw[e2]
   rfl
def Yw (a0:List UInt8) (a1:TStamp):List UInt8:=a0++NF (bif a1.1==(0:Int)&&a1.2==(0:Int) then(0:Int) else bif Cg a1 then IntKind.i64.wrap (IntKind.i64.wrap (IntKind.i64.wrap (a1.1*(2:Int))+a1.2) - (1:Int)) else(-1:Int))
def Aqi (_a0:List UInt8) (_a1:TStamp):A:=.sq 0
def Q8 (a0:List UInt8) (a1:TStamp):Objs:=[(0,some (.arr 5 1 (.ty .u8 (Yw a0 a1))))]
def Ai4 (a0:List UInt8) (_a1:TStamp):List Prop:=[(Ag (a0.length+(8:Nat)))]
theorem A95 (a0:List UInt8) (a1:TStamp):Ff (As Bzq L0) 9 121 [Af .bytes a0,Af .stamp a1] 0 []=some (1,Aqi a0 a1,1,Q8 a0 a1,Ai4 a0 a1):=by kernel_rfl
theorem Bgb (a0:List UInt8) (a1:TStamp) (hp:∀p∈Ai4 a0 a1,p):CallOk Try.prog 121 [Af .bytes a0,Af .stamp a1] 0 [] 1 (Aqi a0 a1) 1 (Q8 a0 a1):=Az (An Bks Ay) (A95 a0 a1) hp
def Ai5 (_a0:List UInt8) (_a1:TStamp):A:=.sq 0
def OB (a0:List UInt8) (a1:TStamp):Objs:=[(0,some (.arr 5 1 (.ty .u8 (a0++Bil a1))))]
def Abj (a0:List UInt8) (_a1:TStamp):List Prop:=[Ag (a0.length+8)]
theorem A94 (a0:List UInt8) (a1:TStamp):Yw a0 a1=a0++Bil a1:=by
 unfold Yw Bil Byx
 rw[Kp]
 congr 1
 cases hg:HJ a1 with
 | false=>
  have hz:(a1.1==(0:Int)&&a1.2==(0:Int))=false:=by
   rw[Bool.eq_false_iff]
   intro h
   unfold HJ at hg
   rw[h] at hg
   cases hg
  rw[hz]
  rfl
 | true=>
  have h':=Bn6.1 hg
  rw[cond_true,cond_true]
  congr 1
  by_cases h0:a1.n=0
  ·have hz:(a1.1==(0:Int)&&a1.2==(0:Int))=true:=by
    rcases h' with⟨h1,h2⟩|h1
    ·rw[h1,h2];rfl
    ·omega
   have e:(a1.n==0)=true:=by simpa using h0
   rw[hz,e]
   rfl
  ·have hz:(a1.1==(0:Int)&&a1.2==(0:Int))=false:=by
    have:(a1.1==(0:Int))=false:=by simpa using h0
    rw[this];rfl
   have e:(a1.n==0)=false:=by simpa using h0
   rw[hz,e,cond_false,cond_false,i64_in (n:=a1.1*2) (by omega),i64_in (n:=a1.1*2+a1.2) (by omega),i64_in (by omega)]
   omega
theorem A93 (a0:List UInt8) (a1:TStamp) (hp:∀p∈Abj a0 a1,p):CallOk Try.prog 121 [Af .bytes a0,Af .stamp a1] 0 [] 1 (Ai5 a0 a1) 1 (OB a0 a1):=by
 have h:=Bgb a0 a1 (Aa (hp _ (List.mem_cons_self ..)) Ad)
 have ho:Q8 a0 a1=OB a0 a1:=by unfold Q8 OB;rw[A94]
 rw[ho] at h
 exact h
def Aqj:List A→Nat→Objs→Option A3:=Bg [.t .bytes,.t .stamp] 1 Ai5 OB Abj
theorem A26:Fi Try.prog 121 Aqj:=Aq (ks:=[.t .bytes,.t .stamp]) A93
noncomputable def Bzr:=A4 121 Aqj Bzq
theorem Bkt:Dd Try.prog Bzr:=Am A26 Bks
def UN (a0:List UInt8) (a1:TVec):List UInt8:=a0++NF a1.1
def Amz (a0:List UInt8) (a1:TVec):List UInt8:=bif !BN a1 then[]++a0 else(UN a0 a1)++NF a1.2
def A5i (_a0:List UInt8) (_a1:TVec):A:=.sq 0
def Y6 (a0:List UInt8) (a1:TVec):Objs:=[(0,some (.arr 5 1 (.ty .u8 (Amz a0 a1))))]
def A0w (a0:List UInt8) (a1:TVec):List Prop:=[((!BN a1)=true→Ag ((0:Nat)+a0.length)),((!!BN a1)=true→Ag (a0.length+(8:Nat))),((!!BN a1)=true→Ag ((UN a0 a1).length+(8:Nat)))]
theorem Bkb (a0:List UInt8) (a1:TVec):Ff (As Bzr L0) 9 120 [Af .bytes a0,Af .vec a1] 0 []=some (1,A5i a0 a1,1,Y6 a0 a1,A0w a0 a1):=by kernel_rfl
theorem Bpm (a0:List UInt8) (a1:TVec) (hp:∀p∈A0w a0 a1,p):CallOk Try.prog 120 [Af .bytes a0,Af .vec a1] 0 [] 1 (A5i a0 a1) 1 (Y6 a0 a1):=Az (An Bkt Ay) (Bkb a0 a1) hp
def A0x (_a0:List UInt8) (_a1:TVec):A:=.sq 0
def UO (a0:List UInt8) (a1:TVec):Objs:=[(0,some (.arr 5 1 (.ty .u8 (a0++Axo a1))))]
def Aqp (a0:List UInt8) (_a1:TVec):List Prop:=[Ag (a0.length+16)]
theorem Bka (a0:List UInt8) (a1:TVec):Amz a0 a1=a0++Axo a1:=by
 unfold Amz UN Axo
 rw[K4]
 cases CL a1 with
 |false=>exact(List.append_nil a0).symm
 |true=>exact List.append_assoc ..
theorem Bj9 (a0:List UInt8) (a1:TVec) (hp:∀p∈Aqp a0 a1,p):CallOk Try.prog 120 [Af .bytes a0,Af .vec a1] 0 [] 1 (A0x a0 a1) 1 (UO a0 a1):=by
 have hb:Ag (a0.length+16):=hp _ (List.mem_cons_self ..)
 have h:=Bpm a0 a1 (Aa (fun _=>by unfold Ag at*;omega) (Aa (fun _=>by unfold Ag at*;omega) (Aa (fun _=>by
  have:=XI a1.1
  unfold UN Ag at*
  rw[List.length_append]
  omega) Ad)))
 have ho:Y6 a0 a1=UO a0 a1:=by unfold Y6 UO;rw[Bka]
 rw[ho] at h
 exact h
def A5j:List A→Nat→Objs→Option A3:=Bg [.t .bytes,.t .vec] 1 A0x UO Aqp
theorem Bgl:Fi Try.prog 120 A5j:=Aq (ks:=[.t .bytes,.t .vec]) Bj9
noncomputable def Bzs:=A4 120 A5j Bzr
theorem Bku:Dd Try.prog Bzs:=Am Bgl Bkt
def LI (a0:List UInt8) (a1:ByteArray):List UInt8:=a0++NF (↑a1.size:Int)
def Aab (a0:List UInt8) (a1:ByteArray):List UInt8:=(LI a0 a1)++a1.data.toList
def Aac (_a0:List UInt8) (_a1:ByteArray):A:=.sq 0
def MN (a0:List UInt8) (a1:ByteArray):Objs:=[(0,some (.arr 5 1 (.ty .u8 (Aab a0 a1))))]
def Xm (a0:List UInt8) (a1:ByteArray):List Prop:=[(Ag (a0.length+(8:Nat))),(Ag ((LI a0 a1).length+a1.data.toList.length))]
theorem Aw3 (a0:List UInt8) (a1:ByteArray):Ff (As Bzs L0) 9 122 [Af .bytes a0,Af .str a1] 0 []=some (1,Aac a0 a1,1,MN a0 a1,Xm a0 a1):=by kernel_rfl
theorem A1z (a0:List UInt8) (a1:ByteArray) (hp:∀p∈Xm a0 a1,p):CallOk Try.prog 122 [Af .bytes a0,Af .str a1] 0 [] 1 (Aac a0 a1) 1 (MN a0 a1):=Az (An Bku Ay) (Aw3 a0 a1) hp
def Xn (_a0:List UInt8) (_a1:ByteArray):A:=.sq 0
def LJ (a0:List UInt8) (a1:ByteArray):Objs:=[(0,some (.arr 5 1 (.ty .u8 (a0++A8e a1))))]
def U9 (a0:List UInt8) (a1:ByteArray):List Prop:=[Ag (a0.length+8+a1.size)]
theorem Xl (a0:List UInt8) (a1:ByteArray) (hp:∀p∈U9 a0 a1,p):CallOk Try.prog 122 [Af .bytes a0,Af .str a1] 0 [] 1 (Xn a0 a1) 1 (LJ a0 a1):=by
 have hb:Ag (a0.length+8+a1.size):=hp _ (List.mem_cons_self ..)
 have h:=A1z a0 a1 (Aa (by unfold Ag at*;omega) (Aa (by
  have:=XI (a1.size:Int)
  have hs:a1.data.toList.length=a1.size:=Array.length_toList
  unfold LI Ag at*
  rw[List.length_append,hs]
  omega) Ad))
 have ho:MN a0 a1=LJ a0 a1:=by unfold MN LJ Aab LI A8e;rw[List.append_assoc]
 rw[ho] at h
 exact h
def Aad:List A→Nat→Objs→Option A3:=Bg [.t .bytes,.t .str] 1 Xn LJ U9
theorem Arr:Fi Try.prog 122 Aad:=Aq (ks:=[.t .bytes,.t .str]) Xl
noncomputable def Bzt:=A4 122 Aad Bzs
theorem Bkv:Dd Try.prog Bzt:=Am Arr Bku
def DP (_a0:List UInt8) (_a1:Int) (a2:TCell):Int:=bif a2.3 then IntKind.i64.wrap (↑(BitVec.ofInt (64:Nat) (bif Fl a2 then(1:Int) else(0:Int)) ||| BitVec.ofInt (64:Nat) (2:Int)).toNat:Int) else bif Fl a2 then(1:Int) else(0:Int)
def Jk (a0:List UInt8) (a1:Int) (a2:TCell):List UInt8:=a0++NF (bif !(a2.5.1==(0:Int)&&a2.5.2==(0:Int)) then IntKind.i64.wrap (↑(BitVec.ofInt (64:Nat) (DP a0 a1 a2) ||| BitVec.ofInt (64:Nat) (4:Int)).toNat:Int) else(DP a0 a1 a2))++Bil a2.1
def Gj (a0:List UInt8) (a1:Int) (a2:TCell):Bool:=decide (IntKind.i64.wrap (↑(BitVec.ofInt (64:Nat) (bif !(a2.5.1==(0:Int)&&a2.5.2==(0:Int)) then IntKind.i64.wrap (↑(BitVec.ofInt (64:Nat) (DP a0 a1 a2) ||| BitVec.ofInt (64:Nat) (4:Int)).toNat:Int) else(DP a0 a1 a2)) &&& BitVec.ofInt (64:Nat) (1:Int)).toNat:Int) >(0:Int))
def Qj (a0:List UInt8) (a1:Int) (a2:TCell):Bool:=decide (IntKind.i64.wrap (↑(BitVec.ofInt (64:Nat) (bif !(a2.5.1==(0:Int)&&a2.5.2==(0:Int)) then IntKind.i64.wrap (↑(BitVec.ofInt (64:Nat) (DP a0 a1 a2) ||| BitVec.ofInt (64:Nat) (4:Int)).toNat:Int) else(DP a0 a1 a2)) &&& BitVec.ofInt (64:Nat) (4:Int)).toNat:Int) >(0:Int))
def KW (a0:List UInt8) (a1:Int) (a2:TCell):List UInt8:=bif(Gj a0 a1 a2) then bif !a2.3 then(Jk a0 a1 a2)++Axo a2.2++A8e a2.4 else(Jk a0 a1 a2)++Axo a2.2 else a0++NF (bif !(a2.5.1==(0:Int)&&a2.5.2==(0:Int)) then IntKind.i64.wrap (↑(BitVec.ofInt (64:Nat) (DP a0 a1 a2) ||| BitVec.ofInt (64:Nat) (4:Int)).toNat:Int) else(DP a0 a1 a2))
def Abx (a0:List UInt8) (a1:Int) (a2:TCell):List UInt8:=bif !AX a1 a2 then[]++a0 else bif(Qj a0 a1 a2) then(KW a0 a1 a2)++Axo (TVec.mk (bif(Gj a0 a1 a2) then bif !a2.3 then a2.5.1 else a2.5.1 else a2.5.1) (bif(Gj a0 a1 a2) then bif !a2.3 then a2.5.2 else a2.5.2 else a2.5.2)) else(KW a0 a1 a2)
def Aul (_a0:List UInt8) (_a1:Int) (_a2:TCell):A:=.sq 0
def TN (a0:List UInt8) (a1:Int) (a2:TCell):Objs:=[(0,some (.arr 5 1 (.ty .u8 (Abx a0 a1 a2))))]
def Anc (a0:List UInt8) (a1:Int) (a2:TCell):List Prop:=[((!AX a1 a2)=true→Ag ((0:Nat)+a0.length)),((!!AX a1 a2)=true→Ag (a0.length+(8:Nat))),((!!AX a1 a2)=true→(Gj a0 a1 a2)=true→Ag ((a0++NF (bif !(a2.5.1==(0:Int)&&a2.5.2==(0:Int)) then IntKind.i64.wrap (↑(BitVec.ofInt (64:Nat) (DP a0 a1 a2) ||| BitVec.ofInt (64:Nat) (4:Int)).toNat:Int) else(DP a0 a1 a2))).length+(8:Nat))),((!!AX a1 a2)=true→(Gj a0 a1 a2)=true→Ag ((Jk a0 a1 a2).length+(16:Nat))),((!!AX a1 a2)=true→(Gj a0 a1 a2)=true→(!a2.3)=true→Ag (((Jk a0 a1 a2)++Axo a2.2).length+(8:Nat)+a2.4.size)),((!!AX a1 a2)=true→(Qj a0 a1 a2)=true→Ag ((KW a0 a1 a2).length+(16:Nat)))]
theorem Bb6 (a0:List UInt8) (a1:Int) (a2:TCell):Ff (As Bzt L0) 9 56 [Af .bytes a0,Af .i64 a1,Af .cell a2] 0 []=some (1,Aul a0 a1 a2,1,TN a0 a1 a2,Anc a0 a1 a2):=by kernel_rfl
theorem Bhf (a0:List UInt8) (a1:Int) (a2:TCell) (hp:∀p∈Anc a0 a1 a2,p):CallOk Try.prog 56 [Af .bytes a0,Af .i64 a1,Af .cell a2] 0 [] 1 (Aul a0 a1 a2) 1 (TN a0 a1 a2):=Az (An Bkv Ay) (Bb6 a0 a1 a2) hp
def Ane (_a0:List UInt8) (_a1:Int) (_a2:TCell):A:=.sq 0
def Qk (a0:List UInt8) (a1:Int) (a2:TCell):Objs:=[(0,some (.arr 5 1 (.ty .u8 (a0++Beb a1 a2))))]
def Ae7 (a0:List UInt8) (_a1:Int) (_a2:TCell):List Prop:=[Ag (a0.length+128)]
theorem Mb (a0:List UInt8) (a1:Int) (c:TCell):(bif !(c.5.1==(0:Int)&&c.5.2==(0:Int)) then IntKind.i64.wrap (↑(BitVec.ofInt (64:Nat) (DP a0 a1 c) ||| BitVec.ofInt (64:Nat) (4:Int)).toNat:Int) else(DP a0 a1 c))=O1 c:=by
 unfold DP O1
 rw[Kr]
 show(bif !(G8 c.dead) then _ else _)=_
 cases BR c<;>cases c.gone<;>cases G8 c.dead<;>rfl
theorem Ana (a0:List UInt8) (a1:Int) (c:TCell):Gj a0 a1 c=BR c:=by
 unfold Gj
 obtain⟨h1,_,h3,_⟩:=Bcw c
 rw[Mb,Ae1 h1 0 1 rfl (by decide)]
 exact h3
theorem Bb4 (a0:List UInt8) (a1:Int) (c:TCell):Qj a0 a1 c=!G8 c.dead:=by
 unfold Qj
 obtain⟨h1,_,_,_,h5⟩:=Bcw c
 rw[Mb,Ae1 h1 2 4 rfl (by decide)]
 exact h5
theorem Bb5 (a0:List UInt8) (a1:Int) (c:TCell):Abx a0 a1 c=a0++Beb a1 c:=by
 unfold Abx KW Jk Beb Brf
 rw[IB,Mb,Ana,Bb4]
 have hd:∀w g:Bool,(TVec.mk (bif w then bif !g then c.5.1 else c.5.1 else c.5.1) (bif w then bif !g then c.5.2 else c.5.2 else c.5.2))=c.dead:=by intro w g;cases w<;>cases g<;>rfl
 rw[hd]
 cases Bv a1 c<;>cases BR c<;>cases c.gone<;>cases G8 c.dead<;>simp
theorem Anb (a0:List UInt8) (a1:Int) (a2:TCell) (hp:∀p∈Ae7 a0 a1 a2,p):CallOk Try.prog 56 [Af .bytes a0,Af .i64 a1,Af .cell a2] 0 [] 1 (Ane a0 a1 a2) 1 (Qk a0 a1 a2):=by
 have hb:Ag (a0.length+128):=hp _ (List.mem_cons_self ..)
 unfold Ag at hb
 have n8:=XI (O1 a2)
 have s8:=Bto a2.stamp
 have v16:=A8f a2.vec
 have t8:=Bim a2.value
 have k3:(Jk a0 a1 a2).length≤a0.length+16:=by
  unfold Jk
  rw[Mb,List.length_append,List.length_append]
  omega
 have sz:(!!AX a1 a2)=true→Gj a0 a1 a2=true→a2.value.size≤64:=fun h1 h2=>by
  rw[IB,Bool.not_not] at h1
  rw[Ana] at h2
  have:=((A30.1 h1).st h2).2.2.2.1
  omega
 have h:=Bhf a0 a1 a2 (Aa (fun _=>by unfold Ag;omega) (Aa (fun _=>by unfold Ag;omega) (Aa (fun _ _=>by rw[Mb,List.length_append];unfold Ag;omega) (Aa (fun _ _=>by unfold Ag;omega) (Aa (fun h1 h2 _=>by
   have:=sz h1 h2
   rw[List.length_append];unfold Ag;omega) (Aa (fun h1 _=>by
   have:(KW a0 a1 a2).length≤a0.length+112:=by
    unfold KW
    rw[Mb]
    cases hw:Gj a0 a1 a2 with
    |false=>rw[cond_false,List.length_append];omega
    |true=>
     have:=sz h1 hw
     rw[cond_true]
     cases a2.3 with
     |true=>simp only[Bool.not_true,cond_false,List.length_append];omega
     |false=>simp only[Bool.not_false,cond_true,List.length_append];omega
   unfold Ag;omega) Ad))))))
 have ho:TN a0 a1 a2=Qk a0 a1 a2:=by unfold TN Qk;rw[Bb5]
 rw[ho] at h
 exact h
def Aum:List A→Nat→Objs→Option A3:=Bg [.t .bytes,.t .i64,.t .cell] 1 Ane Qk Ae7
theorem A6g:Fi Try.prog 56 Aum:=Aq (ks:=[.t .bytes,.t .i64,.t .cell]) Anb
noncomputable def Bzu:=A4 56 Aum Bzt
theorem Bkw:Dd Try.prog Bzu:=Am A6g Bkv
def LU (a0:List UInt8):Bool:=(Ak a0).fst==(0:Int)
def LT (a0:List UInt8):Bool:=(Ak a0).snd.snd !=(0:Int)
def LS (a0:List UInt8):Bool:=!Cg (TStamp.mk ((Ak a0).fst.fdiv (2:Int)) (IntKind.i64.wrap (IntKind.i64.wrap (↑(BitVec.ofInt (64:Nat) (Ak a0).fst &&& BitVec.ofInt (64:Nat) (1:Int)).toNat:Int)+(1:Int))))
def Q6 (a0:List UInt8):TStamp:=TStamp.mk (bif(LT a0) then(0:Int) else bif(LU a0) then(0:Int) else bif(LS a0) then(0:Int) else(Ak a0).fst.fdiv (2:Int)) (bif(LT a0) then(0:Int) else bif(LU a0) then(0:Int) else bif(LS a0) then(0:Int) else IntKind.i64.wrap (IntKind.i64.wrap (↑(BitVec.ofInt (64:Nat) (Ak a0).fst &&& BitVec.ofInt (64:Nat) (1:Int)).toNat:Int)+(1:Int)))
def Yu (a0:List UInt8):Int:=bif(LT a0) then(0:Int) else bif(LU a0) then(Ak a0).snd.fst else bif(LS a0) then(0:Int) else(Ak a0).snd.fst
def Yv (a0:List UInt8):Int:=bif(LT a0) then(Ak a0).snd.snd else bif(LU a0) then(0:Int) else bif(LS a0) then(11:Int) else(0:Int)
def Q7 (a0:List UInt8):A:=.v (.tuple ⟨[.agg ⟨[.int .i64 ((Q6 a0).n),.int .i64 ((Q6 a0).site)]⟩,.int .i64 (Yu a0),.int .i64 (Yv a0)]⟩)
def Aqg (_a0:List UInt8):Objs:=[]
def Ai1 (_a0:List UInt8):List Prop:=[]
theorem A90 (a0:List UInt8):Ff (As Bzu L0) 9 115 [Af .bytes a0] 0 []=some (1,Q7 a0,0,Aqg a0,Ai1 a0):=by kernel_rfl
theorem Bga (a0:List UInt8) (hp:∀p∈Ai1 a0,p):CallOk Try.prog 115 [Af .bytes a0] 0 [] 1 (Q7 a0) 0 (Aqg a0):=Az (An Bkw Ay) (A90 a0) hp
def OA (a0:List UInt8):A:=.v (.tuple ⟨[.agg ⟨[.int .i64 (F7 a0).1.n,.int .i64 (F7 a0).1.site]⟩,.int .i64 (F7 a0).2.1,.int .i64 (F7 a0).2.2]⟩)
def Ai0 (_a0:List UInt8):Objs:=[]
def Abi (_a0:List UInt8):List Prop:=[]
theorem A9z (b:List UInt8):(Q6 b,Yu b,Yv b)=F7 b:=by
 obtain⟨_,_,_,hn0,hn1⟩:=Hs b
 have hok:okN (Ak b).1:=⟨hn0,hn1⟩
 unfold Q6 Yu Yv LS LT LU F7 B0r
 rw[Bv0 hok,Kp,Int.fdiv_eq_ediv_of_nonneg _ (by decide)]
 by_cases he:(Ak b).2.2=0
 ·have e1:((Ak b).2.2 !=(0:Int))=false:=by rw[he];rfl
  rw[e1,if_neg (by rw[he];simp)]
  by_cases hz:(Ak b).1=0
  ·have e2:((Ak b).1==(0:Int))=true:=by rw[hz];rfl
   rw[e2,if_pos hz]
   rfl
  ·have e2:((Ak b).1==(0:Int))=false:=by simpa using hz
   rw[e2,if_neg hz]
   cases hg:HJ ⟨(Ak b).1 / 2,1+(Ak b).1 % 2⟩ with
   |true=>rfl
   |false=>rfl
 ·have e1:((Ak b).2.2 !=(0:Int))=true:=by simpa using he
  rw[e1,if_pos he]
  rfl
theorem A9y (a0:List UInt8) (_hp:∀p∈Abi a0,p):CallOk Try.prog 115 [Af .bytes a0] 0 [] 1 (OA a0) 0 (Ai0 a0):=by
 have h:=Bga a0 Ad
 have hr:Q7 a0=OA a0:=by unfold Q7 OA;rw[←A9z]
 rw[hr] at h
 exact h
def Aqh:List A→Nat→Objs→Option A3:=Bg [.t .bytes] 0 OA Ai0 Abi
theorem A23:Fi Try.prog 115 Aqh:=Aq (ks:=[.t .bytes]) A9y
noncomputable def Bzv:=A4 115 Aqh Bzu
theorem Bkx:Dd Try.prog Bzv:=Am A23 Bkw
def Et (a0:List UInt8):Bool:=(Ak (List.take ((↑a0.length:Int).toNat - (0:Nat)) (List.drop (0:Nat) a0))).snd.snd !=(0:Int)
def DO (a0:List UInt8):Int:=IntKind.i64.wrap ((0:Int)+(Ak (List.take ((↑a0.length:Int).toNat - (0:Nat)) (List.drop (0:Nat) a0))).snd.fst)
def UL (a0:List UInt8):Int:=bif(Et a0) then(0:Int) else(0:Int)
def KT (a0:List UInt8):Int:=(Ak (List.take ((↑a0.length:Int).toNat - (DO a0).toNat) (List.drop (DO a0).toNat a0))).snd.snd
def P6 (a0:List UInt8):Bool:=!BN (TVec.mk (Ak (List.take ((↑a0.length:Int).toNat - (0:Nat)) (List.drop (0:Nat) a0))).fst (Ak (List.take ((↑a0.length:Int).toNat - (DO a0).toNat) (List.drop (DO a0).toNat a0))).fst)
def P5 (a0:List UInt8):Bool:=(Et a0)||(KT a0) !=(0:Int)
def Y4 (a0:List UInt8):TVec:=TVec.mk (bif(P5 a0) then(UL a0) else bif(P6 a0) then(0:Int) else(Ak (List.take ((↑a0.length:Int).toNat - (0:Nat)) (List.drop (0:Nat) a0))).fst) (bif(P5 a0) then(UL a0) else bif(P6 a0) then(0:Int) else(Ak (List.take ((↑a0.length:Int).toNat - (DO a0).toNat) (List.drop (DO a0).toNat a0))).fst)
def Amx (a0:List UInt8):Int:=bif(P5 a0) then(UL a0) else bif(P6 a0) then(0:Int) else IntKind.i64.wrap ((DO a0)+(Ak (List.take ((↑a0.length:Int).toNat - (DO a0).toNat) (List.drop (DO a0).toNat a0))).snd.fst)
def Amy (a0:List UInt8):Int:=bif(P5 a0) then bif(Et a0) then(Ak (List.take ((↑a0.length:Int).toNat - (0:Nat)) (List.drop (0:Nat) a0))).snd.snd else(KT a0) else bif(P6 a0) then(11:Int) else(0:Int)
def Y5 (a0:List UInt8):A:=.v (.tuple ⟨[.agg ⟨[.int .i64 ((Y4 a0).a),.int .i64 ((Y4 a0).b)]⟩,.int .i64 (Amx a0),.int .i64 (Amy a0)]⟩)
def A5g (_a0:List UInt8):Objs:=[]
def A0q (a0:List UInt8):List Prop:=[((!(Et a0))=true→(0:Int)≤(DO a0)∧(DO a0)≤(↑a0.length:Int)∧(↑a0.length:Int)≤(↑a0.length:Int))]
theorem Bj6 (a0:List UInt8):Ff (As Bzv L0) 9 116 [Af .bytes a0] 0 []=some (1,Y5 a0,0,A5g a0,[((0:Int)≤(0:Int)∧(0:Int)≤(↑a0.length:Int)∧(↑a0.length:Int)≤(↑a0.length:Int)),((!(Et a0))=true→(0:Int)≤(0:Int)∧(0:Int) <(2:Int)),((!(Et a0))=true→(0:Nat) <(2:Nat)),((!(Et a0))=true→(0:Int)≤(DO a0)∧(DO a0)≤(↑a0.length:Int)∧(↑a0.length:Int)≤(↑a0.length:Int)),((!(Et a0))=true→(!(KT a0) !=(0:Int))=true→(0:Int)≤(1:Int)∧(1:Int) <(2:Int)),((!(Et a0))=true→(!(KT a0) !=(0:Int))=true→(1:Nat) <(2:Nat))]):=by kernel_rfl
theorem Bpl (a0:List UInt8) (hp:∀p∈A0q a0,p):CallOk Try.prog 116 [Af .bytes a0] 0 [] 1 (Y5 a0) 0 (A5g a0):=by
 have n0:((0:Int)≤(0:Int)∧(0:Int)≤(↑a0.length:Int)∧(↑a0.length:Int)≤(↑a0.length:Int)):=by omega
 have n1:((!(Et a0))=true→(0:Int)≤(0:Int)∧(0:Int) <(2:Int)):=by omega
 have n2:((!(Et a0))=true→(0:Nat) <(2:Nat)):=by omega
 have n3:=N0 hp
 have n4:((!(Et a0))=true→(!(KT a0) !=(0:Int))=true→(0:Int)≤(1:Int)∧(1:Int) <(2:Int)):=by omega
 have n5:((!(Et a0))=true→(!(KT a0) !=(0:Int))=true→(1:Nat) <(2:Nat)):=by omega
 exact Az (An Bkx Ay) (Bj6 a0) (Aa n0 (Aa n1 (Aa n2 (Aa n3 (Aa n4 (Aa n5 Ad))))))
def UM (a0:List UInt8):A:=.v (.tuple ⟨[.agg ⟨[.int .i64 (FN a0).1.a,.int .i64 (FN a0).1.b]⟩,.int .i64 (FN a0).2.1,.int .i64 (FN a0).2.2]⟩)
def A0p (_a0:List UInt8):Objs:=[]
def Aqm (_a0:List UInt8):List Prop:=[]
theorem EA {b:List UInt8} {k:Int}:List.take (((b.length:Nat):Int).toNat - k.toNat) (List.drop k.toNat b)=b.drop k.toNat:=by
 rw[Int.toNat_natCast]
 exact List.take_of_length_le (by rw[List.length_drop];exact Nat.le_refl _)
theorem Bj5 (b:List UInt8):(∀p∈A0q b,p)∧(Y4 b,Amx b,Amy b)=FN b:=by
 obtain⟨hk0,hk1,hk2,hn0,hn1⟩:=Hs b
 have e0:List.take (((b.length:Nat):Int).toNat - (0:Nat)) (List.drop (0:Nat) b)=b:=by
  simp
 have k4:DO b=(Ak b).2.1:=by
  unfold DO
  rw[e0,i64_in (by omega)]
  omega
 refine⟨Aa (fun _=>?_) Ad,?_⟩
 ·rw[k4];omega
 ·unfold Y4 Amx Amy P5 P6 KT UL Et FN
  rw[k4,e0,EA,K4]
  obtain⟨hj0,hj1,hj2,hm0,hm1⟩:=Hs (b.drop (Ak b).2.1.toNat)
  rw[i64_in (n:=(Ak b).2.1+_) (by omega)]
  by_cases he:(Ak b).2.2=0
  ·have e1:((Ak b).2.2 !=(0:Int))=false:=by rw[he];rfl
   rw[e1,if_neg (by rw[he];simp)]
   by_cases he2:(Ak (b.drop (Ak b).2.1.toNat)).2.2=0
   ·have e2:((Ak (b.drop (Ak b).2.1.toNat)).2.2 !=(0:Int))=false:=by rw[he2];rfl
    rw[e2,if_neg (by rw[he2];simp)]
    cases hg:CL ⟨(Ak b).1,(Ak (b.drop (Ak b).2.1.toNat)).1⟩ with
    |true=>rfl
    |false=>rfl
   ·have e2:((Ak (b.drop (Ak b).2.1.toNat)).2.2 !=(0:Int))=true:=by simpa using he2
    rw[e2,if_pos he2]
    rfl
  ·have e1:((Ak b).2.2 !=(0:Int))=true:=by simpa using he
   rw[e1,if_pos he]
   rfl
theorem Bj4 (a0:List UInt8) (_hp:∀p∈Aqm a0,p):CallOk Try.prog 116 [Af .bytes a0] 0 [] 1 (UM a0) 0 (A0p a0):=by
 obtain⟨h1,h2⟩:=Bj5 a0
 have h:=Bpl a0 h1
 have hr:Y5 a0=UM a0:=by unfold Y5 UM;rw[←h2]
 rw[hr] at h
 exact h
def A5h:List A→Nat→Objs→Option A3:=Bg [.t .bytes] 0 UM A0p Aqm
theorem Bgi:Fi Try.prog 116 A5h:=Aq (ks:=[.t .bytes]) Bj4
noncomputable def Bqd:=A4 116 A5h Bzv
theorem Bax:Dd Try.prog Bqd:=Am Bgi Bkx
def H5 (a0:List UInt8) (_a1:Int):Bool:=(Ak a0).snd.snd !=(0:Int)
def H4 (a0:List UInt8) (_a1:Int):Int:=IntKind.i64.wrap ((Ak a0).snd.fst+(Ak a0).fst)
def H3 (a0:List UInt8) (a1:Int):Bool:=decide ((Ak a0).fst >a1)
def H2 (a0:List UInt8) (a1:Int):Bool:=(H5 a0 a1)||((H3 a0 a1)||decide (IntKind.i64.wrap ((↑a0.length:Int) - (Ak a0).snd.fst) <(Ak a0).fst))
def RH (a0:List UInt8) (a1:Int):ByteArray:=bif(H2 a0 a1) then bif(H5 a0 a1) then ByteArray.mk #[] else bif(H3 a0 a1) then ByteArray.mk #[] else ByteArray.mk #[] else ByteArray.mk (List.take ((H4 a0 a1).toNat - (Ak a0).snd.fst.toNat) (List.drop (Ak a0).snd.fst.toNat a0)).toArray
def RI (a0:List UInt8) (a1:Int):Int:=bif(H2 a0 a1) then bif(H5 a0 a1) then(0:Int) else bif(H3 a0 a1) then(0:Int) else(0:Int) else(H4 a0 a1)
def RJ (a0:List UInt8) (a1:Int):Int:=bif(H2 a0 a1) then bif(H5 a0 a1) then(Ak a0).snd.snd else bif(H3 a0 a1) then(3:Int) else(10:Int) else(0:Int)
def MM (a0:List UInt8) (a1:Int):A:=.v (.tuple ⟨[.string (RH a0 a1),.int .i64 (RI a0 a1),.int .i64 (RJ a0 a1)]⟩)
def Z9 (_a0:List UInt8) (_a1:Int):Objs:=[]
def Pn (a0:List UInt8) (a1:Int):List Prop:=[((!(H2 a0 a1))=true→(0:Int)≤(Ak a0).snd.fst∧(Ak a0).snd.fst≤(H4 a0 a1)∧(H4 a0 a1)≤(↑a0.length:Int))]
theorem Awx (a0:List UInt8) (a1:Int):Ff (As Bqd L0) 9 117 [Af .bytes a0,Af .i64 a1] 0 []=some (1,MM a0 a1,0,Z9 a0 a1,Pn a0 a1):=by kernel_rfl
theorem A1w (a0:List UInt8) (a1:Int) (hp:∀p∈Pn a0 a1,p):CallOk Try.prog 117 [Af .bytes a0,Af .i64 a1] 0 [] 1 (MM a0 a1) 0 (Z9 a0 a1):=Az (An Bax Ay) (Awx a0 a1) hp
def LG (a0:List UInt8) (a1:Int):A:=.v (.tuple ⟨[.string (Wl a0 a1).1,.int .i64 (Wl a0 a1).2.1,.int .i64 (Wl a0 a1).2.2]⟩)
def Xj (_a0:List UInt8) (_a1:Int):Objs:=[]
def U7 (a0:List UInt8) (_a1:Int):List Prop:=[Ag a0.length]
theorem Aww (b:List UInt8) (m:Int) (hb:Ag b.length):(∀p∈Pn b m,p)∧(RH b m,RI b m,RJ b m)=Wl b m:=by
 obtain⟨hk0,hk1,hk2,hn0,hn1⟩:=Hs b
 unfold Ag at hb
 have k2:H4 b m=(Ak b).2.1+(Ak b).1:=by
  unfold H4
  exact i64_in (by omega)
 have k0:H2 b m=((Ak b).2.2 !=0||(decide ((Ak b).1 >m)||decide ((b.length:Int) - (Ak b).2.1 <(Ak b).1))):=by
  unfold H2 H3 H5
  rw[i64_in (by omega)]
 refine⟨Aa (fun h=>?_) Ad,?_⟩
 ·rw[k0] at h
  rw[k2]
  simp only[Bool.not_eq_true',Bool.or_eq_false_iff,decide_eq_false_iff_not] at h
  omega
 ·unfold RH RI RJ H3 H5 Wl
  rw[k0,k2]
  by_cases he:(Ak b).2.2=0
  ·have e1:((Ak b).2.2 !=(0:Int))=false:=by rw[he];rfl
   rw[e1,if_neg (by rw[he];simp)]
   by_cases hm:(Ak b).1 >m
   ·rw[decide_eq_true hm,if_pos hm];rfl
   ·rw[decide_eq_false hm,if_neg hm]
    by_cases hc:(b.length:Int) - (Ak b).2.1 <(Ak b).1
    ·rw[decide_eq_true hc,if_pos hc];rfl
    ·rw[decide_eq_false hc,if_neg hc]
     have e3:((Ak b).2.1+(Ak b).1).toNat - (Ak b).2.1.toNat=(Ak b).1.toNat:=by omega
     rw[e3]
     rfl
  ·have e1:((Ak b).2.2 !=(0:Int))=true:=by simpa using he
   rw[e1,if_pos he]
   rfl
theorem Awv (a0:List UInt8) (a1:Int) (hp:∀p∈U7 a0 a1,p):CallOk Try.prog 117 [Af .bytes a0,Af .i64 a1] 0 [] 1 (LG a0 a1) 0 (Xj a0 a1):=by
 obtain⟨h1,h2⟩:=Aww a0 a1 (hp _ (List.mem_cons_self ..))
 have h:=A1w a0 a1 h1
 have hr:MM a0 a1=LG a0 a1:=by unfold MM LG;rw[←h2]
 rw[hr] at h
 exact h
def Aaa:List A→Nat→Objs→Option A3:=Bg [.t .bytes,.t .i64] 0 LG Xj U7
theorem Arp:Fi Try.prog 117 Aaa:=Aq (ks:=[.t .bytes,.t .i64]) Awv
noncomputable def Bqe:=A4 117 Aaa Bqd
theorem Bay:Dd Try.prog Bqe:=Am Arp Bax
noncomputable def Bqf:=A4 113 (inl (As Bqe L0) 9 113) Bqe
theorem Baz:Dd Try.prog Bqf:=Am (Acg (An Bay Ay) 9 113) Bay
def AM (a0:List UInt8) (_a1:Int):Int:=IntKind.i64.wrap ((0:Int)+(Ak a0).snd.fst)
def AN (a0:List UInt8) (a1:Int):Int:=IntKind.i64.wrap ((AM a0 a1)+(F7 (List.take ((↑a0.length:Int).toNat - (AM a0 a1).toNat) (List.drop (AM a0 a1).toNat a0))).snd.fst)
def Fe (a0:List UInt8) (a1:Int):Int:=bif(Ak a0).snd.snd==(0:Int)&&decide (IntKind.i64.wrap (↑(BitVec.ofInt (64:Nat) (Ak a0).fst &&& BitVec.ofInt (64:Nat) (1:Int)).toNat:Int) >(0:Int)) then bif !decide (IntKind.i64.wrap (↑(BitVec.ofInt (64:Nat) (Ak a0).fst &&& BitVec.ofInt (64:Nat) (2:Int)).toNat:Int) >(0:Int)) then(FN (List.take ((↑a0.length:Int).toNat - (AN a0 a1).toNat) (List.drop (AN a0 a1).toNat a0))).fst.2 else(FN (List.take ((↑a0.length:Int).toNat - (AN a0 a1).toNat) (List.drop (AN a0 a1).toNat a0))).fst.2 else(0:Int)
def Gi (a0:List UInt8) (a1:Int):Int:=bif(Ak a0).snd.snd==(0:Int)&&decide (IntKind.i64.wrap (↑(BitVec.ofInt (64:Nat) (Ak a0).fst &&& BitVec.ofInt (64:Nat) (1:Int)).toNat:Int) >(0:Int)) then bif !decide (IntKind.i64.wrap (↑(BitVec.ofInt (64:Nat) (Ak a0).fst &&& BitVec.ofInt (64:Nat) (2:Int)).toNat:Int) >(0:Int)) then(FN (List.take ((↑a0.length:Int).toNat - (AN a0 a1).toNat) (List.drop (AN a0 a1).toNat a0))).fst.1 else(FN (List.take ((↑a0.length:Int).toNat - (AN a0 a1).toNat) (List.drop (AN a0 a1).toNat a0))).fst.1 else(0:Int)
def Gh (a0:List UInt8) (a1:Int):Int:=bif(Ak a0).snd.snd==(0:Int)&&decide (IntKind.i64.wrap (↑(BitVec.ofInt (64:Nat) (Ak a0).fst &&& BitVec.ofInt (64:Nat) (1:Int)).toNat:Int) >(0:Int)) then bif !decide (IntKind.i64.wrap (↑(BitVec.ofInt (64:Nat) (Ak a0).fst &&& BitVec.ofInt (64:Nat) (2:Int)).toNat:Int) >(0:Int)) then(F7 (List.take ((↑a0.length:Int).toNat - (AM a0 a1).toNat) (List.drop (AM a0 a1).toNat a0))).fst.2 else(F7 (List.take ((↑a0.length:Int).toNat - (AM a0 a1).toNat) (List.drop (AM a0 a1).toNat a0))).fst.2 else(0:Int)
def Gg (a0:List UInt8) (a1:Int):Int:=bif(Ak a0).snd.snd==(0:Int)&&decide (IntKind.i64.wrap (↑(BitVec.ofInt (64:Nat) (Ak a0).fst &&& BitVec.ofInt (64:Nat) (1:Int)).toNat:Int) >(0:Int)) then bif !decide (IntKind.i64.wrap (↑(BitVec.ofInt (64:Nat) (Ak a0).fst &&& BitVec.ofInt (64:Nat) (2:Int)).toNat:Int) >(0:Int)) then(F7 (List.take ((↑a0.length:Int).toNat - (AM a0 a1).toNat) (List.drop (AM a0 a1).toNat a0))).fst.1 else(F7 (List.take ((↑a0.length:Int).toNat - (AM a0 a1).toNat) (List.drop (AM a0 a1).toNat a0))).fst.1 else(0:Int)
def ED (a0:List UInt8) (_a1:Int):Int:=bif(Ak a0).snd.snd==(0:Int)&&decide (IntKind.i64.wrap (↑(BitVec.ofInt (64:Nat) (Ak a0).fst &&& BitVec.ofInt (64:Nat) (1:Int)).toNat:Int) >(0:Int)) then bif !decide (IntKind.i64.wrap (↑(BitVec.ofInt (64:Nat) (Ak a0).fst &&& BitVec.ofInt (64:Nat) (2:Int)).toNat:Int) >(0:Int)) then(0:Int) else(0:Int) else(0:Int)
def BI (a0:List UInt8) (a1:Int):Int:=IntKind.i64.wrap ((AN a0 a1)+(FN (List.take ((↑a0.length:Int).toNat - (AN a0 a1).toNat) (List.drop (AN a0 a1).toNat a0))).snd.fst)
def EC (a0:List UInt8) (_a1:Int):Bool:=bif(Ak a0).snd.snd==(0:Int)&&decide (IntKind.i64.wrap (↑(BitVec.ofInt (64:Nat) (Ak a0).fst &&& BitVec.ofInt (64:Nat) (1:Int)).toNat:Int) >(0:Int)) then bif !decide (IntKind.i64.wrap (↑(BitVec.ofInt (64:Nat) (Ak a0).fst &&& BitVec.ofInt (64:Nat) (2:Int)).toNat:Int) >(0:Int)) then decide (IntKind.i64.wrap (↑(BitVec.ofInt (64:Nat) (Ak a0).fst &&& BitVec.ofInt (64:Nat) (2:Int)).toNat:Int) >(0:Int)) else decide (IntKind.i64.wrap (↑(BitVec.ofInt (64:Nat) (Ak a0).fst &&& BitVec.ofInt (64:Nat) (2:Int)).toNat:Int) >(0:Int)) else false
def Gf (a0:List UInt8) (a1:Int):ByteArray:=bif(Ak a0).snd.snd==(0:Int)&&decide (IntKind.i64.wrap (↑(BitVec.ofInt (64:Nat) (Ak a0).fst &&& BitVec.ofInt (64:Nat) (1:Int)).toNat:Int) >(0:Int)) then bif !decide (IntKind.i64.wrap (↑(BitVec.ofInt (64:Nat) (Ak a0).fst &&& BitVec.ofInt (64:Nat) (2:Int)).toNat:Int) >(0:Int)) then(Wl (List.take ((↑a0.length:Int).toNat - (BI a0 a1).toNat) (List.drop (BI a0 a1).toNat a0)) (64:Int)).fst else ByteArray.mk #[] else ByteArray.mk #[]
def AW (a0:List UInt8) (a1:Int):Int:=bif(Ak a0).snd.snd==(0:Int)&&decide (IntKind.i64.wrap (↑(BitVec.ofInt (64:Nat) (Ak a0).fst &&& BitVec.ofInt (64:Nat) (1:Int)).toNat:Int) >(0:Int)) then bif !decide (IntKind.i64.wrap (↑(BitVec.ofInt (64:Nat) (Ak a0).fst &&& BitVec.ofInt (64:Nat) (2:Int)).toNat:Int) >(0:Int)) then IntKind.i64.wrap ((BI a0 a1)+(Wl (List.take ((↑a0.length:Int).toNat - (BI a0 a1).toNat) (List.drop (BI a0 a1).toNat a0)) (64:Int)).snd.fst) else(BI a0 a1) else(AM a0 a1)
def AB (a0:List UInt8) (a1:Int):Bool:=(bif(Ak a0).snd.snd==(0:Int)&&decide (IntKind.i64.wrap (↑(BitVec.ofInt (64:Nat) (Ak a0).fst &&& BitVec.ofInt (64:Nat) (1:Int)).toNat:Int) >(0:Int)) then bif !decide (IntKind.i64.wrap (↑(BitVec.ofInt (64:Nat) (Ak a0).fst &&& BitVec.ofInt (64:Nat) (2:Int)).toNat:Int) >(0:Int)) then(Ak a0).snd.snd==(0:Int)&&(F7 (List.take ((↑a0.length:Int).toNat - (AM a0 a1).toNat) (List.drop (AM a0 a1).toNat a0))).snd.snd==(0:Int)&&(FN (List.take ((↑a0.length:Int).toNat - (AN a0 a1).toNat) (List.drop (AN a0 a1).toNat a0))).snd.snd==(0:Int)&&(Wl (List.take ((↑a0.length:Int).toNat - (BI a0 a1).toNat) (List.drop (BI a0 a1).toNat a0)) (64:Int)).snd.snd==(0:Int) else(Ak a0).snd.snd==(0:Int)&&(F7 (List.take ((↑a0.length:Int).toNat - (AM a0 a1).toNat) (List.drop (AM a0 a1).toNat a0))).snd.snd==(0:Int)&&(FN (List.take ((↑a0.length:Int).toNat - (AN a0 a1).toNat) (List.drop (AN a0 a1).toNat a0))).snd.snd==(0:Int) else(Ak a0).snd.snd==(0:Int))&&decide (IntKind.i64.wrap (↑(BitVec.ofInt (64:Nat) (Ak a0).fst &&& BitVec.ofInt (64:Nat) (4:Int)).toNat:Int) >(0:Int))
def EB (a0:List UInt8) (a1:Int):Bool:=(!bif(AB a0 a1) then(bif(Ak a0).snd.snd==(0:Int)&&decide (IntKind.i64.wrap (↑(BitVec.ofInt (64:Nat) (Ak a0).fst &&& BitVec.ofInt (64:Nat) (1:Int)).toNat:Int) >(0:Int)) then bif !decide (IntKind.i64.wrap (↑(BitVec.ofInt (64:Nat) (Ak a0).fst &&& BitVec.ofInt (64:Nat) (2:Int)).toNat:Int) >(0:Int)) then(Ak a0).snd.snd==(0:Int)&&(F7 (List.take ((↑a0.length:Int).toNat - (AM a0 a1).toNat) (List.drop (AM a0 a1).toNat a0))).snd.snd==(0:Int)&&(FN (List.take ((↑a0.length:Int).toNat - (AN a0 a1).toNat) (List.drop (AN a0 a1).toNat a0))).snd.snd==(0:Int)&&(Wl (List.take ((↑a0.length:Int).toNat - (BI a0 a1).toNat) (List.drop (BI a0 a1).toNat a0)) (64:Int)).snd.snd==(0:Int) else(Ak a0).snd.snd==(0:Int)&&(F7 (List.take ((↑a0.length:Int).toNat - (AM a0 a1).toNat) (List.drop (AM a0 a1).toNat a0))).snd.snd==(0:Int)&&(FN (List.take ((↑a0.length:Int).toNat - (AN a0 a1).toNat) (List.drop (AN a0 a1).toNat a0))).snd.snd==(0:Int) else(Ak a0).snd.snd==(0:Int))&&(FN (List.take ((↑a0.length:Int).toNat - (AW a0 a1).toNat) (List.drop (AW a0 a1).toNat a0))).snd.snd==(0:Int) else bif(Ak a0).snd.snd==(0:Int)&&decide (IntKind.i64.wrap (↑(BitVec.ofInt (64:Nat) (Ak a0).fst &&& BitVec.ofInt (64:Nat) (1:Int)).toNat:Int) >(0:Int)) then bif !decide (IntKind.i64.wrap (↑(BitVec.ofInt (64:Nat) (Ak a0).fst &&& BitVec.ofInt (64:Nat) (2:Int)).toNat:Int) >(0:Int)) then(Ak a0).snd.snd==(0:Int)&&(F7 (List.take ((↑a0.length:Int).toNat - (AM a0 a1).toNat) (List.drop (AM a0 a1).toNat a0))).snd.snd==(0:Int)&&(FN (List.take ((↑a0.length:Int).toNat - (AN a0 a1).toNat) (List.drop (AN a0 a1).toNat a0))).snd.snd==(0:Int)&&(Wl (List.take ((↑a0.length:Int).toNat - (BI a0 a1).toNat) (List.drop (BI a0 a1).toNat a0)) (64:Int)).snd.snd==(0:Int) else(Ak a0).snd.snd==(0:Int)&&(F7 (List.take ((↑a0.length:Int).toNat - (AM a0 a1).toNat) (List.drop (AM a0 a1).toNat a0))).snd.snd==(0:Int)&&(FN (List.take ((↑a0.length:Int).toNat - (AN a0 a1).toNat) (List.drop (AN a0 a1).toNat a0))).snd.snd==(0:Int) else(Ak a0).snd.snd==(0:Int))||!((decide ((Ak a0).fst≤(7:Int))&&decide (IntKind.i64.wrap (↑(BitVec.ofInt (64:Nat) (Ak a0).fst &&& BitVec.ofInt (64:Nat) (1:Int)).toNat:Int) >(0:Int))==Fl (TCell.mk (TStamp.mk (bif(AB a0 a1) then(Gg a0 a1) else(Gg a0 a1)) (bif(AB a0 a1) then(Gh a0 a1) else(Gh a0 a1))) (TVec.mk (bif(AB a0 a1) then(Gi a0 a1) else(Gi a0 a1)) (bif(AB a0 a1) then(Fe a0 a1) else(Fe a0 a1))) (bif(AB a0 a1) then(EC a0 a1) else(EC a0 a1)) (bif(AB a0 a1) then(Gf a0 a1) else(Gf a0 a1)) (TVec.mk (bif(AB a0 a1) then(FN (List.take ((↑a0.length:Int).toNat - (AW a0 a1).toNat) (List.drop (AW a0 a1).toNat a0))).fst.1 else(ED a0 a1)) (bif(AB a0 a1) then(FN (List.take ((↑a0.length:Int).toNat - (AW a0 a1).toNat) (List.drop (AW a0 a1).toNat a0))).fst.2 else(ED a0 a1))))&&decide (IntKind.i64.wrap (↑(BitVec.ofInt (64:Nat) (Ak a0).fst &&& BitVec.ofInt (64:Nat) (2:Int)).toNat:Int) >(0:Int))==bif(AB a0 a1) then(EC a0 a1) else(EC a0 a1))&&decide (IntKind.i64.wrap (↑(BitVec.ofInt (64:Nat) (Ak a0).fst &&& BitVec.ofInt (64:Nat) (4:Int)).toNat:Int) >(0:Int))==!((bif(AB a0 a1) then(FN (List.take ((↑a0.length:Int).toNat - (AW a0 a1).toNat) (List.drop (AW a0 a1).toNat a0))).fst.1 else(ED a0 a1))==(0:Int)&&(bif(AB a0 a1) then(FN (List.take ((↑a0.length:Int).toNat - (AW a0 a1).toNat) (List.drop (AW a0 a1).toNat a0))).fst.2 else(ED a0 a1))==(0:Int)))||!AX a1 (TCell.mk (TStamp.mk (bif(AB a0 a1) then(Gg a0 a1) else(Gg a0 a1)) (bif(AB a0 a1) then(Gh a0 a1) else(Gh a0 a1))) (TVec.mk (bif(AB a0 a1) then(Gi a0 a1) else(Gi a0 a1)) (bif(AB a0 a1) then(Fe a0 a1) else(Fe a0 a1))) (bif(AB a0 a1) then(EC a0 a1) else(EC a0 a1)) (bif(AB a0 a1) then(Gf a0 a1) else(Gf a0 a1)) (TVec.mk (bif(AB a0 a1) then(FN (List.take ((↑a0.length:Int).toNat - (AW a0 a1).toNat) (List.drop (AW a0 a1).toNat a0))).fst.1 else(ED a0 a1)) (bif(AB a0 a1) then(FN (List.take ((↑a0.length:Int).toNat - (AW a0 a1).toNat) (List.drop (AW a0 a1).toNat a0))).fst.2 else(ED a0 a1))))
def HB (a0:List UInt8) (a1:Int):TCell:=TCell.mk (TStamp.mk (bif(EB a0 a1) then(0:Int) else bif(AB a0 a1) then(Gg a0 a1) else(Gg a0 a1)) (bif(EB a0 a1) then(0:Int) else bif(AB a0 a1) then(Gh a0 a1) else(Gh a0 a1))) (TVec.mk (bif(EB a0 a1) then(0:Int) else bif(AB a0 a1) then(Gi a0 a1) else(Gi a0 a1)) (bif(EB a0 a1) then(0:Int) else bif(AB a0 a1) then(Fe a0 a1) else(Fe a0 a1))) (bif(EB a0 a1) then false else bif(AB a0 a1) then(EC a0 a1) else(EC a0 a1)) (bif(EB a0 a1) then ByteArray.mk #[] else bif(AB a0 a1) then(Gf a0 a1) else(Gf a0 a1)) (TVec.mk (bif(EB a0 a1) then(0:Int) else bif(AB a0 a1) then(FN (List.take ((↑a0.length:Int).toNat - (AW a0 a1).toNat) (List.drop (AW a0 a1).toNat a0))).fst.1 else(ED a0 a1)) (bif(EB a0 a1) then(0:Int) else bif(AB a0 a1) then(FN (List.take ((↑a0.length:Int).toNat - (AW a0 a1).toNat) (List.drop (AW a0 a1).toNat a0))).fst.2 else(ED a0 a1)))
def Abu (a0:List UInt8) (a1:Int):Int:=bif(EB a0 a1) then(0:Int) else bif(AB a0 a1) then IntKind.i64.wrap ((AW a0 a1)+(FN (List.take ((↑a0.length:Int).toNat - (AW a0 a1).toNat) (List.drop (AW a0 a1).toNat a0))).snd.fst) else(AW a0 a1)
def Abv (a0:List UInt8) (a1:Int):Int:=bif(EB a0 a1) then(80:Int) else(0:Int)
def TJ (a0:List UInt8) (a1:Int):A:=.v (.tuple ⟨[.agg ⟨[.int .i64 ((HB a0 a1).stamp.n),.int .i64 ((HB a0 a1).stamp.site),.int .i64 ((HB a0 a1).vec.a),.int .i64 ((HB a0 a1).vec.b),.bool ((HB a0 a1).gone),.string ((HB a0 a1).value),.int .i64 ((HB a0 a1).dead.a),.int .i64 ((HB a0 a1).dead.b)]⟩,.int .i64 (Abu a0 a1),.int .i64 (Abv a0 a1)]⟩)
def Aui (_a0:List UInt8) (_a1:Int):Objs:=[]
def VV (a0:List UInt8) (a1:Int):List Prop:=[(((Ak a0).snd.snd==(0:Int)&&decide (IntKind.i64.wrap (↑(BitVec.ofInt (64:Nat) (Ak a0).fst &&& BitVec.ofInt (64:Nat) (1:Int)).toNat:Int) >(0:Int)))=true→(0:Int)≤(AM a0 a1)∧(AM a0 a1)≤(↑a0.length:Int)∧(↑a0.length:Int)≤(↑a0.length:Int)),(((Ak a0).snd.snd==(0:Int)&&decide (IntKind.i64.wrap (↑(BitVec.ofInt (64:Nat) (Ak a0).fst &&& BitVec.ofInt (64:Nat) (1:Int)).toNat:Int) >(0:Int)))=true→(0:Int)≤(AN a0 a1)∧(AN a0 a1)≤(↑a0.length:Int)∧(↑a0.length:Int)≤(↑a0.length:Int)),(((Ak a0).snd.snd==(0:Int)&&decide (IntKind.i64.wrap (↑(BitVec.ofInt (64:Nat) (Ak a0).fst &&& BitVec.ofInt (64:Nat) (1:Int)).toNat:Int) >(0:Int)))=true→(!decide (IntKind.i64.wrap (↑(BitVec.ofInt (64:Nat) (Ak a0).fst &&& BitVec.ofInt (64:Nat) (2:Int)).toNat:Int) >(0:Int)))=true→(0:Int)≤(BI a0 a1)∧(BI a0 a1)≤(↑a0.length:Int)∧(↑a0.length:Int)≤(↑a0.length:Int)),(((Ak a0).snd.snd==(0:Int)&&decide (IntKind.i64.wrap (↑(BitVec.ofInt (64:Nat) (Ak a0).fst &&& BitVec.ofInt (64:Nat) (1:Int)).toNat:Int) >(0:Int)))=true→(!decide (IntKind.i64.wrap (↑(BitVec.ofInt (64:Nat) (Ak a0).fst &&& BitVec.ofInt (64:Nat) (2:Int)).toNat:Int) >(0:Int)))=true→Ag (List.take ((↑a0.length:Int).toNat - (BI a0 a1).toNat) (List.drop (BI a0 a1).toNat a0)).length),((AB a0 a1)=true→(0:Int)≤(AW a0 a1)∧(AW a0 a1)≤(↑a0.length:Int)∧(↑a0.length:Int)≤(↑a0.length:Int))]
theorem Bb3 (a0:List UInt8) (a1:Int):Ff (As Bqf L0) 9 54 [Af .bytes a0,Af .i64 a1] 0 []=some (1,TJ a0 a1,0,Aui a0 a1,VV a0 a1):=by kernel_rfl
theorem Bhd (a0:List UInt8) (a1:Int) (hp:∀p∈VV a0 a1,p):CallOk Try.prog 54 [Af .bytes a0,Af .i64 a1] 0 [] 1 (TJ a0 a1) 0 (Aui a0 a1):=Az (An Baz Ay) (Bb3 a0 a1) hp
def Qi (a0:List UInt8) (a1:Int):A:=.v (.tuple ⟨[.agg ⟨[.int .i64 (Aq2 a0 a1).1.stamp.n,.int .i64 (Aq2 a0 a1).1.stamp.site,.int .i64 (Aq2 a0 a1).1.vec.a,.int .i64 (Aq2 a0 a1).1.vec.b,.bool (Aq2 a0 a1).1.gone,.string (Aq2 a0 a1).1.value,.int .i64 (Aq2 a0 a1).1.dead.a,.int .i64 (Aq2 a0 a1).1.dead.b]⟩,.int .i64 (Aq2 a0 a1).2.1,.int .i64 (Aq2 a0 a1).2.2]⟩)
def Am6 (_a0:List UInt8) (_a1:Int):Objs:=[]
def Ae5 (a0:List UInt8) (_a1:Int):List Prop:=[Ag a0.length]
theorem Bc2 (b:List UInt8):0≤(F7 b).2.1∧(F7 b).2.1≤(b.length:Int):=by
 obtain⟨h1,h2,_⟩:=Hs b
 unfold F7
 split
 ·exact⟨Int.le_refl _,by show(0:Int)≤(b.length:Int);omega⟩
 ·split
  ·exact⟨h1,h2⟩
  ·exact⟨Int.le_refl _,by show(0:Int)≤(b.length:Int);omega⟩
theorem Anm (b:List UInt8):0≤(FN b).2.1∧(FN b).2.1≤(b.length:Int):=by
 obtain⟨h1,h2,_⟩:=Hs b
 obtain⟨h3,h4,_⟩:=Hs (b.drop (Ak b).2.1.toNat)
 rw[List.length_drop] at h4
 unfold FN
 split
 ·exact⟨Int.le_refl _,by show(0:Int)≤(b.length:Int);omega⟩
 ·split
  ·exact⟨Int.le_refl _,by show(0:Int)≤(b.length:Int);omega⟩
  ·split
   ·exact⟨by show 0≤(Ak b).2.1+_;omega,by show(Ak b).2.1+_≤(b.length:Int);omega⟩
   ·exact⟨Int.le_refl _,by show(0:Int)≤(b.length:Int);omega⟩
theorem Bc3 (b:List UInt8) (m:Int):0≤(Wl b m).2.1∧(Wl b m).2.1≤(b.length:Int):=by
 obtain⟨h1,h2,_,h3,_⟩:=Hs b
 unfold Wl
 split
 ·exact⟨Int.le_refl _,by show(0:Int)≤(b.length:Int);omega⟩
 ·split
  ·exact⟨Int.le_refl _,by show(0:Int)≤(b.length:Int);omega⟩
  ·split
   ·exact⟨Int.le_refl _,by show(0:Int)≤(b.length:Int);omega⟩
   ·exact⟨by show 0≤(Ak b).2.1+_;omega,by show(Ak b).2.1+_≤(b.length:Int);omega⟩
theorem Bb2 (b:List UInt8) (p:Int) (hb:Ag b.length):(∀q∈VV b p,q)∧(HB b p,Abu b p,Abv b p)=Aq2 b p:=by
 unfold Ag at hb
 obtain⟨a1,a2,_,a3,a4⟩:=Hs b
 have hok:okN (Ak b).1:=⟨a3,a4⟩
 have B1:=Ae1 hok 0 1 rfl (by decide)
 have B2:=Ae1 hok 1 2 rfl (by decide)
 have B4:=Ae1 hok 2 4 rfl (by decide)
 have e12:AM b p=(Ak b).2.1:=by
  unfold AM
  rw[i64_in (by omega)];omega
 obtain⟨s1,s2⟩:=Bc2 (b.drop (Ak b).2.1.toNat)
 rw[List.length_drop] at s2
 have e11:AN b p=(Ak b).2.1+(F7 (b.drop (Ak b).2.1.toNat)).2.1:=by
  unfold AN
  rw[e12,EA,i64_in (by omega)]
 obtain⟨v1,v2⟩:=Anm (b.drop ((Ak b).2.1+(F7 (b.drop (Ak b).2.1.toNat)).2.1).toNat)
 rw[List.length_drop] at v2
 have e5:BI b p=(Ak b).2.1+(F7 (b.drop (Ak b).2.1.toNat)).2.1+(FN (b.drop ((Ak b).2.1+(F7 (b.drop (Ak b).2.1.toNat)).2.1).toNat)).2.1:=by
  unfold BI
  rw[e11,EA,i64_in (by omega)]
 obtain⟨t1,t2⟩:=Bc3 (b.drop ((Ak b).2.1+(F7 (b.drop (Ak b).2.1.toNat)).2.1+(FN (b.drop ((Ak b).2.1+(F7 (b.drop (Ak b).2.1.toNat)).2.1).toNat)).2.1).toNat) 64
 rw[List.length_drop] at t2
 have e2:AW b p=(stA b).2.2∧0≤(stA b).2.2∧(stA b).2.2≤(b.length:Int):=by
  unfold AW stA
  rw[e5,e12,EA,B1,B2]
  show(bif(Ak b).2.2==0&&Gq (Ak b).1 0 then bif !Gq (Ak b).1 1 then _ else _ else _)=_∧_
  rw[i64_in (by omega)]
  cases((Ak b).2.2==0&&Gq (Ak b).1 0)<;>cases Gq (Ak b).1 1<;>refine⟨rfl,?_,?_⟩<;>(first|exact a1|exact a2|(simp only[cond_true,cond_false,Bool.not_true,Bool.not_false];omega))
 obtain⟨e2,e2a,e2b⟩:=e2
 obtain⟨d1,d2⟩:=Anm (b.drop (stA b).2.2.toNat)
 rw[List.length_drop] at d2
 have hcell:(stA b).2.1=⟨⟨Gg b p,Gh b p⟩,⟨Gi b p,Fe b p⟩,EC b p,Gf b p,⟨0,0⟩⟩:=by
  unfold Gg Gh Gi Fe EC Gf stA
  rw[e11,e5,e12,EA,EA,EA,B1,B2]
  show _=TCell.mk (TStamp.mk (bif(Ak b).2.2==0&&Gq (Ak b).1 0 then bif !Gq (Ak b).1 1 then _ else _ else _) _) _ _ _ _
  show(bif(Ak b).2.2==0&&Gq (Ak b).1 0 then bif !Gq (Ak b).1 1 then _ else _ else _:Bool×TCell×Int).2.1=TCell.mk (TStamp.mk (bif(Ak b).2.2==0&&Gq (Ak b).1 0 then bif !Gq (Ak b).1 1 then _ else _ else _) (bif(Ak b).2.2==0&&Gq (Ak b).1 0 then bif !Gq (Ak b).1 1 then _ else _ else _)) (TVec.mk (bif(Ak b).2.2==0&&Gq (Ak b).1 0 then bif !Gq (Ak b).1 1 then _ else _ else _) (bif(Ak b).2.2==0&&Gq (Ak b).1 0 then bif !Gq (Ak b).1 1 then _ else _ else _)) (bif(Ak b).2.2==0&&Gq (Ak b).1 0 then bif !Gq (Ak b).1 1 then Gq (Ak b).1 1 else Gq (Ak b).1 1 else _) (bif(Ak b).2.2==0&&Gq (Ak b).1 0 then bif !Gq (Ak b).1 1 then _ else _ else _) _
  cases((Ak b).2.2==0&&Gq (Ak b).1 0)<;>cases Gq (Ak b).1 1<;>rfl
 have hok1:(bif(Ak b).2.2==0&&Gq (Ak b).1 0 then bif !Gq (Ak b).1 1 then(Ak b).2.2==0&&(F7 (b.drop (Ak b).2.1.toNat)).2.2==0&&(FN (b.drop ((Ak b).2.1+(F7 (b.drop (Ak b).2.1.toNat)).2.1).toNat)).2.2==0&&(Wl (b.drop ((Ak b).2.1+(F7 (b.drop (Ak b).2.1.toNat)).2.1+(FN (b.drop ((Ak b).2.1+(F7 (b.drop (Ak b).2.1.toNat)).2.1).toNat)).2.1).toNat) 64).2.2==0
   else(Ak b).2.2==0&&(F7 (b.drop (Ak b).2.1.toNat)).2.2==0&&(FN (b.drop ((Ak b).2.1+(F7 (b.drop (Ak b).2.1.toNat)).2.1).toNat)).2.2==0 else(Ak b).2.2==0)=(stA b).1:=by
  unfold stA
  cases((Ak b).2.2==0&&Gq (Ak b).1 0)<;>cases Gq (Ak b).1 1<;>rfl
 have e1:AB b p=((stA b).1&&Gq (Ak b).1 2):=by
  unfold AB
  rw[e11,e5,e12,EA,EA,EA,B1,B2,B4]
  show((bif(Ak b).2.2==0&&Gq (Ak b).1 0 then bif !Gq (Ak b).1 1 then _ else _ else _)&&Gq (Ak b).1 2)=_
  rw[hok1]
 have e6:ED b p=0:=by
  unfold ED
  cases((Ak b).2.2==0&&decide (IntKind.i64.wrap (↑(BitVec.ofInt (64:Nat) (Ak b).1 &&& BitVec.ofInt (64:Nat) (1:Int)).toNat:Int) >(0:Int)))<;>cases decide (IntKind.i64.wrap (↑(BitVec.ofInt (64:Nat) (Ak b).1 &&& BitVec.ofInt (64:Nat) (2:Int)).toNat:Int) >(0:Int))<;>rfl
 refine⟨Aa (fun _=>by rw[e12];omega) (Aa (fun _=>by rw[e11];omega) (Aa (fun _ _=>by rw[e5];omega) (Aa (fun _ _=>by rw[e5,EA,List.length_drop];unfold Ag;omega) (Aa (fun _=>by rw[e2];omega) Ad)))),?_⟩
 have hB1:(stB b).1=bif(stA b).1&&Gq (Ak b).1 2 then(stA b).1&&(FN (b.drop (stA b).2.2.toNat)).2.2==0 else(stA b).1:=by unfold stB;cases((stA b).1&&Gq (Ak b).1 2)<;>rfl
 have hB2:(stB b).2.1=TCell.mk (TStamp.mk (bif AB b p then Gg b p else Gg b p) (bif AB b p then Gh b p else Gh b p)) (TVec.mk (bif AB b p then Gi b p else Gi b p) (bif AB b p then Fe b p else Fe b p)) (bif AB b p then EC b p else EC b p) (bif AB b p then Gf b p else Gf b p) (TVec.mk (bif AB b p then(FN (b.drop (stA b).2.2.toNat)).1.1 else ED b p) (bif AB b p then(FN (b.drop (stA b).2.2.toNat)).1.2 else ED b p)):=by
  rw[e1]
  unfold stB
  cases((stA b).1&&Gq (Ak b).1 2) with
  |true=>simp only[cond_true];rw[hcell]
  |false=>simp only[cond_false];rw[hcell,e6]
 have hB3:(stB b).2.2=bif AB b p then(stA b).2.2+(FN (b.drop (stA b).2.2.toNat)).2.1 else(stA b).2.2:=by
  rw[e1]
  unfold stB
  cases((stA b).1&&Gq (Ak b).1 2)<;>rfl
 have e0:EB b p=(!(stB b).1||!A9e (Ak b).1 (stB b).2.1||!Bv p (stB b).2.1):=by
  unfold EB
  rw[e2,e11,e5,e12,EA,EA,EA,EA,IB,Kr,←hB2]
  rw[B1,B2,B4]
  show((!bif AB b p then(bif(Ak b).2.2==0&&Gq (Ak b).1 0 then bif !Gq (Ak b).1 1 then _ else _ else _)&&_ else(bif(Ak b).2.2==0&&Gq (Ak b).1 0 then bif !Gq (Ak b).1 1 then _ else _ else _))||_||_)=_
  rw[hok1,hB1,←e1]
  unfold A9e
  rw[hB2]
  rfl
 unfold HB Abu Abv Aq2
 rw[e0]
 cases(!(stB b).1||!A9e (Ak b).1 (stB b).2.1||!Bv p (stB b).2.1) with
 |true=>rfl
 |false=>
  simp only[cond_false]
  rw[hB3,e2,EA,hB2,i64_in (by omega)]
theorem Bb1 (a0:List UInt8) (a1:Int) (hp:∀p∈Ae5 a0 a1,p):CallOk Try.prog 54 [Af .bytes a0,Af .i64 a1] 0 [] 1 (Qi a0 a1) 0 (Am6 a0 a1):=by
 obtain⟨h1,h2⟩:=Bb2 a0 a1 (hp _ (List.mem_cons_self ..))
 have h:=Bhd a0 a1 h1
 have hr:TJ a0 a1=Qi a0 a1:=by unfold TJ Qi;rw[←h2]
 rw[hr] at h
 exact h
def Auj:List A→Nat→Objs→Option A3:=Bg [.t .bytes,.t .i64] 0 Qi Am6 Ae5
theorem A6d:Fi Try.prog 54 Auj:=Aq (ks:=[.t .bytes,.t .i64]) Bb1
noncomputable def Byj:=A4 54 Auj Bqf
theorem Bqg:Dd Try.prog Byj:=Am A6d Baz
noncomputable def Cd:=Byj
theorem Byk:Dd Try.prog Cd:=Bqg
end Go.Proofs.Yteebobbhhgmeiaa
namespace Go.Proofs.Yteebobbhhgmeiaa
open Go.RowKit
def Ado (a0:TVec):A:=.v (.bool (a0.1==(0:Int)&&a0.2==(0:Int)))
def Adn (_a0:TVec):Objs:=[]
def XW (_a0:TVec):List Prop:=[]
theorem Beu (a0:TVec):Ff (As Cd L0) 9 108 [Af .vec a0] 0 []=some (1,Ado a0,0,Adn a0,XW a0):=by kernel_rfl
theorem Bi0 (a0:TVec) (hp:∀p∈XW a0,p):CallOk Try.prog 108 [Af .vec a0] 0 [] 1 (Ado a0) 0 (Adn a0):=Az (An Byk Ay) (Beu a0) hp
def Ayc:List A→Nat→Objs→Option A3:=Bg [.t .vec] 0 Ado Adn XW
theorem A8s:Fi Try.prog 108 Ayc:=Aq (ks:=[.t .vec]) Bi0
noncomputable def Bzw:=A4 108 Ayc Cd
theorem Bky:Dd Try.prog Bzw:=Am A8s Byk
def Kl (a0:TCell):Bool:=a0.1.1 !=(0:Int)||a0.1.2 !=(0:Int)||a0.2.1 !=(0:Int)||a0.2.2 !=(0:Int)||a0.3||!a0.4.toList==(ByteArray.mk #[]).toList
def RQ (a0:TCell):A:=.v (.bool (Kl a0))
def RP (_a0:TCell):Objs:=[]
def PF (_a0:TCell):List Prop:=[]
theorem Ayb (a0:TCell):Ff (As Bzw L0) 9 106 [Af .cell a0] 0 []=some (1,RQ a0,0,RP a0,PF a0):=by kernel_rfl
theorem A2a (a0:TCell) (hp:∀p∈PF a0,p):CallOk Try.prog 106 [Af .cell a0] 0 [] 1 (RQ a0) 0 (RP a0):=Az (An Bky Ay) (Ayb a0) hp
def Aan:List A→Nat→Objs→Option A3:=Bg [.t .cell] 0 RQ RP PF
theorem Ar4:Fi Try.prog 106 Aan:=Aq (ks:=[.t .cell]) A2a
noncomputable def Bzx:=A4 106 Aan Bzw
theorem Bkz:Dd Try.prog Bzx:=Am Ar4 Bky
def PD (a0:Int) (a1:TCell):Bool:=bif a0==(1:Int)&&!(a1.5.1==(0:Int)&&a1.5.2==(0:Int))||a0==(2:Int)&&(a1.3||!ER a1.5)||a0 !=(1:Int)&&a0 !=(2:Int) then false else bif !Kl a1 then true else G4 a1.1&&decide (a1.1.1 >(0:Int))&&ER a1.2&&decide ((↑a1.4.size:Int)≤(64:Int))&&(!a1.3||a1.4.toList==(ByteArray.mk #[]).toList)
def Adi (a0:Int) (a1:TCell):A:=.v (.bool (PD a0 a1))
def Adh (_a0:Int) (_a1:TCell):Objs:=[]
def XQ (_a0:Int) (_a1:TCell):List Prop:=[]
theorem Ben (a0:Int) (a1:TCell):Ff (As Bzx L0) 9 42 [Af .i64 a0,Af .cell a1] 0 []=some (1,Adi a0 a1,0,Adh a0 a1,XQ a0 a1):=by kernel_rfl
theorem Biw (a0:Int) (a1:TCell) (hp:∀p∈XQ a0 a1,p):CallOk Try.prog 42 [Af .i64 a0,Af .cell a1] 0 [] 1 (Adi a0 a1) 0 (Adh a0 a1):=Az (An Bkz Ay) (Ben a0 a1) hp
def Ax5:List A→Nat→Objs→Option A3:=Bg [.t .i64,.t .cell] 0 Adi Adh XQ
theorem A8o:Fi Try.prog 42 Ax5:=Aq (ks:=[.t .i64,.t .cell]) Biw
noncomputable def B1r:=A4 42 Ax5 Bzx
theorem Bvb:Dd Try.prog B1r:=Am A8o Bkz
theorem XK (s:TStamp):G4 s=HJ s:=rfl
theorem QR (v:TVec):ER v=CL v:=by
 unfold ER CL
 rw[Bool.and_assoc]
theorem XV (c:TCell):Kl c=BR c:=by
 unfold Kl BR bne
 rw[RG]
 generalize (c.1.1==(0:Int))=a
 generalize (c.1.2==(0:Int))=b
 generalize (c.2.1==(0:Int))=d
 generalize (c.2.2==(0:Int))=e
 show(!a||!b||!d||!e||c.gone||!(c.4.size==0))=!(a&&b&&(d&&e)&&(!c.gone&&c.value.size==0))
 cases a<;>cases b<;>cases d<;>cases e<;>cases c.gone<;>simp
theorem Aov (p:Int) (c:TCell):PD p c=Bv p c:=by
 unfold PD Bv bne
 rw[XV,QR,QR,XK,RG]
 have h1:(p==(1:Int)&&!(c.5.1==(0:Int)&&c.5.2==(0:Int))||p==(2:Int)&&(c.3||!CL c.5)||!(p==(1:Int))&&!(p==(2:Int)))=(p==1&&!G8 c.dead||(p==2&&(c.gone||!CL c.dead)||!(p==1||p==2))):=by
  rw[Bool.or_assoc,Bool.not_or]
  rfl
 have h2:(!c.3||c.4.size==0)=!(c.gone&&!(c.value.size==0)):=by rw[Bool.not_and,Bool.not_not]
 rw[h1,h2]
noncomputable def Cf:=B1r
theorem Bqh:Dd Try.prog Cf:=Bvb
end Go.Proofs.Yteebobbhhgmeiaa
namespace Go.Proofs.Yteebobbhhgmeiaa
open Go.RowKit
theorem A43 {X:Type} (mk:Nat→X) (n:Nat) (stop:Nat→Bool) (next:X→X) (goes:X→Cnd) (ps:X→List Prop)
  (hg:∀i,i≤n→(∀j,j <i→stop j=false)→Bm (goes (mk i))=(decide (i <n)&&!stop i)) (hn:∀i,i <n→(∀j,j <i+1→stop j=false)→next (mk i)=mk (i+1)) (hp:∀i,i≤n→(∀j,j <i→stop j=false)→∀p∈ps (mk i),p):
  ∀(f i:Nat),i≤n→n≤i+f→(∀j,j <i→stop j=false)→
  AD next goes ps f (mk i)∧∃k,k≤n∧A9 next goes f (mk i)=mk k∧(∀j,j <k→stop j=false)∧(k <n→stop k=true)
 |0,i,hi,hf,hs=>by
  have hc:=hg i hi hs
  have:i=n:=by omega
  rw[decide_eq_false (by omega),Bool.false_and] at hc
  exact⟨⟨hp i hi hs,hc⟩,i,hi,rfl,hs,fun h=>by omega⟩
 | f +1,i,hi,hf,hs=>by
  have hc:=hg i hi hs
  cases hb:Bm (goes (mk i)) with
  | false=>
   have e:A9 next goes (f+1) (mk i)=mk i:=by
    show(bif Bm (goes (mk i)) then _ else mk i)=mk i
    rw[hb];rfl
   rw[e]
   refine⟨⟨hp i hi hs,fun h=>by rw[hb] at h;cases h⟩,i,hi,rfl,hs,fun h=>?_⟩
   rw[hb,decide_eq_true h,Bool.true_and] at hc
   cases hst:stop i with
   |true=>rfl
   |false=>rw[hst] at hc;cases hc
  | true=>
   rw[hb] at hc
   have h1:i <n:=by
    cases hd:decide (i <n) with
    |true=>exact of_decide_eq_true hd
    |false=>rw[hd] at hc;cases hc
   have h2:stop i=false:=by
    cases hst:stop i with
    |false=>rfl
    |true=>rw[hst,Bool.and_comm] at hc;cases hc
   have hs':∀j,j <i+1→stop j=false:=fun j hj=>by
    by_cases h:j <i
    ·exact hs j h
    ·obtain rfl:j=i:=by omega
     exact h2
   have e:A9 next goes (f+1) (mk i)=A9 next goes f (mk (i+1)):=by
    show(bif Bm (goes (mk i)) then A9 next goes f (next (mk i)) else mk i)=_
    rw[hb,hn i h1 hs'];rfl
   obtain⟨g1,g2⟩:=A43 mk n stop next goes ps hg hn hp f (i+1) h1 (by omega) hs'
   rw[e]
   exact⟨⟨hp i hi hs,fun _=>by rw[hn i h1 hs'];exact g1⟩,g2⟩
theorem Bo2 {X:Type} (mk:Nat→X) (n:Nat) (stop:Nat→Bool) (next:X→X) (goes:X→Cnd) (ps:X→List Prop) (f:Nat) (x:X) (hx:x=mk 0) (hf:n≤f)
  (hg:∀i,i≤n→(∀j,j <i→stop j=false)→Bm (goes (mk i))=(decide (i <n)&&!stop i)) (hn:∀i,i <n→(∀j,j <i+1→stop j=false)→next (mk i)=mk (i+1)) (hp:∀i,i≤n→(∀j,j <i→stop j=false)→∀p∈ps (mk i),p):
  AD next goes ps f x∧∃k,k≤n∧A9 next goes f x=mk k∧(∀j,j <k→stop j=false)∧(k <n→stop k=true):=by
 subst hx
 exact A43 mk n stop next goes ps hg hn hp f 0 (Nat.zero_le _) (by omega) fun j h=>absurd h (Nat.not_lt_zero _)
theorem Fd {i:Nat} (h:i <9223372036854775807):IntKind.i64.wrap ((i:Int)+1)=((i+1:Nat):Int):=by rw[i64_in (by omega)];omega
theorem M9 {i n:Nat}:decide ((i:Int) <(n:Int))=decide (i <n):=by
 by_cases h:i <n
 ·rw[decide_eq_true h,decide_eq_true (by omega)]
 ·rw[decide_eq_false h,decide_eq_false (by omega)]
theorem nn (b:Bool):(!!b)=b:=Bool.not_not b
theorem Bbi {α:Type} (l:List α) (d:α) (p:α→Bool) (k:Nat) (hk:k≤l.length) (h1:∀j,j <k→p (l.getD j d)=true) (h2:k <l.length→p (l.getD k d)=false):l.all p=decide (¬k <l.length):=by
 by_cases h:k <l.length
 ·rw[decide_eq_false (by omega)]
  have:=h2 h
  rw[List.getD_eq_getElem?_getD,List.getElem?_eq_getElem h,Option.getD_some] at this
  cases ha:l.all p with
  |false=>rfl
  |true=>rw[List.all_eq_true.1 ha _ (List.getElem_mem h)] at this;cases this
 ·rw[decide_eq_true (by omega)]
  refine List.all_eq_true.2 fun x hx=>?_
  obtain⟨i,hi,rfl⟩:=List.mem_iff_getElem.1 hx
  have:=h1 i (by omega)
  rw[List.getD_eq_getElem?_getD,List.getElem?_eq_getElem hi,Option.getD_some] at this
  exact this
def Ar (n:Nat):Prop:=n≤9223372036854775807
def J9 (n:Nat) (p:Nat→Bool):Bool:=(List.range n).all p
theorem Hm {n:Nat} {p:Nat→Bool}:J9 n p=true↔∀i,i <n→p i=true:=by
 unfold J9
 rw[List.all_eq_true]
 exact⟨fun h i hi=>h i (List.mem_range.2 hi),fun h i hi=>h i (List.mem_range.1 hi)⟩
theorem Ji {n:Nat} {p q:Nat→Bool} (h:∀i,i <n→p i=q i):J9 n p=J9 n q:=by
 rw[Bool.eq_iff_iff,Hm,Hm]
 exact⟨fun g i hi=>(h i hi)▸g i hi,fun g i hi=>(h i hi).symm▸g i hi⟩
theorem IW {X:Type} (mk:Nat→X) (n:Nat) (bad:Nat→Bool) (next:X→X) (goes:X→Cnd) (ps:X→List Prop) (f:Nat) (x:X) (hx:x=mk 0) (hf:n≤f)
  (hg:∀i,i≤n→(∀j,j <i→bad j=false)→Bm (goes (mk i))=(decide (i <n)&&!bad i)) (hn:∀i,i <n→(∀j,j <i+1→bad j=false)→next (mk i)=mk (i+1)) (hp:∀i,i≤n→(∀j,j <i→bad j=false)→∀p∈ps (mk i),p):
  AD next goes ps f x∧∃k,k≤n∧A9 next goes f x=mk k∧(∀j,j <k→bad j=false)∧(k <n→bad k=true)∧(decide (k <n)&&bad k)=!J9 n (fun i=>!bad i):=by
 obtain⟨h1,k,hk,h2,h3,h4⟩:=Bo2 mk n bad next goes ps f x hx hf hg hn hp
 refine⟨h1,k,hk,h2,h3,h4,?_⟩
 by_cases h:k <n
 ·rw[decide_eq_true h,h4 h]
  cases ha:J9 n (fun i=>!bad i) with
  |false=>rfl
  |true=>have:=Hm.1 ha k h;rw[h4 h] at this;cases this
 ·rw[decide_eq_false h,Hm.2 (fun i hi=>by rw[h3 i (by omega)];rfl)]
  rfl
theorem Bra {α:Type} (l:List α) (d:α) (p:α→Bool):l.all p=J9 l.length (fun i=>p (l.getD i d)):=by
 rw[Bool.eq_iff_iff,List.all_eq_true,Hm]
 constructor
 ·intro h i hi
  rw[List.getD_eq_getElem?_getD,List.getElem?_eq_getElem hi,Option.getD_some]
  exact h _ (List.getElem_mem hi)
 ·intro h x hx
  obtain⟨i,hi,rfl⟩:=List.mem_iff_getElem.1 hx
  have:=h i hi
  rw[List.getD_eq_getElem?_getD,List.getElem?_eq_getElem hi,Option.getD_some] at this
  exact this
theorem Bzd {α β:Type} (l:List α) (r:List β) (d:α) (e:β) (p:α→β→Bool) (h:r.length=l.length):(l.zip r).all (fun x=>p x.1 x.2)=J9 l.length (fun i=>p (l.getD i d) (r.getD i e)):=by
 rw[Bra (l.zip r) (d,e),List.length_zip,h,Nat.min_self]
 refine Ji fun i hi=>?_
 rw[List.getD_eq_getElem?_getD,List.getD_eq_getElem?_getD,List.getD_eq_getElem?_getD,List.getElem?_eq_getElem (by rw[List.length_zip];omega),List.getElem?_eq_getElem hi,List.getElem?_eq_getElem (by omega),List.getElem_zip]
 rfl
theorem B3c (n:Nat):(n==0)=!decide (1≤n):=by cases n<;>simp
theorem Aua (n:Nat):((n:Int)==0)=(n==0):=by cases n<;>simp;omega
theorem dgt (n k:Nat):decide ((n:Int) >(k:Int))=decide (k <n):=decide_eq_decide.2 (by omega)
instance:LawfulBEq ByteArray where
 rfl:=fun {a}=>by cases a with|mk a=>exact beq_self_eq_true a
 eq_of_beq:=fun {a b} h=>by
  cases a with|mk a=>cases b with|mk b=>exact congrArg ByteArray.mk (eq_of_beq (α:=Array UInt8) h)
theorem Au4:∀(m:List (ByteArray×Int)) (b:ByteArray) (v:Int) (x:ByteArray),Kf (Zy m b v) x=if x=b then v else Kf m x
 | [],b,v,x=>by
  by_cases h:x=b
  ·subst h;simp[Zy,Kf]
  ·simp[Zy,Kf,h,show(x==b)=false from beq_eq_false_iff_ne.2 h]
 | (a,n)::r,b,v,x=>by
  unfold Zy
  by_cases h:b=a
  ·subst h
   rw[show(b==b)=true from beq_self_eq_true b,cond_true]
   by_cases hx:x=b
   ·subst hx;simp[Kf]
   ·simp[Kf,hx,show(x==b)=false from beq_eq_false_iff_ne.2 hx]
  ·rw[show(b==a)=false from beq_eq_false_iff_ne.2 h,cond_false]
   by_cases hx:x=a
   ·subst hx
    rw[if_neg (fun e=>h e.symm)]
    simp[Kf]
   ·simp only[Kf,show(x==a)=false from beq_eq_false_iff_ne.2 hx,cond_false]
    exact Au4 r b v x
def WX (b:UInt8):Bool:=decide (97≤b.toNat)&&decide (b.toNat≤122)
def Ir (s:ByteArray):Bool:=s.data.toList.all WX&&(decide (1≤s.size)&&decide (s.size≤12))
def Ps (p:Int):Bool:=p==1||p==2
def Rm:List ByteArray→List TGroup→Int
 |_,[]=>0
 |seen,g::r=>bif !(Ir g.name&&Ps g.policy) then 2 else bif seen.any (fun s=>s==g.name) then 70 else Rm (seen++[g.name]) r
def AR (l:List TGroup):Int:=bif l.length==0 then 2 else bif decide (4 <l.length) then 3 else Rm [] l
theorem K2 (s:ByteArray):s.data.toList.length=s.size:=by show s.data.toList.length=s.data.size;exact Array.length_toList
theorem Br8 (s:ByteArray) (i:Nat) (h:i <s.size):s.data.toList.getD i 0=s[i]'h:=by
 rw[List.getD_eq_getElem?_getD,List.getElem?_eq_getElem (by rw[K2];exact h)]
 rfl
theorem Bf2 (s:ByteArray) (i:Nat) (h:i <s.size):(decide (((Utf8.decode s i).1:Int) <97)||decide (((Utf8.decode s i).1:Int) >122))=!WX (s.data.toList.getD i 0)∧(WX (s.data.toList.getD i 0)=true→(Utf8.decode s i).2=1):=by
 rw[Br8 s i h]
 by_cases hb:(s[i]'h).toNat <128
 ·rw[decode_ascii s i h hb]
  refine⟨?_,fun _=>rfl⟩
  unfold WX
  rw[Bool.not_and,←decide_not,←decide_not]
  congr 1<;>exact decide_eq_decide.2 (by omega)
 ·have h2:=(decode_high s i h (by omega)).1
  have hl:WX (s[i]'h)=false:=by unfold WX;rw[decide_eq_false (p:=(s[i]'h).toNat≤122) (by omega),Bool.and_false]
  rw[hl]
  refine⟨?_,fun h=>by cases h⟩
  rw[decide_eq_true (p:=((Utf8.decode s i).1:Int) >122) (by omega),Bool.or_true]
  rfl
theorem G7 {l:List TGroup} (h:AR l=0):1≤l.length∧l.length≤4:=by
 unfold AR at h
 cases h1:l.length==0 with
 |true=>rw[h1] at h;cases h
 | false=>
  rw[h1] at h
  cases h2:decide (4 <l.length) with
  |true=>rw[h2] at h;cases h
  |false=>
   have:=of_decide_eq_false h2
   have h3:l.length≠0:=by simpa using h1
   omega
theorem A31 (l:List TGroup) (k:Nat) (seen:List ByteArray):(∀j,j <k→j <l.length→(Ir (l.getD j (Ac TC.group)).name&&Ps (l.getD j (Ac TC.group)).policy)=true∧(seen++(l.take j).map (·.name)).any (fun s=>s==(l.getD j (Ac TC.group)).name)=false)→
  Rm seen l=Rm (seen++(l.take k).map (·.name)) (l.drop k):=by
 induction l generalizing k seen with
 |nil=>intro _;simp[Rm]
 | cons g r ih=>
  intro h
  cases k with
  |zero=>simp
  | succ k=>
   obtain⟨h1,h2⟩:=h 0 (Nat.succ_pos _) (Nat.succ_pos _)
   have h1':(Ir g.name&&Ps g.policy)=true:=h1
   have h2':seen.any (fun s=>s==g.name)=false:=by simpa using h2
   rw[Rm,h1',h2',Bool.not_true,cond_false,cond_false]
   rw[ih k (seen++[g.name]) (fun j hj hl=>by
    have:=h (j+1) (by omega) (by simpa using hl)
    simpa[List.append_assoc] using this)]
   simp[List.append_assoc]
def S0 (l:List TGroup):Nat→List (ByteArray×Int)
 |0=>[]
 |i+1=>Zy (S0 l i) (l.getD i (Ac TC.group)).1 (IntKind.i64.wrap (Kf (S0 l i) (l.getD i (Ac TC.group)).1+1))
def VD (l:List TGroup) (i:Nat):Bool:=!(Ir (l.getD i (Ac TC.group)).1&&Ps (l.getD i (Ac TC.group)).2)||((l.take i).map (·.name)).any (fun s=>s==(l.getD i (Ac TC.group)).1)
theorem Bj0 (l:List TGroup) (i:Nat) (h:i <l.length):(l.take (i+1)).map (·.name)=(l.take i).map (·.name)++[(l.getD i (Ac TC.group)).1]:=by
 rw[List.take_add_one,List.getD_eq_getElem?_getD,List.getElem?_eq_getElem h,List.map_append]
 rfl
theorem Au3 (l:List TGroup):∀(i:Nat),i≤l.length→(∀j,j <i→VD l j=false)→∀x,Kf (S0 l i) x=bif((l.take i).map (·.name)).any (fun s=>s==x) then 1 else 0
 |0,_,_,x=>by simp[S0,Kf]
 | i+1,hi,hs,x=>by
  have ih:=Au3 l i (by omega) (fun j hj=>hs j (by omega))
  have h:=hs i (Nat.lt_succ_self i)
  unfold VD at h
  have h2:=(Bool.or_eq_false_iff.1 h).2
  unfold S0
  rw[Au4,ih,h2,Bj0 l i (by omega),List.any_append,ih]
  by_cases hx:x=(l.getD i (Ac TC.group)).1
  ·subst hx
   rw[if_pos rfl]
   simp
   decide
  ·rw[if_neg hx]
   have:([(l.getD i (Ac TC.group)).1].any fun s=>s==x)=false:=by
    simp only[List.any_cons,List.any_nil,Bool.or_false]
    exact beq_eq_false_iff_ne.2 fun e=>hx e.symm
   rw[this,Bool.or_false]
end Go.Proofs.Yteebobbhhgmeiaa
namespace Go.Proofs.Yteebobbhhgmeiaa
open Go.RowKit
abbrev BF:Type:=ByteArray×Nat
def Je (x:BF):St:=⟨36,2,[(26,.own 1 0)],[(1,some (.sit x.1 x.2))]⟩
def KN:St→Option BF
 |⟨36,2,[(26,.own 1 0)],[(1,some (.sit z0 z1))]⟩=>some (z0,z1)
 |_=>none
theorem XE:∀s x,KN s=some x→s=Je x:=fun s x h=>by
 unfold KN at h
 split at h
 ·cases h;rfl
 ·cases h
def QP:De:=⟨2,2,[26],[],[(1,1)],[1],[2],[1]⟩
def Ahs:Dy:=⟨[],[(1,1)],[26],[1]⟩
def Fm (a0:ByteArray) (a1:Nat):Bool:=!!decide (a1 <a0.size)
def CW (a0:ByteArray) (a1:Nat):Bool:=(Fm a0 a1)&&(decide ((↑(Utf8.decode a0 a1).fst:Int) <(97:Int))||decide ((↑(Utf8.decode a0 a1).fst:Int) >(122:Int)))
def Zn (a0:ByteArray) (a1:Nat):Nat:=bif decide (a1 <a0.size) then a1+(Utf8.decode a0 a1).snd else a1
def Zo (a0:ByteArray) (a1:Nat):Bool:=(Fm a0 a1)&&!(CW a0 a1)
def Zp (a0:ByteArray) (a1:Nat):Nat:=bif decide (a1 <a0.size) then a1+(Utf8.decode a0 a1).snd else a1
def Zq (a0:ByteArray) (a1:Nat):Nat:=bif decide (a1 <a0.size) then a1+(Utf8.decode a0 a1).snd else a1
def DU (x:BF):BF:=(x.1,Zn x.1 x.2)
def DT (x:BF):Cnd:=some (Zo x.1 x.2)
def Oi (x:BF):List Prop:=[((Fm x.1 x.2)=true→decide (x.2 <x.1.size)=true)]
def G3 (_x:BF):List Prop:=[]
def Nh (x:BF):Bj:=[(some 0,some (!decide (x.2 <x.1.size)),⟨36,2,[(2,.dead)],[(1,some (.sit x.1 (Zp x.1 x.2)))]⟩),(none,some ((CW x.1 x.2)),⟨36,2,[(2,.v (.bool (false)))],[(1,some (.sit x.1 (Zq x.1 x.2)))]⟩)]
def Fo (x:BF):Nat:=x.1.size - x.2
def Kb (x:BF):BF:=A9 DU DT (Fo x) x
theorem Ac3 (a0:ByteArray) (a1:Nat):Bw (As Cf L0) 9 (Ae Try.prog 164 0) QP (Je (a0,a1))=some (Oi (a0,a1),Nh (a0,a1),DT (a0,a1),Je (DU (a0,a1))):=by kernel_rfl
theorem Ac4 (a0:ByteArray) (a1:Nat) (_hp:∀p∈G3 (a0,a1),p):∀p∈Oi (a0,a1),p:=by
 have n0:((Fm a0 a1)=true→decide (a1 <a0.size)=true):=by intro h;exact(Bool.not_not _).symm.trans h
 exact(Aa n0 Ad)
noncomputable def Oj:=HG (As Cf L0) (Ae Try.prog 164 0) QP Ahs KN Fo DU DT G3 Nh
theorem Zr:∀s b ps outs,Oj s=some (b,ps,outs)→Wf s ⟨ps,outs,none⟩∧Bt (As C0 L0) b s ps outs:=
 Bh (T:=Je) Bqh Ay (u:=9) (by kernel_rfl) (by decide) (fun⟨a0,a1⟩=>Ac3 a0 a1) (fun⟨a0,a1⟩=>Ac4 a0 a1) XE (fun _=>AK (n:=36) rfl) fun _ _=>rfl
noncomputable def QO:=DI 0 Oj L0
theorem Zm:G9 QO:=AV Zr Ay
def FV (a0:TGroup):Bool:=a0.1.toList==(ByteArray.mk #[]).toList||decide ((↑a0.1.size:Int) >(12:Int))||a0.2 !=(1:Int)&&a0.2 !=(2:Int)
def Py (a0:TGroup):Bool:=bif(FV a0) then false else bif CW (Kb (a0.1,(0:Nat))).fst (Kb (a0.1,(0:Nat))).snd then false else true
def Pz (a0:TGroup):A:=.v (.bool (Py a0))
def XF (_a0:TGroup):Objs:=[]
def Ve (a0:TGroup):List Prop:=[((!(FV a0))=true→AD DU DT G3 (Fo (a0.1,(0:Nat))) (a0.1,(0:Nat)))]
theorem Arv (a0:TGroup):Ff (As Cf QO) 9 164 [Af .group a0] 0 []=some (1,Pz a0,0,XF a0,[((!(FV a0))=true→Ae Try.prog (164:FuncId) (0:Nat)=Ae Try.prog (164:FuncId) (0:Nat)),((!(FV a0))=true→AD DU DT G3 (Fo (a0.1,(0:Nat))) (a0.1,(0:Nat)))]):=by kernel_rfl
theorem Axn (a0:TGroup) (hp:∀p∈Ve a0,p):CallOk Try.prog 164 [Af .group a0] 0 [] 1 (Pz a0) 0 (XF a0):=by
 have n0:((!(FV a0))=true→Ae Try.prog (164:FuncId) (0:Nat)=Ae Try.prog (164:FuncId) (0:Nat)):=by intros;rfl
 have n1:=N0 hp
 exact Az (An Bqh Zm) (Arv a0) (Aa n0 (Aa n1 Ad))
def Vf (a0:TGroup):A:=.v (.bool (Ir a0.name&&Ps a0.policy))
def Vd (_a0:TGroup):Objs:=[]
def Tb (_a0:TGroup):List Prop:=[]
theorem Vc (g:TGroup):(∀p∈Ve g,p)∧Py g=(Ir g.name&&Ps g.policy):=by
 have hk0:∀i,CW g.1 i=(decide (i <g.1.size)&&!WX (g.1.data.toList.getD i 0)):=fun i=>by
  unfold CW Fm
  rw[nn]
  by_cases h:i <g.1.size
  ·rw[decide_eq_true h,Bool.true_and,Bool.true_and];exact(Bf2 g.1 i h).1
  ·rw[decide_eq_false h];rfl
 obtain⟨h1,k,hk,hx,hs,hst⟩:=Bo2 (fun i=>((g.1,i):ByteArray×Nat)) g.1.size (fun i=>!WX (g.1.data.toList.getD i 0)) DU DT G3 (Fo (g.1,0)) (g.1,0) rfl (Nat.le_refl _)
  (fun i _ _=>by
   show((!!decide (i <g.1.size))&&!CW g.1 i)=_
   rw[hk0,nn]
   cases decide (i <g.1.size)<;>rfl)
  (fun i hi hj=>by
   show(g.1,(bif decide (i <g.1.size) then i+(Utf8.decode g.1 i).snd else i))=(g.1,i+1)
   have h2:=hj i (Nat.lt_succ_self i)
   rw[decide_eq_true hi,cond_true,(Bf2 g.1 i hi).2 (by simpa using h2)])
  (fun _ _ _=>Ad)
 refine⟨Aa (fun _=>h1) Ad,?_⟩
 have hr:Kb (g.1,0)=(g.1,k):=hx
 have ha:g.1.data.toList.all WX=decide (¬k <g.1.size):=by
  have:=Bbi g.1.data.toList 0 WX k (by rw[K2];exact hk) (fun j hj=>by simpa using hs j hj) (fun h=>by rw[K2] at h;simpa using hst h)
  rw[K2] at this
  exact this
 unfold Py
 rw[hr]
 show(bif FV g then false else bif CW g.1 k then false else true)=_
 rw[hk0]
 unfold FV Ir Ps
 rw[RG]
 show _=(g.1.data.toList.all WX&&(decide (1≤g.1.size)&&decide (g.1.size≤12))&&(g.2==1||g.2==2))
 rw[ha]
 have e1:(g.1.size==0)=!decide (1≤g.1.size):=B3c _
 have e2:decide ((g.1.size:Int) >12)=!decide (g.1.size≤12):=by
  rw[←decide_not];exact decide_eq_decide.2 (by generalize g.1.size=m;omega)
 have e3:(g.2 !=1&&g.2 !=2)=!(g.2==1||g.2==2):=by simp[bne]
 rw[e1,e2,e3]
 by_cases h:k <g.1.size
 ·have:=hst h
  rw[this,decide_eq_true h,decide_eq_false (not_not_intro h)]
  simp
 ·rw[decide_eq_false h,decide_eq_true h]
  cases decide (1≤g.1.size)<;>cases decide (g.1.size≤12)<;>cases(g.2==1||g.2==2)<;>rfl
theorem Aru (a0:TGroup) (_hp:∀p∈Tb a0,p):CallOk Try.prog 164 [Af .group a0] 0 [] 1 (Vf a0) 0 (Vd a0):=by
 have h:=Axn a0 (Vc a0).1
 unfold Pz at h
 rw[(Vc a0).2] at h
 exact h
def XG:List A→Nat→Objs→Option A3:=Bg [.t .group] 0 Vf Vd Tb
theorem Alf:Fi Try.prog 164 XG:=Aq (ks:=[.t .group]) Aru
noncomputable def Bqi:=A4 164 XG Cf
theorem A5o:Dd Try.prog Bqi:=Am Alf Bqh
abbrev Bn:Type:=(List TGroup)×Int×Int×(List (U .str×U .i64))
def JZ (x:Bn):St:=⟨35,1,[(3,.mp 0),(15,.sl .group x.1),(16,.v (.int .i64 x.2.1)),(17,.v (.int .i64 x.2.2.1))],[(0,some (.map .str .i64 x.2.2.2))]⟩
def LL:St→Option Bn
 |⟨35,1,[(3,.mp 0),(15,.sl .group z0),(16,.v (.int .i64 z1)),(17,.v (.int .i64 z2))],[(0,some (.map .str .i64 z3))]⟩=>some (z0,z1,z2,z3)
 |_=>none
theorem Zl:∀s x,LL s=some x→s=JZ x:=fun s x h=>by
 unfold LL at h
 split at h
 ·cases h;rfl
 ·cases h
def Ta:De:=⟨1,1,[3,15,16,17],[],[(0,0)],[0],[2],[0]⟩
def Ale:Dy:=⟨[],[(0,0)],[3,15,16,17],[0]⟩
def Ey (a0:List TGroup) (_a1:Int) (a2:Int) (a3:List (U .str×U .i64)):List (ByteArray×Int):=Zy a3 (a0.getD a2.toNat (Ac TC.group)).1 (IntKind.i64.wrap (Kf a3 (a0.getD a2.toNat (Ac TC.group)).1+(1:Int)))
def Dm (a0:List TGroup) (a1:Int) (a2:Int) (a3:List (U .str×U .i64)):Bool:=!!decide (a2 <a1)&&(!(Ir (a0.getD a2.toNat (Ac TC.group)).1&&Ps (a0.getD a2.toNat (Ac TC.group)).2)||decide (Kf (Ey a0 a1 a2 a3) (a0.getD a2.toNat (Ac TC.group)).1 >(1:Int)))
def Ac0 (a0:List TGroup) (a1:Int) (a2:Int) (a3:List (U .str×U .i64)):List (U .str×U .i64):=(Ey a0 a1 a2 a3)
def Ac1 (a0:List TGroup) (a1:Int) (a2:Int) (a3:List (U .str×U .i64)):Bool:=!!decide (a2 <a1)&&!(Dm a0 a1 a2 a3)
def II (a0:List TGroup) (_a1:Int) (a2:Int) (_a3:List (U .str×U .i64)):Int:=bif !(Ir (a0.getD a2.toNat (Ac TC.group)).1&&Ps (a0.getD a2.toNat (Ac TC.group)).2) then(2:Int) else(70:Int)
def Zk (a0:List TGroup) (a1:Int) (a2:Int) (a3:List (U .str×U .i64)):List (U .str×U .i64):=bif !(Ir (a0.getD a2.toNat (Ac TC.group)).1&&Ps (a0.getD a2.toNat (Ac TC.group)).2) then a3 else(Ey a0 a1 a2 a3)
def Dp (x:Bn):Bn:=(x.1,x.2.1,IntKind.i64.wrap (x.2.2.1+(1:Int)),Ac0 x.1 x.2.1 x.2.2.1 x.2.2.2)
def Dn (x:Bn):Cnd:=some (Ac1 x.1 x.2.1 x.2.2.1 x.2.2.2)
def KM (x:Bn):List Prop:=[((!!decide (x.2.2.1 <x.2.1))=true→(0:Int)≤x.2.2.1∧x.2.2.1 <(↑x.1.length:Int))]
abbrev FE:Bn→List Prop:=KM
def Oh (x:Bn):Bj:=[(some 1,some (!decide (x.2.2.1 <x.2.1)),⟨35,1,[(2,.dead)],[(0,some (.map .str .i64 x.2.2.2))]⟩),(none,some ((Dm x.1 x.2.1 x.2.2.1 x.2.2.2)),⟨35,2,[(2,.v (.int .i64 (II x.1 x.2.1 x.2.2.1 x.2.2.2)))],[(0,some (.map .str .i64 (Zk x.1 x.2.1 x.2.2.1 x.2.2.2)))]⟩)]
def Ez (x:Bn):Nat:=(x.2.1 - x.2.2.1).toNat
def G2 (x:Bn):Bn:=A9 Dp Dn (Ez x) x
theorem Ahq (a0:List TGroup) (a1:Int) (a2:Int) (a3:List (U .str×U .i64)):Bw (As Bqi L0) 9 (Ae Try.prog 131 1) Ta (JZ (a0,a1,a2,a3))=some (KM (a0,a1,a2,a3),Oh (a0,a1,a2,a3),Dn (a0,a1,a2,a3),JZ (Dp (a0,a1,a2,a3))):=by kernel_rfl
theorem Ahr (a0:List TGroup) (a1:Int) (a2:Int) (a3:List (U .str×U .i64)) (hp:∀p∈FE (a0,a1,a2,a3),p):∀p∈KM (a0,a1,a2,a3),p:=hp
noncomputable def Px:=HG (As Bqi L0) (Ae Try.prog 131 1) Ta Ale LL Ez Dp Dn FE Oh
theorem Ac2:∀s b ps outs,Px s=some (b,ps,outs)→Wf s ⟨ps,outs,none⟩∧Bt (As C0 L0) b s ps outs:=
 Bh (T:=JZ) A5o Ay (u:=9) (by kernel_rfl) (by decide) (fun⟨a0,a1,a2,a3⟩=>Ahq a0 a1 a2 a3) (fun⟨a0,a1,a2,a3⟩=>Ahr a0 a1 a2 a3) Zl (fun _=>AK (n:=35) rfl) fun _ _=>rfl
noncomputable def S9:=DI 1 Px L0
theorem Acz:G9 S9:=AV Ac2 Ay
def Er (a0:List TGroup):Bool:=(↑a0.length:Int)==(0:Int)||decide ((↑a0.length:Int) >(4:Int))
def Pw (a0:List TGroup):List TGroup:=(G2 (a0,(↑a0.length:Int),(0:Int),[])).fst
def Pv (a0:List TGroup):Int:=(G2 (a0,(↑a0.length:Int),(0:Int),[])).snd.fst
def Pu (a0:List TGroup):List (U TC.str×U TC.i64):=(G2 (a0,(↑a0.length:Int),(0:Int),[])).snd.snd.snd
def Pt (a0:List TGroup):Int:=(G2 (a0,(↑a0.length:Int),(0:Int),[])).snd.snd.fst
def Kj (a0:List TGroup):Int:=bif(Er a0) then bif(↑a0.length:Int)==(0:Int) then(2:Int) else(3:Int) else bif Dm (Pw a0) (Pv a0) (Pt a0) (Pu a0) then II (Pw a0) (Pv a0) (Pt a0) (Pu a0) else(0:Int)
def RN (a0:List TGroup):A:=.v (.int .i64 (Kj a0))
def Aaf (_a0:List TGroup):Objs:=[]
def XA (a0:List TGroup):List Prop:=[((!(Er a0))=true→AD Dp Dn FE (Ez (a0,(↑a0.length:Int),(0:Int),[])) (a0,(↑a0.length:Int),(0:Int),[]))]
theorem Axm (a0:List TGroup):Ff (As Bqi S9) 9 131 [.sl .group a0] 0 []=some (1,RN a0,0,Aaf a0,[((!(Er a0))=true→Ae Try.prog (131:FuncId) (1:Nat)=Ae Try.prog (131:FuncId) (1:Nat)),((!(Er a0))=true→AD Dp Dn FE (Ez (a0,(↑a0.length:Int),(0:Int),[])) (a0,(↑a0.length:Int),(0:Int),[]))]):=by kernel_rfl
theorem A12 (a0:List TGroup) (hp:∀p∈XA a0,p):CallOk Try.prog 131 [.sl .group a0] 0 [] 1 (RN a0) 0 (Aaf a0):=by
 have n0:((!(Er a0))=true→Ae Try.prog (131:FuncId) (1:Nat)=Ae Try.prog (131:FuncId) (1:Nat)):=by intros;rfl
 have n1:=N0 hp
 exact Az (An A5o Acz) (Axm a0) (Aa n0 (Aa n1 Ad))
def XB (a0:List TGroup):A:=.v (.int .i64 (AR a0))
def Xz (_a0:List TGroup):Objs:=[]
def Vb (_a0:List TGroup):List Prop:=[]
theorem Xy (l:List TGroup):(∀p∈XA l,p)∧Kj l=AR l:=by
 have e4:Er l=(l.length==0||decide (4 <l.length)):=by
  unfold Er
  rw[Aua]
  congr 1
  exact dgt l.length 4
 have main:Er l=false→AD Dp Dn FE (Ez (l,(l.length:Int),0,[])) (l,(l.length:Int),0,[])∧Kj l=AR l:=fun h4=>by
  have hn4:l.length≤4:=by
   rw[e4] at h4
   have:=of_decide_eq_false (Bool.or_eq_false_iff.1 h4).2
   omega
  have hk0:∀i,i≤l.length→(∀j,j <i→VD l j=false)→Dm l (l.length:Int) (i:Int) (S0 l i)=(decide (i <l.length)&&VD l i):=fun i hi hs=>by
   unfold Dm Ey
   rw[Int.toNat_natCast,Au4,if_pos rfl,Au3 l i hi hs,nn,M9]
   unfold VD
   congr 2
   cases((l.take i).map (·.name)).any (fun s=>s==(l.getD i (Ac TC.group)).1)<;>rfl
  obtain⟨h1,k,hk,hx,hs,hst⟩:=Bo2 (fun i=>((l,(l.length:Int),(i:Int),S0 l i):Bn)) l.length (VD l) Dp Dn FE (Ez (l,(l.length:Int),0,[])) ((l,(l.length:Int),0,[]):Bn) rfl
   (by show l.length≤((l.length:Int) - 0).toNat;omega)
   (fun i hi hs=>by
    show((!!decide ((i:Int) <(l.length:Int)))&&!Dm l (l.length:Int) (i:Int) (S0 l i))=_
    rw[hk0 i hi hs,nn,M9]
    cases decide (i <l.length)<;>rfl)
   (fun i hi hs=>by
    show(l,(l.length:Int),IntKind.i64.wrap ((i:Int)+1),Ey l (l.length:Int) (i:Int) (S0 l i))=(l,(l.length:Int),((i+1:Nat):Int),S0 l (i+1))
    rw[Fd (by omega)]
    unfold Ey
    rw[Int.toNat_natCast]
    rfl)
   (fun i hi hs=>Aa (fun h=>by
    have h':(!!decide ((i:Int) <(l.length:Int)))=true:=h
    rw[nn] at h'
    have:=of_decide_eq_true h'
    show(0:Int)≤(i:Int)∧(i:Int) <(l.length:Int)
    omega) Ad)
  refine⟨h1,?_⟩
  have hr:G2 (l,(l.length:Int),0,[])=(l,(l.length:Int),(k:Int),S0 l k):=hx
  unfold Kj Pw Pv Pu Pt
  rw[hr,h4,cond_false]
  show(bif Dm l (l.length:Int) (k:Int) (S0 l k) then II l (l.length:Int) (k:Int) (S0 l k) else 0)=_
  rw[hk0 k hk hs]
  rw[e4] at h4
  obtain⟨h5,h6⟩:=Bool.or_eq_false_iff.1 h4
  unfold AR
  rw[h5,h6,cond_false,cond_false,A31 l k [] (fun j hj hl=>by
   have:=hs j hj
   unfold VD at this
   obtain⟨q1,q2⟩:=Bool.or_eq_false_iff.1 this
   exact⟨by rw[Bool.not_eq_false'] at q1;exact q1,by simpa using q2⟩),List.nil_append]
  by_cases hkl:k <l.length
  ·have hst':=hst hkl
   rw[hst',decide_eq_true hkl,Bool.and_true,cond_true]
   have hd:l.drop k=l.getD k (Ac TC.group)::l.drop (k+1):=by
    rw[List.getD_eq_getElem?_getD,List.getElem?_eq_getElem hkl,Option.getD_some]
    exact List.drop_eq_getElem_cons hkl
   rw[hd]
   unfold Rm II
   rw[Int.toNat_natCast]
   unfold VD at hst'
   show(bif !(Ir (l.getD k (Ac TC.group)).1&&Ps (l.getD k (Ac TC.group)).2) then(2:Int) else 70)=bif !(Ir (l.getD k (Ac TC.group)).1&&Ps (l.getD k (Ac TC.group)).2) then 2 else _
   cases hq:!(Ir (l.getD k (Ac TC.group)).1&&Ps (l.getD k (Ac TC.group)).2) with
   |true=>rfl
   |false=>
    rw[hq,Bool.false_or] at hst'
    have hst2:((l.take k).map (·.name)).any (fun s=>s==(l.getD k (Ac TC.group)).name)=true:=hst'
    rw[cond_false,cond_false,hst2]
    rfl
  ·rw[decide_eq_false hkl,Bool.false_and,cond_false,List.drop_eq_nil_of_le (by omega)]
   rfl
 cases h4:Er l with
 |false=>
  obtain⟨g1,g2⟩:=main h4
  exact⟨Aa (fun _=>g1) Ad,g2⟩
 | true=>
  refine⟨Aa (fun h=>by rw[h4] at h;cases h) Ad,?_⟩
  unfold Kj AR
  rw[h4,cond_true,Aua]
  rw[e4] at h4
  cases h5:l.length==0 with
  |true=>rfl
  |false=>
   rw[h5,Bool.false_or] at h4
   rw[h4]
   rfl
theorem Xx (a0:List TGroup) (_hp:∀p∈Vb a0,p):CallOk Try.prog 131 [.sl .group a0] 0 [] 1 (XB a0) 0 (Xz a0):=by
 have h:=A12 a0 (Xy a0).1
 unfold RN at h
 rw[(Xy a0).2] at h
 exact h
def Aag:List A→Nat→Objs→Option A3:=Bg [.l .group] 0 XB Xz Vb
theorem Art:Fi Try.prog 131 Aag:=Aq (ks:=[.l .group]) Xx
noncomputable def Bqj:=A4 131 Aag Bqi
theorem A5p:Dd Try.prog Bqj:=Am Art A5o
abbrev DD:Type:=ByteArray×Int
def MS (x:DD):St:=⟨28,0,[(0,.v (.string x.1)),(3,.v (.int .i64 x.2))],[]⟩
def PC:St→Option DD
 |⟨28,0,[(0,.v (.string z0)),(3,.v (.int .i64 z1))],[]⟩=>some (z0,z1)
 |_=>none
theorem Aln:∀s x,PC s=some x→s=MS x:=fun s x h=>by
 unfold PC at h
 split at h
 ·cases h;rfl
 ·cases h
def Aam:De:=⟨0,0,[0,3],[],[],[],[2],[]⟩
def A18:Dy:=⟨[],[],[0,3],[]⟩
def H8 (a0:ByteArray) (a1:Int):Bool:=!!decide (a1 <(↑a0.size:Int))
def EX (a0:ByteArray) (a1:Int):Bool:=(H8 a0 a1)&&(decide ((↑(a0.data.toList.getD a1.toNat (0:UInt8)).toNat:Int) <(97:Int))||decide ((↑(a0.data.toList.getD a1.toNat (0:UInt8)).toNat:Int) >(122:Int)))
def Ar2 (a0:ByteArray) (a1:Int):Bool:=(H8 a0 a1)&&!(EX a0 a1)
def GB (x:DD):DD:=(x.1,IntKind.i64.wrap (x.2+(1:Int)))
def GA (x:DD):Cnd:=some (Ar2 x.1 x.2)
def NI (x:DD):List Prop:=[((H8 x.1 x.2)=true→(0:Int)≤x.2∧x.2 <(↑x.1.size:Int)),((H8 x.1 x.2)=true→decide ((↑(x.1.data.toList.getD x.2.toNat (0:UInt8)).toNat:Int) <(97:Int))=false→(0:Int)≤x.2∧x.2 <(↑x.1.size:Int))]
abbrev JB:DD→List Prop:=NI
def Tg (x:DD):Bj:=[(some 0,some (!decide (x.2 <(↑x.1.size:Int))),⟨28,0,[(2,.dead)],[]⟩),(none,some ((EX x.1 x.2)),⟨28,0,[(2,.v (.bool (false)))],[]⟩)]
def H9 (x:DD):Nat:=((↑x.1.size:Int) - x.2).toNat
def NJ (x:DD):DD:=A9 GB GA (H9 x) x
theorem Ax1 (a0:ByteArray) (a1:Int):Bw (As Bqj L0) 9 (Ae Try.prog 163 0) Aam (MS (a0,a1))=some (NI (a0,a1),Tg (a0,a1),GA (a0,a1),MS (GB (a0,a1))):=by kernel_rfl
theorem Ax2 (a0:ByteArray) (a1:Int) (hp:∀p∈JB (a0,a1),p):∀p∈NI (a0,a1),p:=hp
noncomputable def Vk:=HG (As Bqj L0) (Ae Try.prog 163 0) Aam A18 PC H9 GB GA JB Tg
theorem Ar3:∀s b ps outs,Vk s=some (b,ps,outs)→Wf s ⟨ps,outs,none⟩∧Bt (As C0 L0) b s ps outs:=
 Bh (T:=MS) A5p Ay (u:=9) (by kernel_rfl) (by decide) (fun⟨a0,a1⟩=>Ax1 a0 a1) (fun⟨a0,a1⟩=>Ax2 a0 a1) Aln (fun _=>AK (n:=28) rfl) fun _ _=>rfl
noncomputable def Aal:=DI 0 Vk L0
theorem Ar1:G9 Aal:=AV Ar3 Ay
def Adf (a0:ByteArray):Bool:=bif EX (NJ (a0,(0:Int))).fst (NJ (a0,(0:Int))).snd then false else decide ((↑a0.size:Int)≥(1:Int))&&decide ((↑a0.size:Int)≤(12:Int))
def Adg (a0:ByteArray):A:=.v (.bool (Adf a0))
def Ax3 (_a0:ByteArray):Objs:=[]
def Aot (a0:ByteArray):List Prop:=[(AD GB GA JB (H9 (a0,(0:Int))) (a0,(0:Int)))]
theorem Bem (a0:ByteArray):Ff (As Bqj Aal) 9 163 [Af .str a0] 0 []=some (1,Adg a0,0,Ax3 a0,[(Ae Try.prog (163:FuncId) (0:Nat)=Ae Try.prog (163:FuncId) (0:Nat)),(AD GB GA JB (H9 (a0,(0:Int))) (a0,(0:Int)))]):=by kernel_rfl
theorem Biv (a0:ByteArray) (hp:∀p∈Aot a0,p):CallOk Try.prog 163 [Af .str a0] 0 [] 1 (Adg a0) 0 (Ax3 a0):=by
 have n1:=N0 hp
 exact Az (An A5p Ar1) (Bem a0) (Aa rfl (Aa n1 Ad))
def Aou (a0:ByteArray):A:=.v (.bool (Ir a0))
def Aos (_a0:ByteArray):Objs:=[]
def Ahw (a0:ByteArray):List Prop:=[Ar a0.size]
theorem Aor (g:ByteArray) (hb:Ar g.size):(∀p∈Aot g,p)∧Adf g=Ir g:=by
 unfold Ar at hb
 have hlow:∀i,(decide ((((g.data.toList.getD i 0).toNat:Nat):Int) <97)||decide ((((g.data.toList.getD i 0).toNat:Nat):Int) >122))=!WX (g.data.toList.getD i 0):=fun i=>by
  unfold WX
  rw[Bool.not_and,←decide_not,←decide_not]
  congr 1<;>exact decide_eq_decide.2 (by omega)
 have hk0:∀i:Nat,EX g (i:Int)=(decide (i <g.size)&&!WX (g.data.toList.getD i 0)):=fun i=>by
  unfold EX H8
  rw[nn,M9,Int.toNat_natCast,hlow]
 obtain⟨h1,k,hk,hx,hs,hst⟩:=Bo2 (fun i=>((g,(i:Int)):ByteArray×Int)) g.size (fun i=>!WX (g.data.toList.getD i 0)) GB GA JB (H9 (g,0)) (g,0) rfl (by show g.size≤((g.size:Int) - 0).toNat;omega)
  (fun i _ _=>by
   show((!!decide ((i:Int) <(g.size:Int)))&&!EX g i)=_
   rw[hk0,nn,M9]
   cases decide (i <g.size)<;>rfl)
  (fun i hi hj=>by
   show(g,IntKind.i64.wrap ((i:Int)+1))=(g,((i+1:Nat):Int))
   rw[Fd (by omega)])
  (fun i _ _=>Aa (fun h=>by
    have h':(!!decide ((i:Int) <(g.size:Int)))=true:=h
    rw[nn] at h'
    have:=of_decide_eq_true h'
    show(0:Int)≤(i:Int)∧(i:Int) <(g.size:Int)
    omega) (Aa (fun h _=>by
    have h':(!!decide ((i:Int) <(g.size:Int)))=true:=h
    rw[nn] at h'
    have:=of_decide_eq_true h'
    show(0:Int)≤(i:Int)∧(i:Int) <(g.size:Int)
    omega) Ad))
 refine⟨Aa h1 Ad,?_⟩
 have hr:NJ (g,0)=(g,(k:Int)):=hx
 have ha:g.data.toList.all WX=decide (¬k <g.size):=by
  have:=Bbi g.data.toList 0 WX k (by rw[K2];exact hk) (fun j hj=>by simpa using hs j hj) (fun h=>by rw[K2] at h;simpa using hst h)
  rw[K2] at this
  exact this
 unfold Adf
 rw[hr]
 show(bif EX g (k:Int) then false else decide ((g.size:Int)≥1)&&decide ((g.size:Int)≤12))=_
 rw[hk0]
 unfold Ir
 rw[ha,show decide ((g.size:Int)≥1)=decide (1≤g.size) from decide_eq_decide.2 (by omega),show decide ((g.size:Int)≤12)=decide (g.size≤12) from decide_eq_decide.2 (by omega)]
 by_cases h:k <g.size
 ·rw[hst h,decide_eq_true h,decide_eq_false (not_not_intro h)]
  rfl
 ·rw[decide_eq_false h,decide_eq_true h]
  rfl
theorem Bel (a0:ByteArray) (hp:∀p∈Ahw a0,p):CallOk Try.prog 163 [Af .str a0] 0 [] 1 (Aou a0) 0 (Aos a0):=by
 have hb:Ar a0.size:=hp _ (List.mem_cons_self ..)
 have h:=Biv a0 (Aor a0 hb).1
 unfold Adg at h
 rw[(Aor a0 hb).2] at h
 exact h
def Ax4:List A→Nat→Objs→Option A3:=Bg [.t .str] 0 Aou Aos Ahw
theorem A8n:Fi Try.prog 163 Ax4:=Aq (ks:=[.t .str]) Bel
noncomputable def Bgp:=A4 163 Ax4 Bqj
theorem Atf:Dd Try.prog Bgp:=Am A8n A5p
abbrev C1:Type:=(List TGroup)×Int×Int
def MR (x:C1):St:=⟨56,0,[(0,.sl .group x.1),(3,.v (.int .i64 x.2.1)),(4,.v (.int .i64 x.2.2))],[]⟩
def PB:St→Option C1
 |⟨56,0,[(0,.sl .group z0),(3,.v (.int .i64 z1)),(4,.v (.int .i64 z2))],[]⟩=>some (z0,z1,z2)
 |_=>none
theorem Alm:∀s x,PB s=some x→s=MR x:=fun s x h=>by
 unfold PB at h
 split at h
 ·cases h;rfl
 ·cases h
def Aak:De:=⟨0,0,[0,3,4],[],[],[],[2],[]⟩
def A17:Dy:=⟨[],[],[0,3,4],[]⟩
def DW (a0:List TGroup) (a1:Int) (a2:Int):Bool:=!!decide (a2 <a1)&&(a0.getD a2.toNat (Ac TC.group)).1.toList==(a0.getD a1.toNat (Ac TC.group)).1.toList
def Arz (a0:List TGroup) (a1:Int) (a2:Int):Bool:=!!decide (a2 <a1)&&!(DW a0 a1 a2)
def EW (x:C1):C1:=(x.1,x.2.1,IntKind.i64.wrap (x.2.2+(1:Int)))
def EV (x:C1):Cnd:=some (Arz x.1 x.2.1 x.2.2)
def NH (x:C1):List Prop:=[((!!decide (x.2.2 <x.2.1))=true→(0:Int)≤x.2.2∧x.2.2 <(↑x.1.length:Int)),((!!decide (x.2.2 <x.2.1))=true→(0:Int)≤x.2.1∧x.2.1 <(↑x.1.length:Int))]
abbrev H7:C1→List Prop:=NH
def Tf (x:C1):Bj:=[(some 2,some (!decide (x.2.2 <x.2.1)),⟨56,0,[(2,.dead)],[]⟩),(none,some ((DW x.1 x.2.1 x.2.2)),⟨56,0,[(2,.v (.int .i64 ((70:Int))))],[]⟩)]
def Gz (x:C1):Nat:=(x.2.1 - x.2.2).toNat
def FW (x:C1):C1:=A9 EW EV (Gz x) x
theorem Axx (a0:List TGroup) (a1:Int) (a2:Int):Bw (As Bgp L0) 9 (Ae Try.prog 128 2) Aak (MR (a0,a1,a2))=some (NH (a0,a1,a2),Tf (a0,a1,a2),EV (a0,a1,a2),MR (EW (a0,a1,a2))):=by kernel_rfl
theorem Axy (a0:List TGroup) (a1:Int) (a2:Int) (hp:∀p∈H7 (a0,a1,a2),p):∀p∈NH (a0,a1,a2),p:=hp
noncomputable def Vj:=HG (As Bgp L0) (Ae Try.prog 128 2) Aak A17 PB Gz EW EV H7 Tf
theorem Ar0:∀s b ps outs,Vj s=some (b,ps,outs)→Wf s ⟨ps,outs,none⟩∧Bt (As C0 L0) b s ps outs:=
 Bh (T:=MR) Atf Ay (u:=9) (by kernel_rfl) (by decide) (fun⟨a0,a1,a2⟩=>Axx a0 a1 a2) (fun⟨a0,a1,a2⟩=>Axy a0 a1 a2) Alm (fun _=>AK (n:=56) rfl) fun _ _=>rfl
noncomputable def MQ:=DI 2 Vj L0
theorem Vi:G9 MQ:=AV Ar0 Ay
abbrev CA:Type:=(List TGroup)×Int
def MP (x:CA):St:=⟨56,0,[(0,.sl .group x.1),(3,.v (.int .i64 x.2))],[]⟩
def PA:St→Option CA
 |⟨56,0,[(0,.sl .group z0),(3,.v (.int .i64 z1))],[]⟩=>some (z0,z1)
 |_=>none
theorem All:∀s x,PA s=some x→s=MP x:=fun s x h=>by
 unfold PA at h
 split at h
 ·cases h;rfl
 ·cases h
def Aaj:De:=⟨0,0,[0,3],[],[],[],[2],[]⟩
def A16:Dy:=⟨[],[],[0,3],[]⟩
def A8 (a0:List TGroup) (a1:Int):Bool:=!!decide (a1 <(↑a0.length:Int))
def DV (a0:List TGroup) (a1:Int):Bool:=!Ir (a0.getD a1.toNat (Ac TC.group)).1||(a0.getD a1.toNat (Ac TC.group)).2 !=(1:Int)&&(a0.getD a1.toNat (Ac TC.group)).2 !=(2:Int)
def ES (a0:List TGroup) (a1:Int):Bool:=(A8 a0 a1)&&((DV a0 a1)||DW (FW (a0,a1,(0:Int))).fst (FW (a0,a1,(0:Int))).snd.fst (FW (a0,a1,(0:Int))).snd.snd)
def Arx (a0:List TGroup) (a1:Int):Bool:=(A8 a0 a1)&&!(ES a0 a1)
def J0 (a0:List TGroup) (a1:Int):Int:=bif(DV a0 a1) then(2:Int) else(70:Int)
def EU (x:CA):CA:=(x.1,IntKind.i64.wrap (x.2+(1:Int)))
def ET (x:CA):Cnd:=some (Arx x.1 x.2)
def Vg (x:CA):List Prop:=[((A8 x.1 x.2)=true→(0:Int)≤x.2∧x.2 <(↑x.1.length:Int)),((A8 x.1 x.2)=true→Ar (x.1.getD x.2.toNat (Ac TC.group)).1.size),((A8 x.1 x.2)=true→(!Ir (x.1.getD x.2.toNat (Ac TC.group)).1)=false→(0:Int)≤x.2∧x.2 <(↑x.1.length:Int)),((A8 x.1 x.2)=true→((x.1.getD x.2.toNat (Ac TC.group)).2 !=(1:Int))=true→(!Ir (x.1.getD x.2.toNat (Ac TC.group)).1)=false→(0:Int)≤x.2∧x.2 <(↑x.1.length:Int)),((A8 x.1 x.2)=true→(!(DV x.1 x.2))=true→Ae Try.prog (128:FuncId) (2:Nat)=Ae Try.prog (128:FuncId) (2:Nat)),((A8 x.1 x.2)=true→(!(DV x.1 x.2))=true→AD EW EV H7 (Gz (x.1,x.2,(0:Int))) (x.1,x.2,(0:Int)))]
def H6 (x:CA):List Prop:=[((A8 x.1 x.2)=true→(0:Int)≤x.2∧x.2 <(↑x.1.length:Int)),((A8 x.1 x.2)=true→Ar (x.1.getD x.2.toNat (Ac TC.group)).1.size),((A8 x.1 x.2)=true→(!Ir (x.1.getD x.2.toNat (Ac TC.group)).1)=false→(0:Int)≤x.2∧x.2 <(↑x.1.length:Int)),((A8 x.1 x.2)=true→((x.1.getD x.2.toNat (Ac TC.group)).2 !=(1:Int))=true→(!Ir (x.1.getD x.2.toNat (Ac TC.group)).1)=false→(0:Int)≤x.2∧x.2 <(↑x.1.length:Int)),((A8 x.1 x.2)=true→(!(DV x.1 x.2))=true→AD EW EV H7 (Gz (x.1,x.2,(0:Int))) (x.1,x.2,(0:Int)))]
def Te (x:CA):Bj:=[(some 0,some (!decide (x.2 <(↑x.1.length:Int))),⟨56,0,[(2,.dead)],[]⟩),(none,some ((ES x.1 x.2)),⟨56,0,[(2,.v (.int .i64 (J0 x.1 x.2)))],[]⟩)]
def Gy (x:CA):Nat:=((↑x.1.length:Int) - x.2).toNat
def NG (x:CA):CA:=A9 EU ET (Gy x) x
theorem Axv (a0:List TGroup) (a1:Int):Bw (As Bgp MQ) 9 (Ae Try.prog 128 0) Aaj (MP (a0,a1))=some (Vg (a0,a1),Te (a0,a1),ET (a0,a1),MP (EU (a0,a1))):=by kernel_rfl
theorem Axw (a0:List TGroup) (a1:Int) (hp:∀p∈H6 (a0,a1),p):∀p∈Vg (a0,a1),p:=by
 have n0:=N0 hp
 have n1:=N0 (N1 hp)
 have n2:=N0 (N1 (N1 hp))
 have n3:=N0 (N1 (N1 (N1 hp)))
 have n4:((A8 a0 a1)=true→(!(DV a0 a1))=true→Ae Try.prog (128:FuncId) (2:Nat)=Ae Try.prog (128:FuncId) (2:Nat)):=by intros;rfl
 have n5:=N0 (N1 (N1 (N1 (N1 hp))))
 exact(Aa n0 (Aa n1 (Aa n2 (Aa n3 (Aa n4 (Aa n5 Ad))))))
noncomputable def Vh:=HG (As Bgp MQ) (Ae Try.prog 128 0) Aaj A16 PA Gy EU ET H6 Te
theorem Ary:∀s b ps outs,Vh s=some (b,ps,outs)→Wf s ⟨ps,outs,none⟩∧Bt (As C0 L0) b s ps outs:=
 Bh (T:=MP) Atf Vi (u:=9) (by kernel_rfl) (by decide) (fun⟨a0,a1⟩=>Axv a0 a1) (fun⟨a0,a1⟩=>Axw a0 a1) All (fun _=>AK (n:=56) rfl) fun _ _=>rfl
noncomputable def Aai:=DI 0 Vh MQ
theorem Arw:G9 Aai:=AV Ary Vi
def XP (a0:List TGroup):Int:=(NG (a0,(0:Int))).snd
def XO (a0:List TGroup):List TGroup:=(NG (a0,(0:Int))).fst
def Hx (a0:List TGroup):Bool:=(↑a0.length:Int)==(0:Int)
def Is (a0:List TGroup):Bool:=decide ((↑a0.length:Int) >(4:Int))
def MA (a0:List TGroup):Int:=bif(Hx a0) then(2:Int) else bif(Is a0) then(3:Int) else bif ES (XO a0) (XP a0) then J0 (XO a0) (XP a0) else(0:Int)
def Ade (a0:List TGroup):A:=.v (.int .i64 (MA a0))
def Axz (_a0:List TGroup):Objs:=[]
def Aop (a0:List TGroup):List Prop:=[((!(Hx a0))=true→(!(Is a0))=true→AD EU ET H6 (Gy (a0,(0:Int))) (a0,(0:Int)))]
theorem Bek (a0:List TGroup):Ff (As Bgp Aai) 9 128 [.sl .group a0] 0 []=some (1,Ade a0,0,Axz a0,[((!(Hx a0))=true→(!(Is a0))=true→Ae Try.prog (128:FuncId) (0:Nat)=Ae Try.prog (128:FuncId) (0:Nat)),((!(Hx a0))=true→(!(Is a0))=true→AD EU ET H6 (Gy (a0,(0:Int))) (a0,(0:Int)))]):=by kernel_rfl
theorem Biu (a0:List TGroup) (hp:∀p∈Aop a0,p):CallOk Try.prog 128 [.sl .group a0] 0 [] 1 (Ade a0) 0 (Axz a0):=by
 have n0:((!(Hx a0))=true→(!(Is a0))=true→Ae Try.prog (128:FuncId) (0:Nat)=Ae Try.prog (128:FuncId) (0:Nat)):=by intros;rfl
 have n1:=N0 hp
 exact Az (An Atf Arw) (Bek a0) (Aa n0 (Aa n1 Ad))
def Aoq (a0:List TGroup):A:=.v (.int .i64 (AR a0))
def Aoo (_a0:List TGroup):Objs:=[]
def Ahv (a0:List TGroup):List Prop:=[∀g∈a0,Ar g.name.size]
theorem tlb (a b:ByteArray):(a.toList==b.toList)=(a==b):=by
 rw[Bool.eq_iff_iff,A6s,beq_iff_eq]
theorem Bnj (l:List TGroup) (x:ByteArray) (i k:Nat) (hi:i≤l.length) (hk:k≤i) (h1:∀j,j <k→((l.getD j (Ac TC.group)).1==x)=false) (h2:k <i→((l.getD k (Ac TC.group)).1==x)=true):((l.take i).map (·.name)).any (fun s=>s==x)=decide (k <i):=by
 rw[List.any_map]
 by_cases h:k <i
 ·rw[decide_eq_true h]
  refine List.any_eq_true.2 ⟨l.getD k (Ac TC.group),?_,h2 h⟩
  rw[List.getD_eq_getElem?_getD,List.getElem?_eq_getElem (by omega),Option.getD_some]
  exact List.mem_take_iff_getElem.2 ⟨k,by omega,rfl⟩
 ·rw[decide_eq_false h]
  refine Bool.eq_false_iff.2 fun ha=>?_
  obtain⟨g,hg,hx⟩:=List.any_eq_true.1 ha
  obtain⟨j,hj,rfl⟩:=List.mem_take_iff_getElem.1 hg
  have:=h1 j (by omega)
  rw[List.getD_eq_getElem?_getD,List.getElem?_eq_getElem (by omega),Option.getD_some] at this
  have hx':(l[j].1==x)=true:=hx
  rw[this] at hx'
  cases hx'
theorem A4o (l:List TGroup) (hl:l.length≤4) (i:Nat) (hi:i <l.length):
  AD EW EV H7 (Gz (l,(i:Int),0)) (l,(i:Int),0)∧
  DW (FW (l,(i:Int),0)).fst (FW (l,(i:Int),0)).snd.fst (FW (l,(i:Int),0)).snd.snd=((l.take i).map (·.name)).any (fun s=>s==(l.getD i (Ac TC.group)).1):=by
 have hk0:∀k:Nat,DW l (i:Int) (k:Int)=(decide (k <i)&&((l.getD k (Ac TC.group)).1==(l.getD i (Ac TC.group)).1)):=fun k=>by
  unfold DW
  rw[nn,M9,Int.toNat_natCast,Int.toNat_natCast,tlb]
 obtain⟨h1,k,hk,hx,hs,hst⟩:=Bo2 (fun k=>((l,(i:Int),(k:Int)):C1)) i (fun k=>(l.getD k (Ac TC.group)).1==(l.getD i (Ac TC.group)).1) EW EV H7 (Gz (l,(i:Int),0)) (l,(i:Int),0) rfl (by show i≤((i:Int) - 0).toNat;omega)
  (fun k _ _=>by
   show((!!decide ((k:Int) <(i:Int)))&&!DW l i k)=_
   rw[hk0,nn,M9]
   cases decide (k <i)<;>rfl)
  (fun k hk _=>by
   show(l,(i:Int),IntKind.i64.wrap ((k:Int)+1))=(l,(i:Int),((k+1:Nat):Int))
   rw[Fd (by omega)])
  (fun k _ _=>Aa (fun h=>by
    have h':(!!decide ((k:Int) <(i:Int)))=true:=h
    rw[nn] at h'
    have:=of_decide_eq_true h'
    show(0:Int)≤(k:Int)∧(k:Int) <(l.length:Int)
    omega) (Aa (fun _=>by
    show(0:Int)≤(i:Int)∧(i:Int) <(l.length:Int)
    omega) Ad))
 refine⟨h1,?_⟩
 have hr:FW (l,(i:Int),0)=(l,(i:Int),(k:Int)):=hx
 rw[hr]
 show DW l (i:Int) (k:Int)=_
 rw[hk0,Bnj l _ i k (by omega) hk hs hst]
 by_cases h:k <i
 ·rw[hst h,Bool.and_true]
 ·rw[decide_eq_false h,Bool.false_and]
theorem Aon (l:List TGroup) (hb:∀g∈l,Ar g.name.size):(∀p∈Aop l,p)∧MA l=AR l:=by
 have main:Hx l=false→Is l=false→AD EU ET H6 (Gy (l,0)) (l,0)∧MA l=AR l:=fun h1 h0=>by
  have hn4:l.length≤4:=by have h:=of_decide_eq_false h0;omega
  have hf1:∀i:Nat,DV l (i:Int)=!(Ir (l.getD i (Ac TC.group)).1&&Ps (l.getD i (Ac TC.group)).2):=fun i=>by
   unfold DV Ps
   rw[Int.toNat_natCast,Bool.not_and]
   congr 1
   simp[bne]
  have hk0:∀i:Nat,ES l (i:Int)=(decide (i <l.length)&&VD l i):=fun i=>by
   unfold ES A8
   rw[hf1,nn,M9]
   by_cases hi:i <l.length
   ·rw[(A4o l hn4 i hi).2];rfl
   ·rw[decide_eq_false hi];rfl
  obtain⟨g1,k,hk,hx,hs,hst⟩:=Bo2 (fun i=>((l,(i:Int)):CA)) l.length (VD l) EU ET H6 (Gy (l,0)) ((l,0):CA) rfl
   (by show l.length≤((l.length:Int) - 0).toNat;omega)
   (fun i hi hs=>by
    show((!!decide ((i:Int) <(l.length:Int)))&&!ES l (i:Int))=_
    rw[hk0 i,nn,M9]
    cases decide (i <l.length)<;>rfl)
   (fun i hi hs=>by
    show(l,IntKind.i64.wrap ((i:Int)+1))=(l,((i+1:Nat):Int))
    rw[Fd (by omega)])
   (fun i hi hs=>by
    have hlt:(!!decide ((i:Int) <(l.length:Int)))=true→i <l.length:=fun h=>by
     rw[nn] at h
     have:=of_decide_eq_true h
     omega
    have hin:(!!decide ((i:Int) <(l.length:Int)))=true→(0:Int)≤(i:Int)∧(i:Int) <(l.length:Int):=fun h=>by
     have:=hlt h
     omega
    exact Aa hin (Aa (fun h=>by
     have:=hlt h
     show Ar (l.getD i (Ac TC.group)).1.size
     rw[List.getD_eq_getElem?_getD,List.getElem?_eq_getElem this,Option.getD_some]
     exact hb _ (List.getElem_mem this)) (Aa (fun h _=>hin h) (Aa (fun h _ _=>hin h) (Aa (fun h _=>(A4o l hn4 i (hlt h)).1) Ad)))))
  refine⟨g1,?_⟩
  have hr:NG (l,0)=(l,(k:Int)):=hx
  unfold MA XP XO
  rw[hr,h1,h0,cond_false,cond_false]
  show(bif ES l (k:Int) then J0 l (k:Int) else 0)=_
  rw[hk0 k]
  have e1:(l.length==0)=false:=by rw[←Aua];exact h1
  have e2:decide (4 <l.length)=false:=decide_eq_false (by omega)
  unfold AR
  rw[e1,e2,cond_false,cond_false,A31 l k [] (fun j hj hl=>by
   have:=hs j hj
   unfold VD at this
   obtain⟨q1,q2⟩:=Bool.or_eq_false_iff.1 this
   exact⟨by rw[Bool.not_eq_false'] at q1;exact q1,by simpa using q2⟩),List.nil_append]
  by_cases hkl:k <l.length
  ·have hst':=hst hkl
   rw[hst',decide_eq_true hkl,Bool.and_true,cond_true]
   have hd:l.drop k=l.getD k (Ac TC.group)::l.drop (k+1):=by
    rw[List.getD_eq_getElem?_getD,List.getElem?_eq_getElem hkl,Option.getD_some]
    exact List.drop_eq_getElem_cons hkl
   rw[hd]
   unfold Rm J0
   rw[hf1]
   unfold VD at hst'
   show(bif !(Ir (l.getD k (Ac TC.group)).1&&Ps (l.getD k (Ac TC.group)).2) then(2:Int) else 70)=bif !(Ir (l.getD k (Ac TC.group)).1&&Ps (l.getD k (Ac TC.group)).2) then 2 else _
   cases hq:!(Ir (l.getD k (Ac TC.group)).1&&Ps (l.getD k (Ac TC.group)).2) with
   |true=>rfl
   |false=>
    rw[hq,Bool.false_or] at hst'
    have hst2:((l.take k).map (·.name)).any (fun s=>s==(l.getD k (Ac TC.group)).name)=true:=hst'
    rw[cond_false,cond_false,hst2]
    rfl
  ·rw[decide_eq_false hkl,Bool.false_and,cond_false,List.drop_eq_nil_of_le (by omega)]
   rfl
 cases h1:Hx l with
 |true=>
  refine⟨Aa (fun h=>by rw[h1] at h;cases h) Ad,?_⟩
  unfold MA AR
  rw[h1,cond_true,←Aua]
  unfold Hx at h1
  rw[h1]
  rfl
 | false=>
  cases h0:Is l with
  |true=>
   refine⟨Aa (fun _ h=>by rw[h0] at h;cases h) Ad,?_⟩
   unfold MA AR
   rw[h1,h0,cond_false,cond_true,←Aua]
   unfold Hx at h1
   rw[h1,cond_false,←dgt l.length 4]
   unfold Is at h0
   rw[show(decide ((l.length:Int) >((4:Nat):Int)))=true from h0]
   rfl
  |false=>
   obtain⟨g1,g2⟩:=main h1 h0
   exact⟨Aa (fun _ _=>g1) Ad,g2⟩
theorem Bej (a0:List TGroup) (hp:∀p∈Ahv a0,p):CallOk Try.prog 128 [.sl .group a0] 0 [] 1 (Aoq a0) 0 (Aoo a0):=by
 have hb:∀g∈a0,Ar g.name.size:=hp _ (List.mem_cons_self ..)
 have h:=Biu a0 (Aon a0 hb).1
 unfold Ade at h
 rw[(Aon a0 hb).2] at h
 exact h
def Ax0:List A→Nat→Objs→Option A3:=Bg [.l .group] 0 Aoq Aoo Ahv
theorem A8m:Fi Try.prog 128 Ax0:=Aq (ks:=[.l .group]) Bej
noncomputable def B1s:=A4 128 Ax0 Bgp
theorem Bvc:Dd Try.prog B1s:=Am A8m Atf
noncomputable def Ch:=B1s
theorem B1t:Dd Try.prog Ch:=Bvc
end Go.Proofs.Yteebobbhhgmeiaa
