/- made by a program (rowgen.py): ModelStates: for every input the law returns true, and each argument reads behind the call as it read before. -/
import Derived.Test.YteebobbhhgmeiaaKMsc

namespace Go.Proofs.Yteebobbhhgmeiaa
open Go.RowKit
def zc:TC→List Value
 | .u8=>[.int .u8 0]
 | .i64=>[.int .i64 0]
 | .u32=>[.int .u32 0]
 | .bool=>[.bool false]
 | .str=>[.string ByteArray.empty]
 | .bytes=>[.slice none 0 0]
 | .ints=>[.slice none 0 0]
 | .cells=>[.slice none 0 0]
 | .rows=>[.slice none 0 0]
 | .digest=>List.replicate 32 (.int .u8 0)
 |c=>(enc c (Ae c)).map fun x=>match x with
  | .v y=>y
  |_=> .slice none 0 0
theorem B5j (c:TC) (F:Nat→Prop) (N:Nm) (nx:Nat) (R:World):HL F N nx R (enc c (Ae c)) (zc c):=by
 cases c<;>(repeat' (first|exact HL.nil|exact Hv.v _|exact Hv.sl_nil rfl|apply HL.cons))
def GM (P:Program) (t:TypeId):Option (Nat×Option (List Value)):=(P.info? t).map fun i=>(i.size,i.zero.map fun z=>z.cells.toList)
theorem Bxn {P:Program} {t:TypeId} {c:TC} (h:GM P t=some (size c,some (zc c))) (h0:0 <size c):∃i,P.info? t=some i∧i.size=size c∧0 <size c∧∃z,i.zero=some z∧∀(F:Nat→Prop) (N:Nm) (nx:Nat) (R:World),HL F N nx R (enc c (Ae c)) z.cells.toList:=by
 unfold GM at h
 cases hi:P.info? t with
 |none=>rw[hi] at h;cases h
 | some i=>
  rw[hi] at h
  have h':some (i.size,i.zero.map fun z=>z.cells.toList)=some (size c,some (zc c)):=h
  injection h' with h'
  injection h' with h1 h2
  cases hz:i.zero with
  |none=>rw[hz] at h2;cases h2
  |some z=>
   rw[hz] at h2
   injection h2 with h2
   have h3:z.cells.toList=zc c:=h2
   exact⟨i,rfl,h1,h0,z,hz,fun F N nx R=>by rw[h3];exact B5j c F N nx R⟩
theorem Bwz (c:TC):0 <size c:=by cases c<;>decide
def Bxo (t:TypeId):Option TC:=bif Nat.beq t 2 then some .i64 else bif Nat.beq t 3 then some .i64 else bif Nat.beq t 4 then some .bool else bif Nat.beq t 5 then some .u8 else bif Nat.beq t 9 then some .str else bif Nat.beq t 25 then some .front else bif Nat.beq t 26 then some .i64 else bif Nat.beq t 30 then some .vec else bif Nat.beq t 31 then some .vec else bif Nat.beq t 33 then some .told else bif Nat.beq t 37 then some .front else bif Nat.beq t 51 then some .stamp else bif Nat.beq t 53 then some .ask else bif Nat.beq t 55 then some .cell else bif Nat.beq t 67 then some .rows else bif Nat.beq t 69 then some .cells else bif Nat.beq t 71 then some .row else bif Nat.beq t 79 then some .group else bif Nat.beq t 84 then some .bytes else bif Nat.beq t 94 then some .view else bif Nat.beq t 108 then some .three else bif Nat.beq t 112 then some .two else bif Nat.beq t 133 then some .ints else bif Nat.beq t 136 then some .change else bif Nat.beq t 139 then some .write else bif Nat.beq t 142 then some .field else bif Nat.beq t 226 then some .place else bif Nat.beq t 239 then some .u32 else none
theorem B0m:GM Try.prog 2=some (size .i64,some (zc .i64)):=by kernel_rfl
theorem B0n:GM Try.prog 3=some (size .i64,some (zc .i64)):=by kernel_rfl
theorem B0o:GM Try.prog 4=some (size .bool,some (zc .bool)):=by kernel_rfl
theorem B0p:GM Try.prog 5=some (size .u8,some (zc .u8)):=by kernel_rfl
theorem B0q:GM Try.prog 9=some (size .str,some (zc .str)):=by kernel_rfl
theorem Bw8:GM Try.prog 25=some (size .front,some (zc .front)):=by kernel_rfl
theorem Bw9:GM Try.prog 26=some (size .i64,some (zc .i64)):=by kernel_rfl
theorem Bxa:GM Try.prog 30=some (size .vec,some (zc .vec)):=by kernel_rfl
theorem Bxb:GM Try.prog 31=some (size .vec,some (zc .vec)):=by kernel_rfl
theorem Bxc:GM Try.prog 33=some (size .told,some (zc .told)):=by kernel_rfl
theorem Bxd:GM Try.prog 37=some (size .front,some (zc .front)):=by kernel_rfl
theorem Bxe:GM Try.prog 51=some (size .stamp,some (zc .stamp)):=by kernel_rfl
theorem Bxf:GM Try.prog 53=some (size .ask,some (zc .ask)):=by kernel_rfl
theorem Bxg:GM Try.prog 55=some (size .cell,some (zc .cell)):=by kernel_rfl
theorem Bxh:GM Try.prog 67=some (size .rows,some (zc .rows)):=by kernel_rfl
theorem Bxi:GM Try.prog 69=some (size .cells,some (zc .cells)):=by kernel_rfl
theorem Bxj:GM Try.prog 71=some (size .row,some (zc .row)):=by kernel_rfl
theorem Bxk:GM Try.prog 79=some (size .group,some (zc .group)):=by kernel_rfl
theorem Bxl:GM Try.prog 84=some (size .bytes,some (zc .bytes)):=by kernel_rfl
theorem Bxm:GM Try.prog 94=some (size .view,some (zc .view)):=by kernel_rfl
theorem Br3:GM Try.prog 108=some (size .three,some (zc .three)):=by kernel_rfl
theorem Br4:GM Try.prog 112=some (size .two,some (zc .two)):=by kernel_rfl
theorem Br5:GM Try.prog 133=some (size .ints,some (zc .ints)):=by kernel_rfl
theorem Br6:GM Try.prog 136=some (size .change,some (zc .change)):=by kernel_rfl
theorem Br7:GM Try.prog 139=some (size .write,some (zc .write)):=by kernel_rfl
theorem Br8:GM Try.prog 142=some (size .field,some (zc .field)):=by kernel_rfl
theorem Br9:GM Try.prog 226=some (size .place,some (zc .place)):=by kernel_rfl
theorem Bsa:GM Try.prog 239=some (size .u32,some (zc .u32)):=by kernel_rfl
theorem ES {P:Program} {t k:TypeId} {c c0:TC} {r:Option TC} (h:(bif Nat.beq t k then some c0 else r)=some c) (hk:GM P k=some (size c0,some (zc c0))):GM P t=some (size c,some (zc c))∨r=some c:=by
 cases hb:Nat.beq t k with
 |true=>rw[hb] at h;cases h;rw[Nat.eq_of_beq_eq_true hb];exact .inl hk
 |false=>rw[hb] at h;exact .inr h
theorem Bxp:B5l Try.prog Bxo:=fun t c h=>by
 refine Bxn ?_ (Bwz c)
 unfold Bxo at h
 rcases ES h B0m with h|h
 ·exact h
 rcases ES h B0n with h|h
 ·exact h
 rcases ES h B0o with h|h
 ·exact h
 rcases ES h B0p with h|h
 ·exact h
 rcases ES h B0q with h|h
 ·exact h
 rcases ES h Bw8 with h|h
 ·exact h
 rcases ES h Bw9 with h|h
 ·exact h
 rcases ES h Bxa with h|h
 ·exact h
 rcases ES h Bxb with h|h
 ·exact h
 rcases ES h Bxc with h|h
 ·exact h
 rcases ES h Bxd with h|h
 ·exact h
 rcases ES h Bxe with h|h
 ·exact h
 rcases ES h Bxf with h|h
 ·exact h
 rcases ES h Bxg with h|h
 ·exact h
 rcases ES h Bxh with h|h
 ·exact h
 rcases ES h Bxi with h|h
 ·exact h
 rcases ES h Bxj with h|h
 ·exact h
 rcases ES h Bxk with h|h
 ·exact h
 rcases ES h Bxl with h|h
 ·exact h
 rcases ES h Bxm with h|h
 ·exact h
 rcases ES h Br3 with h|h
 ·exact h
 rcases ES h Br4 with h|h
 ·exact h
 rcases ES h Br5 with h|h
 ·exact h
 rcases ES h Br6 with h|h
 ·exact h
 rcases ES h Br7 with h|h
 ·exact h
 rcases ES h Br8 with h|h
 ·exact h
 rcases ES h Br9 with h|h
 ·exact h
 rcases ES h Bsa with h|h
 ·exact h
 cases h
end Go.Proofs.Yteebobbhhgmeiaa
namespace Go.Proofs.Yteebobbhhgmeiaa
open Go.RowKit
theorem eqi (d:Nat) (a b:Int) (w:World):(Op.equalIn (d+1) 3 (.int .i64 a) (.int .i64 b)).run Try.prog w=.ok (a==b) w:=run_equalIn_int w d 3 .i64 .i64 a b Try.underlying3
theorem eqb (d:Nat) (a b:Bool) (w:World):(Op.equalIn (d+1) 4 (.bool a) (.bool b)).run Try.prog w=.ok (a==b) w:=run_equalIn_bool' w d 4 a b Try.underlying4
theorem eqs (d:Nat) (a b:ByteArray) (w:World):(Op.equalIn (d+1) 9 (.string a) (.string b)).run Try.prog w=.ok (a.toList==b.toList) w:=run_equalIn_string w d 9 a b Try.underlying9
@[go_sem] theorem eqVec (d:Nat) (a b x y:Int) (w:World):(Op.equalIn (d+2) 31 (.agg #[.int .i64 a,.int .i64 b]) (.agg #[.int .i64 x,.int .i64 y])).run Try.prog w=.ok (a==x&&b==y) w:=by
 have p0:∀a b w,(part 3 #[.int .i64 a,.int .i64 b] 0).run Try.prog w=Result.ok (.int .i64 a) w:=fun a b w=>by kernel_rfl
 have p1:∀a b w,(part 3 #[.int .i64 a,.int .i64 b] 1).run Try.prog w=Result.ok (.int .i64 b) w:=fun a b w=>by kernel_rfl
 unfold Op.equalIn
 cases h:a==x
 ·simp[Sem.run_bind,run_underlying Try.underlying31,List.range',p0,eqi,h]
 ·cases h':b==y<;>simp[Sem.run_bind,run_underlying Try.underlying31,List.range',p0,p1,eqi,h,h']
@[go_sem] theorem eqInt2 (d:Nat) (a b x y:Int) (w:World):(Op.equalIn (d+2) 30 (.agg #[.int .i64 a,.int .i64 b]) (.agg #[.int .i64 x,.int .i64 y])).run Try.prog w=.ok (a==x&&b==y) w:=by
 have p0:∀a b w,(part 3 #[.int .i64 a,.int .i64 b] 0).run Try.prog w=Result.ok (.int .i64 a) w:=fun a b w=>by kernel_rfl
 have p1:∀a b w,(part 3 #[.int .i64 a,.int .i64 b] 1).run Try.prog w=Result.ok (.int .i64 b) w:=fun a b w=>by kernel_rfl
 unfold Op.equalIn
 cases h:a==x
 ·simp[Sem.run_bind,run_underlying Try.underlying30,List.range',p0,eqi,h]
 ·cases h':b==y<;>simp[Sem.run_bind,run_underlying Try.underlying30,List.range',p0,p1,eqi,h,h']
@[go_sem] theorem eqStamp (d:Nat) (a b x y:Int) (w:World):(Op.equalIn (d+2) 51 (.agg #[.int .i64 a,.int .i64 b]) (.agg #[.int .i64 x,.int .i64 y])).run Try.prog w=.ok (a==x&&b==y) w:=by
 rw[run_equalIn_struct w (d+1) 51 _ _ (by kernel_rfl) (by kernel_rfl)]
 have p0:∀a b w,(part 3 #[.int .i64 a,.int .i64 b] 0).run Try.prog w=Result.ok (.int .i64 a) w:=fun a b w=>by kernel_rfl
 have p1:∀a b w,(part 3 #[.int .i64 a,.int .i64 b] 1).run Try.prog w=Result.ok (.int .i64 b) w:=fun a b w=>by kernel_rfl
 cases h:a==x
 ·simp[Program.fieldsOf,Try.underlying51,Op.eqFields,Sem.run_bind,p0,eqi,h]
 ·cases h':b==y<;>simp[Program.fieldsOf,Try.underlying51,Op.eqFields,Sem.run_bind,p0,p1,eqi,h,h']
@[go_sem] theorem eqFront (d:Nat) (a b c e f u v x y z:Int) (w:World):(Op.equalIn (d+2) 25 (.agg #[.int .i64 a,.int .i64 b,.int .i64 c,.int .i64 e,.int .i64 f]) (.agg #[.int .i64 u,.int .i64 v,.int .i64 x,.int .i64 y,.int .i64 z])).run Try.prog w=.ok (a==u&&(b==v&&(c==x&&(e==y&&(f==z))))) w:=by
 rw[run_equalIn_struct w (d+1) 25 _ _ (by kernel_rfl) (by kernel_rfl)]
 have p0:∀a b c e f w,(part 3 #[.int .i64 a,.int .i64 b,.int .i64 c,.int .i64 e,.int .i64 f] 0).run Try.prog w=Result.ok (.int .i64 a) w:=fun a b c e f w=>by kernel_rfl
 have p1:∀a b c e f w,(part 3 #[.int .i64 a,.int .i64 b,.int .i64 c,.int .i64 e,.int .i64 f] 1).run Try.prog w=Result.ok (.int .i64 b) w:=fun a b c e f w=>by kernel_rfl
 have p2:∀a b c e f w,(part 3 #[.int .i64 a,.int .i64 b,.int .i64 c,.int .i64 e,.int .i64 f] 2).run Try.prog w=Result.ok (.int .i64 c) w:=fun a b c e f w=>by kernel_rfl
 have p3:∀a b c e f w,(part 3 #[.int .i64 a,.int .i64 b,.int .i64 c,.int .i64 e,.int .i64 f] 3).run Try.prog w=Result.ok (.int .i64 e) w:=fun a b c e f w=>by kernel_rfl
 have p4:∀a b c e f w,(part 3 #[.int .i64 a,.int .i64 b,.int .i64 c,.int .i64 e,.int .i64 f] 4).run Try.prog w=Result.ok (.int .i64 f) w:=fun a b c e f w=>by kernel_rfl
 cases h0:a==u
 ·simp[Program.fieldsOf,Try.underlying25,Op.eqFields,Sem.run_bind,p0,eqi,h0]
 ·cases h1:b==v
  ·simp[Program.fieldsOf,Try.underlying25,Op.eqFields,Sem.run_bind,p0,p1,eqi,h0,h1]
  ·cases h2:c==x
   ·simp[Program.fieldsOf,Try.underlying25,Op.eqFields,Sem.run_bind,p0,p1,p2,eqi,h0,h1,h2]
   ·cases h3:e==y
    ·simp[Program.fieldsOf,Try.underlying25,Op.eqFields,Sem.run_bind,p0,p1,p2,p3,eqi,h0,h1,h2,h3]
    ·cases h4:f==z
     ·simp[Program.fieldsOf,Try.underlying25,Op.eqFields,Sem.run_bind,p0,p1,p2,p3,p4,eqi,h0,h1,h2,h3,h4]
     ·simp[Program.fieldsOf,Try.underlying25,Op.eqFields,Sem.run_bind,p0,p1,p2,p3,p4,eqi,h0,h1,h2,h3,h4]
@[go_sem] theorem eqRFront (d:Nat) (a b c e f u v x y z:Int) (w:World):(Op.equalIn (d+2) 37 (.agg #[.int .i64 a,.int .i64 b,.int .i64 c,.int .i64 e,.int .i64 f]) (.agg #[.int .i64 u,.int .i64 v,.int .i64 x,.int .i64 y,.int .i64 z])).run Try.prog w=.ok (a==u&&(b==v&&(c==x&&(e==y&&(f==z))))) w:=by
 rw[run_equalIn_struct w (d+1) 37 _ _ (by kernel_rfl) (by kernel_rfl)]
 have p0:∀a b c e f w,(part 3 #[.int .i64 a,.int .i64 b,.int .i64 c,.int .i64 e,.int .i64 f] 0).run Try.prog w=Result.ok (.int .i64 a) w:=fun a b c e f w=>by kernel_rfl
 have p1:∀a b c e f w,(part 3 #[.int .i64 a,.int .i64 b,.int .i64 c,.int .i64 e,.int .i64 f] 1).run Try.prog w=Result.ok (.int .i64 b) w:=fun a b c e f w=>by kernel_rfl
 have p2:∀a b c e f w,(part 3 #[.int .i64 a,.int .i64 b,.int .i64 c,.int .i64 e,.int .i64 f] 2).run Try.prog w=Result.ok (.int .i64 c) w:=fun a b c e f w=>by kernel_rfl
 have p3:∀a b c e f w,(part 3 #[.int .i64 a,.int .i64 b,.int .i64 c,.int .i64 e,.int .i64 f] 3).run Try.prog w=Result.ok (.int .i64 e) w:=fun a b c e f w=>by kernel_rfl
 have p4:∀a b c e f w,(part 3 #[.int .i64 a,.int .i64 b,.int .i64 c,.int .i64 e,.int .i64 f] 4).run Try.prog w=Result.ok (.int .i64 f) w:=fun a b c e f w=>by kernel_rfl
 cases h0:a==u
 ·simp[Program.fieldsOf,Try.underlying37,Op.eqFields,Sem.run_bind,p0,eqi,h0]
 ·cases h1:b==v
  ·simp[Program.fieldsOf,Try.underlying37,Op.eqFields,Sem.run_bind,p0,p1,eqi,h0,h1]
  ·cases h2:c==x
   ·simp[Program.fieldsOf,Try.underlying37,Op.eqFields,Sem.run_bind,p0,p1,p2,eqi,h0,h1,h2]
   ·cases h3:e==y
    ·simp[Program.fieldsOf,Try.underlying37,Op.eqFields,Sem.run_bind,p0,p1,p2,p3,eqi,h0,h1,h2,h3]
    ·cases h4:f==z
     ·simp[Program.fieldsOf,Try.underlying37,Op.eqFields,Sem.run_bind,p0,p1,p2,p3,p4,eqi,h0,h1,h2,h3,h4]
     ·simp[Program.fieldsOf,Try.underlying37,Op.eqFields,Sem.run_bind,p0,p1,p2,p3,p4,eqi,h0,h1,h2,h3,h4]
@[go_sem] theorem eqCell (d:Nat) (a0 a1 a2 a3 a6 a7 b0 b1 b2 b3 b6 b7:Int) (a4 b4:Bool) (a5 b5:ByteArray) (w:World):(Op.equalIn (d+3) 55 (.agg #[.int .i64 a0,.int .i64 a1,.int .i64 a2,.int .i64 a3,.bool a4,.string a5,.int .i64 a6,.int .i64 a7]) (.agg #[.int .i64 b0,.int .i64 b1,.int .i64 b2,.int .i64 b3,.bool b4,.string b5,.int .i64 b6,.int .i64 b7])).run Try.prog w=.ok ((a0==b0&&a1==b1)&&((a2==b2&&a3==b3)&&((a4==b4)&&((a5.toList==b5.toList)&&(a6==b6&&a7==b7))))) w:=by
 rw[run_equalIn_struct w (d+2) 55 _ _ (by kernel_rfl) (by kernel_rfl)]
 have p0:∀(a0 a1 a2 a3 a6 a7:Int) (a4:Bool) (a5:ByteArray) (w:World),(part 51 #[.int .i64 a0,.int .i64 a1,.int .i64 a2,.int .i64 a3,.bool a4,.string a5,.int .i64 a6,.int .i64 a7] 0).run Try.prog w=Result.ok (.agg #[.int .i64 a0,.int .i64 a1]) w:=fun _ _ _ _ _ _ _ _ _=>by kernel_rfl
 have p1:∀(a0 a1 a2 a3 a6 a7:Int) (a4:Bool) (a5:ByteArray) (w:World),(part 31 #[.int .i64 a0,.int .i64 a1,.int .i64 a2,.int .i64 a3,.bool a4,.string a5,.int .i64 a6,.int .i64 a7] 2).run Try.prog w=Result.ok (.agg #[.int .i64 a2,.int .i64 a3]) w:=fun _ _ _ _ _ _ _ _ _=>by kernel_rfl
 have p2:∀(a0 a1 a2 a3 a6 a7:Int) (a4:Bool) (a5:ByteArray) (w:World),(part 4 #[.int .i64 a0,.int .i64 a1,.int .i64 a2,.int .i64 a3,.bool a4,.string a5,.int .i64 a6,.int .i64 a7] 4).run Try.prog w=Result.ok (.bool a4) w:=fun _ _ _ _ _ _ _ _ _=>by kernel_rfl
 have p3:∀(a0 a1 a2 a3 a6 a7:Int) (a4:Bool) (a5:ByteArray) (w:World),(part 9 #[.int .i64 a0,.int .i64 a1,.int .i64 a2,.int .i64 a3,.bool a4,.string a5,.int .i64 a6,.int .i64 a7] 5).run Try.prog w=Result.ok (.string a5) w:=fun _ _ _ _ _ _ _ _ _=>by kernel_rfl
 have p4:∀(a0 a1 a2 a3 a6 a7:Int) (a4:Bool) (a5:ByteArray) (w:World),(part 31 #[.int .i64 a0,.int .i64 a1,.int .i64 a2,.int .i64 a3,.bool a4,.string a5,.int .i64 a6,.int .i64 a7] 6).run Try.prog w=Result.ok (.agg #[.int .i64 a6,.int .i64 a7]) w:=fun _ _ _ _ _ _ _ _ _=>by kernel_rfl
 cases h0:(a0==b0&&a1==b1)
 ·simp only[Program.fieldsOf,Try.underlying55,Op.eqFields,Sem.run_bind,Sem.run_ite,Sem.run_pure,Result.andThen_ok,p0,eqStamp,h0];simp
 ·cases h1:(a2==b2&&a3==b3)
  ·simp only[Program.fieldsOf,Try.underlying55,Op.eqFields,Sem.run_bind,Sem.run_ite,Sem.run_pure,Result.andThen_ok,p0,p1,eqStamp,eqVec,h0,h1];simp
  ·cases h2:(a4==b4)
   ·simp only[Program.fieldsOf,Try.underlying55,Op.eqFields,Sem.run_bind,Sem.run_ite,Sem.run_pure,Result.andThen_ok,p0,p1,p2,eqStamp,eqVec,eqb,h0,h1,h2];simp
   ·cases h3:(a5.toList==b5.toList)
    ·simp only[Program.fieldsOf,Try.underlying55,Op.eqFields,Sem.run_bind,Sem.run_ite,Sem.run_pure,Result.andThen_ok,p0,p1,p2,p3,eqStamp,eqVec,eqb,eqs,h0,h1,h2,h3];simp
    ·cases h4:(a6==b6&&a7==b7)
     ·simp only[Program.fieldsOf,Try.underlying55,Op.eqFields,Sem.run_bind,Sem.run_ite,Sem.run_pure,Result.andThen_ok,p0,p1,p2,p3,p4,eqStamp,eqVec,eqb,eqs,h0,h1,h2,h3,h4];simp
     ·simp only[Program.fieldsOf,Try.underlying55,Op.eqFields,Sem.run_bind,Sem.run_ite,Sem.run_pure,Result.andThen_ok,p0,p1,p2,p3,p4,eqStamp,eqVec,eqb,eqs,h0,h1,h2,h3,h4];simp
theorem Bfq:Try.prog.eqGuardType Try.prog.depth 31=false:=by kernel_rfl
@[go_sem] theorem grdVec (op:BinOp) (x y:Operand) (xs ys:Array Value) (w:World):(eqGuard op 31 x y (.agg xs) (.agg ys)).run Try.prog w=.ok () w:=run_eqGuard_agg w op 31 x y xs ys Bfq
theorem Bqx:Try.prog.eqGuardType Try.prog.depth 30=false:=by kernel_rfl
@[go_sem] theorem grdInt2 (op:BinOp) (x y:Operand) (xs ys:Array Value) (w:World):(eqGuard op 30 x y (.agg xs) (.agg ys)).run Try.prog w=.ok () w:=run_eqGuard_agg w op 30 x y xs ys Bqx
theorem Ax5:Try.prog.eqGuardType Try.prog.depth 51=false:=by kernel_rfl
@[go_sem] theorem grdStamp (op:BinOp) (x y:Operand) (xs ys:Array Value) (w:World):(eqGuard op 51 x y (.agg xs) (.agg ys)).run Try.prog w=.ok () w:=run_eqGuard_agg w op 51 x y xs ys Ax5
theorem Bki:Try.prog.eqGuardType Try.prog.depth 25=false:=by kernel_rfl
@[go_sem] theorem grdFront (op:BinOp) (x y:Operand) (xs ys:Array Value) (w:World):(eqGuard op 25 x y (.agg xs) (.agg ys)).run Try.prog w=.ok () w:=run_eqGuard_agg w op 25 x y xs ys Bki
theorem Ap7:Try.prog.eqGuardType Try.prog.depth 37=false:=by kernel_rfl
@[go_sem] theorem grdRFront (op:BinOp) (x y:Operand) (xs ys:Array Value) (w:World):(eqGuard op 37 x y (.agg xs) (.agg ys)).run Try.prog w=.ok () w:=run_eqGuard_agg w op 37 x y xs ys Ap7
theorem A6o:Try.prog.eqGuardType Try.prog.depth 55=false:=by kernel_rfl
@[go_sem] theorem grdCell (op:BinOp) (x y:Operand) (xs ys:Array Value) (w:World):(eqGuard op 55 x y (.agg xs) (.agg ys)).run Try.prog w=.ok () w:=run_eqGuard_agg w op 55 x y xs ys A6o
end Go.Proofs.Yteebobbhhgmeiaa
namespace Go.Proofs.Yteebobbhhgmeiaa
open Go.RowKit
instance (n:Nat):Decidable (Z9 n):=.isFalse id
theorem B5i:Try.prog.follows .mixedOrders=true:=by kernel_rfl
theorem Bkh:Try.prog.eqGuardType Try.prog.depth 142=false:=by kernel_rfl
theorem By9 (d:Nat) (a x:Int) (b y:ByteArray) (w:World):(Op.equalIn (d+2) 142 (.agg #[.int .i64 a,.string b]) (.agg #[.int .i64 x,.string y])).run Try.prog w=.ok (a==x&&b.toList==y.toList) w:=by
 rw[run_equalIn_struct w (d+1) 142 _ _ (by kernel_rfl) (by kernel_rfl)]
 have p0:∀a b w,(part 3 #[.int .i64 a,.string b] 0).run Try.prog w=Result.ok (.int .i64 a) w:=fun a b w=>by kernel_rfl
 have p1:∀a b w,(part 9 #[.int .i64 a,.string b] 1).run Try.prog w=Result.ok (.string b) w:=fun a b w=>by kernel_rfl
 cases h:a==x
 ·simp[Program.fieldsOf,Try.underlying142,Op.eqFields,Sem.run_bind,p0,eqi,h]
 ·cases h':b.toList==y.toList<;>simp[Program.fieldsOf,Try.underlying142,Op.eqFields,Sem.run_bind,p0,p1,eqi,eqs,h,h']
def Bza:List Value→List Value→Option Bool
 | [.int .i64 a,.int .i64 b],[.int .i64 x,.int .i64 y]=>some (a==x&&b==y)
 |_,_=>none
def B4r:List Value→List Value→Option Bool
 | [.int .i64 a,.string b],[.int .i64 x,.string y]=>some (a==x&&b.toList==y.toList)
 |_,_=>none
def B4s:List Value→List Value→Option Bool
 | [.int .i64 a,.int .i64 b,.int .i64 c,.int .i64 e,.int .i64 f],[.int .i64 u,.int .i64 v,.int .i64 x,.int .i64 y,.int .i64 z]=>some (a==u&&(b==v&&(c==x&&(e==y&&f==z))))
 |_,_=>none
def B4q:List Value→List Value→Option Bool
 | [.int .i64 a0,.int .i64 a1,.int .i64 a2,.int .i64 a3,.bool a4,.string a5,.int .i64 a6,.int .i64 a7],[.int .i64 b0,.int .i64 b1,.int .i64 b2,.int .i64 b3,.bool b4,.string b5,.int .i64 b6,.int .i64 b7]=>
  some ((a0==b0&&a1==b1)&&((a2==b2&&a3==b3)&&((a4==b4)&&((a5.toList==b5.toList)&&(a6==b6&&a7==b7)))))
 |_,_=>none
def Buv (t:TypeId) (xs ys:List Value):Option Bool:=
 bif Nat.beq t 31 then Bza xs ys else bif Nat.beq t 51 then Bza xs ys else bif Nat.beq t 55 then B4q xs ys else bif Nat.beq t 142 then B4r xs ys else bif Nat.beq t 37 then B4s xs ys else none
theorem Buw:B5k Try.prog Buv:=fun t xs ys b h=>by
 unfold Buv at h
 cases h1:Nat.beq t 31 with
 |true=>
  rw[h1] at h
  rw[Nat.eq_of_beq_eq_true h1]
  refine⟨Bfq,fun R=>?_⟩
  unfold Bza at h
  simp only[cond_true] at h
  split at h<;>first|(cases h;done)|skip
  cases h
  exact eqVec 9998 _ _ _ _ R
 |false=>
 cases h2:Nat.beq t 51 with
 |true=>
  rw[h1,h2] at h
  rw[Nat.eq_of_beq_eq_true h2]
  refine⟨Ax5,fun R=>?_⟩
  unfold Bza at h
  simp only[cond_true,cond_false] at h
  split at h<;>first|(cases h;done)|skip
  cases h
  exact eqStamp 9998 _ _ _ _ R
 |false=>
 cases h3:Nat.beq t 55 with
 |true=>
  rw[h1,h2,h3] at h
  rw[Nat.eq_of_beq_eq_true h3]
  refine⟨A6o,fun R=>?_⟩
  unfold B4q at h
  simp only[cond_true,cond_false] at h
  split at h<;>first|(cases h;done)|skip
  cases h
  exact eqCell 9997 _ _ _ _ _ _ _ _ _ _ _ _ _ _ _ _ R
 |false=>
 cases h4:Nat.beq t 142 with
 |true=>
  rw[h1,h2,h3,h4] at h
  rw[Nat.eq_of_beq_eq_true h4]
  refine⟨Bkh,fun R=>?_⟩
  unfold B4r at h
  simp only[cond_true,cond_false] at h
  split at h<;>first|(cases h;done)|skip
  cases h
  exact By9 9998 _ _ _ _ R
 |false=>
 cases h5:Nat.beq t 37 with
 |true=>
  rw[h1,h2,h3,h4,h5] at h
  rw[Nat.eq_of_beq_eq_true h5]
  refine⟨Ap7,fun R=>?_⟩
  unfold B4s at h
  simp only[cond_true,cond_false] at h
  split at h<;>first|(cases h;done)|skip
  cases h
  rw[eqRFront 9998]
 |false=>
  rw[h1,h2,h3,h4,h5] at h
  cases h
noncomputable def AA (C:Tab) (L:A8a):Env:=⟨Try.prog,Buv,C,false,Bxo,L⟩
theorem By8 {C:Tab} {L:A8a} (hC:CU Try.prog C) (hL:∀l s b ps outs,L l s=some (b,ps,outs)→Wf s ⟨ps,outs,none⟩∧Br (AA C L) b s ps outs):We (AA C L) where
 suf f args nx o k x nx' o' ps h:=(hC f args nx o k x nx' o' ps h).2
 wide:=B5i
 eq:=Buw
 C f args nx o k x nx' o' ps h:=(hC f args nx o k x nx' o' ps h).1
 tc:=Bxp
 loops:=hL
end Go.Proofs.Yteebobbhhgmeiaa
namespace Go.Proofs.Yteebobbhhgmeiaa
open Go.RowKit
def Hf (L:A8a):Prop:=∀l s b ps outs,L l s=some (b,ps,outs)→Wf s ⟨ps,outs,none⟩∧Br (AA C0 L0) b s ps outs
theorem AG:Hf L0:=fun _ _ _ _ _ h=>by cases h
theorem A5 {l0:Nat} {g:St→Option (Code×List Prop×Bo)} {L:A8a} (hg:∀s b ps outs,g s=some (b,ps,outs)→Wf s ⟨ps,outs,none⟩∧Br (AA C0 L0) b s ps outs) (hL:Hf L):Hf (Dz l0 g L):=fun l s b ps outs h=>by
 unfold Dz at h
 cases hb:Nat.beq l l0 with
 |true=>rw[hb] at h;exact hg s b ps outs h
 |false=>rw[hb] at h;exact hL l s b ps outs h
theorem Ax {C:Tab} {L:A8a} (hC:CU Try.prog C) (hL:Hf L):We (AA C L):=By8 hC hL
theorem Bh {C:Tab} {L:A8a} (hC:CU Try.prog C) (hL:Hf L) {u:Nat} {b:Code} {S:CX} {En:Dp} {X:Type} {T:X→St} {unT:St→Option X} {fuel:X→Nat} {next:X→X} {goes:X→Cnd} {psA ps:X→List Prop} {outs:X→Bo} (hS:okL S.nb S.nx1 S.ren=true) (hnb:S.nb≤S.nx1)
  (hr:∀x,By (AA C L) u b S (T x)=some (psA x,outs x,goes x,T (next x))) (hA:∀x,(∀p∈ps x,p)→∀p∈psA x,p) (hu:∀s x,unT s=some x→s=T x)
  (hw:∀x,Oy (outs x)∧∀t c y,AZ t (outs x)=some (c,y)→y.n=(T x).n) (hTn:∀x y,(T x).n=(T y).n):∀s b0 qs os,HF (AA C L) b S En unT fuel next goes ps outs s=some (b0,qs,os)→Wf s ⟨qs,os,none⟩∧Br (AA C0 L0) b0 s qs os:=
 fun _ _ _ _ he=>B0c (Ax hC hL) hS hnb hr hA hu hw hTn he
def Bk1 (n:Nat):Bo→Bool
 | []=>true
 |(t,_,s)::r=>Nat.beq s.n n&&((match AZ t r with|some _=>false|none=>true)&&Bk1 n r)
theorem AU {n:Nat}:∀{o:Bo},Bk1 n o=true→Oy o∧∀t c y,AZ t o=some (c,y)→y.n=n
 | [],_=>⟨trivial,fun t c y h=>by cases h⟩
 | (k,d,s)::r,h=>by
  unfold Bk1 at h
  simp only[Bool.and_eq_true] at h
  obtain⟨h1,h2,h3⟩:=h
  obtain⟨g1,g2⟩:=AU h3
  refine⟨⟨?_,g1⟩,fun t c y hy=>?_⟩
  ·cases hg:AZ k r with
   |none=>rfl
   |some x=>rw[hg] at h2;cases h2
  ·have hy':(bif FM k t then some (d,s) else AZ t r)=some (c,y):=hy
   cases hb:FM k t with
   |true=>rw[hb] at hy';cases hy';exact Nat.eq_of_beq_eq_true h1
   |false=>rw[hb] at hy';exact g2 t c y hy'
theorem Bcx (x:Int):0≤IntKind.u8.wrap x∧IntKind.u8.wrap x <256:=by
 simp only[IntKind.wrap,IntKind.bits,IntKind.signed]
 have h1:=Int.emod_nonneg x (show(256:Int)≠0 by decide)
 have h2:=Int.emod_lt_of_pos x (show(0:Int) <256 by decide)
 exact⟨h1,h2⟩
theorem B00 (x:Int):0≤IntKind.u64.wrap x:=by
 simp only[IntKind.wrap,IntKind.bits,IntKind.signed]
 exact Int.emod_nonneg x (by decide)
def B4o (c:TC) (x:A):Option (U c×List Prop):=match Alp x with
 |some cs=>ZM c cs
 |none=>none
def Jt (c:TC):A→Option (List (U c))
 | .sl c' l=>match TC.same c' c with
  |some h=>some (Apv h.down l)
  |none=>none
 | .nl=>some []
 | .v x=>bif Eb x then some [] else none
 |_=>none
section
variable {F:Nat→Prop} {N:Nm} {nx:Nat} {R:World}
theorem BL {c:TC} {x:A} {l:List (U c)} {v:Value} (he:Jt c x=some l) (h:Hv F N nx R x v):Hv F N nx R (.sl c l) v:=by
 unfold Jt at he
 split at he<;>first|(cases he;done)|skip
 ·split at he<;>first|(cases he;done)|skip
  rename_i h1 _
  obtain⟨h1⟩:=h1
  subst h1
  cases he
  exact h
 ·cases he
  obtain⟨a,e⟩:=h.nl_inv
  exact Hv.sl_nil e
 ·rename_i x
  cases hb:Eb x with
  |false=>rw[hb] at he;cases he
  |true=>
   rw[hb] at he
   cases he
   exact Hv.sl_nil (by rw[h.v_inv,GO hb])
theorem Bvb {c:TC} {d:U c} {vs:List Value} (h:HL F N nx R (enc c d) vs) (ha:c.isAgg=true):Hv F N nx R (Ak c d) (.agg vs.toArray):=by
 unfold Ak
 rw[ha]
 exact Y9 h
theorem Bvc {c:TC} {d:U c} {vs:List Value} {v:Value} (h:HL F N nx R (enc c d) vs) (ha:c.isAgg=false) (hv:vs[0]?=some v):Hv F N nx R (Ak c d) v:=by
 unfold Ak
 rw[ha]
 show Hv F N nx R (match enc c d with|x::_=>x| []=> .dead) v
 generalize enc c d=l at h
 cases l with
 |nil=>exact .dead _
 |cons x r=>
  obtain⟨w,ws,rfl,h1,_⟩:=h.inv
  cases hv
  exact h1
def U1 (c:TC):A→Bool
 | .v (.agg _)=>c.isAgg
 | .agg _=>c.isAgg
 | .v (.tuple _)=>false
 | .v x=>!c.isAgg&&x.oneCell'
 | .opt _ _ _=>false
 | .tup _=>false
 | .dead=>false
 | .it _ _=>false
 | .sq _=>false
 | .dq _=>false
 | .iv _ _=>false
 | .de _ _ _ _=>false
 | .ie _ _ _ _ _=>false
 |_=>!c.isAgg
def AQ (c:TC) (x:A):Option (U c×List Prop):=bif U1 c x then B4o c x else none
theorem Am {c:TC} {x:A} {d:U c} {ps:List Prop} {v:Value} (he:AQ c x=some (d,ps)) (hp:∀p∈ps,p) (h:Hv F N nx R x v):Hv F N nx R (Ak c d) v:=by
 unfold AQ at he
 cases hf:U1 c x with
 |false=>rw[hf] at he;cases he
 | true=>
  rw[hf] at he
  simp only[cond_true] at he
  unfold B4o at he
  split at he<;>first|(cases he;done)|skip
  rename_i cs hcs
  have hd:=A8s (F:=F) (N:=N) (nx:=nx) (R:=R) he hp
  have single:∀{y:A},Hv F N nx R y v→cs=[y]→c.isAgg=false→Hv F N nx R (Ak c d) v:=fun {y} hy e hc=>by
   subst e
   exact Bvc (hd [v] (HL.cons hy HL.nil)) hc rfl
  cases x<;>first|(cases hf;done)|skip
  ·rename_i y
   have hv:=h.v_inv
   subst hv
   cases hcs
   have hl:HL F N nx R (toL v.cells.toList) v.cells.toList:=HL.toL _
   cases v with
   |agg xs=>
    have hl':HL F N nx R (toL xs.toList) xs.toList:=hl
    have:=Bvb (hd _ hl') hf
    simpa using this
   |tuple xs=>cases hf
   |_=>
    simp only[U1,Bool.and_eq_true,Bool.not_eq_true'] at hf
    exact Bvc (hd _ hl) hf.1 rfl
  ·cases hcs
   exact single h rfl (by simpa[U1] using hf)
  ·cases hcs
   exact single h rfl (by simpa[U1] using hf)
  ·cases hcs
   exact single h rfl (by simpa[U1] using hf)
  ·cases hcs
   exact single h rfl (by simpa[U1] using hf)
  ·cases hcs
   exact single h rfl (by simpa[U1] using hf)
  ·cases hcs
   exact single h rfl (by simpa[U1] using hf)
  ·cases hcs
   exact single h rfl (by simpa[U1] using hf)
  ·cases hcs
   exact single h rfl (by simpa[U1] using hf)
  ·cases hcs
   exact single h rfl (by simpa[U1] using hf)
  ·cases hcs
   obtain⟨vs,rfl,h2⟩:=h.agg_inv
   exact Bvb (hd _ h2) hf
end
theorem An:freeL []=true:=by unfold freeL;rfl
theorem Ac {x:A} {r:List A} (h:x.free=true) (k:freeL r=true):freeL (x::r)=true:=by unfold freeL;rw[h,k];rfl
theorem Af (c:TC) (d:U c):(Ak c d).free=true:=by
 have hfr:∀l:List A,(∀x∈l,x.free=true)→freeL l=true:=fun l=>by
  induction l with
  |nil=>intro _;unfold freeL;rfl
  |cons x r ih=>intro h;unfold freeL;rw[h x (List.mem_cons_self ..),ih fun y hy=>h y (List.mem_cons_of_mem _ hy)];rfl
 have h:=Bfa c d
 unfold Ak
 cases c.isAgg with
 |true=>
  show(Wh (enc c d)).free=true
  unfold Wh
  split
  ·unfold A.free;rfl
  ·unfold A.free;exact hfr _ h
 |false=>
  show A.free (match enc c d with|x::_=>x| []=> .dead)=true
  have hl:=Ac2 c d
  have hs:0 <size c:=by cases c<;>decide
  generalize enc c d=l at h hl
  cases l with
  |nil=>rw[←hl] at hs;cases hs
  |cons x r=>exact h x (List.mem_cons_self ..)
theorem Ah {P:Program} {f:FuncId} {args args':List A} {nx k nx':Nat} {o o':Objs} {x:A} (h:CallOk P f args' nx o k x nx' o') (ha:∀(F:Nat→Prop) (N:Nm) (R:World) (vs:List Value),HL F N nx R args vs→HL F N nx R args' vs):CallOk P f args nx o k x nx' o':=
 fun F N R vs hh hl=>h F N R vs hh (ha F N R vs hl)
end Go.Proofs.Yteebobbhhgmeiaa
namespace Go.Proofs.Yteebobbhhgmeiaa
open Go.RowKit
def Jj (k:IntKind) (n:Int):Prop:=(Lit.int k n).wf=true
def WfS (x:TStamp):Prop:=Jj .i64 x.n∧Jj .i64 x.site
def WfV (x:TVec):Prop:=Jj .i64 x.a∧Jj .i64 x.b
def Acp (x:TCell):Prop:=WfS x.stamp∧WfV x.vec∧True∧x.value.size≤maxLen∧WfV x.dead
def Bom (x:TRow):Prop:=x.key.size≤maxLen∧(x.cells.length≤maxLen∧∀y∈x.cells,Acp y)
def Bon (x:TWrite):Prop:=x.key.size≤maxLen∧Jj .i64 x.group∧True∧x.value.size≤maxLen
def Bol (x:TField):Prop:=Jj .i64 x.group∧x.value.size≤maxLen
def Wfd:(c:TC)→U c→Prop
 | .i64,n=>Jj .i64 n
 | .u32,n=>Jj .u32 n
 | .str,s=>s.size≤maxLen
 | .vec,x=>WfV x
 | .stamp,x=>WfS x
 | .cell,x=>Acp x
 | .group,x=>x.name.size≤maxLen∧Jj .i64 x.policy
 | .write,x=>Bon x
 | .row,x=>Bom x
 | .change,x=>Jj .i64 x.site∧Jj .i64 x.seq∧WfS x.stamp∧WfV x.vec∧(x.writes.length≤maxLen∧∀y∈x.writes,Bon y)
 | .field,x=>Bol x
 | .view,x=>x.key.size≤maxLen∧(x.fields.length≤maxLen∧∀y∈x.fields,Bol y)
 | .told,x=>Jj .i64 x.ack∧Jj .i64 x.own∧Jj .i64 x.come
 | .act,x=>Jj .i64 x.kind∧Bom x.row∧x.til.size≤maxLen∧Jj .i64 x.n
 | .front,x=>Jj .i64 x.site∧Jj .i64 x.acked∧Jj .i64 x.stable∧Jj .i64 x.wait∧Jj .i64 x.til
 | .ask,x=>WfS x.stamp∧WfV x.vec∧True∧x.value.size≤maxLen
 | .two,x=>Bom x.row∧Jj .i64 x.group∧Acp x.cell
 | .note,x=>x.name.size≤maxLen∧x.text.size≤maxLen
 | .packet,x=>Jj .i64 x.src∧x.bytes.size≤maxLen
 | .place,x=>x.key.size≤maxLen∧Jj .i64 x.group
 | .bytes,l=>l.length≤maxLen∧∀y∈l,True
 | .ints,l=>l.length≤maxLen∧∀y∈l,Jj .i64 y
 | .cells,l=>l.length≤maxLen∧∀y∈l,Acp y
 | .rows,l=>l.length≤maxLen∧∀y∈l,Bom y
 | .three,x=>(x.a.length≤maxLen∧∀y∈x.a,Acp y)∧(x.b.length≤maxLen∧∀y∈x.b,Acp y)∧(x.c.length≤maxLen∧∀y∈x.c,Acp y)
 |_,_=>True
def FB (w:World) (F:Nat→Prop):Prop:=∀b,b <w.heap.size→F b
def B4k (P:Program) (c:TC) (t:TypeId) {H:Type} (en:TypeId×Value→H) (w:World) (base:Nat) (spare:Nat→Bool) (held:Bool):Prop:=
 ∀(m:Nat) (cs:List Value) (y:DataW H×List MemPlace),DataW.trod en P w base spare held m t cs=some y→∃x:U c,Wfd c x∧∀(F:Nat→Prop) (N:Nm) (nx:Nat),FB w F→HL F N nx w (enc c x) cs
def Opn (P:Program) (c:TC) (t:TypeId):Prop:=∀{H:Type} (en:TypeId×Value→H) (w:World) (base:Nat) (spare:Nat→Bool) (held:Bool),B4k P c t en w base spare held
def A51 (P:Program) (c:TC) (t:TypeId):Prop:=∀{H:Type} (en:TypeId×Value→H) (w:World) (base:Nat) (spare:Nat→Bool) (held:Bool) (m:Nat) (cs:List Value) (y:DataW H×List MemPlace),
 DataW.trod en P w base spare held m t cs=some y→∃l:List (U c),(l.length≤maxLen∧∀x∈l,Wfd c x)∧∀(F:Nat→Prop) (N:Nm) (nx:Nat),FB w F→HL F N nx w [.sl c l] cs
section
variable {P:Program} {t:TypeId}
theorem Bzx (hu:P.underlying t=some (.int .i64)):Opn P .i64 t:=fun en w base spare held m cs y h=>by
 obtain⟨n,rfl,_,hw⟩:=DataW.trod_int hu h
 exact⟨n,hw,fun F N nx _=>HL.cons (Hv.v _) HL.nil⟩
theorem Bv6 (hu:P.underlying t=some .bool):Opn P .bool t:=fun en w base spare held m cs y h=>by
 obtain⟨n,rfl,_⟩:=DataW.trod_bool hu h
 exact⟨n,trivial,fun F N nx _=>HL.cons (Hv.v _) HL.nil⟩
theorem Bzy (hu:P.underlying t=some .string):Opn P .str t:=fun en w base spare held m cs y h=>by
 obtain⟨n,rfl,_,hw⟩:=DataW.trod_string hu h
 exact⟨n,hw,fun F N nx _=>HL.cons (Hv.v _) HL.nil⟩
theorem Bo9 {α:Type} {Q:Nat→α→Prop}:∀(n:Nat),(∀i,i <n→∃x,Q i x)→∃l:List α,l.length=n∧∀(i:Nat) (x:α),l[i]?=some x→Q i x
 |0,_=>⟨[],rfl,fun i x h=>by cases h⟩
 | n+1,h=>by
  obtain⟨l,h1,h2⟩:=Bo9 n fun i hi=>h i (by omega)
  obtain⟨x,hx⟩:=h n (by omega)
  refine⟨l++[x],by simp[h1],fun i y hy=>?_⟩
  rcases Nat.lt_trichotomy i n with hi|rfl|hi
  ·rw[List.getElem?_append_left (by omega)] at hy
   exact h2 i y hy
  ·rw[List.getElem?_append_right (by omega)] at hy
   simp[h1] at hy
   subst hy
   exact hx
  ·rw[List.getElem?_eq_none (by simp;omega)] at hy
   cases hy
theorem Alr {w:World} {base:Nat} {a:Addr} {n:Nat} {cs:List Value} (h:w.cells? base a n=some cs):base≤a.block∧cs.length=n∧∀(j:Nat) (v:Value),cs[j]?=some v→w.cell? (a.add j)=some v:=by
 unfold World.cells? at h
 split at h
 ·rename_i hb
  refine⟨hb,by simpa using mapM_some_length h,fun j v hv=>?_⟩
  have hl:cs.length=n:=by simpa using mapM_some_length h
  have hj:j <n:=by
   have:=(List.getElem?_eq_some_iff.1 hv).1
   omega
  have:=mapM_some_get h j j (by simp[hj])
  rw[this,hv]
 ·cases h
theorem Az7 {c:TC} {e:TypeId} (hu:P.underlying t=some (.slice e)) (hs:P.cellsOf e=size c) (he:Opn P c e):A51 P c t:=fun en w base spare held m cs y h=>by
 rcases DataW.trod_slice hu h with⟨rfl,_⟩|⟨a,len,cap,elems,rest,n,_,rfl,_,hb,hlc,hcm,hel,hg,_⟩
 ·exact⟨[],⟨Nat.zero_le _,fun x hx=>by cases hx⟩,fun F N nx _=>HL.cons (Hv.sl_nil (a:=none) rfl) HL.nil⟩
 ·have each:∀i,i <len→∃x:U c,Wfd c x∧∃zs,w.cells? base (a.add (i*size c)) (size c)=some zs∧∀(F:Nat→Prop) (N:Nm) (nx:Nat),FB w F→HL F N nx w (enc c x) zs:=fun i hi=>by
   have:=hg i hi
   rw[hs] at this
   have h2:elems[i]?≠none:=by
    intro h0
    rw[List.getElem?_eq_none_iff] at h0
    omega
   obtain⟨z,hz⟩:=Option.ne_none_iff_exists'.1 h2
   rw[hz] at this
   obtain⟨zs,h3,h4⟩:=Option.bind_eq_some_iff.1 this
   obtain⟨x,h5,h6⟩:=he en w base spare held n zs z h4
   exact⟨x,h5,zs,h3,h6⟩
  obtain⟨l,h1,h2⟩:=Bo9 len each
  refine⟨l,⟨by omega,fun x hx=>?_⟩,fun F N nx hF=>HL.cons ?_ HL.nil⟩
  ·obtain⟨i,hi⟩:=List.getElem?_of_mem hx
   exact(h2 i x hi).1
  ·subst h1
   refine Hv.sl a hlc (fun hp=>⟨rfl,?_⟩) (fun i d j x hd hx=>?_) (fun i d j x y hd hx hy=>?_)
   ·obtain⟨_,zs,h3,h4⟩:=h2 0 l[0] (by rw[List.getElem?_eq_getElem hp])
    obtain⟨_,h5,h6⟩:=Alr h3
    have hsz:0 <zs.length:=by rw[h5];cases c<;>decide
    have:=h6 0 zs[0] (by rw[List.getElem?_eq_getElem hsz])
    have:=World.block_lt_of_cell? w _ this
    rw[Jk,Jk] at this
    exact hF _ this
   ·obtain⟨_,zs,h3,h4⟩:=h2 i d hd
    obtain⟨v,h5,h6⟩:=(h4 F N nx hF).get hx
    refine⟨v,?_⟩
    rw[←Ea]
    exact(Alr h3).2.2 j v h5
   ·obtain⟨_,zs,h3,h4⟩:=h2 i d hd
    obtain⟨v,h5,h6⟩:=(h4 F N nx hF).get hx
    have:=(Alr h3).2.2 j v h5
    rw[Ea,hy] at this
    cases this
    exact h6
end
section
variable {H:Type} {en:TypeId×Value→H} {P:Program} {w:World} {base:Nat} {spare:Nat→Bool} {held:Bool} {F:Nat→Prop} {N:Nm} {nx:Nat}
theorem Atd {fs:Array Field} {cs:List Value} {m i:Nat} {xs:List (DataW H×List MemPlace)} {f:Field} {t:TypeId} {o k:Nat} {c:TC} (ho:Opn P c t) (hf:fs[i]?=some f) (ht:f.type=t) (hof:f.offset=o) (hk:P.cellsOf t=k) (hi:i <xs.length)
  (g:∀(i:Nat) (f:Field),fs[i]?=some f→DataW.trod en P w base spare held m f.type ((cs.drop f.offset).take (P.cellsOf f.type))=xs[i]?):∃x:U c,Wfd c x∧∀(F:Nat→Prop) (N:Nm) (nx:Nat),FB w F→HL F N nx w (enc c x) ((cs.drop o).take k):=by
 subst ht hof hk
 have:=g i f hf
 rw[List.getElem?_eq_getElem hi] at this
 exact ho en w base spare held m _ _ this
theorem B5n {fs:Array Field} {cs:List Value} {m i:Nat} {xs:List (DataW H×List MemPlace)} {f:Field} {t:TypeId} {o k:Nat} {c:TC} (ho:A51 P c t) (hf:fs[i]?=some f) (ht:f.type=t) (hof:f.offset=o) (hk:P.cellsOf t=k) (hi:i <xs.length)
  (g:∀(i:Nat) (f:Field),fs[i]?=some f→DataW.trod en P w base spare held m f.type ((cs.drop f.offset).take (P.cellsOf f.type))=xs[i]?):∃l:List (U c),(l.length≤maxLen∧∀x∈l,Wfd c x)∧∀(F:Nat→Prop) (N:Nm) (nx:Nat),FB w F→HL F N nx w [.sl c l] ((cs.drop o).take k):=by
 subst ht hof hk
 have:=g i f hf
 rw[List.getElem?_eq_getElem hi] at this
 exact ho en w base spare held m _ _ this
theorem B4p {cs:List Value} {m i n:Nat} {xs:List (DataW H×List MemPlace)} {t:TypeId} {k:Nat} {c:TC} (ho:Opn P c t) (hk:P.cellsOf t=k) (hx:i <xs.length) (hn:i <n)
  (g:∀(i:Nat),i <n→DataW.trod en P w base spare held m t ((cs.drop (i*P.cellsOf t)).take (P.cellsOf t))=xs[i]?):∃x:U c,Wfd c x∧∀(F:Nat→Prop) (N:Nm) (nx:Nat),FB w F→HL F N nx w (enc c x) ((cs.drop (i*k)).take k):=by
 subst hk
 have:=g i hn
 rw[List.getElem?_eq_getElem hx] at this
 exact ho en w base spare held m _ _ this
theorem HLd {o k:Nat} {cs:List Value} {l r:List A} (h:HL F N nx w l ((cs.drop o).take k)) (h':HL F N nx w r (cs.drop (o+k))):HL F N nx w (l++r) (cs.drop o):=by
 have e:cs.drop o=(cs.drop o).take k++cs.drop (o+k):=by
  rw[←List.drop_drop,List.take_append_drop]
 rw[e]
 exact h.append h'
theorem HLe {o:Nat} {cs:List Value} (h:cs.length=o):HL F N nx w [] (cs.drop o):=by
 rw[List.drop_eq_nil_of_le (by omega)]
 exact HL.nil
end
end Go.Proofs.Yteebobbhhgmeiaa
namespace Go.Proofs.Yteebobbhhgmeiaa
open Go.RowKit
theorem Ayz {X:Type} {next:X→X} {goes:X→Cnd} {ps:X→List Prop} (I:X→Prop) (m:X→Nat) (h:∀x,I x→(∀p∈ps x,p)∧(Bs (goes x)=true→I (next x)∧m (next x) <m x)):
  ∀(n:Nat) (x:X),I x→m x≤n→AK next goes ps n x∧I (Bc next goes n x)∧Bs (goes (Bc next goes n x))=false
 | 0,x,hi,hm=>by
  obtain⟨h1,h2⟩:=h x hi
  have hg:Bs (goes x)=false:=by
   cases hc:Bs (goes x) with
   |false=>rfl
   |true=>have:=(h2 hc).2;omega
  exact⟨⟨h1,hg⟩,hi,hg⟩
 | n+1,x,hi,hm=>by
  obtain⟨h1,h2⟩:=h x hi
  cases hc:Bs (goes x) with
  | false=>
   have e:Bc next goes (n+1) x=x:=by
    show(bif Bs (goes x) then _ else x)=x
    rw[hc];rfl
   rw[e]
   exact⟨⟨h1,fun hh=>by rw[hc] at hh;cases hh⟩,hi,hc⟩
  | true=>
   have e:Bc next goes (n+1) x=Bc next goes n (next x):=by
    show(bif Bs (goes x) then _ else x)=_
    rw[hc];rfl
   obtain⟨h3,h4⟩:=h2 hc
   obtain⟨g1,g2,g3⟩:=Ayz I m h n (next x) h3 (by omega)
   rw[e]
   exact⟨⟨h1,fun _=>g1⟩,g2,g3⟩
theorem i64_in {n:Int} (h:-9223372036854775808≤n∧n≤9223372036854775807):IntKind.i64.wrap n=n:=IntWalk.i64_in n h
end Go.Proofs.Yteebobbhhgmeiaa
namespace Go.Proofs.Yteebobbhhgmeiaa
open Go.RowKit
def Lg (n:Int):Nat:=if n <0∨n >4611686018427387903 then 0 else if n≥1073741824 then 8 else if n≥16384 then 4 else if n≥64 then 2 else 1
def be:Nat→Nat→List UInt8
 |0,_=>[]
 |k+1,N=>UInt8.ofNat (N / 256^k)::be k N
def Bw6 (k:Nat):Nat:=if k=2 then 1 else if k=4 then 2 else if k=8 then 3 else 0
def Nk (n:Int):List UInt8:=be (Lg n) (n.toNat+Bw6 (Lg n)*(64*256^(Lg n - 1)))
def val (acc:Nat) (l:List UInt8):Nat:=l.foldl (fun a y=>a*256+y.toNat) acc
def Ar:List UInt8→Int×Int×Int
 | []=>(0,0,10)
 |x::r=>if r.length+1 <2^(x.toNat / 64) then(0,0,10) else if Lg (val (x.toNat % 64) (r.take (2^(x.toNat / 64) - 1))) <2^(x.toNat / 64) then(0,0,11) else((val (x.toNat % 64) (r.take (2^(x.toNat / 64) - 1)):Int),((2^(x.toNat / 64):Nat):Int),0)
theorem Zj (x:UInt8) (r:List UInt8):Ar (x::r)=if r.length+1 <2^(x.toNat / 64) then(0,0,10) else if Lg (val (x.toNat % 64) (r.take (2^(x.toNat / 64) - 1))) <2^(x.toNat / 64) then(0,0,11) else((val (x.toNat % 64) (r.take (2^(x.toNat / 64) - 1)):Int),((2^(x.toNat / 64):Nat):Int),0):=rfl
theorem Ld:∀(k N:Nat),(be k N).length=k
 |0,_=>rfl
 |k+1,N=>by unfold be;rw[List.length_cons,Ld]
theorem TK (acc:Nat) (x:UInt8) (r:List UInt8):val acc (x::r)=val (acc*256+x.toNat) r:=rfl
theorem UN:∀(l:List UInt8) (acc:Nat),val acc l=acc*256^l.length+val 0 l
 | [],acc=>by show acc=acc*256^0+0;omega
 |x::r,acc=>by
  rw[TK,TK,UN r,UN r (0*256+x.toNat),List.length_cons,Nat.pow_succ,Nat.zero_mul,Nat.zero_add,Nat.add_mul,Nat.mul_assoc,Nat.mul_comm 256]
  omega
theorem Bco:∀(l:List UInt8),val 0 l <256^l.length
 | []=>by show 0 <256^0;decide
 |x::r=>by
  rw[TK,UN,List.length_cons,Nat.pow_succ,Nat.zero_mul,Nat.zero_add]
  have h1:=Bco r
  have h2:x.toNat+1≤256:=x.toNat_lt
  have:=Nat.mul_le_mul_right (256^r.length) h2
  rw[Nat.add_mul,Nat.one_mul] at this
  rw[Nat.mul_comm (256^r.length)]
  omega
theorem Bjq:∀(k N a:Nat),be k (N+a*256^k)=be k N
 |0,_,_=>rfl
 |k+1,N,a=>by
  unfold be
  have h:N+a*256^(k+1)=N+a*256*256^k:=by rw[Nat.pow_succ,Nat.mul_assoc,Nat.mul_comm (256^k)]
  rw[h,Bjq k N (a*256),Nat.add_mul_div_right _ _ (Nat.pow_pos (by decide))]
  congr 1
  apply UInt8.toNat_inj.1
  rw[UInt8.toNat_ofNat',UInt8.toNat_ofNat']
  omega
theorem Bua:∀(l:List UInt8),be l.length (val 0 l)=l
 | []=>rfl
 | x::r=>by
  rw[List.length_cons]
  have e:val 0 (x::r)=val 0 r+x.toNat*256^r.length:=by
   rw[TK,UN,Nat.zero_mul,Nat.zero_add,Nat.add_comm]
  unfold be
  rw[e,Bjq,Bua r,Nat.add_mul_div_right _ _ (Nat.pow_pos (by decide)),Nat.div_eq_of_lt (Bco r),Nat.zero_add]
  congr 1
  exact UInt8.ofNat_toNat
theorem Bx0:∀(k N acc:Nat),val acc (be k N)=acc*256^k+N % 256^k
 |0,N,acc=>by show acc=acc*256^0+N % 256^0;omega
 |k+1,N,acc=>by
  unfold be
  have h8:(UInt8.ofNat (N / 256^k)).toNat=N / 256^k % 256:=by rw[UInt8.toNat_ofNat']
  have hm:=Nat.mod_pow_succ (x:=N) (b:=256) (k:=k)
  rw[TK,Bx0 k,h8,hm,Nat.pow_succ,Nat.add_mul,Nat.mul_assoc,Nat.mul_comm 256 (256^k),Nat.mul_comm (256^k) (N / 256^k % 256)]
  omega
def szs (k:Nat):Prop:=k=1∨k=2∨k=4∨k=8
theorem Bp4 {n:Int} (h0:0≤n) (h1:n≤4611686018427387903):szs (Lg n)∧n.toNat <64*256^(Lg n - 1):=by
 unfold Lg szs
 rw[if_neg (by omega)]
 split
 ·exact⟨by decide,by show n.toNat <64*256^7;omega⟩
 ·split
  ·exact⟨by decide,by show n.toNat <64*256^3;omega⟩
  ·split
   ·exact⟨by decide,by show n.toNat <64*256^1;omega⟩
   ·exact⟨by decide,by show n.toNat <64*256^0;omega⟩
theorem B5h {n k:Nat} (hk:szs k) (h:n <64*256^(k - 1)):Lg n≤k∧1≤Lg n∧n≤4611686018427387903:=by
 unfold Lg
 rcases hk with rfl|rfl|rfl|rfl
 ·have h':n <64:=h
  rw[if_neg (by omega),if_neg (by omega),if_neg (by omega),if_neg (by omega)];omega
 ·have h':n <64*256:=h
  rw[if_neg (by omega),if_neg (by omega),if_neg (by omega)]
  split<;>omega
 ·have h':n <64*256^3:=h
  have h'':n <1073741824:=by omega
  rw[if_neg (by omega),if_neg (by omega)]
  split
  ·omega
  ·split<;>omega
 ·have h':n <64*256^7:=h
  have h'':n <4611686018427387904:=by omega
  rw[if_neg (by omega)]
  split
  ·omega
  ·split
   ·omega
   ·split<;>omega
theorem B31 {k:Nat} (hk:szs k):Bw6 k≤3∧2^Bw6 k=k:=by
 rcases hk with rfl|rfl|rfl|rfl<;>decide
theorem Bw7 {t:Nat} (h:t≤3):szs (2^t)∧Bw6 (2^t)=t:=by
 match t,h with
 |0,_=>exact⟨by unfold szs;decide,rfl⟩
 |1,_=>exact⟨by unfold szs;decide,rfl⟩
 |2,_=>exact⟨by unfold szs;decide,rfl⟩
 |3,_=>exact⟨by unfold szs;decide,rfl⟩
 |n+4,h=>omega
theorem Nl (n:Int):(Nk n).length=Lg n:=Ld _ _
theorem Bze {n:Int} (h0:0≤n) (h1:n≤4611686018427387903) (r:List UInt8):Ar (Nk n++r)=(n,(Lg n:Int),0):=by
 obtain⟨hk,hn⟩:=Bp4 h0 h1
 unfold Nk
 generalize hkk:Lg n=k at*
 obtain⟨m,rfl⟩:∃m,k=m+1:=⟨k - 1,by unfold szs at hk;omega⟩
 obtain⟨t1,t2⟩:=B31 hk
 generalize Bw6 (m+1)=t at*
 rw[Nat.add_sub_cancel] at hn⊢
 have hp:0 <256^m:=Nat.pow_pos (by decide)
 have e1:(n.toNat+t*(64*256^m)) / 256^m=n.toNat / 256^m+t*64:=by rw[←Nat.mul_assoc,Nat.add_mul_div_right _ _ hp]
 have e2:n.toNat / 256^m <64:=by rw[Nat.div_lt_iff_lt_mul hp];exact hn
 have e3:(n.toNat+t*(64*256^m)) % 256^m=n.toNat % 256^m:=by rw[←Nat.mul_assoc,Nat.add_mul_mod_self_right]
 unfold be
 rw[e1]
 have aux:∀q:Nat,q <64→(UInt8.ofNat (q+t*64)).toNat=q+t*64∧(q+t*64) / 64=t∧(q+t*64) % 64=q:=fun q hq=>by
  rw[UInt8.toNat_ofNat']
  omega
 obtain⟨hx,ht,hm⟩:=aux _ e2
 show Ar (UInt8.ofNat (n.toNat / 256^m+t*64)::(be m (n.toNat+t*(64*256^m))++r))=_
 rw[Zj,hx,ht,hm,t2,Nat.add_sub_cancel]
 have hl:(be m (n.toNat+t*(64*256^m))++r).take m=be m (n.toNat+t*(64*256^m)):=by
  rw[List.take_append_of_le_length (by rw[Ld];exact Nat.le_refl _),List.take_of_length_le (by rw[Ld];exact Nat.le_refl _)]
 rw[hl,Bx0,e3]
 have hv:n.toNat / 256^m*256^m+n.toNat % 256^m=n.toNat:=by rw[Nat.mul_comm];exact Nat.div_add_mod _ _
 rw[hv,if_neg (by rw[List.length_append,Ld];omega)]
 have hnn:(n.toNat:Int)=n:=Int.toNat_of_nonneg h0
 rw[hnn,hkk,if_neg (by omega)]
theorem Bz4 {b:List UInt8} {n k:Int} (h:Ar b=(n,k,0)):0≤n∧n≤4611686018427387903∧k=(Lg n:Int)∧Lg n≤b.length∧b.take (Lg n)=Nk n:=by
 cases b with
 |nil=>cases h
 | cons x r=>
  rw[Zj] at h
  split at h
  ·cases h
  ·rename_i hlen
   split at h
   ·cases h
   ·rename_i hsz
    have hxl:x.toNat <256:=x.toNat_lt
    obtain⟨k1,k2⟩:=Bw7 (t:=x.toNat / 64) (by omega)
    generalize hK:2^(x.toNat / 64)=K at*
    obtain⟨m,rfl⟩:∃m,K=m+1:=⟨K - 1,by unfold szs at k1;omega⟩
    rw[Nat.add_sub_cancel] at*
    have hrl:(r.take m).length=m:=by rw[List.length_take];omega
    have hv:=UN (r.take m) (x.toNat % 64)
    have hlt:=Bco (r.take m)
    rw[hrl] at hv hlt
    generalize hN:val (x.toNat % 64) (r.take m)=M at*
    have hM:M <64*256^m:=by
     have:x.toNat % 64+1≤64:=by omega
     have:=Nat.mul_le_mul_right (256^m) this
     rw[Nat.add_mul,Nat.one_mul] at this
     omega
    obtain⟨s1,s2,s3⟩:=B5h k1 (by rw[Nat.add_sub_cancel];exact hM)
    have hs:Lg (M:Int)=m+1:=by omega
    injection h with h1 h
    injection h with h2 h3
    subst h1
    refine⟨by omega,by omega,by rw[hs,←h2],by rw[hs,List.length_cons];omega,?_⟩
    rw[hs]
    unfold Nk
    rw[hs,k2,Nat.add_sub_cancel,Int.toNat_natCast]
    have e:M+x.toNat / 64*(64*256^m)=val 0 (x::r.take m):=by
     rw[TK,Nat.zero_mul,Nat.zero_add,UN,hrl,hv,←Nat.mul_assoc]
     have hx:=Nat.div_add_mod x.toNat 64
     have:x.toNat*256^m=(x.toNat / 64*64+x.toNat % 64)*256^m:=by congr 1;omega
     rw[this,Nat.add_mul]
     omega
    rw[e]
    have hb:=Bua (x::r.take m)
    rw[List.length_cons,hrl] at hb
    rw[hb]
    rfl
theorem Bt9:∀(k N i:Nat),i <k→(be k N)[i]?=some (UInt8.ofNat (N / 256^(k - 1 - i)))
 |0,_,_,h=>by omega
 |k+1,N,0,_=>by unfold be;rfl
 |k+1,N,i+1,h=>by
  unfold be
  rw[List.getElem?_cons_succ,Bt9 k N i (by omega)]
  have:k - 1 - i=k+1 - 1 - (i+1):=by omega
  rw[this]
theorem Byv {k N i:Nat} (h:i <k):(be k N).take (i+1)=(be k N).take i++[UInt8.ofNat (N / 256^(k - 1 - i))]:=by
 rw[List.take_add_one,Bt9 k N i h]
 rfl
theorem Bz1 (j:Nat):(2:Int)^(8*j)=((256^j:Nat):Int):=by
 rw[Int.pow_mul]
 norm_cast
theorem Bwm {n:Int} {k i:Nat} (hn:0≤n) (hk:k≤8) (hi:i <k):
  UInt8.ofNat (IntKind.u8.wrap (n.fdiv ((2:Int)^min (IntKind.u64.wrap (IntKind.i64.wrap ((8:Int)*IntKind.i64.wrap (IntKind.i64.wrap ((k:Int) - (1:Int)) - (i:Int))))).toNat (64:Nat)))).toNat=UInt8.ofNat (n.toNat / 256^(k - 1 - i)):=by
 have e1:IntKind.u64.wrap (IntKind.i64.wrap ((8:Int)*IntKind.i64.wrap (IntKind.i64.wrap ((k:Int) - (1:Int)) - (i:Int))))=((8*(k - 1 - i):Nat):Int):=by
  rw[i64_in (n:=(k:Int) - 1) (by omega),i64_in (n:=(k:Int) - 1 - (i:Int)) (by omega),i64_in (by omega),IntWalk.u64_in _ (by omega)]
  omega
 rw[e1,Int.toNat_natCast,Nat.min_eq_left (by omega),Bz1]
 have e2:n=(n.toNat:Int):=(Int.toNat_of_nonneg hn).symm
 have e3:n.fdiv ((256^(k - 1 - i):Nat):Int)=((n.toNat / 256^(k - 1 - i):Nat):Int):=by
  rw[Int.fdiv_eq_ediv_of_nonneg _ (Int.natCast_nonneg _)]
  conv=>lhs;rw[e2]
  exact(Int.natCast_ediv _ _).symm
 rw[e3]
 generalize n.toNat / 256^(k - 1 - i)=q
 have e4:IntKind.u8.wrap (q:Int)=((q % 256:Nat):Int):=by
  rw[IntKind.wrap_u8]
  omega
 rw[e4,Int.toNat_natCast]
 apply UInt8.toNat_inj.1
 rw[UInt8.toNat_ofNat',UInt8.toNat_ofNat']
 omega
theorem B3u:∀(t:Fin 4) (q:Fin 64),(BitVec.ofInt 8 (q.val:Int) ||| BitVec.ofInt 8 ((64*t.val:Nat):Int)).toNat=q.val+t.val*64:=by decide+kernel
theorem Bzz {q t:Nat} (hq:q <64) (ht:t <4):UInt8.ofNat (IntKind.u8.wrap ((BitVec.ofInt 8 (((UInt8.ofNat q).toNat:Nat):Int) ||| BitVec.ofInt 8 ((64*t:Nat):Int)).toNat:Int)).toNat=UInt8.ofNat (q+t*64):=by
 have h1:(UInt8.ofNat q).toNat=q:=by rw[UInt8.toNat_ofNat'];omega
 rw[h1,B3u ⟨t,ht⟩ ⟨q,hq⟩,IntWalk.u8_in _ (by show 0≤((q+t*64:Nat):Int)∧((q+t*64:Nat):Int)≤255;omega),Int.toNat_natCast]
theorem Bcc {m N t:Nat} (b:List UInt8) (hN:N <64*256^m) (ht:t <4) (d:UInt8):
  (b++be (m+1) N).set b.length (UInt8.ofNat (IntKind.u8.wrap ((BitVec.ofInt 8 ((((b++be (m+1) N).getD b.length d).toNat:Nat):Int) ||| BitVec.ofInt 8 ((64*t:Nat):Int)).toNat:Int)).toNat)=b++be (m+1) (N+t*(64*256^m)):=by
 have hp:0 <256^m:=Nat.pow_pos (by decide)
 have e2:N / 256^m <64:=by rw[Nat.div_lt_iff_lt_mul hp];exact hN
 have e0:be (m+1) N=UInt8.ofNat (N / 256^m)::be m N:=rfl
 have e1:be (m+1) (N+t*(64*256^m))=UInt8.ofNat (N / 256^m+t*64)::be m N:=by
  show UInt8.ofNat ((N+t*(64*256^m)) / 256^m)::be m (N+t*(64*256^m))=_
  rw[←Nat.mul_assoc,Bjq,Nat.add_mul_div_right _ _ hp]
 have hg:(b++be (m+1) N).getD b.length d=UInt8.ofNat (N / 256^m):=by
  rw[e0,List.getD_eq_getElem?_getD,List.getElem?_append_right (Nat.le_refl _),Nat.sub_self]
  rfl
 rw[hg,Bzz e2 ht,e0,e1,List.set_append_right _ _ (Nat.le_refl _),Nat.sub_self]
 rfl
theorem Bz0 {a:Nat} (ha:a <64*256^6) {y:UInt8}:IntKind.i64.wrap ((BitVec.ofInt 64 (IntKind.i64.wrap ((a:Int)*256)) ||| BitVec.ofInt 64 (IntKind.i64.wrap ((y.toNat:Nat):Int))).toNat:Int)=((a*256+y.toNat:Nat):Int):=by
 have hy:y.toNat <256:=y.toNat_lt
 have h6:64*256^6=18014398509481984:=by decide
 rw[h6] at ha
 rw[i64_in (n:=(a:Int)*256) (by omega),i64_in (n:=((y.toNat:Nat):Int)) (by omega)]
 have e1:(a:Int)*256=((a*256:Nat):Int):=by omega
 have e2:(BitVec.ofInt 64 ((a*256:Nat):Int) ||| BitVec.ofInt 64 ((y.toNat:Nat):Int)).toNat=a*256+y.toNat:=by
  rw[BitVec.toNat_or,BitVec.toNat_ofInt,BitVec.toNat_ofInt]
  have m1:(((a*256:Nat):Int) % ((2^64:Nat):Int)).toNat=2^8*a:=by omega
  have m2:(((y.toNat:Nat):Int) % ((2^64:Nat):Int)).toNat=y.toNat:=by omega
  rw[m1,m2,←Nat.two_pow_add_eq_or_of_lt hy]
  omega
 rw[e1,e2,i64_in (by omega)]
theorem Bx1 (a:Nat) (L:List UInt8) (i:Nat) (h:i <L.length) {d:UInt8}:((val a (L.take i)*256+(L.getD i d).toNat:Nat):Int)=(val a (L.take (i+1)):Int):=by
 have e:L.take (i+1)=L.take i++[L.getD i d]:=by
  rw[List.take_add_one,List.getD_eq_getElem?_getD,List.getElem?_eq_getElem h]
  rfl
 rw[e]
 unfold val
 rw[List.foldl_append]
 rfl
theorem B40 (x:UInt8):IntKind.i64.wrap ((1:Int)*(2:Int)^min ((((x.toNat:Nat):Int)).fdiv (64:Int)).toNat (64:Nat))=((2^(x.toNat / 64):Nat):Int):=by
 have hx:x.toNat <256:=x.toNat_lt
 have e:((((x.toNat:Nat):Int)).fdiv (64:Int)).toNat=x.toNat / 64:=by
  rw[Int.fdiv_eq_ediv_of_nonneg _ (by decide)]
  omega
 rw[e,Nat.min_eq_left (by omega)]
 have:x.toNat / 64≤3:=by omega
 generalize x.toNat / 64=t at*
 match t,this with
 |0,_=>rfl
 |1,_=>rfl
 |2,_=>rfl
 |3,_=>rfl
 |n+4,h=>omega
theorem Bvr:∀q:Fin 256,(BitVec.ofInt 8 (q.val:Int) &&& BitVec.ofInt 8 63).toNat=q.val % 64:=by decide+kernel
theorem Bzd (x:UInt8):IntKind.i64.wrap (IntKind.u8.wrap ((BitVec.ofInt 8 ((x.toNat:Nat):Int) &&& BitVec.ofInt 8 63).toNat:Int))=((x.toNat % 64:Nat):Int):=by
 have hx:x.toNat <256:=x.toNat_lt
 rw[Bvr ⟨x.toNat,hx⟩,IntWalk.u8_in _ (by show 0≤((x.toNat % 64:Nat):Int)∧((x.toNat % 64:Nat):Int)≤255;omega),i64_in (by show -9223372036854775808≤((x.toNat % 64:Nat):Int)∧((x.toNat % 64:Nat):Int)≤9223372036854775807;omega)]
end Go.Proofs.Yteebobbhhgmeiaa
namespace Go.Proofs.Yteebobbhhgmeiaa
open Go.RowKit
def QH (a0:Int):Bool:=!(decide (a0 <(0:Int))||decide (a0 >(4611686018427387903:Int)))&&(!decide (a0≥(1073741824:Int))&&decide (a0≥(16384:Int)))
def QG (a0:Int):Bool:=!(decide (a0 <(0:Int))||decide (a0 >(4611686018427387903:Int)))&&(!decide (a0≥(1073741824:Int))&&(!decide (a0≥(16384:Int))&&decide (a0≥(64:Int))))
def XL (a0:Int):Bool:=!(decide (a0 <(0:Int))||decide (a0 >(4611686018427387903:Int)))&&(!(!(decide (a0 <(0:Int))||decide (a0 >(4611686018427387903:Int)))&&decide (a0≥(1073741824:Int)))&&(!(QH a0)&&!(QG a0)))
def Be (a0:Int):Int:=bif !(!(decide (a0 <(0:Int))||decide (a0 >(4611686018427387903:Int)))&&decide (a0≥(1073741824:Int)))&&(!(QH a0)&&(!(QG a0)&&!(XL a0))) then(0:Int) else IntKind.i64.wrap ((bif(XL a0) then(0:Int) else IntKind.i64.wrap ((bif(QG a0) then(0:Int) else IntKind.i64.wrap ((bif(QH a0) then(0:Int) else(4:Int))+(2:Int)))+(1:Int)))+(1:Int))
def Adv (a0:Int):A:=.v (.int .i64 (Be a0))
def Adu (_a0:Int):Objs:=[]
def Aqt (_a0:Int):List Prop:=[]
set_option maxRecDepth 100000 in
theorem Bgn (a0:Int):ER (AA C0 L0) 9 157 [Ak .i64 a0] 0 []=some (1,Adv a0,0,Adu a0,[]):=by kernel_rfl
set_option maxRecDepth 100000 in
theorem Bk0 (a0:Int) (_hp:∀p∈Aqt a0,p):CallOk Try.prog 157 [Ak .i64 a0] 0 [] 1 (Adv a0) 0 (Adu a0):=by
 exact AH (Ax B02 AG) (Bgn a0) Ab
def Adw:List A→Nat→Objs→Option A9
 | [y0],nx,o=>match AQ .i64 y0 with
  |some (a0,p0)=>some (1,(Adv a0).pk (AC nx),nx+0,AB nx (Adu a0)++o,p0++(Aqt a0))
  |_=>none
 |_,_,_=>none
theorem Bak:EV Try.prog 157 Adw:=fun args nx o k x nx' o' ps h=>by
 unfold Adw at h
 split at h<;>first|(cases h;done)|skip
 split at h<;>first|(cases h;done)|skip
 rename_i a0 p0 e0
 cases h
 refine⟨fun hp=>?_,_,rfl⟩
 have q0:=fun p hm=>hp p (List.mem_append.2 (.inl hm))
 have r0:=fun p hm=>hp p (List.mem_append.2 (.inr hm))
 refine Ah (Ag (Bk0 a0 r0) (Nat.le_refl _) (Ac (Af _ _) An) nx o) fun F N R vs hl=>?_
 obtain⟨v0,w0,rfl,h0,hl⟩:=hl.inv
 exact HL.cons (Am e0 q0 h0) (hl)
noncomputable def Bsk:=A7 157 Adw C0
theorem A7u:CU Try.prog Bsk:=Aw Bak B02
abbrev Eu:Type:=Int×Int×Int×Int×(List UInt8)
def Oe (x:Eu):St:=⟨59,3,[(1,.v (.int .i64 x.1)),(5,.sq 2),(6,.v (.int .i64 x.2.1)),(16,.v (.int .i64 x.2.2.1)),(17,.v (.int .i64 x.2.2.2.1))],[(2,some (.arr 5 1 (.ty .u8 x.2.2.2.2)))]⟩
def RQ:St→Option Eu
 |⟨59,3,[(1,.v (.int .i64 z0)),(5,.sq 2),(6,.v (.int .i64 z1)),(16,.v (.int .i64 z2)),(17,.v (.int .i64 z3))],[(2,some (.arr 5 1 (.ty .u8 z4)))]⟩=>some (z0,z1,z2,z3,z4)
 |_=>none
theorem Aua:∀s x,RQ s=some x→s=Oe x:=fun s x h=>by
 unfold RQ at h
 split at h
 ·cases h;rfl
 ·cases h
def Ajk:CX:=⟨2,3,[1,5,6,16,17],[],[(4,2)],[4],[5],[2]⟩
def Baj:Dp:=⟨[],[(1,2)],[1,5,6,16,17],[1]⟩
def Jc (a0:Int) (a1:Int) (_a2:Int) (a3:Int) (_a4:List UInt8):Int:=IntKind.u8.wrap (a0.fdiv ((2:Int)^min (IntKind.u64.wrap (IntKind.i64.wrap ((8:Int)*IntKind.i64.wrap (IntKind.i64.wrap (a1 - (1:Int)) - a3)))).toNat (64:Nat)))
def Azx (a0:Int) (a1:Int) (a2:Int) (a3:Int) (a4:List UInt8):List UInt8:=a4++[UInt8.ofNat (Jc a0 a1 a2 a3 a4).toNat]
def Gj (x:Eu):Eu:=(x.1,x.2.1,x.2.2.1,IntKind.i64.wrap (x.2.2.2.1+(1:Int)),Azx x.1 x.2.1 x.2.2.1 x.2.2.2.1 x.2.2.2.2)
def Gi (x:Eu):Cnd:=some (!!decide (x.2.2.2.1 <x.2.2.1))
def XJ (x:Eu):List Prop:=[((!!decide (x.2.2.2.1 <x.2.2.1))=true→(0:Int)≤IntKind.u64.wrap (IntKind.i64.wrap ((8:Int)*IntKind.i64.wrap (IntKind.i64.wrap (x.2.1 - (1:Int)) - x.2.2.2.1)))),((!!decide (x.2.2.2.1 <x.2.2.1))=true→Ai (x.2.2.2.2.length+(1:Nat))),((!!decide (x.2.2.2.1 <x.2.2.1))=true→(0:Int)≤(Jc x.1 x.2.1 x.2.2.1 x.2.2.2.1 x.2.2.2.2)∧(Jc x.1 x.2.1 x.2.2.1 x.2.2.2.1 x.2.2.2.2) <(256:Int))]
def Jn (x:Eu):List Prop:=[((!!decide (x.2.2.2.1 <x.2.2.1))=true→Ai (x.2.2.2.2.length+(1:Nat)))]
def Vi (x:Eu):Bo:=[(some 0,some (!decide (x.2.2.2.1 <x.2.2.1)),⟨59,3,[(5,.sq 2)],[(2,some (.arr 5 1 (.ty .u8 x.2.2.2.2)))]⟩)]
def HM (x:Eu):Nat:=(x.2.2.1 - x.2.2.2.1).toNat
def Pj (x:Eu):Eu:=Bc Gj Gi (HM x) x
set_option maxRecDepth 100000 in
theorem A4f (a0:Int) (a1:Int) (a2:Int) (a3:Int) (a4:List UInt8):By (AA Bsk L0) 9 (Aj Try.prog 119 0) Ajk (Oe (a0,a1,a2,a3,a4))=some (XJ (a0,a1,a2,a3,a4),Vi (a0,a1,a2,a3,a4),Gi (a0,a1,a2,a3,a4),Oe (Gj (a0,a1,a2,a3,a4))):=by kernel_rfl
set_option maxRecDepth 100000 in
theorem A4g (a0:Int) (a1:Int) (a2:Int) (a3:Int) (a4:List UInt8) (hp:∀p∈Jn (a0,a1,a2,a3,a4),p):∀p∈XJ (a0,a1,a2,a3,a4),p:=by
 have n0:((!!decide (a3 <a2))=true→(0:Int)≤IntKind.u64.wrap (IntKind.i64.wrap ((8:Int)*IntKind.i64.wrap (IntKind.i64.wrap (a1 - (1:Int)) - a3)))):=by intros;exact B00 _
 have n1:=N0 hp
 have n2:((!!decide (a3 <a2))=true→(0:Int)≤(Jc a0 a1 a2 a3 a4)∧(Jc a0 a1 a2 a3 a4) <(256:Int)):=by intros;exact Bcx _
 exact(Aa n0 (Aa n1 (Aa n2 Ab)))
noncomputable def XK:=HF (AA Bsk L0) (Aj Try.prog 119 0) Ajk Baj RQ HM Gj Gi Jn Vi
theorem Azy:∀s b ps outs,XK s=some (b,ps,outs)→Wf s ⟨ps,outs,none⟩∧Br (AA C0 L0) b s ps outs:=
 Bh (T:=Oe) A7u AG (u:=9) (by kernel_rfl) (by decide) (fun⟨a0,a1,a2,a3,a4⟩=>A4f a0 a1 a2 a3 a4) (fun⟨a0,a1,a2,a3,a4⟩=>A4g a0 a1 a2 a3 a4) Aua (fun _=>AU (n:=59) rfl) fun _ _=>rfl
noncomputable def Ajj:=Dz 0 XK L0
theorem Azw:Hf Ajj:=A5 Azy AG
def Hu (_a0:List UInt8) (a1:Int):Bool:=Be a1==(8:Int)
def BW (_a0:List UInt8) (a1:Int):Bool:=Be a1==(4:Int)
def Bb (_a0:List UInt8) (a1:Int):Bool:=Be a1==(2:Int)
def AP (a0:List UInt8) (_a1:Int):Int:=(↑([]++a0).length:Int)
def A8 (a0:List UInt8) (a1:Int):List UInt8:=(Pj (a1,Be a1,Be a1,(0:Int),[]++a0)).snd.snd.snd.snd
def MB (a0:List UInt8) (a1:Int):Int:=IntKind.u8.wrap (↑(BitVec.ofInt (8:Nat) (↑(UInt8.toNat ((A8 a0 a1).getD (AP a0 a1).toNat (Ae TC.u8))):Int) ||| BitVec.ofInt (8:Nat) (192:Int)).toNat:Int)
def MA (a0:List UInt8) (a1:Int):Int:=IntKind.u8.wrap (↑(BitVec.ofInt (8:Nat) (↑(UInt8.toNat ((A8 a0 a1).getD (AP a0 a1).toNat (Ae TC.u8))):Int) ||| BitVec.ofInt (8:Nat) (128:Int)).toNat:Int)
def Mz (a0:List UInt8) (a1:Int):Int:=IntKind.u8.wrap (↑(BitVec.ofInt (8:Nat) (↑(UInt8.toNat ((A8 a0 a1).getD (AP a0 a1).toNat (Ae TC.u8))):Int) ||| BitVec.ofInt (8:Nat) (64:Int)).toNat:Int)
def Anh (a0:List UInt8) (a1:Int):List UInt8:=bif(Bb a0 a1) then(A8 a0 a1).set (AP a0 a1).toNat (UInt8.ofNat (Mz a0 a1).toNat) else bif(BW a0 a1) then(A8 a0 a1).set (AP a0 a1).toNat (UInt8.ofNat (MA a0 a1).toNat) else bif(Hu a0 a1) then(A8 a0 a1).set (AP a0 a1).toNat (UInt8.ofNat (MB a0 a1).toNat) else(A8 a0 a1)
def A62 (_a0:List UInt8) (_a1:Int):A:=.sq 0
def Zv (a0:List UInt8) (a1:Int):Objs:=[(0,some (.arr 5 1 (.ty .u8 (Anh a0 a1))))]
def Azz (a0:List UInt8) (a1:Int):List Prop:=[(Ai ((0:Nat)+a0.length)),(AK Gj Gi Jn (HM (a1,Be a1,Be a1,(0:Int),[]++a0)) (a1,Be a1,Be a1,(0:Int),[]++a0)),((Bb a0 a1)=true→(0:Int)≤(AP a0 a1)∧(AP a0 a1) <(↑(A8 a0 a1).length:Int)),((Bb a0 a1)=false→(BW a0 a1)=true→(0:Int)≤(AP a0 a1)∧(AP a0 a1) <(↑(A8 a0 a1).length:Int)),((Bb a0 a1)=false→(BW a0 a1)=false→(Hu a0 a1)=true→(0:Int)≤(AP a0 a1)∧(AP a0 a1) <(↑(A8 a0 a1).length:Int))]
set_option maxRecDepth 100000 in
theorem Bkz (a0:List UInt8) (a1:Int):ER (AA Bsk Ajj) 9 119 [Ak .bytes a0,Ak .i64 a1] 0 []=some (1,A62 a0 a1,1,Zv a0 a1,[(Ai ((0:Nat)+a0.length)),(Aj Try.prog (119:FuncId) (0:Nat)=Aj Try.prog (119:FuncId) (0:Nat)),(AK Gj Gi Jn (HM (a1,Be a1,Be a1,(0:Int),[]++a0)) (a1,Be a1,Be a1,(0:Int),[]++a0)),((Bb a0 a1)=true→(0:Int)≤(AP a0 a1)∧(AP a0 a1) <(↑(A8 a0 a1).length:Int)),((Bb a0 a1)=true→(AP a0 a1).toNat <(A8 a0 a1).length),((Bb a0 a1)=true→(0:Int)≤(AP a0 a1)∧(AP a0 a1) <(↑(A8 a0 a1).length:Int)),((Bb a0 a1)=true→(AP a0 a1).toNat <(A8 a0 a1).length),((Bb a0 a1)=true→(0:Int)≤(Mz a0 a1)∧(Mz a0 a1) <(256:Int)),((Bb a0 a1)=false→(BW a0 a1)=true→(0:Int)≤(AP a0 a1)∧(AP a0 a1) <(↑(A8 a0 a1).length:Int)),((Bb a0 a1)=false→(BW a0 a1)=true→(AP a0 a1).toNat <(A8 a0 a1).length),((Bb a0 a1)=false→(BW a0 a1)=true→(0:Int)≤(AP a0 a1)∧(AP a0 a1) <(↑(A8 a0 a1).length:Int)),((Bb a0 a1)=false→(BW a0 a1)=true→(AP a0 a1).toNat <(A8 a0 a1).length),((Bb a0 a1)=false→(BW a0 a1)=true→(0:Int)≤(MA a0 a1)∧(MA a0 a1) <(256:Int)),((Bb a0 a1)=false→(BW a0 a1)=false→(Hu a0 a1)=true→(0:Int)≤(AP a0 a1)∧(AP a0 a1) <(↑(A8 a0 a1).length:Int)),((Bb a0 a1)=false→(BW a0 a1)=false→(Hu a0 a1)=true→(AP a0 a1).toNat <(A8 a0 a1).length),((Bb a0 a1)=false→(BW a0 a1)=false→(Hu a0 a1)=true→(0:Int)≤(AP a0 a1)∧(AP a0 a1) <(↑(A8 a0 a1).length:Int)),((Bb a0 a1)=false→(BW a0 a1)=false→(Hu a0 a1)=true→(AP a0 a1).toNat <(A8 a0 a1).length),((Bb a0 a1)=false→(BW a0 a1)=false→(Hu a0 a1)=true→(0:Int)≤(MB a0 a1)∧(MB a0 a1) <(256:Int))]):=by kernel_rfl
set_option maxRecDepth 100000 in
theorem Bq6 (a0:List UInt8) (a1:Int) (hp:∀p∈Azz a0 a1,p):CallOk Try.prog 119 [Ak .bytes a0,Ak .i64 a1] 0 [] 1 (A62 a0 a1) 1 (Zv a0 a1):=by
 have n0:=N0 hp
 have n2:=N0 (N1 hp)
 have n3:((Bb a0 a1)=true→(0:Int)≤(AP a0 a1)∧(AP a0 a1) <(↑(A8 a0 a1).length:Int)):=N0 (N1 (N1 hp))
 have n4:((Bb a0 a1)=true→(AP a0 a1).toNat <(A8 a0 a1).length):=by intro h0;have g:=n3 h0;omega
 have n7:((Bb a0 a1)=true→(0:Int)≤(Mz a0 a1)∧(Mz a0 a1) <(256:Int)):=by intros;exact Bcx _
 have n8:((Bb a0 a1)=false→(BW a0 a1)=true→(0:Int)≤(AP a0 a1)∧(AP a0 a1) <(↑(A8 a0 a1).length:Int)):=N0 (N1 (N1 (N1 hp)))
 have n9:((Bb a0 a1)=false→(BW a0 a1)=true→(AP a0 a1).toNat <(A8 a0 a1).length):=by intro h0 h1;have g:=n8 h0 h1;omega
 have n12:((Bb a0 a1)=false→(BW a0 a1)=true→(0:Int)≤(MA a0 a1)∧(MA a0 a1) <(256:Int)):=by intros;exact Bcx _
 have n13:((Bb a0 a1)=false→(BW a0 a1)=false→(Hu a0 a1)=true→(0:Int)≤(AP a0 a1)∧(AP a0 a1) <(↑(A8 a0 a1).length:Int)):=N0 (N1 (N1 (N1 (N1 hp))))
 have n14:((Bb a0 a1)=false→(BW a0 a1)=false→(Hu a0 a1)=true→(AP a0 a1).toNat <(A8 a0 a1).length):=by intro h0 h1 h2;have g:=n13 h0 h1 h2;omega
 have n17:((Bb a0 a1)=false→(BW a0 a1)=false→(Hu a0 a1)=true→(0:Int)≤(MB a0 a1)∧(MB a0 a1) <(256:Int)):=by intros;exact Bcx _
 exact AH (Ax A7u Azw) (Bkz a0 a1) (Aa n0 (Aa rfl (Aa n2 (Aa n3 (Aa n4 (Aa n3 (Aa n4 (Aa n7 (Aa n8 (Aa n9 (Aa n8 (Aa n9 (Aa n12 (Aa n13 (Aa n14 (Aa n13 (Aa n14 (Aa n17 Ab))))))))))))))))))
def Az0 (_a0:List UInt8) (_a1:Int):A:=.sq 0
def Um (a0:List UInt8) (a1:Int):Objs:=[(0,some (.arr 5 1 (.ty .u8 (a0++Nk a1))))]
def Aqs (a0:List UInt8) (_a1:Int):List Prop:=[Ai (a0.length+8)]
theorem Bcd (n:Int):Be n=(Lg n:Int):=by
 unfold Be XL QG QH Lg
 by_cases h0:n <0∨n >4611686018427387903
 ·have e:(decide (n <0)||decide (n >4611686018427387903))=true:=by simpa using h0
  rw[e,if_pos h0];rfl
 ·have e:(decide (n <0)||decide (n >4611686018427387903))=false:=by
   rw[Bool.eq_false_iff]
   intro hh
   exact h0 (by simpa using hh)
  rw[e,if_neg h0]
  by_cases h1:n≥1073741824
  ·rw[if_pos h1,decide_eq_true h1];rfl
  ·rw[if_neg h1,decide_eq_false h1]
   by_cases h2:n≥16384
   ·rw[if_pos h2,decide_eq_true h2];rfl
   ·rw[if_neg h2,decide_eq_false h2]
    by_cases h3:n≥64
    ·rw[if_pos h3,decide_eq_true h3];rfl
    ·rw[if_neg h3,decide_eq_false h3];rfl
theorem Alc (n:Int):Lg n=0∨(0≤n∧n≤4611686018427387903∧szs (Lg n)):=by
 by_cases h:n <0∨n >4611686018427387903
 ·left;unfold Lg;rw[if_pos h]
 ·right;exact⟨by omega,by omega,(Bp4 (by omega) (by omega)).1⟩
theorem Bwn (b:List UInt8) (n:Int) (hb:Ai (b.length+8)):
  AK Gj Gi Jn (HM (n,Be n,Be n,0,[]++b)) (n,Be n,Be n,0,[]++b)∧
  (Pj (n,Be n,Be n,0,[]++b)).2.2.2.2=b++be (Lg n) n.toNat:=by
 have hk8:Lg n≤8:=by
  rcases Alc n with h|⟨_,_,h⟩
  ·omega
  ·unfold szs at h;omega
 rw[Bcd]
 obtain⟨h1,⟨i,hi,h2⟩,h3⟩:=Ayz (next:=Gj) (goes:=Gi) (ps:=Jn)
  (fun x=>∃i:Nat,i≤Lg n∧x=(n,(Lg n:Int),(Lg n:Int),(i:Int),b++(be (Lg n) n.toNat).take i)) HM (by
   rintro x ⟨i,hi,rfl⟩
   refine⟨Aa (fun hp=>?_) Ab,fun hg=>?_⟩
   ·have h':(!!decide ((i:Int) <(Lg n:Int)))=true:=hp
    have hlt:i <Lg n:=by simpa using h'
    show Ai ((b++(be (Lg n) n.toNat).take i).length+1)
    unfold Ai at*
    rw[List.length_append,List.length_take,Ld]
    omega
   ·have h':(!!decide ((i:Int) <(Lg n:Int)))=true:=hg
    have hlt:i <Lg n:=by simpa using h'
    have hw:IntKind.i64.wrap ((i:Int)+1)=((i+1:Nat):Int):=by rw[i64_in (by omega)];rfl
    have hn0:0≤n:=by rcases Alc n with h|⟨h,_⟩<;>omega
    refine⟨⟨i+1,hlt,?_⟩,?_⟩
    ·show(n,(Lg n:Int),(Lg n:Int),IntKind.i64.wrap ((i:Int)+1),(b++(be (Lg n) n.toNat).take i)++[UInt8.ofNat (IntKind.u8.wrap (n.fdiv ((2:Int)^min (IntKind.u64.wrap (IntKind.i64.wrap ((8:Int)*IntKind.i64.wrap (IntKind.i64.wrap ((Lg n:Int) - (1:Int)) - (i:Int))))).toNat (64:Nat)))).toNat])=_
     rw[hw,Bwm hn0 hk8 hlt,List.append_assoc,←Byv hlt]
    ·show((Lg n:Int) - IntKind.i64.wrap ((i:Int)+1)).toNat <((Lg n:Int) - (i:Int)).toNat
     rw[hw]
     omega) _ (n,(Lg n:Int),(Lg n:Int),0,[]++b) ⟨0,Nat.zero_le _,by simp⟩ (Nat.le_refl _)
 refine⟨h1,?_⟩
 have h4:Pj (n,(Lg n:Int),(Lg n:Int),0,[]++b)=_:=h2
 rw[h2] at h3
 have h3':(!!decide ((i:Int) <(Lg n:Int)))=false:=h3
 have hn:¬((i:Int) <(Lg n:Int)):=by simpa using h3'
 obtain rfl:i=Lg n:=by omega
 rw[h4,List.take_of_length_le (by rw[Ld];exact Nat.le_refl _)]
theorem Bky (b:List UInt8) (n:Int) (hb:Ai (b.length+8)):(∀p∈Azz b n,p)∧Anh b n=b++Nk n:=by
 obtain⟨h1,h2⟩:=Bwn b n hb
 have h3:A8 b n=b++be (Lg n) n.toNat:=h2
 have h4:(AP b n).toNat=b.length:=rfl
 have hS:=Bcd n
 have hlen:(b++be (Lg n) n.toNat).length=b.length+Lg n:=by rw[List.length_append,Ld]
 have hpos:Lg n≠0→(0:Int)≤AP b n∧AP b n <((A8 b n).length:Int):=fun h0=>by
  rw[h3,hlen]
  show(0:Int)≤(b.length:Int)∧(b.length:Int) <((b.length+Lg n:Nat):Int)
  omega
 have sz2:∀c:Int,c≠0→(Be n==c)=true→Lg n≠0:=fun c hc h h0=>by
  rw[hS,h0] at h
  have h':(0:Int)=c:=by simpa using h
  exact hc h'.symm
 refine⟨Aa (by unfold Ai at*;omega) (Aa h1 (Aa (fun h=>hpos (sz2 2 (by decide) h)) (Aa (fun _ h=>hpos (sz2 4 (by decide) h)) (Aa (fun _ _ h=>hpos (sz2 8 (by decide) h)) Ab)))),?_⟩
 unfold Anh
 rw[h3,h4]
 have k7:Bb b n=((Lg n:Int)==2):=by show(Be n==2)=_;rw[hS]
 have k6:BW b n=((Lg n:Int)==4):=by show(Be n==4)=_;rw[hS]
 have k5:Hu b n=((Lg n:Int)==8):=by show(Be n==8)=_;rw[hS]
 have b1:Mz b n=IntKind.u8.wrap ((BitVec.ofInt 8 ((((b++be (Lg n) n.toNat).getD b.length (Ae TC.u8)).toNat:Nat):Int) ||| BitVec.ofInt 8 ((64*1:Nat):Int)).toNat:Int):=by rw[←h3,←h4];rfl
 have b0:MA b n=IntKind.u8.wrap ((BitVec.ofInt 8 ((((b++be (Lg n) n.toNat).getD b.length (Ae TC.u8)).toNat:Nat):Int) ||| BitVec.ofInt 8 ((64*2:Nat):Int)).toNat:Int):=by rw[←h3,←h4];rfl
 have b2:MB b n=IntKind.u8.wrap ((BitVec.ofInt 8 ((((b++be (Lg n) n.toNat).getD b.length (Ae TC.u8)).toNat:Nat):Int) ||| BitVec.ofInt 8 ((64*3:Nat):Int)).toNat:Int):=by rw[←h3,←h4];rfl
 rw[k7,k6,k5,b1,b0,b2]
 unfold Nk
 rcases Alc n with hz|⟨g1,g2,g3⟩
 ·rw[hz];rfl
 ·have hN:=(Bp4 g1 g2).2
  generalize hk:Lg n=k at*
  rcases g3 with rfl|rfl|rfl|rfl
  ·show b++be 1 n.toNat=b++be 1 (n.toNat+0*(64*256^0))
   rw[Nat.zero_mul,Nat.add_zero]
  ·exact Bcc (m:=1) (t:=1) b hN (by decide) _
  ·exact Bcc (m:=3) (t:=2) b hN (by decide) _
  ·exact Bcc (m:=7) (t:=3) b hN (by decide) _
theorem Bkx (a0:List UInt8) (a1:Int) (hp:∀p∈Aqs a0 a1,p):CallOk Try.prog 119 [Ak .bytes a0,Ak .i64 a1] 0 [] 1 (Az0 a0 a1) 1 (Um a0 a1):=by
 obtain⟨h1,h2⟩:=Bky a0 a1 (hp _ (List.mem_cons_self ..))
 have h:=Bq6 a0 a1 h1
 have ho:Zv a0 a1=Um a0 a1:=by unfold Zv Um;rw[h2]
 rw[ho] at h
 exact h
def Ani:List A→Nat→Objs→Option A9
 | [y0,y1],nx,o=>match AQ .bytes y0,AQ .i64 y1 with
  |some (a0,p0),some (a1,p1)=>some (1,(Az0 a0 a1).pk (AC nx),nx+1,AB nx (Um a0 a1)++o,p0++(p1++(Aqs a0 a1)))
  |_,_=>none
 |_,_,_=>none
theorem Bgm:EV Try.prog 119 Ani:=fun args nx o k x nx' o' ps h=>by
 unfold Ani at h
 split at h<;>first|(cases h;done)|skip
 split at h<;>first|(cases h;done)|skip
 rename_i a0 p0 a1 p1 e0 e1
 cases h
 refine⟨fun hp=>?_,_,rfl⟩
 have q0:=fun p hm=>hp p (List.mem_append.2 (.inl hm))
 have r0:=fun p hm=>hp p (List.mem_append.2 (.inr hm))
 have q1:=fun p hm=>r0 p (List.mem_append.2 (.inl hm))
 have r1:=fun p hm=>r0 p (List.mem_append.2 (.inr hm))
 refine Ah (Ag (Bkx a0 a1 r1) (Nat.le_refl _) (Ac (Af _ _) (Ac (Af _ _) An)) nx o) fun F N R vs hl=>?_
 obtain⟨v0,w0,rfl,h0,hl⟩:=hl.inv
 obtain⟨v1,w1,rfl,h1,hl⟩:=hl.inv
 exact HL.cons (Am e0 q0 h0) (HL.cons (Am e1 q1 h1) (hl))
noncomputable def Bsl:=A7 119 Ani Bsk
theorem A7v:CU Try.prog Bsl:=Aw Bgm A7u
abbrev Et:Type:=Int×(List UInt8)×Int×Int
def Od (x:Et):St:=⟨46,0,[(6,.v (.int .i64 x.1)),(28,.sl .u8 x.2.1),(29,.v (.int .i64 x.2.2.1)),(30,.v (.int .i64 x.2.2.2))],[]⟩
def RO:St→Option Et
 |⟨46,0,[(6,.v (.int .i64 z0)),(28,.sl .u8 z1),(29,.v (.int .i64 z2)),(30,.v (.int .i64 z3))],[]⟩=>some (z0,z1,z2,z3)
 |_=>none
theorem At8:∀s x,RO s=some x→s=Od x:=fun s x h=>by
 unfold RO at h
 split at h
 ·cases h;rfl
 ·cases h
def Aji:CX:=⟨0,0,[6,28,29,30],[],[],[],[6],[]⟩
def Bai:Dp:=⟨[],[],[6,28,29,30],[]⟩
def Azq (a0:Int) (a1:List UInt8) (_a2:Int) (a3:Int):Int:=IntKind.i64.wrap (↑(BitVec.ofInt (64:Nat) (IntKind.i64.wrap (a0*(256:Int))) ||| BitVec.ofInt (64:Nat) (IntKind.i64.wrap (↑(UInt8.toNat (a1.getD a3.toNat (Ae TC.u8))):Int))).toNat:Int)
def Gh (x:Et):Et:=(Azq x.1 x.2.1 x.2.2.1 x.2.2.2,x.2.1,x.2.2.1,IntKind.i64.wrap (x.2.2.2+(1:Int)))
def Gg (x:Et):Cnd:=some (!!decide (x.2.2.2 <x.2.2.1))
def XF (x:Et):List Prop:=[((!!decide (x.2.2.2 <x.2.2.1))=true→(0:Int)≤x.2.2.2∧x.2.2.2 <(↑x.2.1.length:Int))]
def Jm (x:Et):List Prop:=[((!!decide (x.2.2.2 <x.2.2.1))=true→(0:Int)≤x.2.2.2∧x.2.2.2 <(↑x.2.1.length:Int))]
def Vg (x:Et):Bo:=[(some 0,some (!decide (x.2.2.2 <x.2.2.1)),⟨46,0,[(6,.v (.int .i64 x.1))],[]⟩)]
def HK (x:Et):Nat:=(x.2.2.1 - x.2.2.2).toNat
def LU (x:Et):Et:=Bc Gh Gg (HK x) x
set_option maxRecDepth 100000 in
theorem A4c (a0:Int) (a1:List UInt8) (a2:Int) (a3:Int):By (AA Bsl L0) 9 (Aj Try.prog 114 0) Aji (Od (a0,a1,a2,a3))=some (XF (a0,a1,a2,a3),Vg (a0,a1,a2,a3),Gg (a0,a1,a2,a3),Od (Gh (a0,a1,a2,a3))):=by kernel_rfl
set_option maxRecDepth 100000 in
theorem A4d (a0:Int) (a1:List UInt8) (a2:Int) (a3:Int) (hp:∀p∈Jm (a0,a1,a2,a3),p):∀p∈XF (a0,a1,a2,a3),p:=by
 have n0:=N0 hp
 exact(Aa n0 Ab)
noncomputable def XG:=HF (AA Bsl L0) (Aj Try.prog 114 0) Aji Bai RO HK Gh Gg Jm Vg
theorem Azr:∀s b ps outs,XG s=some (b,ps,outs)→Wf s ⟨ps,outs,none⟩∧Br (AA C0 L0) b s ps outs:=
 Bh (T:=Od) A7v AG (u:=9) (by kernel_rfl) (by decide) (fun⟨a0,a1,a2,a3⟩=>A4c a0 a1 a2 a3) (fun⟨a0,a1,a2,a3⟩=>A4d a0 a1 a2 a3) At8 (fun _=>AU (n:=46) rfl) fun _ _=>rfl
noncomputable def Ajh:=Dz 0 XG L0
theorem Azp:Hf Ajh:=A5 Azr AG
def Ic (a0:List UInt8):Int:=(↑(UInt8.toNat (a0.getD (0:Nat) (Ae TC.u8))):Int)
def C4 (a0:List UInt8):Bool:=(↑a0.length:Int)==(0:Int)
def Ht (a0:List UInt8):Int:=IntKind.i64.wrap ((1:Int)*(2:Int)^min ((Ic a0).fdiv (64:Int)).toNat (64:Nat))
def E1 (a0:List UInt8):List UInt8:=List.take ((Ht a0).toNat - (1:Nat)) (List.drop (1:Nat) a0)
def Gf (a0:List UInt8):Bool:=decide ((↑a0.length:Int) <(Ht a0))
def Pi (a0:List UInt8):Bool:=decide (Be (LU (IntKind.i64.wrap (IntKind.u8.wrap (↑(BitVec.ofInt (8:Nat) (Ic a0) &&& BitVec.ofInt (8:Nat) (63:Int)).toNat:Int)),(E1 a0),(↑(E1 a0).length:Int),(0:Int))).fst <(Ht a0))
def Anc (a0:List UInt8):Int:=bif(C4 a0) then(0:Int) else bif(Gf a0) then(0:Int) else bif(Pi a0) then(0:Int) else(LU (IntKind.i64.wrap (IntKind.u8.wrap (↑(BitVec.ofInt (8:Nat) (Ic a0) &&& BitVec.ofInt (8:Nat) (63:Int)).toNat:Int)),(E1 a0),(↑(E1 a0).length:Int),(0:Int))).fst
def Ane (a0:List UInt8):Int:=bif(C4 a0) then(0:Int) else bif(Gf a0) then(0:Int) else bif(Pi a0) then(0:Int) else(Ht a0)
def Anf (a0:List UInt8):Int:=bif(C4 a0) then(10:Int) else bif(Gf a0) then(10:Int) else bif(Pi a0) then(11:Int) else(0:Int)
def Zu (a0:List UInt8):A:=.v (.tuple ⟨[.int .i64 (Anc a0),.int .i64 (Ane a0),.int .i64 (Anf a0)]⟩)
def A61 (_a0:List UInt8):Objs:=[]
def Azt (a0:List UInt8):List Prop:=[((!(C4 a0))=true→(0:Int)≤(0:Int)∧(0:Int) <(↑a0.length:Int)),((!(C4 a0))=true→(0:Int)≤(Ic a0).fdiv (64:Int)),((!(C4 a0))=true→(!(Gf a0))=true→(0:Int)≤(0:Int)∧(0:Int) <(↑a0.length:Int)),((!(C4 a0))=true→(!(Gf a0))=true→(0:Int)≤(1:Int)∧(1:Int)≤(Ht a0)∧(Ht a0)≤(↑a0.length:Int)),((!(C4 a0))=true→(!(Gf a0))=true→AK Gh Gg Jm (HK (IntKind.i64.wrap (IntKind.u8.wrap (↑(BitVec.ofInt (8:Nat) (Ic a0) &&& BitVec.ofInt (8:Nat) (63:Int)).toNat:Int)),(E1 a0),(↑(E1 a0).length:Int),(0:Int))) (IntKind.i64.wrap (IntKind.u8.wrap (↑(BitVec.ofInt (8:Nat) (Ic a0) &&& BitVec.ofInt (8:Nat) (63:Int)).toNat:Int)),(E1 a0),(↑(E1 a0).length:Int),(0:Int)))]
set_option maxRecDepth 100000 in
theorem Bkw (a0:List UInt8):ER (AA Bsl Ajh) 9 114 [Ak .bytes a0] 0 []=some (1,Zu a0,0,A61 a0,[((!(C4 a0))=true→(0:Int)≤(0:Int)∧(0:Int) <(↑a0.length:Int)),((!(C4 a0))=true→(0:Int)≤(Ic a0).fdiv (64:Int)),((!(C4 a0))=true→(!(Gf a0))=true→(0:Int)≤(0:Int)∧(0:Int) <(↑a0.length:Int)),((!(C4 a0))=true→(!(Gf a0))=true→(0:Int)≤(1:Int)∧(1:Int)≤(Ht a0)∧(Ht a0)≤(↑a0.length:Int)),((!(C4 a0))=true→(!(Gf a0))=true→Aj Try.prog (114:FuncId) (0:Nat)=Aj Try.prog (114:FuncId) (0:Nat)),((!(C4 a0))=true→(!(Gf a0))=true→AK Gh Gg Jm (HK (IntKind.i64.wrap (IntKind.u8.wrap (↑(BitVec.ofInt (8:Nat) (Ic a0) &&& BitVec.ofInt (8:Nat) (63:Int)).toNat:Int)),(E1 a0),(↑(E1 a0).length:Int),(0:Int))) (IntKind.i64.wrap (IntKind.u8.wrap (↑(BitVec.ofInt (8:Nat) (Ic a0) &&& BitVec.ofInt (8:Nat) (63:Int)).toNat:Int)),(E1 a0),(↑(E1 a0).length:Int),(0:Int)))]):=by kernel_rfl
set_option maxRecDepth 100000 in
theorem Bq5 (a0:List UInt8) (hp:∀p∈Azt a0,p):CallOk Try.prog 114 [Ak .bytes a0] 0 [] 1 (Zu a0) 0 (A61 a0):=by
 have n0:=N0 hp
 have n1:=N0 (N1 hp)
 have n2:=N0 (N1 (N1 hp))
 have n3:=N0 (N1 (N1 (N1 hp)))
 have n4:((!(C4 a0))=true→(!(Gf a0))=true→Aj Try.prog (114:FuncId) (0:Nat)=Aj Try.prog (114:FuncId) (0:Nat)):=by intros;rfl
 have n5:=N0 (N1 (N1 (N1 (N1 hp))))
 exact AH (Ax A7v Azp) (Bkw a0) (Aa n0 (Aa n1 (Aa n2 (Aa n3 (Aa n4 (Aa n5 Ab))))))
def Ul (a0:List UInt8):A:=.v (.tuple ⟨[.int .i64 (Ar a0).1,.int .i64 (Ar a0).2.1,.int .i64 (Ar a0).2.2]⟩)
def Azs (_a0:List UInt8):Objs:=[]
def Aqr (_a0:List UInt8):List Prop:=[]
theorem Bu6 (L:List UInt8) (h7:L.length≤7) (a:Nat) (ha:a <64):
  AK Gh Gg Jm (HK ((a:Int),L,(L.length:Int),0)) ((a:Int),L,(L.length:Int),0)∧
  (LU ((a:Int),L,(L.length:Int),0)).1=(val a L:Int):=by
 obtain⟨h1,⟨i,hi,h2⟩,h3⟩:=Ayz (next:=Gh) (goes:=Gg) (ps:=Jm)
  (fun x=>∃i:Nat,i≤L.length∧x=((val a (L.take i):Int),L,(L.length:Int),(i:Int))) HK (by
   rintro x ⟨i,hi,rfl⟩
   refine⟨Aa (fun hp=>?_) Ab,fun hg=>?_⟩
   ·have h':(!!decide ((i:Int) <(L.length:Int)))=true:=hp
    have hlt:(i:Int) <(L.length:Int):=by simpa using h'
    show(0:Int)≤(i:Int)∧(i:Int) <(L.length:Int)
    exact⟨by omega,hlt⟩
   ·have h':(!!decide ((i:Int) <(L.length:Int)))=true:=hg
    have hlt:i <L.length:=by simpa using h'
    have hw:IntKind.i64.wrap ((i:Int)+1)=((i+1:Nat):Int):=by rw[i64_in (by omega)];rfl
    have hb:val a (L.take i) <64*256^6:=by
     have hv:=UN (L.take i) a
     have hl:=Bco (L.take i)
     have e:(L.take i).length=i:=by rw[List.length_take];omega
     rw[e] at hv hl
     have hm:256^i≤256^6:=Nat.pow_le_pow_right (by decide) (by omega)
     have hq:=Nat.mul_le_mul_right (256^i) (show a+1≤64 by omega)
     rw[Nat.add_mul,Nat.one_mul] at hq
     have hq2:=Nat.mul_le_mul_left 64 hm
     omega
    refine⟨⟨i+1,hlt,?_⟩,?_⟩
    ·show(IntKind.i64.wrap ((BitVec.ofInt 64 (IntKind.i64.wrap ((val a (L.take i):Int)*256)) ||| BitVec.ofInt 64 (IntKind.i64.wrap (((L.getD (i:Int).toNat (Ae TC.u8)).toNat:Nat):Int))).toNat:Int),L,(L.length:Int),IntKind.i64.wrap ((i:Int)+1))=_
     rw[hw,Bz0 hb,Int.toNat_natCast,Bx1 _ _ _ hlt]
    ·show((L.length:Int) - IntKind.i64.wrap ((i:Int)+1)).toNat <((L.length:Int) - (i:Int)).toNat
     rw[hw]
     omega) _ ((a:Int),L,(L.length:Int),0) ⟨0,Nat.zero_le _,rfl⟩ (Nat.le_refl _)
 refine⟨h1,?_⟩
 have h4:LU ((a:Int),L,(L.length:Int),0)=_:=h2
 rw[h2] at h3
 have h3':(!!decide ((i:Int) <(L.length:Int)))=false:=h3
 have hn:¬((i:Int) <(L.length:Int)):=by simpa using h3'
 obtain rfl:i=L.length:=by omega
 rw[h4,List.take_length]
theorem Bkv (b:List UInt8):(∀p∈Azt b,p)∧Anc b=(Ar b).1∧Ane b=(Ar b).2.1∧Anf b=(Ar b).2.2:=by
 cases b with
 |nil=>
  have no:(!(C4 []))=true→False:=by intro h;cases h
  exact⟨Aa (fun h=>(no h).elim) (Aa (fun h=>(no h).elim) (Aa (fun h=>(no h).elim) (Aa (fun h=>(no h).elim) (Aa (fun h=>(no h).elim) Ab)))),rfl,rfl,rfl⟩
 | cons x r=>
  have hx:x.toNat <256:=x.toNat_lt
  have k4:C4 (x::r)=false:=by
   show(((r.length+1:Nat):Int)==0)=false
   rw[Bool.eq_false_iff]
   intro h
   have:((r.length+1:Nat):Int)=0:=by simpa using h
   omega
  have k3:Ht (x::r)=((2^(x.toNat / 64):Nat):Int):=B40 x
  have t3:x.toNat / 64≤3:=by omega
  have hK:=(Bw7 t3).1
  have k2:E1 (x::r)=r.take (2^(x.toNat / 64) - 1):=by
   show List.take ((Ht (x::r)).toNat - 1) r=_
   rw[k3,Int.toNat_natCast]
  have k1:Gf (x::r)=decide (r.length+1 <2^(x.toNat / 64)):=by
   show decide (((r.length+1:Nat):Int) <Ht (x::r))=_
   rw[k3]
   exact decide_eq_decide.2 Int.ofNat_lt
  have k6:IntKind.i64.wrap (IntKind.u8.wrap ((BitVec.ofInt 8 (Ic (x::r)) &&& BitVec.ofInt 8 63).toNat:Int))=((x.toNat % 64:Nat):Int):=Bzd x
  generalize hKK:2^(x.toNat / 64)=K at*
  have hlen:(r.take (K - 1)).length≤7:=by rw[List.length_take];unfold szs at hK;omega
  obtain⟨n1,n2⟩:=Bu6 (r.take (K - 1)) hlen (x.toNat % 64) (by omega)
  have k0:Pi (x::r)=decide (Lg (val (x.toNat % 64) (r.take (K - 1))) <K):=by
   unfold Pi
   rw[k6,k2,n2,Bcd,k3]
   exact decide_eq_decide.2 Int.ofNat_lt
  refine⟨Aa (fun _=>?_) (Aa (fun _=>?_) (Aa (fun _ _=>(by show(0:Int)≤0∧(0:Int) <((r.length+1:Nat):Int);omega)) (Aa (fun _ h=>?_) (Aa (fun _ _=>?_) Ab)))),?_⟩
  ·show(0:Int)≤0∧(0:Int) <((r.length+1:Nat):Int)
   omega
  ·show(0:Int)≤((x.toNat:Nat):Int).fdiv 64
   rw[Int.fdiv_eq_ediv_of_nonneg _ (by decide)]
   omega
  ·rw[k1] at h
   have h':¬(r.length+1 <K):=by simpa using h
   rw[k3]
   show(0:Int)≤1∧(1:Int)≤(K:Int)∧(K:Int)≤((r.length+1:Nat):Int)
   unfold szs at hK
   omega
  ·rw[k6,k2]
   exact n1
  ·unfold Anc Ane Anf
   rw[k4,k1,k0,k6,k2,n2,k3,Zj,hKK]
   by_cases c1:r.length+1 <K
   ·rw[if_pos c1,decide_eq_true c1];exact⟨rfl,rfl,rfl⟩
   ·rw[if_neg c1,decide_eq_false c1]
    by_cases c2:Lg (val (x.toNat % 64) (r.take (K - 1))) <K
    ·rw[if_pos c2,decide_eq_true c2];exact⟨rfl,rfl,rfl⟩
    ·rw[if_neg c2,decide_eq_false c2];exact⟨rfl,rfl,rfl⟩
theorem Bku (a0:List UInt8) (_hp:∀p∈Aqr a0,p):CallOk Try.prog 114 [Ak .bytes a0] 0 [] 1 (Ul a0) 0 (Azs a0):=by
 obtain⟨h1,h2,h3,h4⟩:=Bkv a0
 have h:=Bq5 a0 h1
 have hr:Zu a0=Ul a0:=by unfold Zu Ul;rw[h2,h3,h4]
 rw[hr] at h
 exact h
def Ang:List A→Nat→Objs→Option A9
 | [y0],nx,o=>match AQ .bytes y0 with
  |some (a0,p0)=>some (1,(Ul a0).pk (AC nx),nx+0,AB nx (Azs a0)++o,p0++(Aqr a0))
  |_=>none
 |_,_,_=>none
theorem Bgl:EV Try.prog 114 Ang:=fun args nx o k x nx' o' ps h=>by
 unfold Ang at h
 split at h<;>first|(cases h;done)|skip
 split at h<;>first|(cases h;done)|skip
 rename_i a0 p0 e0
 cases h
 refine⟨fun hp=>?_,_,rfl⟩
 have q0:=fun p hm=>hp p (List.mem_append.2 (.inl hm))
 have r0:=fun p hm=>hp p (List.mem_append.2 (.inr hm))
 refine Ah (Ag (Bku a0 r0) (Nat.le_refl _) (Ac (Af _ _) An) nx o) fun F N R vs hl=>?_
 obtain⟨v0,w0,rfl,h0,hl⟩:=hl.inv
 exact HL.cons (Am e0 q0 h0) (hl)
noncomputable def B34:=A7 114 Ang Bsl
theorem Byb:CU Try.prog B34:=Aw Bgl A7v
noncomputable def Ca:=B34
theorem B03:CU Try.prog Ca:=Byb
end Go.Proofs.Yteebobbhhgmeiaa
namespace Go.Proofs.Yteebobbhhgmeiaa
open Go.RowKit
def PY (a0:Int):Bool:=!a0==(1:Int)
def M4 (a0:Int):Bool:=bif !((PY a0)&&!((PY a0)&&a0==(2:Int))) then true else false
def R6 (a0:Int):A:=.v (.bool (M4 a0))
def R5 (_a0:Int):Objs:=[]
def Y3 (_a0:Int):List Prop:=[]
set_option maxRecDepth 100000 in
theorem A20 (a0:Int):ER (AA Ca L0) 9 151 [Ak .i64 a0] 0 []=some (1,R6 a0,0,R5 a0,[]):=by kernel_rfl
set_option maxRecDepth 100000 in
theorem A5t (a0:Int) (_hp:∀p∈Y3 a0,p):CallOk Try.prog 151 [Ak .i64 a0] 0 [] 1 (R6 a0) 0 (R5 a0):=by
 exact AH (Ax B03 AG) (A20 a0) Ab
def R7:List A→Nat→Objs→Option A9
 | [y0],nx,o=>match AQ .i64 y0 with
  |some (a0,p0)=>some (1,(R6 a0).pk (AC nx),nx+0,AB nx (R5 a0)++o,p0++(Y3 a0))
  |_=>none
 |_,_,_=>none
theorem Av3:EV Try.prog 151 R7:=fun args nx o k x nx' o' ps h=>by
 unfold R7 at h
 split at h<;>first|(cases h;done)|skip
 split at h<;>first|(cases h;done)|skip
 rename_i a0 p0 e0
 cases h
 refine⟨fun hp=>?_,_,rfl⟩
 have q0:=fun p hm=>hp p (List.mem_append.2 (.inl hm))
 have r0:=fun p hm=>hp p (List.mem_append.2 (.inr hm))
 refine Ah (Ag (A5t a0 r0) (Nat.le_refl _) (Ac (Af _ _) An) nx o) fun F N R vs hl=>?_
 obtain⟨v0,w0,rfl,h0,hl⟩:=hl.inv
 exact HL.cons (Am e0 q0 h0) (hl)
noncomputable def B10:=A7 151 R7 Ca
theorem Bm7:CU Try.prog B10:=Aw Av3 B03
def Co (a0:TStamp):Bool:=bif a0.1==(0:Int)&&a0.2==(0:Int) then true else decide (a0.1 >(0:Int))&&decide (a0.1≤(281474976710656:Int))&&M4 a0.2
def UG (a0:TStamp):A:=.v (.bool (Co a0))
def UF (_a0:TStamp):Objs:=[]
def Aci (_a0:TStamp):List Prop:=[]
set_option maxRecDepth 100000 in
theorem A5q (a0:TStamp):ER (AA B10 L0) 9 102 [Ak .stamp a0] 0 []=some (1,UG a0,0,UF a0,[]):=by kernel_rfl
set_option maxRecDepth 100000 in
theorem Bci (a0:TStamp) (_hp:∀p∈Aci a0,p):CallOk Try.prog 102 [Ak .stamp a0] 0 [] 1 (UG a0) 0 (UF a0):=by
 exact AH (Ax Bm7 AG) (A5q a0) Ab
def UH:List A→Nat→Objs→Option A9
 | [y0],nx,o=>match AQ .stamp y0 with
  |some (a0,p0)=>some (1,(UG a0).pk (AC nx),nx+0,AB nx (UF a0)++o,p0++(Aci a0))
  |_=>none
 |_,_,_=>none
theorem A2x:EV Try.prog 102 UH:=fun args nx o k x nx' o' ps h=>by
 unfold UH at h
 split at h<;>first|(cases h;done)|skip
 split at h<;>first|(cases h;done)|skip
 rename_i a0 p0 e0
 cases h
 refine⟨fun hp=>?_,_,rfl⟩
 have q0:=fun p hm=>hp p (List.mem_append.2 (.inl hm))
 have r0:=fun p hm=>hp p (List.mem_append.2 (.inr hm))
 refine Ah (Ag (Bci a0 r0) (Nat.le_refl _) (Ac (Af _ _) An) nx o) fun F N R vs hl=>?_
 obtain⟨v0,w0,rfl,h0,hl⟩:=hl.inv
 exact HL.cons (Am e0 q0 h0) (hl)
noncomputable def B11:=A7 102 UH B10
theorem Bm8:CU Try.prog B11:=Aw A2x Bm7
def Hz (a0:TStamp):Bool:=bif a0.1==(0:Int)&&a0.2==(0:Int) then true else decide (a0.1≥(1:Int))&&decide (a0.1≤(281474976710656:Int))&&(a0.2==(1:Int)||a0.2==(2:Int))
def Ad5 (a0:TStamp):A:=.v (.bool (Hz a0))
def Ad4 (_a0:TStamp):Objs:=[]
def Aq1 (_a0:TStamp):List Prop:=[]
set_option maxRecDepth 100000 in
theorem Bgy (a0:TStamp):ER (AA B11 L0) 9 104 [Ak .stamp a0] 0 []=some (1,Ad5 a0,0,Ad4 a0,[]):=by kernel_rfl
set_option maxRecDepth 100000 in
theorem Bk8 (a0:TStamp) (_hp:∀p∈Aq1 a0,p):CallOk Try.prog 104 [Ak .stamp a0] 0 [] 1 (Ad5 a0) 0 (Ad4 a0):=by
 exact AH (Ax Bm8 AG) (Bgy a0) Ab
def Ad6:List A→Nat→Objs→Option A9
 | [y0],nx,o=>match AQ .stamp y0 with
  |some (a0,p0)=>some (1,(Ad5 a0).pk (AC nx),nx+0,AB nx (Ad4 a0)++o,p0++(Aq1 a0))
  |_=>none
 |_,_,_=>none
theorem Bau:EV Try.prog 104 Ad6:=fun args nx o k x nx' o' ps h=>by
 unfold Ad6 at h
 split at h<;>first|(cases h;done)|skip
 split at h<;>first|(cases h;done)|skip
 rename_i a0 p0 e0
 cases h
 refine⟨fun hp=>?_,_,rfl⟩
 have q0:=fun p hm=>hp p (List.mem_append.2 (.inl hm))
 have r0:=fun p hm=>hp p (List.mem_append.2 (.inr hm))
 refine Ah (Ag (Bk8 a0 r0) (Nat.le_refl _) (Ac (Af _ _) An) nx o) fun F N R vs hl=>?_
 obtain⟨v0,w0,rfl,h0,hl⟩:=hl.inv
 exact HL.cons (Am e0 q0 h0) (hl)
noncomputable def B12:=A7 104 Ad6 B11
theorem Bm9:CU Try.prog B12:=Aw Bau Bm8
def KM (a0:Int) (_a1:Int):Int:=min (max a0 (0:Int)) (1099511627776:Int)
def R9 (a0:Int) (a1:Int):A:=.v (.int .i64 (KM a0 a1))
def R8 (_a0:Int) (_a1:Int):Objs:=[]
def Y4 (_a0:Int) (_a1:Int):List Prop:=[]
set_option maxRecDepth 100000 in
theorem A28 (a0:Int) (a1:Int):ER (AA B12 L0) 9 153 [Ak .i64 a0,Ak .i64 a1] 0 []=some (1,R9 a0 a1,0,R8 a0 a1,[]):=by kernel_rfl
set_option maxRecDepth 100000 in
theorem A5w (a0:Int) (a1:Int) (_hp:∀p∈Y4 a0 a1,p):CallOk Try.prog 153 [Ak .i64 a0,Ak .i64 a1] 0 [] 1 (R9 a0 a1) 0 (R8 a0 a1):=by
 exact AH (Ax Bm9 AG) (A28 a0 a1) Ab
def Sa:List A→Nat→Objs→Option A9
 | [y0,y1],nx,o=>match AQ .i64 y0,AQ .i64 y1 with
  |some (a0,p0),some (a1,p1)=>some (1,(R9 a0 a1).pk (AC nx),nx+0,AB nx (R8 a0 a1)++o,p0++(p1++(Y4 a0 a1)))
  |_,_=>none
 |_,_,_=>none
theorem Av4:EV Try.prog 153 Sa:=fun args nx o k x nx' o' ps h=>by
 unfold Sa at h
 split at h<;>first|(cases h;done)|skip
 split at h<;>first|(cases h;done)|skip
 rename_i a0 p0 a1 p1 e0 e1
 cases h
 refine⟨fun hp=>?_,_,rfl⟩
 have q0:=fun p hm=>hp p (List.mem_append.2 (.inl hm))
 have r0:=fun p hm=>hp p (List.mem_append.2 (.inr hm))
 have q1:=fun p hm=>r0 p (List.mem_append.2 (.inl hm))
 have r1:=fun p hm=>r0 p (List.mem_append.2 (.inr hm))
 refine Ah (Ag (A5w a0 a1 r1) (Nat.le_refl _) (Ac (Af _ _) (Ac (Af _ _) An)) nx o) fun F N R vs hl=>?_
 obtain⟨v0,w0,rfl,h0,hl⟩:=hl.inv
 obtain⟨v1,w1,rfl,h1,hl⟩:=hl.inv
 exact HL.cons (Am e0 q0 h0) (HL.cons (Am e1 q1 h1) (hl))
noncomputable def B13:=A7 153 Sa B12
theorem Bna:CU Try.prog B13:=Aw Av4 Bm9
def Sc (a0:Int) (a1:Int):A:=.v (.int .i64 (max a0 a1))
def Sb (_a0:Int) (_a1:Int):Objs:=[]
def Y5 (_a0:Int) (_a1:Int):List Prop:=[]
set_option maxRecDepth 100000 in
theorem A29 (a0:Int) (a1:Int):ER (AA B13 L0) 9 154 [Ak .i64 a0,Ak .i64 a1] 0 []=some (1,Sc a0 a1,0,Sb a0 a1,[]):=by kernel_rfl
set_option maxRecDepth 100000 in
theorem A5x (a0:Int) (a1:Int) (_hp:∀p∈Y5 a0 a1,p):CallOk Try.prog 154 [Ak .i64 a0,Ak .i64 a1] 0 [] 1 (Sc a0 a1) 0 (Sb a0 a1):=by
 exact AH (Ax Bna AG) (A29 a0 a1) Ab
def Sd:List A→Nat→Objs→Option A9
 | [y0,y1],nx,o=>match AQ .i64 y0,AQ .i64 y1 with
  |some (a0,p0),some (a1,p1)=>some (1,(Sc a0 a1).pk (AC nx),nx+0,AB nx (Sb a0 a1)++o,p0++(p1++(Y5 a0 a1)))
  |_,_=>none
 |_,_,_=>none
theorem Av5:EV Try.prog 154 Sd:=fun args nx o k x nx' o' ps h=>by
 unfold Sd at h
 split at h<;>first|(cases h;done)|skip
 split at h<;>first|(cases h;done)|skip
 rename_i a0 p0 a1 p1 e0 e1
 cases h
 refine⟨fun hp=>?_,_,rfl⟩
 have q0:=fun p hm=>hp p (List.mem_append.2 (.inl hm))
 have r0:=fun p hm=>hp p (List.mem_append.2 (.inr hm))
 have q1:=fun p hm=>r0 p (List.mem_append.2 (.inl hm))
 have r1:=fun p hm=>r0 p (List.mem_append.2 (.inr hm))
 refine Ah (Ag (A5x a0 a1 r1) (Nat.le_refl _) (Ac (Af _ _) (Ac (Af _ _) An)) nx o) fun F N R vs hl=>?_
 obtain⟨v0,w0,rfl,h0,hl⟩:=hl.inv
 obtain⟨v1,w1,rfl,h1,hl⟩:=hl.inv
 exact HL.cons (Am e0 q0 h0) (HL.cons (Am e1 q1 h1) (hl))
noncomputable def B14:=A7 154 Sd B13
theorem Bnb:CU Try.prog B14:=Aw Av5 Bna
def Sf (a0:Int) (a1:Int):A:=.v (.int .i64 (min a0 a1))
def Se (_a0:Int) (_a1:Int):Objs:=[]
def Y6 (_a0:Int) (_a1:Int):List Prop:=[]
set_option maxRecDepth 100000 in
theorem A3a (a0:Int) (a1:Int):ER (AA B14 L0) 9 156 [Ak .i64 a0,Ak .i64 a1] 0 []=some (1,Sf a0 a1,0,Se a0 a1,[]):=by kernel_rfl
set_option maxRecDepth 100000 in
theorem A5y (a0:Int) (a1:Int) (_hp:∀p∈Y6 a0 a1,p):CallOk Try.prog 156 [Ak .i64 a0,Ak .i64 a1] 0 [] 1 (Sf a0 a1) 0 (Se a0 a1):=by
 exact AH (Ax Bnb AG) (A3a a0 a1) Ab
def Sg:List A→Nat→Objs→Option A9
 | [y0,y1],nx,o=>match AQ .i64 y0,AQ .i64 y1 with
  |some (a0,p0),some (a1,p1)=>some (1,(Sf a0 a1).pk (AC nx),nx+0,AB nx (Se a0 a1)++o,p0++(p1++(Y6 a0 a1)))
  |_,_=>none
 |_,_,_=>none
theorem Av6:EV Try.prog 156 Sg:=fun args nx o k x nx' o' ps h=>by
 unfold Sg at h
 split at h<;>first|(cases h;done)|skip
 split at h<;>first|(cases h;done)|skip
 rename_i a0 p0 a1 p1 e0 e1
 cases h
 refine⟨fun hp=>?_,_,rfl⟩
 have q0:=fun p hm=>hp p (List.mem_append.2 (.inl hm))
 have r0:=fun p hm=>hp p (List.mem_append.2 (.inr hm))
 have q1:=fun p hm=>r0 p (List.mem_append.2 (.inl hm))
 have r1:=fun p hm=>r0 p (List.mem_append.2 (.inr hm))
 refine Ah (Ag (A5y a0 a1 r1) (Nat.le_refl _) (Ac (Af _ _) (Ac (Af _ _) An)) nx o) fun F N R vs hl=>?_
 obtain⟨v0,w0,rfl,h0,hl⟩:=hl.inv
 obtain⟨v1,w1,rfl,h1,hl⟩:=hl.inv
 exact HL.cons (Am e0 q0 h0) (HL.cons (Am e1 q1 h1) (hl))
noncomputable def B15:=A7 156 Sg B14
theorem Bnc:CU Try.prog B15:=Aw Av6 Bnb
noncomputable def B16:=A7 152 (inl (AA B15 L0) 4 152) B15
theorem Bnd:CU Try.prog B16:=Aw (Ade (Ax Bnc AG) 4 152) Bnc
def Bz (a0:TVec):Bool:=KM a0.1 (0:Int)==a0.1&&KM a0.2 (0:Int)==a0.2
def Agl (a0:TVec):A:=.v (.bool (Bz a0))
def Agk (_a0:TVec):Objs:=[]
def As7 (_a0:TVec):List Prop:=[]
set_option maxRecDepth 100000 in
theorem Bjb (a0:TVec):ER (AA B16 L0) 9 103 [Ak .vec a0] 0 []=some (1,Agl a0,0,Agk a0,[((0:Int)≤(0:Int)∧(0:Int) <(2:Int)),((0:Nat) <(2:Nat)),((0:Int)≤(0:Int)∧(0:Int) <(2:Int)),((0:Nat) <(2:Nat)),((0:Int)≤(0:Int)∧(0:Int) <(2:Int)),((0:Nat) <(2:Nat)),((0:Int)≤(1:Int)∧(1:Int) <(2:Int)),((1:Nat) <(2:Nat)),((0:Int)≤(1:Int)∧(1:Int) <(2:Int)),((1:Nat) <(2:Nat)),((0:Int)≤(1:Int)∧(1:Int) <(2:Int)),((1:Nat) <(2:Nat))]):=by kernel_rfl
set_option maxRecDepth 100000 in
theorem Bmz (a0:TVec) (_hp:∀p∈As7 a0,p):CallOk Try.prog 103 [Ak .vec a0] 0 [] 1 (Agl a0) 0 (Agk a0):=by
 have n0:((0:Int)≤(0:Int)∧(0:Int) <(2:Int)):=by first|rfl|decide+kernel
 have n1:((0:Nat) <(2:Nat)):=by first|rfl|decide+kernel
 have n6:((0:Int)≤(1:Int)∧(1:Int) <(2:Int)):=by first|rfl|decide+kernel
 have n7:((1:Nat) <(2:Nat)):=by first|rfl|decide+kernel
 exact AH (Ax Bnd AG) (Bjb a0) (Aa n0 (Aa n1 (Aa n0 (Aa n1 (Aa n0 (Aa n1 (Aa n6 (Aa n7 (Aa n6 (Aa n7 (Aa n6 (Aa n7 Ab))))))))))))
def Agm:List A→Nat→Objs→Option A9
 | [y0],nx,o=>match AQ .vec y0 with
  |some (a0,p0)=>some (1,(Agl a0).pk (AC nx),nx+0,AB nx (Agk a0)++o,p0++(As7 a0))
  |_=>none
 |_,_,_=>none
theorem Bcq:EV Try.prog 103 Agm:=fun args nx o k x nx' o' ps h=>by
 unfold Agm at h
 split at h<;>first|(cases h;done)|skip
 split at h<;>first|(cases h;done)|skip
 rename_i a0 p0 e0
 cases h
 refine⟨fun hp=>?_,_,rfl⟩
 have q0:=fun p hm=>hp p (List.mem_append.2 (.inl hm))
 have r0:=fun p hm=>hp p (List.mem_append.2 (.inr hm))
 refine Ah (Ag (Bmz a0 r0) (Nat.le_refl _) (Ac (Af _ _) An) nx o) fun F N R vs hl=>?_
 obtain⟨v0,w0,rfl,h0,hl⟩:=hl.inv
 exact HL.cons (Am e0 q0 h0) (hl)
noncomputable def B17:=A7 103 Agm B16
theorem Bne:CU Try.prog B17:=Aw Bcq Bnd
def Kc (a0:TVec) (a1:TVec):TVec:=TVec.mk (min a0.1 a1.1) (min a0.2 a1.2)
def Ago (a0:TVec) (a1:TVec):A:=.v (.agg ⟨[.int .i64 ((Kc a0 a1).a),.int .i64 ((Kc a0 a1).b)]⟩)
def Agn (_a0:TVec) (_a1:TVec):Objs:=[]
def As8 (_a0:TVec) (_a1:TVec):List Prop:=[]
set_option maxRecDepth 100000 in
theorem Bjc (a0:TVec) (a1:TVec):ER (AA B17 L0) 9 112 [Ak .vec a0,Ak .vec a1] 0 []=some (1,Ago a0 a1,0,Agn a0 a1,[((0:Int)≤(0:Int)∧(0:Int) <(2:Int)),((0:Nat) <(2:Nat)),((0:Int)≤(0:Int)∧(0:Int) <(2:Int)),((0:Nat) <(2:Nat)),((0:Int)≤(0:Int)∧(0:Int) <(2:Int)),((0:Nat) <(2:Nat)),((0:Int)≤(1:Int)∧(1:Int) <(2:Int)),((1:Nat) <(2:Nat)),((0:Int)≤(1:Int)∧(1:Int) <(2:Int)),((1:Nat) <(2:Nat)),((0:Int)≤(1:Int)∧(1:Int) <(2:Int)),((1:Nat) <(2:Nat))]):=by kernel_rfl
set_option maxRecDepth 100000 in
theorem Bm0 (a0:TVec) (a1:TVec) (_hp:∀p∈As8 a0 a1,p):CallOk Try.prog 112 [Ak .vec a0,Ak .vec a1] 0 [] 1 (Ago a0 a1) 0 (Agn a0 a1):=by
 have n0:((0:Int)≤(0:Int)∧(0:Int) <(2:Int)):=by first|rfl|decide+kernel
 have n1:((0:Nat) <(2:Nat)):=by first|rfl|decide+kernel
 have n6:((0:Int)≤(1:Int)∧(1:Int) <(2:Int)):=by first|rfl|decide+kernel
 have n7:((1:Nat) <(2:Nat)):=by first|rfl|decide+kernel
 exact AH (Ax Bne AG) (Bjc a0 a1) (Aa n0 (Aa n1 (Aa n0 (Aa n1 (Aa n0 (Aa n1 (Aa n6 (Aa n7 (Aa n6 (Aa n7 (Aa n6 (Aa n7 Ab))))))))))))
def Agp:List A→Nat→Objs→Option A9
 | [y0,y1],nx,o=>match AQ .vec y0,AQ .vec y1 with
  |some (a0,p0),some (a1,p1)=>some (1,(Ago a0 a1).pk (AC nx),nx+0,AB nx (Agn a0 a1)++o,p0++(p1++(As8 a0 a1)))
  |_,_=>none
 |_,_,_=>none
theorem Bcr:EV Try.prog 112 Agp:=fun args nx o k x nx' o' ps h=>by
 unfold Agp at h
 split at h<;>first|(cases h;done)|skip
 split at h<;>first|(cases h;done)|skip
 rename_i a0 p0 a1 p1 e0 e1
 cases h
 refine⟨fun hp=>?_,_,rfl⟩
 have q0:=fun p hm=>hp p (List.mem_append.2 (.inl hm))
 have r0:=fun p hm=>hp p (List.mem_append.2 (.inr hm))
 have q1:=fun p hm=>r0 p (List.mem_append.2 (.inl hm))
 have r1:=fun p hm=>r0 p (List.mem_append.2 (.inr hm))
 refine Ah (Ag (Bm0 a0 a1 r1) (Nat.le_refl _) (Ac (Af _ _) (Ac (Af _ _) An)) nx o) fun F N R vs hl=>?_
 obtain⟨v0,w0,rfl,h0,hl⟩:=hl.inv
 obtain⟨v1,w1,rfl,h1,hl⟩:=hl.inv
 exact HL.cons (Am e0 q0 h0) (HL.cons (Am e1 q1 h1) (hl))
noncomputable def B18:=A7 112 Agp B17
theorem Bnf:CU Try.prog B18:=Aw Bcr Bne
def Kw (a0:TVec) (a1:TVec):Bool:=(Kc a0 a1).1==a1.1&&(Kc a0 a1).2==a1.2
def UP (a0:TVec) (a1:TVec):A:=.v (.bool (Kw a0 a1))
def UO (_a0:TVec) (_a1:TVec):Objs:=[]
def Acm (_a0:TVec) (_a1:TVec):List Prop:=[]
set_option maxRecDepth 100000 in
theorem A5v (a0:TVec) (a1:TVec):ER (AA B18 L0) 9 53 [Ak .vec a0,Ak .vec a1] 0 []=some (1,UP a0 a1,0,UO a0 a1,[]):=by kernel_rfl
set_option maxRecDepth 100000 in
theorem Bcp (a0:TVec) (a1:TVec) (_hp:∀p∈Acm a0 a1,p):CallOk Try.prog 53 [Ak .vec a0,Ak .vec a1] 0 [] 1 (UP a0 a1) 0 (UO a0 a1):=by
 exact AH (Ax Bnf AG) (A5v a0 a1) Ab
def UQ:List A→Nat→Objs→Option A9
 | [y0,y1],nx,o=>match AQ .vec y0,AQ .vec y1 with
  |some (a0,p0),some (a1,p1)=>some (1,(UP a0 a1).pk (AC nx),nx+0,AB nx (UO a0 a1)++o,p0++(p1++(Acm a0 a1)))
  |_,_=>none
 |_,_,_=>none
theorem A25:EV Try.prog 53 UQ:=fun args nx o k x nx' o' ps h=>by
 unfold UQ at h
 split at h<;>first|(cases h;done)|skip
 split at h<;>first|(cases h;done)|skip
 rename_i a0 p0 a1 p1 e0 e1
 cases h
 refine⟨fun hp=>?_,_,rfl⟩
 have q0:=fun p hm=>hp p (List.mem_append.2 (.inl hm))
 have r0:=fun p hm=>hp p (List.mem_append.2 (.inr hm))
 have q1:=fun p hm=>r0 p (List.mem_append.2 (.inl hm))
 have r1:=fun p hm=>r0 p (List.mem_append.2 (.inr hm))
 refine Ah (Ag (Bcp a0 a1 r1) (Nat.le_refl _) (Ac (Af _ _) (Ac (Af _ _) An)) nx o) fun F N R vs hl=>?_
 obtain⟨v0,w0,rfl,h0,hl⟩:=hl.inv
 obtain⟨v1,w1,rfl,h1,hl⟩:=hl.inv
 exact HL.cons (Am e0 q0 h0) (HL.cons (Am e1 q1 h1) (hl))
noncomputable def Bsv:=A7 53 UQ B18
theorem Bc6:CU Try.prog Bsv:=Aw A25 Bnf
def E2 (a0:TVec):Bool:=decide (a0.1≥(0:Int))&&decide (a0.1≤(1099511627776:Int))&&decide (a0.2≥(0:Int))&&decide (a0.2≤(1099511627776:Int))
def Aec (a0:TVec):A:=.v (.bool (E2 a0))
def Aeb (_a0:TVec):Objs:=[]
def Aq3 (_a0:TVec):List Prop:=[]
set_option maxRecDepth 100000 in
theorem Bg1 (a0:TVec):ER (AA Bsv L0) 9 100 [Ak .vec a0] 0 []=some (1,Aec a0,0,Aeb a0,[]):=by kernel_rfl
set_option maxRecDepth 100000 in
theorem Bla (a0:TVec) (_hp:∀p∈Aq3 a0,p):CallOk Try.prog 100 [Ak .vec a0] 0 [] 1 (Aec a0) 0 (Aeb a0):=by
 exact AH (Ax Bc6 AG) (Bg1 a0) Ab
def Aed:List A→Nat→Objs→Option A9
 | [y0],nx,o=>match AQ .vec y0 with
  |some (a0,p0)=>some (1,(Aec a0).pk (AC nx),nx+0,AB nx (Aeb a0)++o,p0++(Aq3 a0))
  |_=>none
 |_,_,_=>none
theorem Bax:EV Try.prog 100 Aed:=fun args nx o k x nx' o' ps h=>by
 unfold Aed at h
 split at h<;>first|(cases h;done)|skip
 split at h<;>first|(cases h;done)|skip
 rename_i a0 p0 e0
 cases h
 refine⟨fun hp=>?_,_,rfl⟩
 have q0:=fun p hm=>hp p (List.mem_append.2 (.inl hm))
 have r0:=fun p hm=>hp p (List.mem_append.2 (.inr hm))
 refine Ah (Ag (Bla a0 r0) (Nat.le_refl _) (Ac (Af _ _) An) nx o) fun F N R vs hl=>?_
 obtain⟨v0,w0,rfl,h0,hl⟩:=hl.inv
 exact HL.cons (Am e0 q0 h0) (hl)
noncomputable def Bsw:=A7 100 Aed Bsv
theorem Bc7:CU Try.prog Bsw:=Aw Bax Bc6
def Ur (a0:TVec) (a1:TVec):Bool:=decide (a0.1≥a1.1)&&decide (a0.2≥a1.2)
def Ut (a0:TVec) (a1:TVec):A:=.v (.bool (Ur a0 a1))
def Us (_a0:TVec) (_a1:TVec):Objs:=[]
def Aba (_a0:TVec) (_a1:TVec):List Prop:=[]
set_option maxRecDepth 100000 in
theorem A4j (a0:TVec) (a1:TVec):ER (AA Bsw L0) 9 107 [Ak .vec a0,Ak .vec a1] 0 []=some (1,Ut a0 a1,0,Us a0 a1,[]):=by kernel_rfl
set_option maxRecDepth 100000 in
theorem Baw (a0:TVec) (a1:TVec) (_hp:∀p∈Aba a0 a1,p):CallOk Try.prog 107 [Ak .vec a0,Ak .vec a1] 0 [] 1 (Ut a0 a1) 0 (Us a0 a1):=by
 exact AH (Ax Bc7 AG) (A4j a0 a1) Ab
def Uu:List A→Nat→Objs→Option A9
 | [y0,y1],nx,o=>match AQ .vec y0,AQ .vec y1 with
  |some (a0,p0),some (a1,p1)=>some (1,(Ut a0 a1).pk (AC nx),nx+0,AB nx (Us a0 a1)++o,p0++(p1++(Aba a0 a1)))
  |_,_=>none
 |_,_,_=>none
theorem A0i:EV Try.prog 107 Uu:=fun args nx o k x nx' o' ps h=>by
 unfold Uu at h
 split at h<;>first|(cases h;done)|skip
 split at h<;>first|(cases h;done)|skip
 rename_i a0 p0 a1 p1 e0 e1
 cases h
 refine⟨fun hp=>?_,_,rfl⟩
 have q0:=fun p hm=>hp p (List.mem_append.2 (.inl hm))
 have r0:=fun p hm=>hp p (List.mem_append.2 (.inr hm))
 have q1:=fun p hm=>r0 p (List.mem_append.2 (.inl hm))
 have r1:=fun p hm=>r0 p (List.mem_append.2 (.inr hm))
 refine Ah (Ag (Baw a0 a1 r1) (Nat.le_refl _) (Ac (Af _ _) (Ac (Af _ _) An)) nx o) fun F N R vs hl=>?_
 obtain⟨v0,w0,rfl,h0,hl⟩:=hl.inv
 obtain⟨v1,w1,rfl,h1,hl⟩:=hl.inv
 exact HL.cons (Am e0 q0 h0) (HL.cons (Am e1 q1 h1) (hl))
noncomputable def B05:=A7 107 Uu Bsw
theorem Bsx:CU Try.prog B05:=Aw A0i Bc7
noncomputable def Cb:=B05
theorem Bng:CU Try.prog Cb:=Bsx
end Go.Proofs.Yteebobbhhgmeiaa
namespace Go.Proofs.Yteebobbhhgmeiaa
open Go.RowKit
def Ih (s:TStamp):Bool:=bif s.n==0&&s.site==0 then true else decide (1≤s.n)&&decide (s.n≤281474976710656)&&(s.site==1||s.site==2)
def CO (v:TVec):Bool:=decide (0≤v.a)&&decide (v.a≤1099511627776)&&(decide (0≤v.b)&&decide (v.b≤1099511627776))
def HE (v:TVec):Bool:=v.a==0&&v.b==0
def B1p (s:TStamp):Int:=bif s.n==0 then 0 else 2*s.n+s.site - 1
def B3b (n:Int):TStamp:=if n=0 then⟨0,0⟩ else⟨n / 2,1+n % 2⟩
def Bk4 (s:TStamp):List UInt8:=bif Ih s then Nk (B1p s) else[]
def Aue (v:TVec):List UInt8:=bif CO v then Nk v.a++Nk v.b else[]
def Baq (t:ByteArray):List UInt8:=Nk (t.size:Int)++t.data.toList
def Gw (b:List UInt8):TStamp×Int×Int:=if(Ar b).2.2≠0 then(⟨0,0⟩,0,(Ar b).2.2) else if Ih (B3b (Ar b).1)=true then(B3b (Ar b).1,(Ar b).2.1,0) else(⟨0,0⟩,0,11)
def Gc (b:List UInt8):TVec×Int×Int:=if(Ar b).2.2≠0 then(⟨0,0⟩,0,(Ar b).2.2) else
 if(Ar (b.drop (Ar b).2.1.toNat)).2.2≠0 then(⟨0,0⟩,0,(Ar (b.drop (Ar b).2.1.toNat)).2.2) else
 if CO ⟨(Ar b).1,(Ar (b.drop (Ar b).2.1.toNat)).1⟩=true then(⟨(Ar b).1,(Ar (b.drop (Ar b).2.1.toNat)).1⟩,(Ar b).2.1+(Ar (b.drop (Ar b).2.1.toNat)).2.1,0) else(⟨0,0⟩,0,11)
def WI (b:List UInt8) (m:Int):ByteArray×Int×Int:=if(Ar b).2.2≠0 then(ByteArray.empty,0,(Ar b).2.2) else if(Ar b).1 >m then(ByteArray.empty,0,3) else
 if(b.length:Int) - (Ar b).2.1 <(Ar b).1 then(ByteArray.empty,0,10) else(⟨((b.drop (Ar b).2.1.toNat).take (Ar b).1.toNat).toArray⟩,(Ar b).2.1+(Ar b).1,0)
structure Rd {α:Type} (get:List UInt8→α×Int×Int) (good:α→Prop) (put:α→List UInt8):Prop where
 back:∀x r,good x→get (put x++r)=(x,((put x).length:Int),0)
 front:∀b x k,get b=(x,k,0)→good x∧k=((put x).length:Int)∧∃r,b=put x++r
theorem Bmt {b p:List UInt8} (h:b.take p.length=p):∃r,b=p++r:=⟨b.drop p.length,by
 conv=>lhs;rw[←List.take_append_drop p.length b,h]⟩
def okN (n:Int):Prop:=0≤n∧n≤4611686018427387903
theorem rdN:Rd Ar okN Nk where
 back:=fun x r h=>by rw[Bze h.1 h.2 r,Nl]
 front:=fun b x k h=>by
  obtain⟨h1,h2,h3,_,h5⟩:=Bz4 h
  exact⟨⟨h1,h2⟩,by rw[h3,Nl],Bmt (by rw[Nl];exact h5)⟩
theorem Bzc {b:List UInt8} (h:(Ar b).2.2=0):∃r,okN (Ar b).1∧(Ar b).2.1=((Nk (Ar b).1).length:Int)∧b=Nk (Ar b).1++r:=by
 obtain⟨h1,h2,r,h3⟩:=rdN.front b (Ar b).1 (Ar b).2.1 (by rw[←h])
 exact⟨r,h1,h2,h3⟩
theorem Bu4 (b:List UInt8):(Ar b).2.2≠0→(Ar b).1=0∧(Ar b).2.1=0:=fun h=>by
 cases b with
 |nil=>exact⟨rfl,rfl⟩
 | cons x r=>
  rw[Zj] at h⊢
  split
  ·exact⟨rfl,rfl⟩
  ·split
   ·exact⟨rfl,rfl⟩
   ·rename_i h1 h2
    rw[if_neg h1,if_neg h2] at h
    exact absurd rfl h
theorem HY (b:List UInt8):0≤(Ar b).2.1∧(Ar b).2.1≤(b.length:Int)∧(Ar b).2.1≤8∧0≤(Ar b).1∧(Ar b).1≤4611686018427387903:=by
 by_cases h:(Ar b).2.2=0
 ·obtain⟨r,⟨h1,h1'⟩,h2,h3⟩:=Bzc h
  have hl:=congrArg List.length h3
  rw[List.length_append] at hl
  have h8:(Nk (Ar b).1).length≤8:=by
   rw[Nl]
   have:=(Bp4 h1 h1').1
   unfold szs at this
   omega
  exact⟨by omega,by omega,by omega,h1,h1'⟩
 ·obtain⟨h1,h2⟩:=Bu4 b h
  rw[h1,h2]
  omega
theorem Bqv {s:TStamp}:Ih s=true↔(s.n=0∧s.site=0)∨(1≤s.n∧s.n≤281474976710656∧(s.site=1∨s.site=2)):=by
 unfold Ih
 rw[Bool.cond_eq_ite]
 split
 ·rename_i h
  simp only[Bool.and_eq_true,beq_iff_eq] at h
  exact⟨fun _=> .inl h,fun _=>rfl⟩
 ·rename_i h
  simp only[Bool.and_eq_true,beq_iff_eq] at h
  simp only[Bool.and_eq_true,Bool.or_eq_true,beq_iff_eq,decide_eq_true_eq]
  constructor
  ·intro h';exact .inr ⟨h'.1.1,h'.1.2,h'.2⟩
  ·rintro(h'|⟨h1,h2,h3⟩)
   ·exact absurd h' h
   ·exact⟨⟨h1,h2⟩,h3⟩
theorem Bqw {v:TVec}:CO v=true↔0≤v.a∧v.a≤1099511627776∧0≤v.b∧v.b≤1099511627776:=by
 unfold CO
 simp only[Bool.and_eq_true,decide_eq_true_eq]
 omega
theorem Bcs {s t:TVec} (h1:s.a=t.a) (h2:s.b=t.b):s=t:=by cases s;cases t;simp_all
theorem Bd5 (n i:Nat):n &&& 2^i=n / 2^i % 2*2^i:=by
 rw[←Nat.toNat_testBit]
 apply Nat.eq_of_testBit_eq
 intro j
 rw[Nat.testBit_and,Nat.testBit_two_pow]
 cases hb:n.testBit i with
 |true=>
  by_cases hij:i=j
  ·subst hij;simp[hb]
  ·simp[hij]
 |false=>
  by_cases hij:i=j
  ·subst hij;simp[hb]
  ·simp[hij]
theorem Bop {n:Int} (h:okN n) (k:Nat) (m:Int) (hm:m=((2^k:Nat):Int)) (hk:k <60):(BitVec.ofInt 64 n &&& BitVec.ofInt 64 m).toNat=n.toNat / 2^k % 2*2^k:=by
 obtain⟨h0,h1⟩:=h
 have hp:2^k <2^60:=Nat.pow_lt_pow_right (by decide) hk
 have e60:(2:Nat)^60=1152921504606846976:=by decide
 rw[BitVec.toNat_and,BitVec.toNat_ofInt,BitVec.toNat_ofInt]
 have m1:(n % ((2^64:Nat):Int)).toNat=n.toNat:=by omega
 have m2:(m % ((2^64:Nat):Int)).toNat=2^k:=by
  subst hm
  generalize 2^k=q at*
  omega
 rw[m1,m2,Bd5]
theorem Agw {n:Int} (h:okN n) (k:Nat) (m:Int) (hm:m=((2^k:Nat):Int)) (hk:k <60):decide (IntKind.i64.wrap ((BitVec.ofInt 64 n &&& BitVec.ofInt 64 m).toNat:Int) >0)=(n.toNat / 2^k % 2==1):=by
 rw[Bop h k m hm hk]
 have hp:2^k <2^60:=Nat.pow_lt_pow_right (by decide) hk
 have hp0:0 <2^k:=Nat.pow_pos (by decide)
 have e60:(2:Nat)^60=1152921504606846976:=by decide
 generalize n.toNat / 2^k=x
 generalize 2^k=q at*
 rcases Nat.mod_two_eq_zero_or_one x with e|e
 ·rw[e,Nat.zero_mul]
  rfl
 ·rw[e,Nat.one_mul,i64_in (by omega)]
  have:(q:Int) >0:=by omega
  rw[decide_eq_true this]
  rfl
theorem Byw {n:Int} (h:okN n):IntKind.i64.wrap (IntKind.i64.wrap ((BitVec.ofInt 64 n &&& BitVec.ofInt 64 1).toNat:Int)+1)=1+n % 2:=by
 have e:=Bop h 0 1 rfl (by decide)
 rw[e]
 obtain⟨h0,h1⟩:=h
 have e2:n.toNat / 2^0 % 2*2^0=n.toNat % 2:=by rw[Nat.pow_zero,Nat.div_one,Nat.mul_one]
 rw[e2,i64_in (n:=((n.toNat % 2:Nat):Int)) (by omega),i64_in (by omega)]
 omega
end Go.Proofs.Yteebobbhhgmeiaa
namespace Go.Proofs.Yteebobbhhgmeiaa
open Go.RowKit
theorem A8y {x y:ByteArray}:(x.toList==y.toList)=true↔x=y:=by
 rw[beq_iff_eq,ByteArray.toList_eq,ByteArray.toList_eq]
 constructor
 ·intro h
  cases x;cases y
  simpa using h
 ·rintro rfl;rfl
theorem Bpj {x:ByteArray}:(x.toList==(ByteArray.mk #[]).toList)=true↔x.size=0:=by
 rw[A8y]
 constructor
 ·rintro rfl;rfl
 ·intro h
  cases x with|mk d=>
  have:d.size=0:=h
  rw[Array.eq_empty_of_size_eq_zero this]
theorem RJ (x:ByteArray):(x.toList==(ByteArray.mk #[]).toList)=(x.size==0):=by
 rw[Bool.eq_iff_iff,Bpj,beq_iff_eq]
theorem B5e {x:ByteArray} (h:x.size=0):x=ByteArray.mk #[]:=A8y.1 (Bpj.2 h)
def CD (c:TCell):Bool:=!(c.stamp.n==0&&c.stamp.site==0&&(c.vec.a==0&&c.vec.b==0)&&(!c.gone&&c.value.size==0))
def BC (p:Int) (c:TCell):Bool:=
 bif p==1&&!HE c.dead||(p==2&&(c.gone||!CO c.dead)||!(p==1||p==2)) then false else
 bif !CD c then true else Ih c.stamp&&decide (0 <c.stamp.n)&&CO c.vec&&decide ((c.value.size:Int)≤64)&&!(c.gone&&!(c.value.size==0))
def OP (c:TCell):Int:=(bif CD c then 1 else 0)+(bif c.gone then 2 else 0)+(bif HE c.dead then 0 else 4)
def Bub (c:TCell):List UInt8:=(bif CD c then Bk4 c.stamp++Aue c.vec++(bif c.gone then[] else Baq c.value) else[])++(bif HE c.dead then[] else Aue c.dead)
def Bgv (p:Int) (c:TCell):List UInt8:=bif BC p c then Nk (OP c)++Bub c else[]
def zeroC:TCell:=⟨⟨0,0⟩,⟨0,0⟩,false,ByteArray.mk #[],⟨0,0⟩⟩
theorem A7t {v:TVec}:HE v=true↔v=⟨0,0⟩:=by
 unfold HE
 simp only[Bool.and_eq_true,beq_iff_eq]
 constructor
 ·intro h;exact Bcs h.1 h.2
 ·rintro rfl;exact⟨rfl,rfl⟩
structure B4j (p:Int) (c:TCell):Prop where
 pol:p=1∨p=2
 dead:CO c.dead=true
 last:p=1→HE c.dead=true
 del:p=2→c.gone=false
 st:CD c=true→Ih c.stamp=true∧0 <c.stamp.n∧CO c.vec=true∧(c.value.size:Int)≤64∧(c.gone=true→c.value.size=0)
theorem A6m {p:Int} {c:TCell}:BC p c=true↔B4j p c:=by
 unfold BC
 rw[Bool.cond_eq_ite]
 split
 ·rename_i h
  refine⟨fun h=>(by cases h),fun g=>?_⟩
  exfalso
  simp only[Bool.or_eq_true,Bool.and_eq_true,beq_iff_eq,Bool.not_eq_true'] at h
  rcases h with⟨h1,h2⟩|⟨h1,h2⟩|h1
  ·rw[g.last h1] at h2;cases h2
  ·rcases h2 with h2|h2
   ·rw[g.del h1] at h2;cases h2
   ·rw[g.dead] at h2;cases h2
  ·rcases g.pol with h|h
   ·rw[h] at h1;cases h1
   ·rw[h] at h1;cases h1
 ·rename_i h
  have hh:=Bool.eq_false_iff.2 h
  simp only[Bool.or_eq_false_iff] at hh
  obtain⟨h1,h2,h3⟩:=hh
  have hp:p=1∨p=2:=by
   have:(p==1||p==2)=true:=by
    cases hq:(p==1||p==2) with
    |true=>rfl
    |false=>rw[hq] at h3;cases h3
   simpa using this
  have base:CO c.dead=true∧(p=1→HE c.dead=true)∧(p=2→c.gone=false):=by
   rcases hp with rfl|rfl
   ·have hz:HE c.dead=true:=by
     cases hz:HE c.dead with
     |true=>rfl
     |false=>rw[hz] at h1;cases h1
    refine⟨by rw[A7t.1 hz];rfl,fun _=>hz,fun h=>by cases h⟩
   ·have:c.gone=false∧CO c.dead=true:=by
     cases hg:c.gone with
     |true=>rw[hg] at h2;cases h2
     |false=>
      cases hv:CO c.dead with
      |true=>exact⟨rfl,rfl⟩
      |false=>rw[hg,hv] at h2;cases h2
    exact⟨this.2,fun h=>(by cases h),fun _=>this.1⟩
  cases hw:CD c with
  |false=>exact⟨fun _=>⟨hp,base.1,base.2.1,base.2.2,fun h=>by rw[hw] at h;cases h⟩,fun _=>rfl⟩
  | true=>
   rw[Bool.not_true,cond_false]
   simp only[Bool.and_eq_true,decide_eq_true_eq,Bool.not_eq_true',Bool.and_eq_false_iff,Bool.not_eq_false',beq_iff_eq]
   constructor
   ·rintro⟨⟨⟨⟨g1,g2⟩,g3⟩,g4⟩,g5⟩
    refine⟨hp,base.1,base.2.1,base.2.2,fun _=>⟨g1,g2,g3,g4,fun hg=>?_⟩⟩
    rcases g5 with g5|g5
    ·rw[g5] at hg;cases hg
    ·exact g5
   ·intro g
    obtain⟨g1,g2,g3,g4,g5⟩:=g.st hw
    refine⟨⟨⟨⟨g1,g2⟩,g3⟩,g4⟩,?_⟩
    cases hg:c.gone with
    |false=>exact .inl rfl
    |true=>exact .inr (g5 hg)
theorem Bfi (c:TCell):okN (OP c)∧OP c≤7∧((OP c).toNat / 2^0 % 2==1)=CD c∧((OP c).toNat / 2^1 % 2==1)=c.gone∧((OP c).toNat / 2^2 % 2==1)=!HE c.dead:=by
 unfold OP okN
 cases CD c<;>cases c.gone<;>cases HE c.dead<;>decide
def GN (n:Int) (k:Nat):Bool:=n.toNat / 2^k % 2==1
def stA (b:List UInt8):Bool×TCell×Int:=
 bif(Ar b).2.2==0&&GN (Ar b).1 0 then
  (bif !GN (Ar b).1 1 then
   ((Ar b).2.2==0&&(Gw (b.drop (Ar b).2.1.toNat)).2.2==0&&(Gc (b.drop ((Ar b).2.1+(Gw (b.drop (Ar b).2.1.toNat)).2.1).toNat)).2.2==0&&(WI (b.drop ((Ar b).2.1+(Gw (b.drop (Ar b).2.1.toNat)).2.1+(Gc (b.drop ((Ar b).2.1+(Gw (b.drop (Ar b).2.1.toNat)).2.1).toNat)).2.1).toNat) 64).2.2==0,
    ⟨(Gw (b.drop (Ar b).2.1.toNat)).1,(Gc (b.drop ((Ar b).2.1+(Gw (b.drop (Ar b).2.1.toNat)).2.1).toNat)).1,GN (Ar b).1 1,(WI (b.drop ((Ar b).2.1+(Gw (b.drop (Ar b).2.1.toNat)).2.1+(Gc (b.drop ((Ar b).2.1+(Gw (b.drop (Ar b).2.1.toNat)).2.1).toNat)).2.1).toNat) 64).1,⟨0,0⟩⟩,
    (Ar b).2.1+(Gw (b.drop (Ar b).2.1.toNat)).2.1+(Gc (b.drop ((Ar b).2.1+(Gw (b.drop (Ar b).2.1.toNat)).2.1).toNat)).2.1+(WI (b.drop ((Ar b).2.1+(Gw (b.drop (Ar b).2.1.toNat)).2.1+(Gc (b.drop ((Ar b).2.1+(Gw (b.drop (Ar b).2.1.toNat)).2.1).toNat)).2.1).toNat) 64).2.1)
  else
   ((Ar b).2.2==0&&(Gw (b.drop (Ar b).2.1.toNat)).2.2==0&&(Gc (b.drop ((Ar b).2.1+(Gw (b.drop (Ar b).2.1.toNat)).2.1).toNat)).2.2==0,
    ⟨(Gw (b.drop (Ar b).2.1.toNat)).1,(Gc (b.drop ((Ar b).2.1+(Gw (b.drop (Ar b).2.1.toNat)).2.1).toNat)).1,GN (Ar b).1 1,ByteArray.mk #[],⟨0,0⟩⟩,
    (Ar b).2.1+(Gw (b.drop (Ar b).2.1.toNat)).2.1+(Gc (b.drop ((Ar b).2.1+(Gw (b.drop (Ar b).2.1.toNat)).2.1).toNat)).2.1))
 else((Ar b).2.2==0,zeroC,(Ar b).2.1)
def stB (b:List UInt8):Bool×TCell×Int:=
 bif(stA b).1&&GN (Ar b).1 2 then((stA b).1&&(Gc (b.drop (stA b).2.2.toNat)).2.2==0,{(stA b).2.1 with dead:=(Gc (b.drop (stA b).2.2.toNat)).1},(stA b).2.2+(Gc (b.drop (stA b).2.2.toNat)).2.1)
 else stA b
def Bbw (n:Int) (c:TCell):Bool:=decide (n≤7)&&GN n 0==CD c&&GN n 1==c.gone&&GN n 2==!HE c.dead
def Atk (b:List UInt8) (p:Int):TCell×Int×Int:=
 bif !(stB b).1||!Bbw (Ar b).1 (stB b).2.1||!BC p (stB b).2.1 then(zeroC,0,80) else((stB b).2.1,(stB b).2.2,0)
end Go.Proofs.Yteebobbhhgmeiaa
namespace Go.Proofs.Yteebobbhhgmeiaa
open Go.RowKit
theorem A2z (n:Int):M4 n=(n==1||n==2):=by
 unfold M4 PY
 cases n==1<;>cases n==2<;>rfl
theorem KL (s:TStamp):Co s=Ih s:=by
 unfold Co Ih
 rw[A2z]
 rfl
theorem V5 (x:Int):(KM x 0==x)=(decide (0≤x)&&decide (x≤1099511627776)):=by
 unfold KM
 rw[Bool.eq_iff_iff]
 simp only[beq_iff_eq,Bool.and_eq_true,decide_eq_true_eq]
 omega
theorem Lh (v:TVec):Bz v=CO v:=by
 unfold Bz CO
 rw[V5,V5]
theorem XZ (n:Int):(Nk n).length≤8:=by
 rw[Nl]
 rcases Alc n with h|⟨_,_,h⟩
 ·omega
 ·unfold szs at h;omega
theorem Bwl (s:TStamp):(Bk4 s).length≤8:=by
 unfold Bk4
 cases Ih s with
 |true=>exact XZ _
 |false=>exact Nat.zero_le _
theorem Bar (v:TVec):(Aue v).length≤16:=by
 unfold Aue
 cases CO v with
 |true=>
  rw[cond_true,List.length_append]
  have h1:=XZ v.a
  have h2:=XZ v.b
  omega
 |false=>exact Nat.zero_le _
theorem Bk5 (t:ByteArray):(Baq t).length≤8+t.size:=by
 unfold Baq
 rw[List.length_append]
 have h1:=XZ (t.size:Int)
 have hs:t.data.toList.length=t.size:=Array.length_toList
 omega
def JI (_a0:Int) (_a1:TStamp) (_a2:TVec) (_a3:Bool) (a4:ByteArray):Bool:=decide ((↑a4.size:Int) >(64:Int))
def I0 (a0:Int) (a1:TStamp) (a2:TVec) (a3:Bool) (a4:ByteArray):Bool:=bif a0 !=(1:Int)&&a0 !=(2:Int) then a0 !=(1:Int)&&a0 !=(2:Int) else bif a1.1==(0:Int)&&a1.2==(0:Int) then a1.1==(0:Int)&&a1.2==(0:Int) else bif !Co a1 then !Co a1 else bif !Bz a2 then !Bz a2 else a3&&!a4.toList==(ByteArray.mk #[]).toList
def Hg (a0:Int) (a1:TStamp) (a2:TVec) (a3:Bool) (a4:ByteArray):Bool:=(I0 a0 a1 a2 a3 a4)||((JI a0 a1 a2 a3 a4)||a3&&a0==(2:Int))
def Mg (a0:Int) (a1:TStamp) (a2:TVec) (a3:Bool) (a4:ByteArray):Int:=bif(I0 a0 a1 a2 a3 a4) then(0:Int) else bif(JI a0 a1 a2 a3 a4) then(0:Int) else(0:Int)
def In (a0:Int) (a1:TStamp) (a2:TVec) (a3:Bool) (a4:ByteArray):TCell:=TCell.mk (TStamp.mk (bif(Hg a0 a1 a2 a3 a4) then(Mg a0 a1 a2 a3 a4) else a1.1) (bif(Hg a0 a1 a2 a3 a4) then(Mg a0 a1 a2 a3 a4) else a1.2)) (TVec.mk (bif(Hg a0 a1 a2 a3 a4) then(Mg a0 a1 a2 a3 a4) else a2.1) (bif(Hg a0 a1 a2 a3 a4) then(Mg a0 a1 a2 a3 a4) else a2.2)) (bif(Hg a0 a1 a2 a3 a4) then bif(I0 a0 a1 a2 a3 a4) then false else bif(JI a0 a1 a2 a3 a4) then false else false else a3) (bif(Hg a0 a1 a2 a3 a4) then bif(I0 a0 a1 a2 a3 a4) then ByteArray.mk #[] else bif(JI a0 a1 a2 a3 a4) then ByteArray.mk #[] else ByteArray.mk #[] else a4) (TVec.mk (bif(Hg a0 a1 a2 a3 a4) then bif(I0 a0 a1 a2 a3 a4) then(0:Int) else bif(JI a0 a1 a2 a3 a4) then(0:Int) else a2.1 else(0:Int)) (bif(Hg a0 a1 a2 a3 a4) then bif(I0 a0 a1 a2 a3 a4) then(0:Int) else bif(JI a0 a1 a2 a3 a4) then(0:Int) else a2.2 else(0:Int)))
def Bqi (a0:Int) (a1:TStamp) (a2:TVec) (a3:Bool) (a4:ByteArray):Int:=bif(Hg a0 a1 a2 a3 a4) then bif(I0 a0 a1 a2 a3 a4) then(2:Int) else bif(JI a0 a1 a2 a3 a4) then(3:Int) else(0:Int) else(0:Int)
def Aln (a0:Int) (a1:TStamp) (a2:TVec) (a3:Bool) (a4:ByteArray):A:=.v (.tuple ⟨[.agg ⟨[.int .i64 ((In a0 a1 a2 a3 a4).stamp.n),.int .i64 ((In a0 a1 a2 a3 a4).stamp.site),.int .i64 ((In a0 a1 a2 a3 a4).vec.a),.int .i64 ((In a0 a1 a2 a3 a4).vec.b),.bool ((In a0 a1 a2 a3 a4).gone),.string ((In a0 a1 a2 a3 a4).value),.int .i64 ((In a0 a1 a2 a3 a4).dead.a),.int .i64 ((In a0 a1 a2 a3 a4).dead.b)]⟩,.int .i64 (Bqi a0 a1 a2 a3 a4)]⟩)
def Alm (_a0:Int) (_a1:TStamp) (_a2:TVec) (_a3:Bool) (_a4:ByteArray):Objs:=[]
def Axb (_a0:Int) (_a1:TStamp) (_a2:TVec) (_a3:Bool) (_a4:ByteArray):List Prop:=[]
set_option maxRecDepth 100000 in
theorem Bj3 (a0:Int) (a1:TStamp) (a2:TVec) (a3:Bool) (a4:ByteArray):ER (AA Cb L0) 9 36 [Ak .i64 a0,Ak .stamp a1,Ak .vec a2,Ak .bool a3,Ak .str a4] 0 []=some (1,Aln a0 a1 a2 a3 a4,0,Alm a0 a1 a2 a3 a4,[]):=by kernel_rfl
set_option maxRecDepth 100000 in
theorem Bqj (a0:Int) (a1:TStamp) (a2:TVec) (a3:Bool) (a4:ByteArray) (_hp:∀p∈Axb a0 a1 a2 a3 a4,p):CallOk Try.prog 36 [Ak .i64 a0,Ak .stamp a1,Ak .vec a2,Ak .bool a3,Ak .str a4] 0 [] 1 (Aln a0 a1 a2 a3 a4) 0 (Alm a0 a1 a2 a3 a4):=by
 exact AH (Ax Bng AG) (Bj3 a0 a1 a2 a3 a4) Ab
def Zd:List A→Nat→Objs→Option A9
 | [y0,y1,y2,y3,y4],nx,o=>match AQ .i64 y0,AQ .stamp y1,AQ .vec y2,AQ .bool y3,AQ .str y4 with
  |some (a0,p0),some (a1,p1),some (a2,p2),some (a3,p3),some (a4,p4)=>some (1,(Aln a0 a1 a2 a3 a4).pk (AC nx),nx+0,AB nx (Alm a0 a1 a2 a3 a4)++o,p0++(p1++(p2++(p3++(p4++(Axb a0 a1 a2 a3 a4))))))
  |_,_,_,_,_=>none
 |_,_,_=>none
theorem Apz:EV Try.prog 36 Zd:=fun args nx o k x nx' o' ps h=>by
 unfold Zd at h
 split at h<;>first|(cases h;done)|skip
 split at h<;>first|(cases h;done)|skip
 rename_i a0 p0 a1 p1 a2 p2 a3 p3 a4 p4 e0 e1 e2 e3 e4
 cases h
 refine⟨fun hp=>?_,_,rfl⟩
 have q0:=fun p hm=>hp p (List.mem_append.2 (.inl hm))
 have r0:=fun p hm=>hp p (List.mem_append.2 (.inr hm))
 have q1:=fun p hm=>r0 p (List.mem_append.2 (.inl hm))
 have r1:=fun p hm=>r0 p (List.mem_append.2 (.inr hm))
 have q2:=fun p hm=>r1 p (List.mem_append.2 (.inl hm))
 have r2:=fun p hm=>r1 p (List.mem_append.2 (.inr hm))
 have q3:=fun p hm=>r2 p (List.mem_append.2 (.inl hm))
 have r3:=fun p hm=>r2 p (List.mem_append.2 (.inr hm))
 have q4:=fun p hm=>r3 p (List.mem_append.2 (.inl hm))
 have r4:=fun p hm=>r3 p (List.mem_append.2 (.inr hm))
 refine Ah (Ag (Bqj a0 a1 a2 a3 a4 r4) (Nat.le_refl _) (Ac (Af _ _) (Ac (Af _ _) (Ac (Af _ _) (Ac (Af _ _) (Ac (Af _ _) An))))) nx o) fun F N R vs hl=>?_
 obtain⟨v0,w0,rfl,h0,hl⟩:=hl.inv
 obtain⟨v1,w1,rfl,h1,hl⟩:=hl.inv
 obtain⟨v2,w2,rfl,h2,hl⟩:=hl.inv
 obtain⟨v3,w3,rfl,h3,hl⟩:=hl.inv
 obtain⟨v4,w4,rfl,h4,hl⟩:=hl.inv
 exact HL.cons (Am e0 q0 h0) (HL.cons (Am e1 q1 h1) (HL.cons (Am e2 q2 h2) (HL.cons (Am e3 q3 h3) (HL.cons (Am e4 q4 h4) (hl)))))
noncomputable def B19:=A7 36 Zd Cb
theorem Bni:CU Try.prog B19:=Aw Apz Bng
def FF (a0:TCell):Bool:=!(a0.1.1==(0:Int)&&a0.1.2==(0:Int)&&(a0.2.1==(0:Int)&&a0.2.2==(0:Int)&&(a0.3==false&&(a0.4.toList==(ByteArray.mk #[]).toList&&true))))
def OC (a0:TCell):A:=.v (.bool (FF a0))
def OB (_a0:TCell):Objs:=[]
def UW (_a0:TCell):List Prop:=[]
set_option maxRecDepth 100000 in
theorem Atb (a0:TCell):ER (AA B19 L0) 9 105 [Ak .cell a0] 0 []=some (1,OC a0,0,OB a0,[]):=by kernel_rfl
set_option maxRecDepth 100000 in
theorem Axd (a0:TCell) (_hp:∀p∈UW a0,p):CallOk Try.prog 105 [Ak .cell a0] 0 [] 1 (OC a0) 0 (OB a0):=by
 exact AH (Ax Bni AG) (Atb a0) Ab
def OD:List A→Nat→Objs→Option A9
 | [y0],nx,o=>match AQ .cell y0 with
  |some (a0,p0)=>some (1,(OC a0).pk (AC nx),nx+0,AB nx (OB a0)++o,p0++(UW a0))
  |_=>none
 |_,_,_=>none
theorem Alo:EV Try.prog 105 OD:=fun args nx o k x nx' o' ps h=>by
 unfold OD at h
 split at h<;>first|(cases h;done)|skip
 split at h<;>first|(cases h;done)|skip
 rename_i a0 p0 e0
 cases h
 refine⟨fun hp=>?_,_,rfl⟩
 have q0:=fun p hm=>hp p (List.mem_append.2 (.inl hm))
 have r0:=fun p hm=>hp p (List.mem_append.2 (.inr hm))
 refine Ah (Ag (Axd a0 r0) (Nat.le_refl _) (Ac (Af _ _) An) nx o) fun F N R vs hl=>?_
 obtain⟨v0,w0,rfl,h0,hl⟩:=hl.inv
 exact HL.cons (Am e0 q0 h0) (hl)
noncomputable def B2a:=A7 105 OD B19
theorem Bnj:CU Try.prog B2a:=Aw Alo Bni
def AY (a0:Int) (a1:TCell):Bool:=bif bif a0==(1:Int) then !(a1.5.1==(0:Int)&&a1.5.2==(0:Int)) else !a0==(2:Int)||(a1.3||!Bz a1.5) then bif a0==(1:Int) then false else bif a0==(2:Int) then false else false else bif !FF a1 then true else decide (a1.1.1 >(0:Int))&&Co a1.1&&Bz a1.2&&decide ((↑a1.4.size:Int)≤(64:Int))&&!(a1.3&&!a1.4.toList==(ByteArray.mk #[]).toList)
def Wk (a0:Int) (a1:TCell):A:=.v (.bool (AY a0 a1))
def Wj (_a0:Int) (_a1:TCell):Objs:=[]
def Ag3 (_a0:Int) (_a1:TCell):List Prop:=[]
set_option maxRecDepth 100000 in
theorem A8k (a0:Int) (a1:TCell):ER (AA B2a L0) 9 38 [Ak .i64 a0,Ak .cell a1] 0 []=some (1,Wk a0 a1,0,Wj a0 a1,[]):=by kernel_rfl
set_option maxRecDepth 100000 in
theorem Apy (a0:Int) (a1:TCell) (_hp:∀p∈Ag3 a0 a1,p):CallOk Try.prog 38 [Ak .i64 a0,Ak .cell a1] 0 [] 1 (Wk a0 a1) 0 (Wj a0 a1):=by
 exact AH (Ax Bnj AG) (A8k a0 a1) Ab
def Wl:List A→Nat→Objs→Option A9
 | [y0,y1],nx,o=>match AQ .i64 y0,AQ .cell y1 with
  |some (a0,p0),some (a1,p1)=>some (1,(Wk a0 a1).pk (AC nx),nx+0,AB nx (Wj a0 a1)++o,p0++(p1++(Ag3 a0 a1)))
  |_,_=>none
 |_,_,_=>none
theorem A3d:EV Try.prog 38 Wl:=fun args nx o k x nx' o' ps h=>by
 unfold Wl at h
 split at h<;>first|(cases h;done)|skip
 split at h<;>first|(cases h;done)|skip
 rename_i a0 p0 a1 p1 e0 e1
 cases h
 refine⟨fun hp=>?_,_,rfl⟩
 have q0:=fun p hm=>hp p (List.mem_append.2 (.inl hm))
 have r0:=fun p hm=>hp p (List.mem_append.2 (.inr hm))
 have q1:=fun p hm=>r0 p (List.mem_append.2 (.inl hm))
 have r1:=fun p hm=>r0 p (List.mem_append.2 (.inr hm))
 refine Ah (Ag (Apy a0 a1 r1) (Nat.le_refl _) (Ac (Af _ _) (Ac (Af _ _) An)) nx o) fun F N R vs hl=>?_
 obtain⟨v0,w0,rfl,h0,hl⟩:=hl.inv
 obtain⟨v1,w1,rfl,h1,hl⟩:=hl.inv
 exact HL.cons (Am e0 q0 h0) (HL.cons (Am e1 q1 h1) (hl))
noncomputable def B2b:=A7 38 Wl B2a
theorem Bnk:CU Try.prog B2b:=Aw A3d Bnj
def N5 (a0:Int) (a1:TCell):Bool:=!AY a0 a1||!FF a1||a1.3||!Kw a1.2 a1.5
def M8 (a0:Int) (a1:TCell):ByteArray:=bif(N5 a0 a1) then ByteArray.mk #[] else a1.4
def GH (a0:Int) (a1:TCell):Bool:=bif(N5 a0 a1) then false else true
def Wn (a0:Int) (a1:TCell):A:=.v (.tuple ⟨[.string (M8 a0 a1),.bool (GH a0 a1)]⟩)
def Wm (_a0:Int) (_a1:TCell):Objs:=[]
def Ag6 (_a0:Int) (_a1:TCell):List Prop:=[]
set_option maxRecDepth 100000 in
theorem A8n (a0:Int) (a1:TCell):ER (AA B2b L0) 9 40 [Ak .i64 a0,Ak .cell a1] 0 []=some (1,Wn a0 a1,0,Wm a0 a1,[]):=by kernel_rfl
set_option maxRecDepth 100000 in
theorem Ber (a0:Int) (a1:TCell) (_hp:∀p∈Ag6 a0 a1,p):CallOk Try.prog 40 [Ak .i64 a0,Ak .cell a1] 0 [] 1 (Wn a0 a1) 0 (Wm a0 a1):=by
 exact AH (Ax Bnk AG) (A8n a0 a1) Ab
def Wo:List A→Nat→Objs→Option A9
 | [y0,y1],nx,o=>match AQ .i64 y0,AQ .cell y1 with
  |some (a0,p0),some (a1,p1)=>some (1,(Wn a0 a1).pk (AC nx),nx+0,AB nx (Wm a0 a1)++o,p0++(p1++(Ag6 a0 a1)))
  |_,_=>none
 |_,_,_=>none
theorem A3f:EV Try.prog 40 Wo:=fun args nx o k x nx' o' ps h=>by
 unfold Wo at h
 split at h<;>first|(cases h;done)|skip
 split at h<;>first|(cases h;done)|skip
 rename_i a0 p0 a1 p1 e0 e1
 cases h
 refine⟨fun hp=>?_,_,rfl⟩
 have q0:=fun p hm=>hp p (List.mem_append.2 (.inl hm))
 have r0:=fun p hm=>hp p (List.mem_append.2 (.inr hm))
 have q1:=fun p hm=>r0 p (List.mem_append.2 (.inl hm))
 have r1:=fun p hm=>r0 p (List.mem_append.2 (.inr hm))
 refine Ah (Ag (Ber a0 a1 r1) (Nat.le_refl _) (Ac (Af _ _) (Ac (Af _ _) An)) nx o) fun F N R vs hl=>?_
 obtain⟨v0,w0,rfl,h0,hl⟩:=hl.inv
 obtain⟨v1,w1,rfl,h1,hl⟩:=hl.inv
 exact HL.cons (Am e0 q0 h0) (HL.cons (Am e1 q1 h1) (hl))
noncomputable def B2c:=A7 40 Wo B2b
theorem Bnl:CU Try.prog B2c:=Aw A3f Bnk
theorem KO (c:TCell):FF c=CD c:=by
 unfold FF CD
 have hg:(c.3==false)=!c.gone:=by show(c.gone==false)=!c.gone;cases c.gone<;>rfl
 rw[RJ,Bool.and_true,hg]
 simp only[Bool.and_assoc]
theorem IZ (p:Int) (c:TCell):AY p c=BC p c:=by
 unfold AY BC HE
 rw[KO,Lh,Lh,KL,RJ]
 have hw:(bif !CD c then true else decide (c.1.1 >(0:Int))&&Ih c.1&&CO c.2&&decide (((c.4.size:Nat):Int)≤(64:Int))&&!(c.3&&!c.4.size==0))=bif !CD c then true else Ih c.stamp&&decide (0 <c.stamp.n)&&CO c.vec&&decide ((c.value.size:Int)≤64)&&!(c.gone&&!(c.value.size==0)):=by
  rw[Bool.and_comm (decide (c.1.1 >(0:Int)))]
 rw[hw]
 generalize (bif !CD c then true else Ih c.stamp&&decide (0 <c.stamp.n)&&CO c.vec&&decide ((c.value.size:Int)≤64)&&!(c.gone&&!(c.value.size==0)))=X
 by_cases h1:p=1
 ·subst h1
  show(bif !(c.5.1==(0:Int)&&c.5.2==(0:Int)) then false else X)=bif !(c.5.1==(0:Int)&&c.5.2==(0:Int))||false then false else X
  rw[Bool.or_false]
 ·have e1:(p==1)=false:=by simpa using h1
  rw[e1]
  by_cases h2:p=2
  ·subst h2
   show(bif c.3||!CO c.5 then false else X)=bif(c.3||!CO c.5)||false then false else X
   rw[Bool.or_false]
  ·have e2:(p==2)=false:=by simpa using h2
   rw[e2]
   rfl
def Y1 (a0:List UInt8) (a1:TStamp):List UInt8:=a0++Nk (bif a1.1==(0:Int)&&a1.2==(0:Int) then(0:Int) else bif Co a1 then IntKind.i64.wrap (IntKind.i64.wrap (IntKind.i64.wrap (a1.1*(2:Int))+a1.2) - (1:Int)) else(-1:Int))
def As3 (_a0:List UInt8) (_a1:TStamp):A:=.sq 0
def Q7 (a0:List UInt8) (a1:TStamp):Objs:=[(0,some (.arr 5 1 (.ty .u8 (Y1 a0 a1))))]
def Bcn (a0:List UInt8) (_a1:TStamp):List Prop:=[(Ai (a0.length+(8:Nat)))]
set_option maxRecDepth 100000 in
theorem Bcm (a0:List UInt8) (a1:TStamp):ER (AA B2c L0) 9 121 [Ak .bytes a0,Ak .stamp a1] 0 []=some (1,As3 a0 a1,1,Q7 a0 a1,[(Ai (a0.length+(8:Nat)))]):=by kernel_rfl
set_option maxRecDepth 100000 in
theorem Bi4 (a0:List UInt8) (a1:TStamp) (hp:∀p∈Bcn a0 a1,p):CallOk Try.prog 121 [Ak .bytes a0,Ak .stamp a1] 0 [] 1 (As3 a0 a1) 1 (Q7 a0 a1):=by
 have n0:=N0 hp
 exact AH (Ax Bnl AG) (Bcm a0 a1) (Aa n0 Ab)
def Ala (_a0:List UInt8) (_a1:TStamp):A:=.sq 0
def On (a0:List UInt8) (a1:TStamp):Objs:=[(0,some (.arr 5 1 (.ty .u8 (a0++Bk4 a1))))]
def Ack (a0:List UInt8) (_a1:TStamp):List Prop:=[Ai (a0.length+8)]
theorem Bcl (a0:List UInt8) (a1:TStamp):Y1 a0 a1=a0++Bk4 a1:=by
 unfold Y1 Bk4 B1p
 rw[KL]
 congr 1
 cases hg:Ih a1 with
 | false=>
  have hz:(a1.1==(0:Int)&&a1.2==(0:Int))=false:=by
   rw[Bool.eq_false_iff]
   intro h
   unfold Ih at hg
   rw[h] at hg
   cases hg
  rw[hz]
  rfl
 | true=>
  have h':=Bqv.1 hg
  rw[cond_true,cond_true]
  congr 1
  by_cases h0:a1.n=0
  ·have hz:(a1.1==(0:Int)&&a1.2==(0:Int))=true:=by
    rcases h' with⟨h1,h2⟩|h1
    ·rw[h1,h2];rfl
    ·omega
   have e:(a1.n==0)=true:=by simpa using h0
   rw[hz,e]
   rfl
  ·have hz:(a1.1==(0:Int)&&a1.2==(0:Int))=false:=by
    have:(a1.1==(0:Int))=false:=by simpa using h0
    rw[this];rfl
   have e:(a1.n==0)=false:=by simpa using h0
   rw[hz,e,cond_false,cond_false,i64_in (n:=a1.1*2) (by omega),i64_in (n:=a1.1*2+a1.2) (by omega),i64_in (by omega)]
   omega
theorem Bck (a0:List UInt8) (a1:TStamp) (hp:∀p∈Ack a0 a1,p):CallOk Try.prog 121 [Ak .bytes a0,Ak .stamp a1] 0 [] 1 (Ala a0 a1) 1 (On a0 a1):=by
 have h:=Bi4 a0 a1 (Aa (hp _ (List.mem_cons_self ..)) Ab)
 have ho:Q7 a0 a1=On a0 a1:=by unfold Q7 On;rw[Bcl]
 rw[ho] at h
 exact h
def Y2:List A→Nat→Objs→Option A9
 | [y0,y1],nx,o=>match AQ .bytes y0,AQ .stamp y1 with
  |some (a0,p0),some (a1,p1)=>some (1,(Ala a0 a1).pk (AC nx),nx+1,AB nx (On a0 a1)++o,p0++(p1++(Ack a0 a1)))
  |_,_=>none
 |_,_,_=>none
theorem A5s:EV Try.prog 121 Y2:=fun args nx o k x nx' o' ps h=>by
 unfold Y2 at h
 split at h<;>first|(cases h;done)|skip
 split at h<;>first|(cases h;done)|skip
 rename_i a0 p0 a1 p1 e0 e1
 cases h
 refine⟨fun hp=>?_,_,rfl⟩
 have q0:=fun p hm=>hp p (List.mem_append.2 (.inl hm))
 have r0:=fun p hm=>hp p (List.mem_append.2 (.inr hm))
 have q1:=fun p hm=>r0 p (List.mem_append.2 (.inl hm))
 have r1:=fun p hm=>r0 p (List.mem_append.2 (.inr hm))
 refine Ah (Ag (Bck a0 a1 r1) (Nat.le_refl _) (Ac (Af _ _) (Ac (Af _ _) An)) nx o) fun F N R vs hl=>?_
 obtain⟨v0,w0,rfl,h0,hl⟩:=hl.inv
 obtain⟨v1,w1,rfl,h1,hl⟩:=hl.inv
 exact HL.cons (Am e0 q0 h0) (HL.cons (Am e1 q1 h1) (hl))
noncomputable def B2d:=A7 121 Y2 B2c
theorem Bnm:CU Try.prog B2d:=Aw A5s Bnl
def P3 (a0:List UInt8) (a1:TVec):List UInt8:=a0++Nk a1.1
def App (a0:List UInt8) (a1:TVec):List UInt8:=bif !Bz a1 then[]++a0 else(P3 a0 a1)++Nk a1.2
def A7r (_a0:List UInt8) (_a1:TVec):A:=.sq 0
def ZH (a0:List UInt8) (a1:TVec):Objs:=[(0,some (.arr 5 1 (.ty .u8 (App a0 a1))))]
def Bm4 (a0:List UInt8) (a1:TVec):List Prop:=[((!Bz a1)=true→Ai ((0:Nat)+a0.length)),((!!Bz a1)=true→Ai (a0.length+(8:Nat))),((!!Bz a1)=true→Ai ((P3 a0 a1).length+(8:Nat)))]
set_option maxRecDepth 100000 in
theorem Bm3 (a0:List UInt8) (a1:TVec):ER (AA B2d L0) 9 120 [Ak .bytes a0,Ak .vec a1] 0 []=some (1,A7r a0 a1,1,ZH a0 a1,[((!Bz a1)=true→Ai ((0:Nat)+a0.length)),((!!Bz a1)=true→Ai (a0.length+(8:Nat))),((!!Bz a1)=true→Ai ((P3 a0 a1).length+(8:Nat)))]):=by kernel_rfl
set_option maxRecDepth 100000 in
theorem Bsd (a0:List UInt8) (a1:TVec) (hp:∀p∈Bm4 a0 a1,p):CallOk Try.prog 120 [Ak .bytes a0,Ak .vec a1] 0 [] 1 (A7r a0 a1) 1 (ZH a0 a1):=by
 have n0:=N0 hp
 have n1:=N0 (N1 hp)
 have n2:=N0 (N1 (N1 hp))
 exact AH (Ax Bnm AG) (Bm3 a0 a1) (Aa n0 (Aa n1 (Aa n2 Ab)))
def A3b (_a0:List UInt8) (_a1:TVec):A:=.sq 0
def UT (a0:List UInt8) (a1:TVec):Objs:=[(0,some (.arr 5 1 (.ty .u8 (a0++Aue a1))))]
def As9 (a0:List UInt8) (_a1:TVec):List Prop:=[Ai (a0.length+16)]
theorem Bm2 (a0:List UInt8) (a1:TVec):App a0 a1=a0++Aue a1:=by
 unfold App P3 Aue
 rw[Lh]
 cases CO a1 with
 |false=>exact(List.append_nil a0).symm
 |true=>exact List.append_assoc ..
theorem Bm1 (a0:List UInt8) (a1:TVec) (hp:∀p∈As9 a0 a1,p):CallOk Try.prog 120 [Ak .bytes a0,Ak .vec a1] 0 [] 1 (A3b a0 a1) 1 (UT a0 a1):=by
 have hb:Ai (a0.length+16):=hp _ (List.mem_cons_self ..)
 have h:=Bsd a0 a1 (Aa (fun _=>by unfold Ai at*;omega) (Aa (fun _=>by unfold Ai at*;omega) (Aa (fun _=>by
  have:=XZ a1.1
  unfold P3 Ai at*
  rw[List.length_append]
  omega) Ab)))
 have ho:ZH a0 a1=UT a0 a1:=by unfold ZH UT;rw[Bm2]
 rw[ho] at h
 exact h
def Apq:List A→Nat→Objs→Option A9
 | [y0,y1],nx,o=>match AQ .bytes y0,AQ .vec y1 with
  |some (a0,p0),some (a1,p1)=>some (1,(A3b a0 a1).pk (AC nx),nx+1,AB nx (UT a0 a1)++o,p0++(p1++(As9 a0 a1)))
  |_,_=>none
 |_,_,_=>none
theorem Bjd:EV Try.prog 120 Apq:=fun args nx o k x nx' o' ps h=>by
 unfold Apq at h
 split at h<;>first|(cases h;done)|skip
 split at h<;>first|(cases h;done)|skip
 rename_i a0 p0 a1 p1 e0 e1
 cases h
 refine⟨fun hp=>?_,_,rfl⟩
 have q0:=fun p hm=>hp p (List.mem_append.2 (.inl hm))
 have r0:=fun p hm=>hp p (List.mem_append.2 (.inr hm))
 have q1:=fun p hm=>r0 p (List.mem_append.2 (.inl hm))
 have r1:=fun p hm=>r0 p (List.mem_append.2 (.inr hm))
 refine Ah (Ag (Bm1 a0 a1 r1) (Nat.le_refl _) (Ac (Af _ _) (Ac (Af _ _) An)) nx o) fun F N R vs hl=>?_
 obtain⟨v0,w0,rfl,h0,hl⟩:=hl.inv
 obtain⟨v1,w1,rfl,h1,hl⟩:=hl.inv
 exact HL.cons (Am e0 q0 h0) (HL.cons (Am e1 q1 h1) (hl))
noncomputable def B2e:=A7 120 Apq B2d
theorem Bnn:CU Try.prog B2e:=Aw Bjd Bnm
def JU (a0:List UInt8) (a1:ByteArray):List UInt8:=a0++Nk (↑a1.size:Int)
def Aa6 (a0:List UInt8) (a1:ByteArray):List UInt8:=(JU a0 a1)++a1.data.toList
def Aa7 (_a0:List UInt8) (_a1:ByteArray):A:=.sq 0
def MN (a0:List UInt8) (a1:ByteArray):Objs:=[(0,some (.arr 5 1 (.ty .u8 (Aa6 a0 a1))))]
def Azv (a0:List UInt8) (a1:ByteArray):List Prop:=[(Ai (a0.length+(8:Nat))),(Ai ((JU a0 a1).length+a1.data.toList.length))]
set_option maxRecDepth 100000 in
theorem Azu (a0:List UInt8) (a1:ByteArray):ER (AA B2e L0) 9 122 [Ak .bytes a0,Ak .str a1] 0 []=some (1,Aa7 a0 a1,1,MN a0 a1,[(Ai (a0.length+(8:Nat))),(Ai ((JU a0 a1).length+a1.data.toList.length))]):=by kernel_rfl
set_option maxRecDepth 100000 in
theorem A4e (a0:List UInt8) (a1:ByteArray) (hp:∀p∈Azv a0 a1,p):CallOk Try.prog 122 [Ak .bytes a0,Ak .str a1] 0 [] 1 (Aa7 a0 a1) 1 (MN a0 a1):=by
 have n0:=N0 hp
 have n1:=N0 (N1 hp)
 exact AH (Ax Bnn AG) (Azu a0 a1) (Aa n0 (Aa n1 Ab))
def XI (_a0:List UInt8) (_a1:ByteArray):A:=.sq 0
def LV (a0:List UInt8) (a1:ByteArray):Objs:=[(0,some (.arr 5 1 (.ty .u8 (a0++Baq a1))))]
def Vh (a0:List UInt8) (a1:ByteArray):List Prop:=[Ai (a0.length+8+a1.size)]
theorem XH (a0:List UInt8) (a1:ByteArray) (hp:∀p∈Vh a0 a1,p):CallOk Try.prog 122 [Ak .bytes a0,Ak .str a1] 0 [] 1 (XI a0 a1) 1 (LV a0 a1):=by
 have hb:Ai (a0.length+8+a1.size):=hp _ (List.mem_cons_self ..)
 have h:=A4e a0 a1 (Aa (by unfold Ai at*;omega) (Aa (by
  have:=XZ (a1.size:Int)
  have hs:a1.data.toList.length=a1.size:=Array.length_toList
  unfold JU Ai at*
  rw[List.length_append,hs]
  omega) Ab))
 have ho:MN a0 a1=LV a0 a1:=by unfold MN LV Aa6 JU Baq;rw[List.append_assoc]
 rw[ho] at h
 exact h
def RP:List A→Nat→Objs→Option A9
 | [y0,y1],nx,o=>match AQ .bytes y0,AQ .str y1 with
  |some (a0,p0),some (a1,p1)=>some (1,(XI a0 a1).pk (AC nx),nx+1,AB nx (LV a0 a1)++o,p0++(p1++(Vh a0 a1)))
  |_,_=>none
 |_,_,_=>none
theorem At9:EV Try.prog 122 RP:=fun args nx o k x nx' o' ps h=>by
 unfold RP at h
 split at h<;>first|(cases h;done)|skip
 split at h<;>first|(cases h;done)|skip
 rename_i a0 p0 a1 p1 e0 e1
 cases h
 refine⟨fun hp=>?_,_,rfl⟩
 have q0:=fun p hm=>hp p (List.mem_append.2 (.inl hm))
 have r0:=fun p hm=>hp p (List.mem_append.2 (.inr hm))
 have q1:=fun p hm=>r0 p (List.mem_append.2 (.inl hm))
 have r1:=fun p hm=>r0 p (List.mem_append.2 (.inr hm))
 refine Ah (Ag (XH a0 a1 r1) (Nat.le_refl _) (Ac (Af _ _) (Ac (Af _ _) An)) nx o) fun F N R vs hl=>?_
 obtain⟨v0,w0,rfl,h0,hl⟩:=hl.inv
 obtain⟨v1,w1,rfl,h1,hl⟩:=hl.inv
 exact HL.cons (Am e0 q0 h0) (HL.cons (Am e1 q1 h1) (hl))
noncomputable def B2f:=A7 122 RP B2e
theorem Bno:CU Try.prog B2f:=Aw At9 Bnn
def CZ (_a0:List UInt8) (_a1:Int) (a2:TCell):Int:=bif a2.3 then IntKind.i64.wrap (↑(BitVec.ofInt (64:Nat) (bif FF a2 then(1:Int) else(0:Int)) ||| BitVec.ofInt (64:Nat) (2:Int)).toNat:Int) else bif FF a2 then(1:Int) else(0:Int)
def HU (a0:List UInt8) (a1:Int) (a2:TCell):List UInt8:=a0++Nk (bif !(a2.5.1==(0:Int)&&a2.5.2==(0:Int)) then IntKind.i64.wrap (↑(BitVec.ofInt (64:Nat) (CZ a0 a1 a2) ||| BitVec.ofInt (64:Nat) (4:Int)).toNat:Int) else(CZ a0 a1 a2))++Bk4 a2.1
def DY (a0:List UInt8) (a1:Int) (a2:TCell):Bool:=decide (IntKind.i64.wrap (↑(BitVec.ofInt (64:Nat) (bif !(a2.5.1==(0:Int)&&a2.5.2==(0:Int)) then IntKind.i64.wrap (↑(BitVec.ofInt (64:Nat) (CZ a0 a1 a2) ||| BitVec.ofInt (64:Nat) (4:Int)).toNat:Int) else(CZ a0 a1 a2)) &&& BitVec.ofInt (64:Nat) (1:Int)).toNat:Int) >(0:Int))
def M7 (a0:List UInt8) (a1:Int) (a2:TCell):Bool:=decide (IntKind.i64.wrap (↑(BitVec.ofInt (64:Nat) (bif !(a2.5.1==(0:Int)&&a2.5.2==(0:Int)) then IntKind.i64.wrap (↑(BitVec.ofInt (64:Nat) (CZ a0 a1 a2) ||| BitVec.ofInt (64:Nat) (4:Int)).toNat:Int) else(CZ a0 a1 a2)) &&& BitVec.ofInt (64:Nat) (4:Int)).toNat:Int) >(0:Int))
def JJ (a0:List UInt8) (a1:Int) (a2:TCell):List UInt8:=bif(DY a0 a1 a2) then bif !a2.3 then(HU a0 a1 a2)++Aue a2.2++Baq a2.4 else(HU a0 a1 a2)++Aue a2.2 else a0++Nk (bif !(a2.5.1==(0:Int)&&a2.5.2==(0:Int)) then IntKind.i64.wrap (↑(BitVec.ofInt (64:Nat) (CZ a0 a1 a2) ||| BitVec.ofInt (64:Nat) (4:Int)).toNat:Int) else(CZ a0 a1 a2))
def Acv (a0:List UInt8) (a1:Int) (a2:TCell):List UInt8:=bif !AY a1 a2 then[]++a0 else bif(M7 a0 a1 a2) then(JJ a0 a1 a2)++Aue (TVec.mk (bif(DY a0 a1 a2) then bif !a2.3 then a2.5.1 else a2.5.1 else a2.5.1) (bif(DY a0 a1 a2) then bif !a2.3 then a2.5.2 else a2.5.2 else a2.5.2)) else(JJ a0 a1 a2)
def Axc (_a0:List UInt8) (_a1:Int) (_a2:TCell):A:=.sq 0
def TW (a0:List UInt8) (a1:Int) (a2:TCell):Objs:=[(0,some (.arr 5 1 (.ty .u8 (Acv a0 a1 a2))))]
def Beq (a0:List UInt8) (a1:Int) (a2:TCell):List Prop:=[((!AY a1 a2)=true→Ai ((0:Nat)+a0.length)),((!!AY a1 a2)=true→Ai (a0.length+(8:Nat))),((!!AY a1 a2)=true→(DY a0 a1 a2)=true→Ai ((a0++Nk (bif !(a2.5.1==(0:Int)&&a2.5.2==(0:Int)) then IntKind.i64.wrap (↑(BitVec.ofInt (64:Nat) (CZ a0 a1 a2) ||| BitVec.ofInt (64:Nat) (4:Int)).toNat:Int) else(CZ a0 a1 a2))).length+(8:Nat))),((!!AY a1 a2)=true→(DY a0 a1 a2)=true→Ai ((HU a0 a1 a2).length+(16:Nat))),((!!AY a1 a2)=true→(DY a0 a1 a2)=true→(!a2.3)=true→Ai (((HU a0 a1 a2)++Aue a2.2).length+(8:Nat)+a2.4.size)),((!!AY a1 a2)=true→(M7 a0 a1 a2)=true→Ai ((JJ a0 a1 a2).length+(16:Nat)))]
set_option maxRecDepth 100000 in
theorem Bep (a0:List UInt8) (a1:Int) (a2:TCell):ER (AA B2f L0) 9 56 [Ak .bytes a0,Ak .i64 a1,Ak .cell a2] 0 []=some (1,Axc a0 a1 a2,1,TW a0 a1 a2,[((!AY a1 a2)=true→Ai ((0:Nat)+a0.length)),((!!AY a1 a2)=true→Ai (a0.length+(8:Nat))),((!!AY a1 a2)=true→(DY a0 a1 a2)=true→Ai ((a0++Nk (bif !(a2.5.1==(0:Int)&&a2.5.2==(0:Int)) then IntKind.i64.wrap (↑(BitVec.ofInt (64:Nat) (CZ a0 a1 a2) ||| BitVec.ofInt (64:Nat) (4:Int)).toNat:Int) else(CZ a0 a1 a2))).length+(8:Nat))),((!!AY a1 a2)=true→(DY a0 a1 a2)=true→Ai ((HU a0 a1 a2).length+(16:Nat))),((!!AY a1 a2)=true→(DY a0 a1 a2)=true→(!a2.3)=true→Ai (((HU a0 a1 a2)++Aue a2.2).length+(8:Nat)+a2.4.size)),((!!AY a1 a2)=true→(M7 a0 a1 a2)=true→Ai ((JJ a0 a1 a2).length+(16:Nat)))]):=by kernel_rfl
set_option maxRecDepth 100000 in
theorem Bj4 (a0:List UInt8) (a1:Int) (a2:TCell) (hp:∀p∈Beq a0 a1 a2,p):CallOk Try.prog 56 [Ak .bytes a0,Ak .i64 a1,Ak .cell a2] 0 [] 1 (Axc a0 a1 a2) 1 (TW a0 a1 a2):=by
 have n0:=N0 hp
 have n1:=N0 (N1 hp)
 have n2:=N0 (N1 (N1 hp))
 have n3:=N0 (N1 (N1 (N1 hp)))
 have n4:=N0 (N1 (N1 (N1 (N1 hp))))
 have n5:=N0 (N1 (N1 (N1 (N1 (N1 hp)))))
 exact AH (Ax Bno AG) (Bep a0 a1 a2) (Aa n0 (Aa n1 (Aa n2 (Aa n3 (Aa n4 (Aa n5 Ab))))))
def Ap2 (_a0:List UInt8) (_a1:Int) (_a2:TCell):A:=.sq 0
def Qe (a0:List UInt8) (a1:Int) (a2:TCell):Objs:=[(0,some (.arr 5 1 (.ty .u8 (a0++Bgv a1 a2))))]
def Ag4 (a0:List UInt8) (_a1:Int) (_a2:TCell):List Prop:=[Ai (a0.length+128)]
theorem Mh (a0:List UInt8) (a1:Int) (c:TCell):(bif !(c.5.1==(0:Int)&&c.5.2==(0:Int)) then IntKind.i64.wrap (↑(BitVec.ofInt (64:Nat) (CZ a0 a1 c) ||| BitVec.ofInt (64:Nat) (4:Int)).toNat:Int) else(CZ a0 a1 c))=OP c:=by
 unfold CZ OP
 rw[KO]
 show(bif !(HE c.dead) then _ else _)=_
 cases CD c<;>cases c.gone<;>cases HE c.dead<;>rfl
theorem Ap0 (a0:List UInt8) (a1:Int) (c:TCell):DY a0 a1 c=CD c:=by
 unfold DY
 obtain⟨h1,_,h3,_⟩:=Bfi c
 rw[Mh,Agw h1 0 1 rfl (by decide)]
 exact h3
theorem Ben (a0:List UInt8) (a1:Int) (c:TCell):M7 a0 a1 c=!HE c.dead:=by
 unfold M7
 obtain⟨h1,_,_,_,h5⟩:=Bfi c
 rw[Mh,Agw h1 2 4 rfl (by decide)]
 exact h5
theorem Beo (a0:List UInt8) (a1:Int) (c:TCell):Acv a0 a1 c=a0++Bgv a1 c:=by
 unfold Acv JJ HU Bgv Bub
 rw[IZ,Mh,Ap0,Ben]
 have hd:∀w g:Bool,(TVec.mk (bif w then bif !g then c.5.1 else c.5.1 else c.5.1) (bif w then bif !g then c.5.2 else c.5.2 else c.5.2))=c.dead:=by intro w g;cases w<;>cases g<;>rfl
 rw[hd]
 cases BC a1 c<;>cases CD c<;>cases c.gone<;>cases HE c.dead<;>simp
theorem Ap1 (a0:List UInt8) (a1:Int) (a2:TCell) (hp:∀p∈Ag4 a0 a1 a2,p):CallOk Try.prog 56 [Ak .bytes a0,Ak .i64 a1,Ak .cell a2] 0 [] 1 (Ap2 a0 a1 a2) 1 (Qe a0 a1 a2):=by
 have hb:Ai (a0.length+128):=hp _ (List.mem_cons_self ..)
 unfold Ai at hb
 have n8:=XZ (OP a2)
 have s8:=Bwl a2.stamp
 have v16:=Bar a2.vec
 have t8:=Bk5 a2.value
 have k3:(HU a0 a1 a2).length≤a0.length+16:=by
  unfold HU
  rw[Mh,List.length_append,List.length_append]
  omega
 have sz:(!!AY a1 a2)=true→DY a0 a1 a2=true→a2.value.size≤64:=fun h1 h2=>by
  rw[IZ,Bool.not_not] at h1
  rw[Ap0] at h2
  have:=((A6m.1 h1).st h2).2.2.2.1
  omega
 have h:=Bj4 a0 a1 a2 (Aa (fun _=>by unfold Ai;omega) (Aa (fun _=>by unfold Ai;omega) (Aa (fun _ _=>by rw[Mh,List.length_append];unfold Ai;omega) (Aa (fun _ _=>by unfold Ai;omega) (Aa (fun h1 h2 _=>by
   have:=sz h1 h2
   rw[List.length_append];unfold Ai;omega) (Aa (fun h1 _=>by
   have:(JJ a0 a1 a2).length≤a0.length+112:=by
    unfold JJ
    rw[Mh]
    cases hw:DY a0 a1 a2 with
    |false=>rw[cond_false,List.length_append];omega
    |true=>
     have:=sz h1 hw
     rw[cond_true]
     cases a2.3 with
     |true=>simp only[Bool.not_true,cond_false,List.length_append];omega
     |false=>simp only[Bool.not_false,cond_true,List.length_append];omega
   unfold Ai;omega) Ab))))))
 have ho:TW a0 a1 a2=Qe a0 a1 a2:=by unfold TW Qe;rw[Beo]
 rw[ho] at h
 exact h
def Acw:List A→Nat→Objs→Option A9
 | [y0,y1,y2],nx,o=>match AQ .bytes y0,AQ .i64 y1,AQ .cell y2 with
  |some (a0,p0),some (a1,p1),some (a2,p2)=>some (1,(Ap2 a0 a1 a2).pk (AC nx),nx+1,AB nx (Qe a0 a1 a2)++o,p0++(p1++(p2++(Ag4 a0 a1 a2))))
  |_,_,_=>none
 |_,_,_=>none
theorem A8m:EV Try.prog 56 Acw:=fun args nx o k x nx' o' ps h=>by
 unfold Acw at h
 split at h<;>first|(cases h;done)|skip
 split at h<;>first|(cases h;done)|skip
 rename_i a0 p0 a1 p1 a2 p2 e0 e1 e2
 cases h
 refine⟨fun hp=>?_,_,rfl⟩
 have q0:=fun p hm=>hp p (List.mem_append.2 (.inl hm))
 have r0:=fun p hm=>hp p (List.mem_append.2 (.inr hm))
 have q1:=fun p hm=>r0 p (List.mem_append.2 (.inl hm))
 have r1:=fun p hm=>r0 p (List.mem_append.2 (.inr hm))
 have q2:=fun p hm=>r1 p (List.mem_append.2 (.inl hm))
 have r2:=fun p hm=>r1 p (List.mem_append.2 (.inr hm))
 refine Ah (Ag (Ap1 a0 a1 a2 r2) (Nat.le_refl _) (Ac (Af _ _) (Ac (Af _ _) (Ac (Af _ _) An))) nx o) fun F N R vs hl=>?_
 obtain⟨v0,w0,rfl,h0,hl⟩:=hl.inv
 obtain⟨v1,w1,rfl,h1,hl⟩:=hl.inv
 obtain⟨v2,w2,rfl,h2,hl⟩:=hl.inv
 exact HL.cons (Am e0 q0 h0) (HL.cons (Am e1 q1 h1) (HL.cons (Am e2 q2 h2) (hl)))
noncomputable def B2g:=A7 56 Acw B2f
theorem Bnp:CU Try.prog B2g:=Aw A8m Bno
def Ma (a0:List UInt8):Bool:=(Ar a0).fst==(0:Int)
def L9 (a0:List UInt8):Bool:=(Ar a0).snd.snd !=(0:Int)
def L8 (a0:List UInt8):Bool:=!Co (TStamp.mk ((Ar a0).fst.fdiv (2:Int)) (IntKind.i64.wrap (IntKind.i64.wrap (↑(BitVec.ofInt (64:Nat) (Ar a0).fst &&& BitVec.ofInt (64:Nat) (1:Int)).toNat:Int)+(1:Int))))
def Q5 (a0:List UInt8):TStamp:=TStamp.mk (bif(L9 a0) then(0:Int) else bif(Ma a0) then(0:Int) else bif(L8 a0) then(0:Int) else(Ar a0).fst.fdiv (2:Int)) (bif(L9 a0) then(0:Int) else bif(Ma a0) then(0:Int) else bif(L8 a0) then(0:Int) else IntKind.i64.wrap (IntKind.i64.wrap (↑(BitVec.ofInt (64:Nat) (Ar a0).fst &&& BitVec.ofInt (64:Nat) (1:Int)).toNat:Int)+(1:Int)))
def YY (a0:List UInt8):Int:=bif(L9 a0) then(0:Int) else bif(Ma a0) then(Ar a0).snd.fst else bif(L8 a0) then(0:Int) else(Ar a0).snd.fst
def YZ (a0:List UInt8):Int:=bif(L9 a0) then(Ar a0).snd.snd else bif(Ma a0) then(0:Int) else bif(L8 a0) then(11:Int) else(0:Int)
def Q6 (a0:List UInt8):A:=.v (.tuple ⟨[.agg ⟨[.int .i64 ((Q5 a0).n),.int .i64 ((Q5 a0).site)]⟩,.int .i64 (YY a0),.int .i64 (YZ a0)]⟩)
def As2 (_a0:List UInt8):Objs:=[]
def Bch (_a0:List UInt8):List Prop:=[]
set_option maxRecDepth 100000 in
theorem Bcg (a0:List UInt8):ER (AA B2g L0) 9 115 [Ak .bytes a0] 0 []=some (1,Q6 a0,0,As2 a0,[]):=by kernel_rfl
set_option maxRecDepth 100000 in
theorem Bi3 (a0:List UInt8) (_hp:∀p∈Bch a0,p):CallOk Try.prog 115 [Ak .bytes a0] 0 [] 1 (Q6 a0) 0 (As2 a0):=by
 exact AH (Ax Bnp AG) (Bcg a0) Ab
def Om (a0:List UInt8):A:=.v (.tuple ⟨[.agg ⟨[.int .i64 (Gw a0).1.n,.int .i64 (Gw a0).1.site]⟩,.int .i64 (Gw a0).2.1,.int .i64 (Gw a0).2.2]⟩)
def Ak9 (_a0:List UInt8):Objs:=[]
def Ach (_a0:List UInt8):List Prop:=[]
theorem Bcf (b:List UInt8):(Q5 b,YY b,YZ b)=Gw b:=by
 obtain⟨_,_,_,hn0,hn1⟩:=HY b
 have hok:okN (Ar b).1:=⟨hn0,hn1⟩
 unfold Q5 YY YZ L8 L9 Ma Gw B3b
 rw[Byw hok,KL,Int.fdiv_eq_ediv_of_nonneg _ (by decide)]
 by_cases he:(Ar b).2.2=0
 ·have e1:((Ar b).2.2 !=(0:Int))=false:=by rw[he];rfl
  rw[e1,if_neg (by rw[he];simp)]
  by_cases hz:(Ar b).1=0
  ·have e2:((Ar b).1==(0:Int))=true:=by rw[hz];rfl
   rw[e2,if_pos hz]
   rfl
  ·have e2:((Ar b).1==(0:Int))=false:=by simpa using hz
   rw[e2,if_neg hz]
   cases hg:Ih ⟨(Ar b).1 / 2,1+(Ar b).1 % 2⟩ with
   |true=>rfl
   |false=>rfl
 ·have e1:((Ar b).2.2 !=(0:Int))=true:=by simpa using he
  rw[e1,if_pos he]
  rfl
theorem Bce (a0:List UInt8) (_hp:∀p∈Ach a0,p):CallOk Try.prog 115 [Ak .bytes a0] 0 [] 1 (Om a0) 0 (Ak9 a0):=by
 have h:=Bi3 a0 Ab
 have hr:Q6 a0=Om a0:=by unfold Q6 Om;rw[←Bcf]
 rw[hr] at h
 exact h
def Y0:List A→Nat→Objs→Option A9
 | [y0],nx,o=>match AQ .bytes y0 with
  |some (a0,p0)=>some (1,(Om a0).pk (AC nx),nx+0,AB nx (Ak9 a0)++o,p0++(Ach a0))
  |_=>none
 |_,_,_=>none
theorem A5p:EV Try.prog 115 Y0:=fun args nx o k x nx' o' ps h=>by
 unfold Y0 at h
 split at h<;>first|(cases h;done)|skip
 split at h<;>first|(cases h;done)|skip
 rename_i a0 p0 e0
 cases h
 refine⟨fun hp=>?_,_,rfl⟩
 have q0:=fun p hm=>hp p (List.mem_append.2 (.inl hm))
 have r0:=fun p hm=>hp p (List.mem_append.2 (.inr hm))
 refine Ah (Ag (Bce a0 r0) (Nat.le_refl _) (Ac (Af _ _) An) nx o) fun F N R vs hl=>?_
 obtain⟨v0,w0,rfl,h0,hl⟩:=hl.inv
 exact HL.cons (Am e0 q0 h0) (hl)
noncomputable def B2h:=A7 115 Y0 B2g
theorem Bnq:CU Try.prog B2h:=Aw A5p Bnp
def Ez (a0:List UInt8):Bool:=(Ar (List.take ((↑a0.length:Int).toNat - (0:Nat)) (List.drop (0:Nat) a0))).snd.snd !=(0:Int)
def DX (a0:List UInt8):Int:=IntKind.i64.wrap ((0:Int)+(Ar (List.take ((↑a0.length:Int).toNat - (0:Nat)) (List.drop (0:Nat) a0))).snd.fst)
def UR (a0:List UInt8):Int:=bif(Ez a0) then(0:Int) else(0:Int)
def Lc (a0:List UInt8):Int:=(Ar (List.take ((↑a0.length:Int).toNat - (DX a0).toNat) (List.drop (DX a0).toNat a0))).snd.snd
def P0 (a0:List UInt8):Bool:=!Bz (TVec.mk (Ar (List.take ((↑a0.length:Int).toNat - (0:Nat)) (List.drop (0:Nat) a0))).fst (Ar (List.take ((↑a0.length:Int).toNat - (DX a0).toNat) (List.drop (DX a0).toNat a0))).fst)
def PZ (a0:List UInt8):Bool:=(Ez a0)||(Lc a0) !=(0:Int)
def ZF (a0:List UInt8):TVec:=TVec.mk (bif(PZ a0) then(UR a0) else bif(P0 a0) then(0:Int) else(Ar (List.take ((↑a0.length:Int).toNat - (0:Nat)) (List.drop (0:Nat) a0))).fst) (bif(PZ a0) then(UR a0) else bif(P0 a0) then(0:Int) else(Ar (List.take ((↑a0.length:Int).toNat - (DX a0).toNat) (List.drop (DX a0).toNat a0))).fst)
def Apm (a0:List UInt8):Int:=bif(PZ a0) then(UR a0) else bif(P0 a0) then(0:Int) else IntKind.i64.wrap ((DX a0)+(Ar (List.take ((↑a0.length:Int).toNat - (DX a0).toNat) (List.drop (DX a0).toNat a0))).snd.fst)
def Apn (a0:List UInt8):Int:=bif(PZ a0) then bif(Ez a0) then(Ar (List.take ((↑a0.length:Int).toNat - (0:Nat)) (List.drop (0:Nat) a0))).snd.snd else(Lc a0) else bif(P0 a0) then(11:Int) else(0:Int)
def ZG (a0:List UInt8):A:=.v (.tuple ⟨[.agg ⟨[.int .i64 ((ZF a0).a),.int .i64 ((ZF a0).b)]⟩,.int .i64 (Apm a0),.int .i64 (Apn a0)]⟩)
def A7q (_a0:List UInt8):Objs:=[]
def A27 (a0:List UInt8):List Prop:=[((!(Ez a0))=true→(0:Int)≤(DX a0)∧(DX a0)≤(↑a0.length:Int)∧(↑a0.length:Int)≤(↑a0.length:Int))]
set_option maxRecDepth 100000 in
theorem Bmy (a0:List UInt8):ER (AA B2h L0) 9 116 [Ak .bytes a0] 0 []=some (1,ZG a0,0,A7q a0,[((0:Int)≤(0:Int)∧(0:Int)≤(↑a0.length:Int)∧(↑a0.length:Int)≤(↑a0.length:Int)),((!(Ez a0))=true→(0:Int)≤(0:Int)∧(0:Int) <(2:Int)),((!(Ez a0))=true→(0:Nat) <(2:Nat)),((!(Ez a0))=true→(0:Int)≤(DX a0)∧(DX a0)≤(↑a0.length:Int)∧(↑a0.length:Int)≤(↑a0.length:Int)),((!(Ez a0))=true→(!(Lc a0) !=(0:Int))=true→(0:Int)≤(1:Int)∧(1:Int) <(2:Int)),((!(Ez a0))=true→(!(Lc a0) !=(0:Int))=true→(1:Nat) <(2:Nat))]):=by kernel_rfl
set_option maxRecDepth 100000 in
theorem Bsc (a0:List UInt8) (hp:∀p∈A27 a0,p):CallOk Try.prog 116 [Ak .bytes a0] 0 [] 1 (ZG a0) 0 (A7q a0):=by
 have n0:((0:Int)≤(0:Int)∧(0:Int)≤(↑a0.length:Int)∧(↑a0.length:Int)≤(↑a0.length:Int)):=by omega
 have n1:((!(Ez a0))=true→(0:Int)≤(0:Int)∧(0:Int) <(2:Int)):=by omega
 have n2:((!(Ez a0))=true→(0:Nat) <(2:Nat)):=by omega
 have n3:=N0 hp
 have n4:((!(Ez a0))=true→(!(Lc a0) !=(0:Int))=true→(0:Int)≤(1:Int)∧(1:Int) <(2:Int)):=by omega
 have n5:((!(Ez a0))=true→(!(Lc a0) !=(0:Int))=true→(1:Nat) <(2:Nat)):=by omega
 exact AH (Ax Bnq AG) (Bmy a0) (Aa n0 (Aa n1 (Aa n2 (Aa n3 (Aa n4 (Aa n5 Ab))))))
def US (a0:List UInt8):A:=.v (.tuple ⟨[.agg ⟨[.int .i64 (Gc a0).1.a,.int .i64 (Gc a0).1.b]⟩,.int .i64 (Gc a0).2.1,.int .i64 (Gc a0).2.2]⟩)
def A26 (_a0:List UInt8):Objs:=[]
def As6 (_a0:List UInt8):List Prop:=[]
theorem EH {b:List UInt8} {k:Int}:List.take (((b.length:Nat):Int).toNat - k.toNat) (List.drop k.toNat b)=b.drop k.toNat:=by
 rw[Int.toNat_natCast]
 exact List.take_of_length_le (by rw[List.length_drop];exact Nat.le_refl _)
theorem Bmx (b:List UInt8):(∀p∈A27 b,p)∧(ZF b,Apm b,Apn b)=Gc b:=by
 obtain⟨hk0,hk1,hk2,hn0,hn1⟩:=HY b
 have e0:List.take (((b.length:Nat):Int).toNat - (0:Nat)) (List.drop (0:Nat) b)=b:=by
  simp
 have k4:DX b=(Ar b).2.1:=by
  unfold DX
  rw[e0,i64_in (by omega)]
  omega
 refine⟨Aa (fun _=>?_) Ab,?_⟩
 ·rw[k4];omega
 ·unfold ZF Apm Apn PZ P0 Lc UR Ez Gc
  rw[k4,e0,EH,Lh]
  obtain⟨hj0,hj1,hj2,hm0,hm1⟩:=HY (b.drop (Ar b).2.1.toNat)
  rw[i64_in (n:=(Ar b).2.1+_) (by omega)]
  by_cases he:(Ar b).2.2=0
  ·have e1:((Ar b).2.2 !=(0:Int))=false:=by rw[he];rfl
   rw[e1,if_neg (by rw[he];simp)]
   by_cases he2:(Ar (b.drop (Ar b).2.1.toNat)).2.2=0
   ·have e2:((Ar (b.drop (Ar b).2.1.toNat)).2.2 !=(0:Int))=false:=by rw[he2];rfl
    rw[e2,if_neg (by rw[he2];simp)]
    cases hg:CO ⟨(Ar b).1,(Ar (b.drop (Ar b).2.1.toNat)).1⟩ with
    |true=>rfl
    |false=>rfl
   ·have e2:((Ar (b.drop (Ar b).2.1.toNat)).2.2 !=(0:Int))=true:=by simpa using he2
    rw[e2,if_pos he2]
    rfl
  ·have e1:((Ar b).2.2 !=(0:Int))=true:=by simpa using he
   rw[e1,if_pos he]
   rfl
theorem Bmw (a0:List UInt8) (_hp:∀p∈As6 a0,p):CallOk Try.prog 116 [Ak .bytes a0] 0 [] 1 (US a0) 0 (A26 a0):=by
 obtain⟨h1,h2⟩:=Bmx a0
 have h:=Bsc a0 h1
 have hr:ZG a0=US a0:=by unfold ZG US;rw[←h2]
 rw[hr] at h
 exact h
def Apo:List A→Nat→Objs→Option A9
 | [y0],nx,o=>match AQ .bytes y0 with
  |some (a0,p0)=>some (1,(US a0).pk (AC nx),nx+0,AB nx (A26 a0)++o,p0++(As6 a0))
  |_=>none
 |_,_,_=>none
theorem Bja:EV Try.prog 116 Apo:=fun args nx o k x nx' o' ps h=>by
 unfold Apo at h
 split at h<;>first|(cases h;done)|skip
 split at h<;>first|(cases h;done)|skip
 rename_i a0 p0 e0
 cases h
 refine⟨fun hp=>?_,_,rfl⟩
 have q0:=fun p hm=>hp p (List.mem_append.2 (.inl hm))
 have r0:=fun p hm=>hp p (List.mem_append.2 (.inr hm))
 refine Ah (Ag (Bmw a0 r0) (Nat.le_refl _) (Ac (Af _ _) An) nx o) fun F N R vs hl=>?_
 obtain⟨v0,w0,rfl,h0,hl⟩:=hl.inv
 exact HL.cons (Am e0 q0 h0) (hl)
noncomputable def Bs4:=A7 116 Apo B2h
theorem Bdf:CU Try.prog Bs4:=Aw Bja Bnq
def It (a0:List UInt8) (_a1:Int):Bool:=(Ar a0).snd.snd !=(0:Int)
def FG (a0:List UInt8) (_a1:Int):Int:=IntKind.i64.wrap ((Ar a0).snd.fst+(Ar a0).fst)
def Is (a0:List UInt8) (a1:Int):Bool:=decide ((Ar a0).fst >a1)
def Hs (a0:List UInt8) (a1:Int):Bool:=(It a0 a1)||((Is a0 a1)||decide (IntKind.i64.wrap ((↑a0.length:Int) - (Ar a0).snd.fst) <(Ar a0).fst))
def RK (a0:List UInt8) (a1:Int):ByteArray:=bif(Hs a0 a1) then bif(It a0 a1) then ByteArray.mk #[] else bif(Is a0 a1) then ByteArray.mk #[] else ByteArray.mk #[] else ByteArray.mk (List.take ((FG a0 a1).toNat - (Ar a0).snd.fst.toNat) (List.drop (Ar a0).snd.fst.toNat a0)).toArray
def RL (a0:List UInt8) (a1:Int):Int:=bif(Hs a0 a1) then bif(It a0 a1) then(0:Int) else bif(Is a0 a1) then(0:Int) else(0:Int) else(FG a0 a1)
def RM (a0:List UInt8) (a1:Int):Int:=bif(Hs a0 a1) then bif(It a0 a1) then(Ar a0).snd.snd else bif(Is a0 a1) then(3:Int) else(10:Int) else(0:Int)
def MM (a0:List UInt8) (a1:Int):A:=.v (.tuple ⟨[.string (RK a0 a1),.int .i64 (RL a0 a1),.int .i64 (RM a0 a1)]⟩)
def Aa5 (_a0:List UInt8) (_a1:Int):Objs:=[]
def XE (a0:List UInt8) (a1:Int):List Prop:=[((!(Hs a0 a1))=true→(0:Int)≤(Ar a0).snd.fst∧(Ar a0).snd.fst≤(FG a0 a1)∧(FG a0 a1)≤(↑a0.length:Int))]
set_option maxRecDepth 100000 in
theorem Azo (a0:List UInt8) (a1:Int):ER (AA Bs4 L0) 9 117 [Ak .bytes a0,Ak .i64 a1] 0 []=some (1,MM a0 a1,0,Aa5 a0 a1,[((!(Hs a0 a1))=true→(0:Int)≤(Ar a0).snd.fst∧(Ar a0).snd.fst≤(FG a0 a1)∧(FG a0 a1)≤(↑a0.length:Int))]):=by kernel_rfl
set_option maxRecDepth 100000 in
theorem A4b (a0:List UInt8) (a1:Int) (hp:∀p∈XE a0 a1,p):CallOk Try.prog 117 [Ak .bytes a0,Ak .i64 a1] 0 [] 1 (MM a0 a1) 0 (Aa5 a0 a1):=by
 have n0:=N0 hp
 exact AH (Ax Bdf AG) (Azo a0 a1) (Aa n0 Ab)
def LT (a0:List UInt8) (a1:Int):A:=.v (.tuple ⟨[.string (WI a0 a1).1,.int .i64 (WI a0 a1).2.1,.int .i64 (WI a0 a1).2.2]⟩)
def XD (_a0:List UInt8) (_a1:Int):Objs:=[]
def Vf (a0:List UInt8) (_a1:Int):List Prop:=[Ai a0.length]
theorem Azn (b:List UInt8) (m:Int) (hb:Ai b.length):(∀p∈XE b m,p)∧(RK b m,RL b m,RM b m)=WI b m:=by
 obtain⟨hk0,hk1,hk2,hn0,hn1⟩:=HY b
 unfold Ai at hb
 have k2:FG b m=(Ar b).2.1+(Ar b).1:=by
  unfold FG
  exact i64_in (by omega)
 have k0:Hs b m=((Ar b).2.2 !=0||(decide ((Ar b).1 >m)||decide ((b.length:Int) - (Ar b).2.1 <(Ar b).1))):=by
  unfold Hs Is It
  rw[i64_in (by omega)]
 refine⟨Aa (fun h=>?_) Ab,?_⟩
 ·rw[k0] at h
  rw[k2]
  simp only[Bool.not_eq_true',Bool.or_eq_false_iff,decide_eq_false_iff_not] at h
  omega
 ·unfold RK RL RM Is It WI
  rw[k0,k2]
  by_cases he:(Ar b).2.2=0
  ·have e1:((Ar b).2.2 !=(0:Int))=false:=by rw[he];rfl
   rw[e1,if_neg (by rw[he];simp)]
   by_cases hm:(Ar b).1 >m
   ·rw[decide_eq_true hm,if_pos hm];rfl
   ·rw[decide_eq_false hm,if_neg hm]
    by_cases hc:(b.length:Int) - (Ar b).2.1 <(Ar b).1
    ·rw[decide_eq_true hc,if_pos hc];rfl
    ·rw[decide_eq_false hc,if_neg hc]
     have e3:((Ar b).2.1+(Ar b).1).toNat - (Ar b).2.1.toNat=(Ar b).1.toNat:=by omega
     rw[e3]
     rfl
  ·have e1:((Ar b).2.2 !=(0:Int))=true:=by simpa using he
   rw[e1,if_pos he]
   rfl
theorem Azm (a0:List UInt8) (a1:Int) (hp:∀p∈Vf a0 a1,p):CallOk Try.prog 117 [Ak .bytes a0,Ak .i64 a1] 0 [] 1 (LT a0 a1) 0 (XD a0 a1):=by
 obtain⟨h1,h2⟩:=Azn a0 a1 (hp _ (List.mem_cons_self ..))
 have h:=A4b a0 a1 h1
 have hr:MM a0 a1=LT a0 a1:=by unfold MM LT;rw[←h2]
 rw[hr] at h
 exact h
def RN:List A→Nat→Objs→Option A9
 | [y0,y1],nx,o=>match AQ .bytes y0,AQ .i64 y1 with
  |some (a0,p0),some (a1,p1)=>some (1,(LT a0 a1).pk (AC nx),nx+0,AB nx (XD a0 a1)++o,p0++(p1++(Vf a0 a1)))
  |_,_=>none
 |_,_,_=>none
theorem At7:EV Try.prog 117 RN:=fun args nx o k x nx' o' ps h=>by
 unfold RN at h
 split at h<;>first|(cases h;done)|skip
 split at h<;>first|(cases h;done)|skip
 rename_i a0 p0 a1 p1 e0 e1
 cases h
 refine⟨fun hp=>?_,_,rfl⟩
 have q0:=fun p hm=>hp p (List.mem_append.2 (.inl hm))
 have r0:=fun p hm=>hp p (List.mem_append.2 (.inr hm))
 have q1:=fun p hm=>r0 p (List.mem_append.2 (.inl hm))
 have r1:=fun p hm=>r0 p (List.mem_append.2 (.inr hm))
 refine Ah (Ag (Azm a0 a1 r1) (Nat.le_refl _) (Ac (Af _ _) (Ac (Af _ _) An)) nx o) fun F N R vs hl=>?_
 obtain⟨v0,w0,rfl,h0,hl⟩:=hl.inv
 obtain⟨v1,w1,rfl,h1,hl⟩:=hl.inv
 exact HL.cons (Am e0 q0 h0) (HL.cons (Am e1 q1 h1) (hl))
noncomputable def Bs5:=A7 117 RN Bs4
theorem Bdg:CU Try.prog Bs5:=Aw At7 Bdf
noncomputable def Bs6:=A7 113 (inl (AA Bs5 L0) 9 113) Bs5
theorem Bdh:CU Try.prog Bs6:=Aw (Ade (Ax Bdg AG) 9 113) Bdg
def AS (a0:List UInt8) (_a1:Int):Int:=IntKind.i64.wrap ((0:Int)+(Ar a0).snd.fst)
def AW (a0:List UInt8) (a1:Int):Int:=IntKind.i64.wrap ((AS a0 a1)+(Gw (List.take ((↑a0.length:Int).toNat - (AS a0 a1).toNat) (List.drop (AS a0 a1).toNat a0))).snd.fst)
def Fz (a0:List UInt8) (a1:Int):Int:=bif(Ar a0).snd.snd==(0:Int)&&decide (IntKind.i64.wrap (↑(BitVec.ofInt (64:Nat) (Ar a0).fst &&& BitVec.ofInt (64:Nat) (1:Int)).toNat:Int) >(0:Int)) then bif !decide (IntKind.i64.wrap (↑(BitVec.ofInt (64:Nat) (Ar a0).fst &&& BitVec.ofInt (64:Nat) (2:Int)).toNat:Int) >(0:Int)) then(Gc (List.take ((↑a0.length:Int).toNat - (AW a0 a1).toNat) (List.drop (AW a0 a1).toNat a0))).fst.2 else(Gc (List.take ((↑a0.length:Int).toNat - (AW a0 a1).toNat) (List.drop (AW a0 a1).toNat a0))).fst.2 else(0:Int)
def GG (a0:List UInt8) (a1:Int):Int:=bif(Ar a0).snd.snd==(0:Int)&&decide (IntKind.i64.wrap (↑(BitVec.ofInt (64:Nat) (Ar a0).fst &&& BitVec.ofInt (64:Nat) (1:Int)).toNat:Int) >(0:Int)) then bif !decide (IntKind.i64.wrap (↑(BitVec.ofInt (64:Nat) (Ar a0).fst &&& BitVec.ofInt (64:Nat) (2:Int)).toNat:Int) >(0:Int)) then(Gc (List.take ((↑a0.length:Int).toNat - (AW a0 a1).toNat) (List.drop (AW a0 a1).toNat a0))).fst.1 else(Gc (List.take ((↑a0.length:Int).toNat - (AW a0 a1).toNat) (List.drop (AW a0 a1).toNat a0))).fst.1 else(0:Int)
def GF (a0:List UInt8) (a1:Int):Int:=bif(Ar a0).snd.snd==(0:Int)&&decide (IntKind.i64.wrap (↑(BitVec.ofInt (64:Nat) (Ar a0).fst &&& BitVec.ofInt (64:Nat) (1:Int)).toNat:Int) >(0:Int)) then bif !decide (IntKind.i64.wrap (↑(BitVec.ofInt (64:Nat) (Ar a0).fst &&& BitVec.ofInt (64:Nat) (2:Int)).toNat:Int) >(0:Int)) then(Gw (List.take ((↑a0.length:Int).toNat - (AS a0 a1).toNat) (List.drop (AS a0 a1).toNat a0))).fst.2 else(Gw (List.take ((↑a0.length:Int).toNat - (AS a0 a1).toNat) (List.drop (AS a0 a1).toNat a0))).fst.2 else(0:Int)
def GE (a0:List UInt8) (a1:Int):Int:=bif(Ar a0).snd.snd==(0:Int)&&decide (IntKind.i64.wrap (↑(BitVec.ofInt (64:Nat) (Ar a0).fst &&& BitVec.ofInt (64:Nat) (1:Int)).toNat:Int) >(0:Int)) then bif !decide (IntKind.i64.wrap (↑(BitVec.ofInt (64:Nat) (Ar a0).fst &&& BitVec.ofInt (64:Nat) (2:Int)).toNat:Int) >(0:Int)) then(Gw (List.take ((↑a0.length:Int).toNat - (AS a0 a1).toNat) (List.drop (AS a0 a1).toNat a0))).fst.1 else(Gw (List.take ((↑a0.length:Int).toNat - (AS a0 a1).toNat) (List.drop (AS a0 a1).toNat a0))).fst.1 else(0:Int)
def EL (a0:List UInt8) (_a1:Int):Int:=bif(Ar a0).snd.snd==(0:Int)&&decide (IntKind.i64.wrap (↑(BitVec.ofInt (64:Nat) (Ar a0).fst &&& BitVec.ofInt (64:Nat) (1:Int)).toNat:Int) >(0:Int)) then bif !decide (IntKind.i64.wrap (↑(BitVec.ofInt (64:Nat) (Ar a0).fst &&& BitVec.ofInt (64:Nat) (2:Int)).toNat:Int) >(0:Int)) then(0:Int) else(0:Int) else(0:Int)
def Bn (a0:List UInt8) (a1:Int):Int:=IntKind.i64.wrap ((AW a0 a1)+(Gc (List.take ((↑a0.length:Int).toNat - (AW a0 a1).toNat) (List.drop (AW a0 a1).toNat a0))).snd.fst)
def EJ (a0:List UInt8) (_a1:Int):Bool:=bif(Ar a0).snd.snd==(0:Int)&&decide (IntKind.i64.wrap (↑(BitVec.ofInt (64:Nat) (Ar a0).fst &&& BitVec.ofInt (64:Nat) (1:Int)).toNat:Int) >(0:Int)) then bif !decide (IntKind.i64.wrap (↑(BitVec.ofInt (64:Nat) (Ar a0).fst &&& BitVec.ofInt (64:Nat) (2:Int)).toNat:Int) >(0:Int)) then decide (IntKind.i64.wrap (↑(BitVec.ofInt (64:Nat) (Ar a0).fst &&& BitVec.ofInt (64:Nat) (2:Int)).toNat:Int) >(0:Int)) else decide (IntKind.i64.wrap (↑(BitVec.ofInt (64:Nat) (Ar a0).fst &&& BitVec.ofInt (64:Nat) (2:Int)).toNat:Int) >(0:Int)) else false
def GD (a0:List UInt8) (a1:Int):ByteArray:=bif(Ar a0).snd.snd==(0:Int)&&decide (IntKind.i64.wrap (↑(BitVec.ofInt (64:Nat) (Ar a0).fst &&& BitVec.ofInt (64:Nat) (1:Int)).toNat:Int) >(0:Int)) then bif !decide (IntKind.i64.wrap (↑(BitVec.ofInt (64:Nat) (Ar a0).fst &&& BitVec.ofInt (64:Nat) (2:Int)).toNat:Int) >(0:Int)) then(WI (List.take ((↑a0.length:Int).toNat - (Bn a0 a1).toNat) (List.drop (Bn a0 a1).toNat a0)) (64:Int)).fst else ByteArray.mk #[] else ByteArray.mk #[]
def A4 (a0:List UInt8) (a1:Int):Int:=bif(Ar a0).snd.snd==(0:Int)&&decide (IntKind.i64.wrap (↑(BitVec.ofInt (64:Nat) (Ar a0).fst &&& BitVec.ofInt (64:Nat) (1:Int)).toNat:Int) >(0:Int)) then bif !decide (IntKind.i64.wrap (↑(BitVec.ofInt (64:Nat) (Ar a0).fst &&& BitVec.ofInt (64:Nat) (2:Int)).toNat:Int) >(0:Int)) then IntKind.i64.wrap ((Bn a0 a1)+(WI (List.take ((↑a0.length:Int).toNat - (Bn a0 a1).toNat) (List.drop (Bn a0 a1).toNat a0)) (64:Int)).snd.fst) else(Bn a0 a1) else(AS a0 a1)
def AI (a0:List UInt8) (a1:Int):Bool:=(bif(Ar a0).snd.snd==(0:Int)&&decide (IntKind.i64.wrap (↑(BitVec.ofInt (64:Nat) (Ar a0).fst &&& BitVec.ofInt (64:Nat) (1:Int)).toNat:Int) >(0:Int)) then bif !decide (IntKind.i64.wrap (↑(BitVec.ofInt (64:Nat) (Ar a0).fst &&& BitVec.ofInt (64:Nat) (2:Int)).toNat:Int) >(0:Int)) then(Ar a0).snd.snd==(0:Int)&&(Gw (List.take ((↑a0.length:Int).toNat - (AS a0 a1).toNat) (List.drop (AS a0 a1).toNat a0))).snd.snd==(0:Int)&&(Gc (List.take ((↑a0.length:Int).toNat - (AW a0 a1).toNat) (List.drop (AW a0 a1).toNat a0))).snd.snd==(0:Int)&&(WI (List.take ((↑a0.length:Int).toNat - (Bn a0 a1).toNat) (List.drop (Bn a0 a1).toNat a0)) (64:Int)).snd.snd==(0:Int) else(Ar a0).snd.snd==(0:Int)&&(Gw (List.take ((↑a0.length:Int).toNat - (AS a0 a1).toNat) (List.drop (AS a0 a1).toNat a0))).snd.snd==(0:Int)&&(Gc (List.take ((↑a0.length:Int).toNat - (AW a0 a1).toNat) (List.drop (AW a0 a1).toNat a0))).snd.snd==(0:Int) else(Ar a0).snd.snd==(0:Int))&&decide (IntKind.i64.wrap (↑(BitVec.ofInt (64:Nat) (Ar a0).fst &&& BitVec.ofInt (64:Nat) (4:Int)).toNat:Int) >(0:Int))
def EI (a0:List UInt8) (a1:Int):Bool:=(!bif(AI a0 a1) then(bif(Ar a0).snd.snd==(0:Int)&&decide (IntKind.i64.wrap (↑(BitVec.ofInt (64:Nat) (Ar a0).fst &&& BitVec.ofInt (64:Nat) (1:Int)).toNat:Int) >(0:Int)) then bif !decide (IntKind.i64.wrap (↑(BitVec.ofInt (64:Nat) (Ar a0).fst &&& BitVec.ofInt (64:Nat) (2:Int)).toNat:Int) >(0:Int)) then(Ar a0).snd.snd==(0:Int)&&(Gw (List.take ((↑a0.length:Int).toNat - (AS a0 a1).toNat) (List.drop (AS a0 a1).toNat a0))).snd.snd==(0:Int)&&(Gc (List.take ((↑a0.length:Int).toNat - (AW a0 a1).toNat) (List.drop (AW a0 a1).toNat a0))).snd.snd==(0:Int)&&(WI (List.take ((↑a0.length:Int).toNat - (Bn a0 a1).toNat) (List.drop (Bn a0 a1).toNat a0)) (64:Int)).snd.snd==(0:Int) else(Ar a0).snd.snd==(0:Int)&&(Gw (List.take ((↑a0.length:Int).toNat - (AS a0 a1).toNat) (List.drop (AS a0 a1).toNat a0))).snd.snd==(0:Int)&&(Gc (List.take ((↑a0.length:Int).toNat - (AW a0 a1).toNat) (List.drop (AW a0 a1).toNat a0))).snd.snd==(0:Int) else(Ar a0).snd.snd==(0:Int))&&(Gc (List.take ((↑a0.length:Int).toNat - (A4 a0 a1).toNat) (List.drop (A4 a0 a1).toNat a0))).snd.snd==(0:Int) else bif(Ar a0).snd.snd==(0:Int)&&decide (IntKind.i64.wrap (↑(BitVec.ofInt (64:Nat) (Ar a0).fst &&& BitVec.ofInt (64:Nat) (1:Int)).toNat:Int) >(0:Int)) then bif !decide (IntKind.i64.wrap (↑(BitVec.ofInt (64:Nat) (Ar a0).fst &&& BitVec.ofInt (64:Nat) (2:Int)).toNat:Int) >(0:Int)) then(Ar a0).snd.snd==(0:Int)&&(Gw (List.take ((↑a0.length:Int).toNat - (AS a0 a1).toNat) (List.drop (AS a0 a1).toNat a0))).snd.snd==(0:Int)&&(Gc (List.take ((↑a0.length:Int).toNat - (AW a0 a1).toNat) (List.drop (AW a0 a1).toNat a0))).snd.snd==(0:Int)&&(WI (List.take ((↑a0.length:Int).toNat - (Bn a0 a1).toNat) (List.drop (Bn a0 a1).toNat a0)) (64:Int)).snd.snd==(0:Int) else(Ar a0).snd.snd==(0:Int)&&(Gw (List.take ((↑a0.length:Int).toNat - (AS a0 a1).toNat) (List.drop (AS a0 a1).toNat a0))).snd.snd==(0:Int)&&(Gc (List.take ((↑a0.length:Int).toNat - (AW a0 a1).toNat) (List.drop (AW a0 a1).toNat a0))).snd.snd==(0:Int) else(Ar a0).snd.snd==(0:Int))||!((decide ((Ar a0).fst≤(7:Int))&&decide (IntKind.i64.wrap (↑(BitVec.ofInt (64:Nat) (Ar a0).fst &&& BitVec.ofInt (64:Nat) (1:Int)).toNat:Int) >(0:Int))==FF (TCell.mk (TStamp.mk (bif(AI a0 a1) then(GE a0 a1) else(GE a0 a1)) (bif(AI a0 a1) then(GF a0 a1) else(GF a0 a1))) (TVec.mk (bif(AI a0 a1) then(GG a0 a1) else(GG a0 a1)) (bif(AI a0 a1) then(Fz a0 a1) else(Fz a0 a1))) (bif(AI a0 a1) then(EJ a0 a1) else(EJ a0 a1)) (bif(AI a0 a1) then(GD a0 a1) else(GD a0 a1)) (TVec.mk (bif(AI a0 a1) then(Gc (List.take ((↑a0.length:Int).toNat - (A4 a0 a1).toNat) (List.drop (A4 a0 a1).toNat a0))).fst.1 else(EL a0 a1)) (bif(AI a0 a1) then(Gc (List.take ((↑a0.length:Int).toNat - (A4 a0 a1).toNat) (List.drop (A4 a0 a1).toNat a0))).fst.2 else(EL a0 a1))))&&decide (IntKind.i64.wrap (↑(BitVec.ofInt (64:Nat) (Ar a0).fst &&& BitVec.ofInt (64:Nat) (2:Int)).toNat:Int) >(0:Int))==bif(AI a0 a1) then(EJ a0 a1) else(EJ a0 a1))&&decide (IntKind.i64.wrap (↑(BitVec.ofInt (64:Nat) (Ar a0).fst &&& BitVec.ofInt (64:Nat) (4:Int)).toNat:Int) >(0:Int))==!((bif(AI a0 a1) then(Gc (List.take ((↑a0.length:Int).toNat - (A4 a0 a1).toNat) (List.drop (A4 a0 a1).toNat a0))).fst.1 else(EL a0 a1))==(0:Int)&&(bif(AI a0 a1) then(Gc (List.take ((↑a0.length:Int).toNat - (A4 a0 a1).toNat) (List.drop (A4 a0 a1).toNat a0))).fst.2 else(EL a0 a1))==(0:Int)))||!AY a1 (TCell.mk (TStamp.mk (bif(AI a0 a1) then(GE a0 a1) else(GE a0 a1)) (bif(AI a0 a1) then(GF a0 a1) else(GF a0 a1))) (TVec.mk (bif(AI a0 a1) then(GG a0 a1) else(GG a0 a1)) (bif(AI a0 a1) then(Fz a0 a1) else(Fz a0 a1))) (bif(AI a0 a1) then(EJ a0 a1) else(EJ a0 a1)) (bif(AI a0 a1) then(GD a0 a1) else(GD a0 a1)) (TVec.mk (bif(AI a0 a1) then(Gc (List.take ((↑a0.length:Int).toNat - (A4 a0 a1).toNat) (List.drop (A4 a0 a1).toNat a0))).fst.1 else(EL a0 a1)) (bif(AI a0 a1) then(Gc (List.take ((↑a0.length:Int).toNat - (A4 a0 a1).toNat) (List.drop (A4 a0 a1).toNat a0))).fst.2 else(EL a0 a1))))
def H7 (a0:List UInt8) (a1:Int):TCell:=TCell.mk (TStamp.mk (bif(EI a0 a1) then(0:Int) else bif(AI a0 a1) then(GE a0 a1) else(GE a0 a1)) (bif(EI a0 a1) then(0:Int) else bif(AI a0 a1) then(GF a0 a1) else(GF a0 a1))) (TVec.mk (bif(EI a0 a1) then(0:Int) else bif(AI a0 a1) then(GG a0 a1) else(GG a0 a1)) (bif(EI a0 a1) then(0:Int) else bif(AI a0 a1) then(Fz a0 a1) else(Fz a0 a1))) (bif(EI a0 a1) then false else bif(AI a0 a1) then(EJ a0 a1) else(EJ a0 a1)) (bif(EI a0 a1) then ByteArray.mk #[] else bif(AI a0 a1) then(GD a0 a1) else(GD a0 a1)) (TVec.mk (bif(EI a0 a1) then(0:Int) else bif(AI a0 a1) then(Gc (List.take ((↑a0.length:Int).toNat - (A4 a0 a1).toNat) (List.drop (A4 a0 a1).toNat a0))).fst.1 else(EL a0 a1)) (bif(EI a0 a1) then(0:Int) else bif(AI a0 a1) then(Gc (List.take ((↑a0.length:Int).toNat - (A4 a0 a1).toNat) (List.drop (A4 a0 a1).toNat a0))).fst.2 else(EL a0 a1)))
def Acr (a0:List UInt8) (a1:Int):Int:=bif(EI a0 a1) then(0:Int) else bif(AI a0 a1) then IntKind.i64.wrap ((A4 a0 a1)+(Gc (List.take ((↑a0.length:Int).toNat - (A4 a0 a1).toNat) (List.drop (A4 a0 a1).toNat a0))).snd.fst) else(A4 a0 a1)
def Acs (a0:List UInt8) (a1:Int):Int:=bif(EI a0 a1) then(80:Int) else(0:Int)
def TS (a0:List UInt8) (a1:Int):A:=.v (.tuple ⟨[.agg ⟨[.int .i64 ((H7 a0 a1).stamp.n),.int .i64 ((H7 a0 a1).stamp.site),.int .i64 ((H7 a0 a1).vec.a),.int .i64 ((H7 a0 a1).vec.b),.bool ((H7 a0 a1).gone),.string ((H7 a0 a1).value),.int .i64 ((H7 a0 a1).dead.a),.int .i64 ((H7 a0 a1).dead.b)]⟩,.int .i64 (Acr a0 a1),.int .i64 (Acs a0 a1)]⟩)
def Aw9 (_a0:List UInt8) (_a1:Int):Objs:=[]
def Apx (a0:List UInt8) (a1:Int):List Prop:=[(((Ar a0).snd.snd==(0:Int)&&decide (IntKind.i64.wrap (↑(BitVec.ofInt (64:Nat) (Ar a0).fst &&& BitVec.ofInt (64:Nat) (1:Int)).toNat:Int) >(0:Int)))=true→(0:Int)≤(AS a0 a1)∧(AS a0 a1)≤(↑a0.length:Int)∧(↑a0.length:Int)≤(↑a0.length:Int)),(((Ar a0).snd.snd==(0:Int)&&decide (IntKind.i64.wrap (↑(BitVec.ofInt (64:Nat) (Ar a0).fst &&& BitVec.ofInt (64:Nat) (1:Int)).toNat:Int) >(0:Int)))=true→(0:Int)≤(AW a0 a1)∧(AW a0 a1)≤(↑a0.length:Int)∧(↑a0.length:Int)≤(↑a0.length:Int)),(((Ar a0).snd.snd==(0:Int)&&decide (IntKind.i64.wrap (↑(BitVec.ofInt (64:Nat) (Ar a0).fst &&& BitVec.ofInt (64:Nat) (1:Int)).toNat:Int) >(0:Int)))=true→(!decide (IntKind.i64.wrap (↑(BitVec.ofInt (64:Nat) (Ar a0).fst &&& BitVec.ofInt (64:Nat) (2:Int)).toNat:Int) >(0:Int)))=true→(0:Int)≤(Bn a0 a1)∧(Bn a0 a1)≤(↑a0.length:Int)∧(↑a0.length:Int)≤(↑a0.length:Int)),(((Ar a0).snd.snd==(0:Int)&&decide (IntKind.i64.wrap (↑(BitVec.ofInt (64:Nat) (Ar a0).fst &&& BitVec.ofInt (64:Nat) (1:Int)).toNat:Int) >(0:Int)))=true→(!decide (IntKind.i64.wrap (↑(BitVec.ofInt (64:Nat) (Ar a0).fst &&& BitVec.ofInt (64:Nat) (2:Int)).toNat:Int) >(0:Int)))=true→Ai (List.take ((↑a0.length:Int).toNat - (Bn a0 a1).toNat) (List.drop (Bn a0 a1).toNat a0)).length),((AI a0 a1)=true→(0:Int)≤(A4 a0 a1)∧(A4 a0 a1)≤(↑a0.length:Int)∧(↑a0.length:Int)≤(↑a0.length:Int))]
set_option maxRecDepth 100000 in
theorem Bem (a0:List UInt8) (a1:Int):ER (AA Bs6 L0) 9 54 [Ak .bytes a0,Ak .i64 a1] 0 []=some (1,TS a0 a1,0,Aw9 a0 a1,[(((Ar a0).snd.snd==(0:Int)&&decide (IntKind.i64.wrap (↑(BitVec.ofInt (64:Nat) (Ar a0).fst &&& BitVec.ofInt (64:Nat) (1:Int)).toNat:Int) >(0:Int)))=true→(0:Int)≤(AS a0 a1)∧(AS a0 a1)≤(↑a0.length:Int)∧(↑a0.length:Int)≤(↑a0.length:Int)),(((Ar a0).snd.snd==(0:Int)&&decide (IntKind.i64.wrap (↑(BitVec.ofInt (64:Nat) (Ar a0).fst &&& BitVec.ofInt (64:Nat) (1:Int)).toNat:Int) >(0:Int)))=true→(0:Int)≤(AW a0 a1)∧(AW a0 a1)≤(↑a0.length:Int)∧(↑a0.length:Int)≤(↑a0.length:Int)),(((Ar a0).snd.snd==(0:Int)&&decide (IntKind.i64.wrap (↑(BitVec.ofInt (64:Nat) (Ar a0).fst &&& BitVec.ofInt (64:Nat) (1:Int)).toNat:Int) >(0:Int)))=true→(!decide (IntKind.i64.wrap (↑(BitVec.ofInt (64:Nat) (Ar a0).fst &&& BitVec.ofInt (64:Nat) (2:Int)).toNat:Int) >(0:Int)))=true→(0:Int)≤(Bn a0 a1)∧(Bn a0 a1)≤(↑a0.length:Int)∧(↑a0.length:Int)≤(↑a0.length:Int)),(((Ar a0).snd.snd==(0:Int)&&decide (IntKind.i64.wrap (↑(BitVec.ofInt (64:Nat) (Ar a0).fst &&& BitVec.ofInt (64:Nat) (1:Int)).toNat:Int) >(0:Int)))=true→(!decide (IntKind.i64.wrap (↑(BitVec.ofInt (64:Nat) (Ar a0).fst &&& BitVec.ofInt (64:Nat) (2:Int)).toNat:Int) >(0:Int)))=true→Ai (List.take ((↑a0.length:Int).toNat - (Bn a0 a1).toNat) (List.drop (Bn a0 a1).toNat a0)).length),((AI a0 a1)=true→(0:Int)≤(A4 a0 a1)∧(A4 a0 a1)≤(↑a0.length:Int)∧(↑a0.length:Int)≤(↑a0.length:Int))]):=by kernel_rfl
set_option maxRecDepth 100000 in
theorem Bj2 (a0:List UInt8) (a1:Int) (hp:∀p∈Apx a0 a1,p):CallOk Try.prog 54 [Ak .bytes a0,Ak .i64 a1] 0 [] 1 (TS a0 a1) 0 (Aw9 a0 a1):=by
 have n0:=N0 hp
 have n1:=N0 (N1 hp)
 have n2:=N0 (N1 (N1 hp))
 have n3:=N0 (N1 (N1 (N1 hp)))
 have n4:=N0 (N1 (N1 (N1 (N1 hp))))
 exact AH (Ax Bdh AG) (Bem a0 a1) (Aa n0 (Aa n1 (Aa n2 (Aa n3 (Aa n4 Ab)))))
def Qd (a0:List UInt8) (a1:Int):A:=.v (.tuple ⟨[.agg ⟨[.int .i64 (Atk a0 a1).1.stamp.n,.int .i64 (Atk a0 a1).1.stamp.site,.int .i64 (Atk a0 a1).1.vec.a,.int .i64 (Atk a0 a1).1.vec.b,.bool (Atk a0 a1).1.gone,.string (Atk a0 a1).1.value,.int .i64 (Atk a0 a1).1.dead.a,.int .i64 (Atk a0 a1).1.dead.b]⟩,.int .i64 (Atk a0 a1).2.1,.int .i64 (Atk a0 a1).2.2]⟩)
def Apw (_a0:List UInt8) (_a1:Int):Objs:=[]
def Ag2 (a0:List UInt8) (_a1:Int):List Prop:=[Ai a0.length]
theorem Bfo (b:List UInt8):0≤(Gw b).2.1∧(Gw b).2.1≤(b.length:Int):=by
 obtain⟨h1,h2,_⟩:=HY b
 unfold Gw
 split
 ·exact⟨Int.le_refl _,by show(0:Int)≤(b.length:Int);omega⟩
 ·split
  ·exact⟨h1,h2⟩
  ·exact⟨Int.le_refl _,by show(0:Int)≤(b.length:Int);omega⟩
theorem Ap6 (b:List UInt8):0≤(Gc b).2.1∧(Gc b).2.1≤(b.length:Int):=by
 obtain⟨h1,h2,_⟩:=HY b
 obtain⟨h3,h4,_⟩:=HY (b.drop (Ar b).2.1.toNat)
 rw[List.length_drop] at h4
 unfold Gc
 split
 ·exact⟨Int.le_refl _,by show(0:Int)≤(b.length:Int);omega⟩
 ·split
  ·exact⟨Int.le_refl _,by show(0:Int)≤(b.length:Int);omega⟩
  ·split
   ·exact⟨by show 0≤(Ar b).2.1+_;omega,by show(Ar b).2.1+_≤(b.length:Int);omega⟩
   ·exact⟨Int.le_refl _,by show(0:Int)≤(b.length:Int);omega⟩
theorem Bfp (b:List UInt8) (m:Int):0≤(WI b m).2.1∧(WI b m).2.1≤(b.length:Int):=by
 obtain⟨h1,h2,_,h3,_⟩:=HY b
 unfold WI
 split
 ·exact⟨Int.le_refl _,by show(0:Int)≤(b.length:Int);omega⟩
 ·split
  ·exact⟨Int.le_refl _,by show(0:Int)≤(b.length:Int);omega⟩
  ·split
   ·exact⟨Int.le_refl _,by show(0:Int)≤(b.length:Int);omega⟩
   ·exact⟨by show 0≤(Ar b).2.1+_;omega,by show(Ar b).2.1+_≤(b.length:Int);omega⟩
theorem Bel (b:List UInt8) (p:Int) (hb:Ai b.length):(∀q∈Apx b p,q)∧(H7 b p,Acr b p,Acs b p)=Atk b p:=by
 unfold Ai at hb
 obtain⟨a1,a2,_,a3,a4⟩:=HY b
 have hok:okN (Ar b).1:=⟨a3,a4⟩
 have B1:=Agw hok 0 1 rfl (by decide)
 have B2:=Agw hok 1 2 rfl (by decide)
 have B4:=Agw hok 2 4 rfl (by decide)
 have e12:AS b p=(Ar b).2.1:=by
  unfold AS
  rw[i64_in (by omega)];omega
 obtain⟨s1,s2⟩:=Bfo (b.drop (Ar b).2.1.toNat)
 rw[List.length_drop] at s2
 have e11:AW b p=(Ar b).2.1+(Gw (b.drop (Ar b).2.1.toNat)).2.1:=by
  unfold AW
  rw[e12,EH,i64_in (by omega)]
 obtain⟨v1,v2⟩:=Ap6 (b.drop ((Ar b).2.1+(Gw (b.drop (Ar b).2.1.toNat)).2.1).toNat)
 rw[List.length_drop] at v2
 have e5:Bn b p=(Ar b).2.1+(Gw (b.drop (Ar b).2.1.toNat)).2.1+(Gc (b.drop ((Ar b).2.1+(Gw (b.drop (Ar b).2.1.toNat)).2.1).toNat)).2.1:=by
  unfold Bn
  rw[e11,EH,i64_in (by omega)]
 obtain⟨t1,t2⟩:=Bfp (b.drop ((Ar b).2.1+(Gw (b.drop (Ar b).2.1.toNat)).2.1+(Gc (b.drop ((Ar b).2.1+(Gw (b.drop (Ar b).2.1.toNat)).2.1).toNat)).2.1).toNat) 64
 rw[List.length_drop] at t2
 have e2:A4 b p=(stA b).2.2∧0≤(stA b).2.2∧(stA b).2.2≤(b.length:Int):=by
  unfold A4 stA
  rw[e5,e12,EH,B1,B2]
  show(bif(Ar b).2.2==0&&GN (Ar b).1 0 then bif !GN (Ar b).1 1 then _ else _ else _)=_∧_
  rw[i64_in (by omega)]
  cases((Ar b).2.2==0&&GN (Ar b).1 0)<;>cases GN (Ar b).1 1<;>refine⟨rfl,?_,?_⟩<;>(first|exact a1|exact a2|(simp only[cond_true,cond_false,Bool.not_true,Bool.not_false];omega))
 obtain⟨e2,e2a,e2b⟩:=e2
 obtain⟨d1,d2⟩:=Ap6 (b.drop (stA b).2.2.toNat)
 rw[List.length_drop] at d2
 have hcell:(stA b).2.1=⟨⟨GE b p,GF b p⟩,⟨GG b p,Fz b p⟩,EJ b p,GD b p,⟨0,0⟩⟩:=by
  unfold GE GF GG Fz EJ GD stA
  rw[e11,e5,e12,EH,EH,EH,B1,B2]
  show _=TCell.mk (TStamp.mk (bif(Ar b).2.2==0&&GN (Ar b).1 0 then bif !GN (Ar b).1 1 then _ else _ else _) _) _ _ _ _
  show(bif(Ar b).2.2==0&&GN (Ar b).1 0 then bif !GN (Ar b).1 1 then _ else _ else _:Bool×TCell×Int).2.1=TCell.mk (TStamp.mk (bif(Ar b).2.2==0&&GN (Ar b).1 0 then bif !GN (Ar b).1 1 then _ else _ else _) (bif(Ar b).2.2==0&&GN (Ar b).1 0 then bif !GN (Ar b).1 1 then _ else _ else _)) (TVec.mk (bif(Ar b).2.2==0&&GN (Ar b).1 0 then bif !GN (Ar b).1 1 then _ else _ else _) (bif(Ar b).2.2==0&&GN (Ar b).1 0 then bif !GN (Ar b).1 1 then _ else _ else _)) (bif(Ar b).2.2==0&&GN (Ar b).1 0 then bif !GN (Ar b).1 1 then GN (Ar b).1 1 else GN (Ar b).1 1 else _) (bif(Ar b).2.2==0&&GN (Ar b).1 0 then bif !GN (Ar b).1 1 then _ else _ else _) _
  cases((Ar b).2.2==0&&GN (Ar b).1 0)<;>cases GN (Ar b).1 1<;>rfl
 have hok1:(bif(Ar b).2.2==0&&GN (Ar b).1 0 then bif !GN (Ar b).1 1 then(Ar b).2.2==0&&(Gw (b.drop (Ar b).2.1.toNat)).2.2==0&&(Gc (b.drop ((Ar b).2.1+(Gw (b.drop (Ar b).2.1.toNat)).2.1).toNat)).2.2==0&&(WI (b.drop ((Ar b).2.1+(Gw (b.drop (Ar b).2.1.toNat)).2.1+(Gc (b.drop ((Ar b).2.1+(Gw (b.drop (Ar b).2.1.toNat)).2.1).toNat)).2.1).toNat) 64).2.2==0
   else(Ar b).2.2==0&&(Gw (b.drop (Ar b).2.1.toNat)).2.2==0&&(Gc (b.drop ((Ar b).2.1+(Gw (b.drop (Ar b).2.1.toNat)).2.1).toNat)).2.2==0 else(Ar b).2.2==0)=(stA b).1:=by
  unfold stA
  cases((Ar b).2.2==0&&GN (Ar b).1 0)<;>cases GN (Ar b).1 1<;>rfl
 have e1:AI b p=((stA b).1&&GN (Ar b).1 2):=by
  unfold AI
  rw[e11,e5,e12,EH,EH,EH,B1,B2,B4]
  show((bif(Ar b).2.2==0&&GN (Ar b).1 0 then bif !GN (Ar b).1 1 then _ else _ else _)&&GN (Ar b).1 2)=_
  rw[hok1]
 have e6:EL b p=0:=by
  unfold EL
  cases((Ar b).2.2==0&&decide (IntKind.i64.wrap (↑(BitVec.ofInt (64:Nat) (Ar b).1 &&& BitVec.ofInt (64:Nat) (1:Int)).toNat:Int) >(0:Int)))<;>cases decide (IntKind.i64.wrap (↑(BitVec.ofInt (64:Nat) (Ar b).1 &&& BitVec.ofInt (64:Nat) (2:Int)).toNat:Int) >(0:Int))<;>rfl
 refine⟨Aa (fun _=>by rw[e12];omega) (Aa (fun _=>by rw[e11];omega) (Aa (fun _ _=>by rw[e5];omega) (Aa (fun _ _=>by rw[e5,EH,List.length_drop];unfold Ai;omega) (Aa (fun _=>by rw[e2];omega) Ab)))),?_⟩
 have hB1:(stB b).1=bif(stA b).1&&GN (Ar b).1 2 then(stA b).1&&(Gc (b.drop (stA b).2.2.toNat)).2.2==0 else(stA b).1:=by unfold stB;cases((stA b).1&&GN (Ar b).1 2)<;>rfl
 have hB2:(stB b).2.1=TCell.mk (TStamp.mk (bif AI b p then GE b p else GE b p) (bif AI b p then GF b p else GF b p)) (TVec.mk (bif AI b p then GG b p else GG b p) (bif AI b p then Fz b p else Fz b p)) (bif AI b p then EJ b p else EJ b p) (bif AI b p then GD b p else GD b p) (TVec.mk (bif AI b p then(Gc (b.drop (stA b).2.2.toNat)).1.1 else EL b p) (bif AI b p then(Gc (b.drop (stA b).2.2.toNat)).1.2 else EL b p)):=by
  rw[e1]
  unfold stB
  cases((stA b).1&&GN (Ar b).1 2) with
  |true=>simp only[cond_true];rw[hcell]
  |false=>simp only[cond_false];rw[hcell,e6]
 have hB3:(stB b).2.2=bif AI b p then(stA b).2.2+(Gc (b.drop (stA b).2.2.toNat)).2.1 else(stA b).2.2:=by
  rw[e1]
  unfold stB
  cases((stA b).1&&GN (Ar b).1 2)<;>rfl
 have e0:EI b p=(!(stB b).1||!Bbw (Ar b).1 (stB b).2.1||!BC p (stB b).2.1):=by
  unfold EI
  rw[e2,e11,e5,e12,EH,EH,EH,EH,IZ,KO,←hB2]
  rw[B1,B2,B4]
  show((!bif AI b p then(bif(Ar b).2.2==0&&GN (Ar b).1 0 then bif !GN (Ar b).1 1 then _ else _ else _)&&_ else(bif(Ar b).2.2==0&&GN (Ar b).1 0 then bif !GN (Ar b).1 1 then _ else _ else _))||_||_)=_
  rw[hok1,hB1,←e1]
  unfold Bbw
  rw[hB2]
  rfl
 unfold H7 Acr Acs Atk
 rw[e0]
 cases(!(stB b).1||!Bbw (Ar b).1 (stB b).2.1||!BC p (stB b).2.1) with
 |true=>rfl
 |false=>
  simp only[cond_false]
  rw[hB3,e2,EH,hB2,i64_in (by omega)]
theorem Bek (a0:List UInt8) (a1:Int) (hp:∀p∈Ag2 a0 a1,p):CallOk Try.prog 54 [Ak .bytes a0,Ak .i64 a1] 0 [] 1 (Qd a0 a1) 0 (Apw a0 a1):=by
 obtain⟨h1,h2⟩:=Bel a0 a1 (hp _ (List.mem_cons_self ..))
 have h:=Bj2 a0 a1 h1
 have hr:TS a0 a1=Qd a0 a1:=by unfold TS Qd;rw[←h2]
 rw[hr] at h
 exact h
def Acu:List A→Nat→Objs→Option A9
 | [y0,y1],nx,o=>match AQ .bytes y0,AQ .i64 y1 with
  |some (a0,p0),some (a1,p1)=>some (1,(Qd a0 a1).pk (AC nx),nx+0,AB nx (Apw a0 a1)++o,p0++(p1++(Ag2 a0 a1)))
  |_,_=>none
 |_,_,_=>none
theorem A8j:EV Try.prog 54 Acu:=fun args nx o k x nx' o' ps h=>by
 unfold Acu at h
 split at h<;>first|(cases h;done)|skip
 split at h<;>first|(cases h;done)|skip
 rename_i a0 p0 a1 p1 e0 e1
 cases h
 refine⟨fun hp=>?_,_,rfl⟩
 have q0:=fun p hm=>hp p (List.mem_append.2 (.inl hm))
 have r0:=fun p hm=>hp p (List.mem_append.2 (.inr hm))
 have q1:=fun p hm=>r0 p (List.mem_append.2 (.inl hm))
 have r1:=fun p hm=>r0 p (List.mem_append.2 (.inr hm))
 refine Ah (Ag (Bek a0 a1 r1) (Nat.le_refl _) (Ac (Af _ _) (Ac (Af _ _) An)) nx o) fun F N R vs hl=>?_
 obtain⟨v0,w0,rfl,h0,hl⟩:=hl.inv
 obtain⟨v1,w1,rfl,h1,hl⟩:=hl.inv
 exact HL.cons (Am e0 q0 h0) (HL.cons (Am e1 q1 h1) (hl))
noncomputable def B08:=A7 54 Acu Bs6
theorem Bs7:CU Try.prog B08:=Aw A8j Bdh
noncomputable def Cd:=B08
theorem B09:CU Try.prog Cd:=Bs7
end Go.Proofs.Yteebobbhhgmeiaa
namespace Go.Proofs.Yteebobbhhgmeiaa
open Go.RowKit
def Aet (a0:TVec):A:=.v (.bool (a0.1==(0:Int)&&a0.2==(0:Int)))
def Aes (_a0:TVec):Objs:=[]
def Arh (_a0:TVec):List Prop:=[]
set_option maxRecDepth 100000 in
theorem Bhe (a0:TVec):ER (AA Cd L0) 9 108 [Ak .vec a0] 0 []=some (1,Aet a0,0,Aes a0,[]):=by kernel_rfl
set_option maxRecDepth 100000 in
theorem Bli (a0:TVec) (_hp:∀p∈Arh a0,p):CallOk Try.prog 108 [Ak .vec a0] 0 [] 1 (Aet a0) 0 (Aes a0):=by
 exact AH (Ax B09 AG) (Bhe a0) Ab
def Aeu:List A→Nat→Objs→Option A9
 | [y0],nx,o=>match AQ .vec y0 with
  |some (a0,p0)=>some (1,(Aet a0).pk (AC nx),nx+0,AB nx (Aes a0)++o,p0++(Arh a0))
  |_=>none
 |_,_,_=>none
theorem Ba4:EV Try.prog 108 Aeu:=fun args nx o k x nx' o' ps h=>by
 unfold Aeu at h
 split at h<;>first|(cases h;done)|skip
 split at h<;>first|(cases h;done)|skip
 rename_i a0 p0 e0
 cases h
 refine⟨fun hp=>?_,_,rfl⟩
 have q0:=fun p hm=>hp p (List.mem_append.2 (.inl hm))
 have r0:=fun p hm=>hp p (List.mem_append.2 (.inr hm))
 refine Ah (Ag (Bli a0 r0) (Nat.le_refl _) (Ac (Af _ _) An) nx o) fun F N R vs hl=>?_
 obtain⟨v0,w0,rfl,h0,hl⟩:=hl.inv
 exact HL.cons (Am e0 q0 h0) (hl)
noncomputable def B2i:=A7 108 Aeu Cd
theorem Bnr:CU Try.prog B2i:=Aw Ba4 B09
def KI (a0:TCell):Bool:=a0.1.1 !=(0:Int)||a0.1.2 !=(0:Int)||a0.2.1 !=(0:Int)||a0.2.2 !=(0:Int)||a0.3||!a0.4.toList==(ByteArray.mk #[]).toList
def RV (a0:TCell):A:=.v (.bool (KI a0))
def RU (_a0:TCell):Objs:=[]
def Ya (_a0:TCell):List Prop:=[]
set_option maxRecDepth 100000 in
theorem A0w (a0:TCell):ER (AA B2i L0) 9 106 [Ak .cell a0] 0 []=some (1,RV a0,0,RU a0,[]):=by kernel_rfl
set_option maxRecDepth 100000 in
theorem A4o (a0:TCell) (_hp:∀p∈Ya a0,p):CallOk Try.prog 106 [Ak .cell a0] 0 [] 1 (RV a0) 0 (RU a0):=by
 exact AH (Ax Bnr AG) (A0w a0) Ab
def RW:List A→Nat→Objs→Option A9
 | [y0],nx,o=>match AQ .cell y0 with
  |some (a0,p0)=>some (1,(RV a0).pk (AC nx),nx+0,AB nx (RU a0)++o,p0++(Ya a0))
  |_=>none
 |_,_,_=>none
theorem Aun:EV Try.prog 106 RW:=fun args nx o k x nx' o' ps h=>by
 unfold RW at h
 split at h<;>first|(cases h;done)|skip
 split at h<;>first|(cases h;done)|skip
 rename_i a0 p0 e0
 cases h
 refine⟨fun hp=>?_,_,rfl⟩
 have q0:=fun p hm=>hp p (List.mem_append.2 (.inl hm))
 have r0:=fun p hm=>hp p (List.mem_append.2 (.inr hm))
 refine Ah (Ag (A4o a0 r0) (Nat.le_refl _) (Ac (Af _ _) An) nx o) fun F N R vs hl=>?_
 obtain⟨v0,w0,rfl,h0,hl⟩:=hl.inv
 exact HL.cons (Am e0 q0 h0) (hl)
noncomputable def B2j:=A7 106 RW B2i
theorem Bns:CU Try.prog B2j:=Aw Aun Bnr
def Pz (a0:Int) (a1:TCell):Bool:=bif a0==(1:Int)&&!(a1.5.1==(0:Int)&&a1.5.2==(0:Int))||a0==(2:Int)&&(a1.3||!E2 a1.5)||a0 !=(1:Int)&&a0 !=(2:Int) then false else bif !KI a1 then true else Hz a1.1&&decide (a1.1.1 >(0:Int))&&E2 a1.2&&decide ((↑a1.4.size:Int)≤(64:Int))&&(!a1.3||a1.4.toList==(ByteArray.mk #[]).toList)
def Aek (a0:Int) (a1:TCell):A:=.v (.bool (Pz a0 a1))
def Aej (_a0:Int) (_a1:TCell):Objs:=[]
def Ard (_a0:Int) (_a1:TCell):List Prop:=[]
set_option maxRecDepth 100000 in
theorem Bg7 (a0:Int) (a1:TCell):ER (AA B2j L0) 9 42 [Ak .i64 a0,Ak .cell a1] 0 []=some (1,Aek a0 a1,0,Aej a0 a1,[]):=by kernel_rfl
set_option maxRecDepth 100000 in
theorem Ble (a0:Int) (a1:TCell) (_hp:∀p∈Ard a0 a1,p):CallOk Try.prog 42 [Ak .i64 a0,Ak .cell a1] 0 [] 1 (Aek a0 a1) 0 (Aej a0 a1):=by
 exact AH (Ax Bns AG) (Bg7 a0 a1) Ab
def Ael:List A→Nat→Objs→Option A9
 | [y0,y1],nx,o=>match AQ .i64 y0,AQ .cell y1 with
  |some (a0,p0),some (a1,p1)=>some (1,(Aek a0 a1).pk (AC nx),nx+0,AB nx (Aej a0 a1)++o,p0++(p1++(Ard a0 a1)))
  |_,_=>none
 |_,_,_=>none
theorem Ba0:EV Try.prog 42 Ael:=fun args nx o k x nx' o' ps h=>by
 unfold Ael at h
 split at h<;>first|(cases h;done)|skip
 split at h<;>first|(cases h;done)|skip
 rename_i a0 p0 a1 p1 e0 e1
 cases h
 refine⟨fun hp=>?_,_,rfl⟩
 have q0:=fun p hm=>hp p (List.mem_append.2 (.inl hm))
 have r0:=fun p hm=>hp p (List.mem_append.2 (.inr hm))
 have q1:=fun p hm=>r0 p (List.mem_append.2 (.inl hm))
 have r1:=fun p hm=>r0 p (List.mem_append.2 (.inr hm))
 refine Ah (Ag (Ble a0 a1 r1) (Nat.le_refl _) (Ac (Af _ _) (Ac (Af _ _) An)) nx o) fun F N R vs hl=>?_
 obtain⟨v0,w0,rfl,h0,hl⟩:=hl.inv
 obtain⟨v1,w1,rfl,h1,hl⟩:=hl.inv
 exact HL.cons (Am e0 q0 h0) (HL.cons (Am e1 q1 h1) (hl))
noncomputable def B35:=A7 42 Ael B2j
theorem Byc:CU Try.prog B35:=Aw Ba0 Bns
theorem X2 (s:TStamp):Hz s=Ih s:=rfl
theorem QN (v:TVec):E2 v=CO v:=by
 unfold E2 CO
 rw[Bool.and_assoc]
theorem X9 (c:TCell):KI c=CD c:=by
 unfold KI CD bne
 rw[RJ]
 generalize (c.1.1==(0:Int))=a
 generalize (c.1.2==(0:Int))=b
 generalize (c.2.1==(0:Int))=d
 generalize (c.2.2==(0:Int))=e
 show(!a||!b||!d||!e||c.gone||!(c.4.size==0))=!(a&&b&&(d&&e)&&(!c.gone&&c.value.size==0))
 cases a<;>cases b<;>cases d<;>cases e<;>cases c.gone<;>simp
theorem Arc (p:Int) (c:TCell):Pz p c=BC p c:=by
 unfold Pz BC bne
 rw[X9,QN,QN,X2,RJ]
 have h1:(p==(1:Int)&&!(c.5.1==(0:Int)&&c.5.2==(0:Int))||p==(2:Int)&&(c.3||!CO c.5)||!(p==(1:Int))&&!(p==(2:Int)))=(p==1&&!HE c.dead||(p==2&&(c.gone||!CO c.dead)||!(p==1||p==2))):=by
  rw[Bool.or_assoc,Bool.not_or]
  rfl
 have h2:(!c.3||c.4.size==0)=!(c.gone&&!(c.value.size==0)):=by rw[Bool.not_and,Bool.not_not]
 rw[h1,h2]
noncomputable def Cf:=B35
theorem Bs8:CU Try.prog Cf:=Byc
end Go.Proofs.Yteebobbhhgmeiaa
namespace Go.Proofs.Yteebobbhhgmeiaa
open Go.RowKit
theorem A7f {X:Type} (mk:Nat→X) (n:Nat) (stop:Nat→Bool) (next:X→X) (goes:X→Cnd) (ps:X→List Prop)
  (hg:∀i,i≤n→(∀j,j <i→stop j=false)→Bs (goes (mk i))=(decide (i <n)&&!stop i)) (hn:∀i,i <n→(∀j,j <i+1→stop j=false)→next (mk i)=mk (i+1)) (hp:∀i,i≤n→(∀j,j <i→stop j=false)→∀p∈ps (mk i),p):
  ∀(f i:Nat),i≤n→n≤i+f→(∀j,j <i→stop j=false)→
  AK next goes ps f (mk i)∧∃k,k≤n∧Bc next goes f (mk i)=mk k∧(∀j,j <k→stop j=false)∧(k <n→stop k=true)
 |0,i,hi,hf,hs=>by
  have hc:=hg i hi hs
  have:i=n:=by omega
  rw[decide_eq_false (by omega),Bool.false_and] at hc
  exact⟨⟨hp i hi hs,hc⟩,i,hi,rfl,hs,fun h=>by omega⟩
 | f +1,i,hi,hf,hs=>by
  have hc:=hg i hi hs
  cases hb:Bs (goes (mk i)) with
  | false=>
   have e:Bc next goes (f+1) (mk i)=mk i:=by
    show(bif Bs (goes (mk i)) then _ else mk i)=mk i
    rw[hb];rfl
   rw[e]
   refine⟨⟨hp i hi hs,fun h=>by rw[hb] at h;cases h⟩,i,hi,rfl,hs,fun h=>?_⟩
   rw[hb,decide_eq_true h,Bool.true_and] at hc
   cases hst:stop i with
   |true=>rfl
   |false=>rw[hst] at hc;cases hc
  | true=>
   rw[hb] at hc
   have h1:i <n:=by
    cases hd:decide (i <n) with
    |true=>exact of_decide_eq_true hd
    |false=>rw[hd] at hc;cases hc
   have h2:stop i=false:=by
    cases hst:stop i with
    |false=>rfl
    |true=>rw[hst,Bool.and_comm] at hc;cases hc
   have hs':∀j,j <i+1→stop j=false:=fun j hj=>by
    by_cases h:j <i
    ·exact hs j h
    ·obtain rfl:j=i:=by omega
     exact h2
   have e:Bc next goes (f+1) (mk i)=Bc next goes f (mk (i+1)):=by
    show(bif Bs (goes (mk i)) then Bc next goes f (next (mk i)) else mk i)=_
    rw[hb,hn i h1 hs'];rfl
   obtain⟨g1,g2⟩:=A7f mk n stop next goes ps hg hn hp f (i+1) h1 (by omega) hs'
   rw[e]
   exact⟨⟨hp i hi hs,fun _=>by rw[hn i h1 hs'];exact g1⟩,g2⟩
theorem Brt {X:Type} (mk:Nat→X) (n:Nat) (stop:Nat→Bool) (next:X→X) (goes:X→Cnd) (ps:X→List Prop) (f:Nat) (x:X) (hx:x=mk 0) (hf:n≤f)
  (hg:∀i,i≤n→(∀j,j <i→stop j=false)→Bs (goes (mk i))=(decide (i <n)&&!stop i)) (hn:∀i,i <n→(∀j,j <i+1→stop j=false)→next (mk i)=mk (i+1)) (hp:∀i,i≤n→(∀j,j <i→stop j=false)→∀p∈ps (mk i),p):
  AK next goes ps f x∧∃k,k≤n∧Bc next goes f x=mk k∧(∀j,j <k→stop j=false)∧(k <n→stop k=true):=by
 subst hx
 exact A7f mk n stop next goes ps hg hn hp f 0 (Nat.zero_le _) (by omega) fun j h=>absurd h (Nat.not_lt_zero _)
theorem EQ {i:Nat} (h:i <9223372036854775807):IntKind.i64.wrap ((i:Int)+1)=((i+1:Nat):Int):=by rw[i64_in (by omega)];omega
theorem Me {i n:Nat}:decide ((i:Int) <(n:Int))=decide (i <n):=by
 by_cases h:i <n
 ·rw[decide_eq_true h,decide_eq_true (by omega)]
 ·rw[decide_eq_false h,decide_eq_false (by omega)]
theorem nn (b:Bool):(!!b)=b:=Bool.not_not b
theorem Bd3 {α:Type} (l:List α) (d:α) (p:α→Bool) (k:Nat) (hk:k≤l.length) (h1:∀j,j <k→p (l.getD j d)=true) (h2:k <l.length→p (l.getD k d)=false):l.all p=decide (¬k <l.length):=by
 by_cases h:k <l.length
 ·rw[decide_eq_false (by omega)]
  have:=h2 h
  rw[List.getD_eq_getElem?_getD,List.getElem?_eq_getElem h,Option.getD_some] at this
  cases ha:l.all p with
  |false=>rfl
  |true=>rw[List.all_eq_true.1 ha _ (List.getElem_mem h)] at this;cases this
 ·rw[decide_eq_true (by omega)]
  refine List.all_eq_true.2 fun x hx=>?_
  obtain⟨i,hi,rfl⟩:=List.mem_iff_getElem.1 hx
  have:=h1 i (by omega)
  rw[List.getD_eq_getElem?_getD,List.getElem?_eq_getElem hi,Option.getD_some] at this
  exact this
def Av (n:Nat):Prop:=n≤9223372036854775807
def JH (n:Nat) (p:Nat→Bool):Bool:=(List.range n).all p
theorem Il {n:Nat} {p:Nat→Bool}:JH n p=true↔∀i,i <n→p i=true:=by
 unfold JH
 rw[List.all_eq_true]
 exact⟨fun h i hi=>h i (List.mem_range.2 hi),fun h i hi=>h i (List.mem_range.1 hi)⟩
theorem H6 {n:Nat} {p q:Nat→Bool} (h:∀i,i <n→p i=q i):JH n p=JH n q:=by
 rw[Bool.eq_iff_iff,Il,Il]
 exact⟨fun g i hi=>(h i hi)▸g i hi,fun g i hi=>(h i hi).symm▸g i hi⟩
theorem IN {X:Type} (mk:Nat→X) (n:Nat) (bad:Nat→Bool) (next:X→X) (goes:X→Cnd) (ps:X→List Prop) (f:Nat) (x:X) (hx:x=mk 0) (hf:n≤f)
  (hg:∀i,i≤n→(∀j,j <i→bad j=false)→Bs (goes (mk i))=(decide (i <n)&&!bad i)) (hn:∀i,i <n→(∀j,j <i+1→bad j=false)→next (mk i)=mk (i+1)) (hp:∀i,i≤n→(∀j,j <i→bad j=false)→∀p∈ps (mk i),p):
  AK next goes ps f x∧∃k,k≤n∧Bc next goes f x=mk k∧(∀j,j <k→bad j=false)∧(k <n→bad k=true)∧(decide (k <n)&&bad k)=!JH n (fun i=>!bad i):=by
 obtain⟨h1,k,hk,h2,h3,h4⟩:=Brt mk n bad next goes ps f x hx hf hg hn hp
 refine⟨h1,k,hk,h2,h3,h4,?_⟩
 by_cases h:k <n
 ·rw[decide_eq_true h,h4 h]
  cases ha:JH n (fun i=>!bad i) with
  |false=>rfl
  |true=>have:=Il.1 ha k h;rw[h4 h] at this;cases this
 ·rw[decide_eq_false h,Il.2 (fun i hi=>by rw[h3 i (by omega)];rfl)]
  rfl
theorem Bt7 {α:Type} (l:List α) (d:α) (p:α→Bool):l.all p=JH l.length (fun i=>p (l.getD i d)):=by
 rw[Bool.eq_iff_iff,List.all_eq_true,Il]
 constructor
 ·intro h i hi
  rw[List.getD_eq_getElem?_getD,List.getElem?_eq_getElem hi,Option.getD_some]
  exact h _ (List.getElem_mem hi)
 ·intro h x hx
  obtain⟨i,hi,rfl⟩:=List.mem_iff_getElem.1 hx
  have:=h i hi
  rw[List.getD_eq_getElem?_getD,List.getElem?_eq_getElem hi,Option.getD_some] at this
  exact this
theorem B1z {α β:Type} (l:List α) (r:List β) (d:α) (e:β) (p:α→β→Bool) (h:r.length=l.length):(l.zip r).all (fun x=>p x.1 x.2)=JH l.length (fun i=>p (l.getD i d) (r.getD i e)):=by
 rw[Bt7 (l.zip r) (d,e),List.length_zip,h,Nat.min_self]
 refine H6 fun i hi=>?_
 rw[List.getD_eq_getElem?_getD,List.getD_eq_getElem?_getD,List.getD_eq_getElem?_getD,List.getElem?_eq_getElem (by rw[List.length_zip];omega),List.getElem?_eq_getElem hi,List.getElem?_eq_getElem (by omega),List.getElem_zip]
 rfl
theorem B5m (n:Nat):(n==0)=!decide (1≤n):=by cases n<;>simp
theorem Aw2 (n:Nat):((n:Int)==0)=(n==0):=by cases n<;>simp;omega
theorem dgt (n k:Nat):decide ((n:Int) >(k:Int))=decide (k <n):=decide_eq_decide.2 (by omega)
instance:LawfulBEq ByteArray where
 rfl:=fun {a}=>by cases a with|mk a=>exact beq_self_eq_true a
 eq_of_beq:=fun {a b} h=>by
  cases a with|mk a=>cases b with|mk b=>exact congrArg ByteArray.mk (eq_of_beq (α:=Array UInt8) h)
theorem Axv:∀(m:List (ByteArray×Int)) (b:ByteArray) (v:Int) (x:ByteArray),KE (Z8 m b v) x=if x=b then v else KE m x
 | [],b,v,x=>by
  by_cases h:x=b
  ·subst h;simp[Z8,KE]
  ·simp[Z8,KE,h,show(x==b)=false from beq_eq_false_iff_ne.2 h]
 | (a,n)::r,b,v,x=>by
  unfold Z8
  by_cases h:b=a
  ·subst h
   rw[show(b==b)=true from beq_self_eq_true b,cond_true]
   by_cases hx:x=b
   ·subst hx;simp[KE]
   ·simp[KE,hx,show(x==b)=false from beq_eq_false_iff_ne.2 hx]
  ·rw[show(b==a)=false from beq_eq_false_iff_ne.2 h,cond_false]
   by_cases hx:x=a
   ·subst hx
    rw[if_neg (fun e=>h e.symm)]
    simp[KE]
   ·simp only[KE,show(x==a)=false from beq_eq_false_iff_ne.2 hx,cond_false]
    exact Axv r b v x
def Xj (b:UInt8):Bool:=decide (97≤b.toNat)&&decide (b.toNat≤122)
def IQ (s:ByteArray):Bool:=s.data.toList.all Xj&&(decide (1≤s.size)&&decide (s.size≤12))
def Pm (p:Int):Bool:=p==1||p==2
def Rp:List ByteArray→List TGroup→Int
 |_,[]=>0
 |seen,g::r=>bif !(IQ g.name&&Pm g.policy) then 2 else bif seen.any (fun s=>s==g.name) then 70 else Rp (seen++[g.name]) r
def AX (l:List TGroup):Int:=bif l.length==0 then 2 else bif decide (4 <l.length) then 3 else Rp [] l
theorem Lf (s:ByteArray):s.data.toList.length=s.size:=by show s.data.toList.length=s.data.size;exact Array.length_toList
theorem Bu5 (s:ByteArray) (i:Nat) (h:i <s.size):s.data.toList.getD i 0=s[i]'h:=by
 rw[List.getD_eq_getElem?_getD,List.getElem?_eq_getElem (by rw[Lf];exact h)]
 rfl
theorem Biw (s:ByteArray) (i:Nat) (h:i <s.size):(decide (((Utf8.decode s i).1:Int) <97)||decide (((Utf8.decode s i).1:Int) >122))=!Xj (s.data.toList.getD i 0)∧(Xj (s.data.toList.getD i 0)=true→(Utf8.decode s i).2=1):=by
 rw[Bu5 s i h]
 by_cases hb:(s[i]'h).toNat <128
 ·rw[decode_ascii s i h hb]
  refine⟨?_,fun _=>rfl⟩
  unfold Xj
  rw[Bool.not_and,←decide_not,←decide_not]
  congr 1<;>exact decide_eq_decide.2 (by omega)
 ·have h2:=(decode_high s i h (by omega)).1
  have hl:Xj (s[i]'h)=false:=by unfold Xj;rw[decide_eq_false (p:=(s[i]'h).toNat≤122) (by omega),Bool.and_false]
  rw[hl]
  refine⟨?_,fun h=>by cases h⟩
  rw[decide_eq_true (p:=((Utf8.decode s i).1:Int) >122) (by omega),Bool.or_true]
  rfl
theorem FP {l:List TGroup} (h:AX l=0):1≤l.length∧l.length≤4:=by
 unfold AX at h
 cases h1:l.length==0 with
 |true=>rw[h1] at h;cases h
 | false=>
  rw[h1] at h
  cases h2:decide (4 <l.length) with
  |true=>rw[h2] at h;cases h
  |false=>
   have:=of_decide_eq_false h2
   have h3:l.length≠0:=by simpa using h1
   omega
theorem A6n (l:List TGroup) (k:Nat) (seen:List ByteArray):(∀j,j <k→j <l.length→(IQ (l.getD j (Ae TC.group)).name&&Pm (l.getD j (Ae TC.group)).policy)=true∧(seen++(l.take j).map (·.name)).any (fun s=>s==(l.getD j (Ae TC.group)).name)=false)→
  Rp seen l=Rp (seen++(l.take k).map (·.name)) (l.drop k):=by
 induction l generalizing k seen with
 |nil=>intro _;simp[Rp]
 | cons g r ih=>
  intro h
  cases k with
  |zero=>simp
  | succ k=>
   obtain⟨h1,h2⟩:=h 0 (Nat.succ_pos _) (Nat.succ_pos _)
   have h1':(IQ g.name&&Pm g.policy)=true:=h1
   have h2':seen.any (fun s=>s==g.name)=false:=by simpa using h2
   rw[Rp,h1',h2',Bool.not_true,cond_false,cond_false]
   rw[ih k (seen++[g.name]) (fun j hj hl=>by
    have:=h (j+1) (by omega) (by simpa using hl)
    simpa[List.append_assoc] using this)]
   simp[List.append_assoc]
def S3 (l:List TGroup):Nat→List (ByteArray×Int)
 |0=>[]
 |i+1=>Z8 (S3 l i) (l.getD i (Ae TC.group)).1 (IntKind.i64.wrap (KE (S3 l i) (l.getD i (Ae TC.group)).1+1))
def V4 (l:List TGroup) (i:Nat):Bool:=!(IQ (l.getD i (Ae TC.group)).1&&Pm (l.getD i (Ae TC.group)).2)||((l.take i).map (·.name)).any (fun s=>s==(l.getD i (Ae TC.group)).1)
theorem Bms (l:List TGroup) (i:Nat) (h:i <l.length):(l.take (i+1)).map (·.name)=(l.take i).map (·.name)++[(l.getD i (Ae TC.group)).1]:=by
 rw[List.take_add_one,List.getD_eq_getElem?_getD,List.getElem?_eq_getElem h,List.map_append]
 rfl
theorem Axu (l:List TGroup):∀(i:Nat),i≤l.length→(∀j,j <i→V4 l j=false)→∀x,KE (S3 l i) x=bif((l.take i).map (·.name)).any (fun s=>s==x) then 1 else 0
 |0,_,_,x=>by simp[S3,KE]
 | i+1,hi,hs,x=>by
  have ih:=Axu l i (by omega) (fun j hj=>hs j (by omega))
  have h:=hs i (Nat.lt_succ_self i)
  unfold V4 at h
  have h2:=(Bool.or_eq_false_iff.1 h).2
  unfold S3
  rw[Axv,ih,h2,Bms l i (by omega),List.any_append,ih]
  by_cases hx:x=(l.getD i (Ae TC.group)).1
  ·subst hx
   rw[if_pos rfl]
   simp
   decide
  ·rw[if_neg hx]
   have:([(l.getD i (Ae TC.group)).1].any fun s=>s==x)=false:=by
    simp only[List.any_cons,List.any_nil,Bool.or_false]
    exact beq_eq_false_iff_ne.2 fun e=>hx e.symm
   rw[this,Bool.or_false]
end Go.Proofs.Yteebobbhhgmeiaa
