/- made by a program (rowgen.py): ModelAsks: for every input the law returns true, and each argument reads behind the call as it read before. -/
import Derived.Test.YteebobbhhgmeiaaKMac

set_option maxRecDepth 100000
namespace Go.Proofs.Yteebobbhhgmeiaa
open Go.RowKit
def zc:TC→List Value
 | .u8=>[.int .u8 0]
 | .i64=>[.int .i64 0]
 | .u32=>[.int .u32 0]
 | .bool=>[.bool false]
 | .str=>[.string ByteArray.empty]
 | .bytes=>[.slice none 0 0]
 | .ints=>[.slice none 0 0]
 | .cells=>[.slice none 0 0]
 | .rows=>[.slice none 0 0]
 | .digest=>List.replicate 32 (.int .u8 0)
 |c=>(enc c (Ac c)).map fun x=>match x with
  | .v y=>y
  |_=> .slice none 0 0
theorem B4e (c:TC) (F:Nat→Prop) (N:Nm) (nx:Nat) (R:World):HL F N nx R (enc c (Ac c)) (zc c):=by
 cases c<;>(repeat' (first|exact HL.nil|exact Hv.v _|exact Hv.sl_nil rfl|apply HL.cons))
def FZ (P:Program) (t:TypeId):Option (Nat×Option (List Value)):=(P.info? t).map fun i=>(i.size,i.zero.map fun z=>z.cells.toList)
theorem Bv6 {P:Program} {t:TypeId} {c:TC} (h:FZ P t=some (size c,some (zc c))) (h0:0 <size c):∃i,P.info? t=some i∧i.size=size c∧0 <size c∧∃z,i.zero=some z∧∀(F:Nat→Prop) (N:Nm) (nx:Nat) (R:World),HL F N nx R (enc c (Ac c)) z.cells.toList:=by
 unfold FZ at h
 cases hi:P.info? t with
 |none=>rw[hi] at h;cases h
 | some i=>
  rw[hi] at h
  have h':some (i.size,i.zero.map fun z=>z.cells.toList)=some (size c,some (zc c)):=h
  injection h' with h'
  injection h' with h1 h2
  cases hz:i.zero with
  |none=>rw[hz] at h2;cases h2
  |some z=>
   rw[hz] at h2
   injection h2 with h2
   have h3:z.cells.toList=zc c:=h2
   exact⟨i,rfl,h1,h0,z,hz,fun F N nx R=>by rw[h3];exact B4e c F N nx R⟩
theorem Bvj (c:TC):0 <size c:=by cases c<;>decide
def Bv7 (t:TypeId):Option TC:=bif Nat.beq t 2 then some .i64 else bif Nat.beq t 3 then some .i64 else bif Nat.beq t 4 then some .bool else bif Nat.beq t 5 then some .u8 else bif Nat.beq t 9 then some .str else bif Nat.beq t 25 then some .front else bif Nat.beq t 26 then some .i64 else bif Nat.beq t 30 then some .vec else bif Nat.beq t 31 then some .vec else bif Nat.beq t 33 then some .told else bif Nat.beq t 37 then some .front else bif Nat.beq t 51 then some .stamp else bif Nat.beq t 53 then some .ask else bif Nat.beq t 55 then some .cell else bif Nat.beq t 67 then some .rows else bif Nat.beq t 69 then some .cells else bif Nat.beq t 71 then some .row else bif Nat.beq t 79 then some .group else bif Nat.beq t 84 then some .bytes else bif Nat.beq t 94 then some .view else bif Nat.beq t 108 then some .three else bif Nat.beq t 112 then some .two else bif Nat.beq t 133 then some .ints else bif Nat.beq t 136 then some .change else bif Nat.beq t 139 then some .write else bif Nat.beq t 142 then some .field else bif Nat.beq t 145 then some .ask3 else bif Nat.beq t 226 then some .place else bif Nat.beq t 239 then some .u32 else none
theorem Bza:FZ Try.prog 2=some (size .i64,some (zc .i64)):=by kernel_rfl
theorem Bzb:FZ Try.prog 3=some (size .i64,some (zc .i64)):=by kernel_rfl
theorem Bzc:FZ Try.prog 4=some (size .bool,some (zc .bool)):=by kernel_rfl
theorem Bzd:FZ Try.prog 5=some (size .u8,some (zc .u8)):=by kernel_rfl
theorem Bze:FZ Try.prog 9=some (size .str,some (zc .str)):=by kernel_rfl
theorem Bvr:FZ Try.prog 25=some (size .front,some (zc .front)):=by kernel_rfl
theorem Bvs:FZ Try.prog 26=some (size .i64,some (zc .i64)):=by kernel_rfl
theorem Bvt:FZ Try.prog 30=some (size .vec,some (zc .vec)):=by kernel_rfl
theorem Bvu:FZ Try.prog 31=some (size .vec,some (zc .vec)):=by kernel_rfl
theorem Bvv:FZ Try.prog 33=some (size .told,some (zc .told)):=by kernel_rfl
theorem Bvw:FZ Try.prog 37=some (size .front,some (zc .front)):=by kernel_rfl
theorem Bvx:FZ Try.prog 51=some (size .stamp,some (zc .stamp)):=by kernel_rfl
theorem Bvy:FZ Try.prog 53=some (size .ask,some (zc .ask)):=by kernel_rfl
theorem Bvz:FZ Try.prog 55=some (size .cell,some (zc .cell)):=by kernel_rfl
theorem Bv0:FZ Try.prog 67=some (size .rows,some (zc .rows)):=by kernel_rfl
theorem Bv1:FZ Try.prog 69=some (size .cells,some (zc .cells)):=by kernel_rfl
theorem Bv2:FZ Try.prog 71=some (size .row,some (zc .row)):=by kernel_rfl
theorem Bv3:FZ Try.prog 79=some (size .group,some (zc .group)):=by kernel_rfl
theorem Bv4:FZ Try.prog 84=some (size .bytes,some (zc .bytes)):=by kernel_rfl
theorem Bv5:FZ Try.prog 94=some (size .view,some (zc .view)):=by kernel_rfl
theorem Bqm:FZ Try.prog 108=some (size .three,some (zc .three)):=by kernel_rfl
theorem Bqn:FZ Try.prog 112=some (size .two,some (zc .two)):=by kernel_rfl
theorem Bqo:FZ Try.prog 133=some (size .ints,some (zc .ints)):=by kernel_rfl
theorem Bqp:FZ Try.prog 136=some (size .change,some (zc .change)):=by kernel_rfl
theorem Bqq:FZ Try.prog 139=some (size .write,some (zc .write)):=by kernel_rfl
theorem Bqr:FZ Try.prog 142=some (size .field,some (zc .field)):=by kernel_rfl
theorem Bqs:FZ Try.prog 145=some (size .ask3,some (zc .ask3)):=by kernel_rfl
theorem Bqt:FZ Try.prog 226=some (size .place,some (zc .place)):=by kernel_rfl
theorem Bqu:FZ Try.prog 239=some (size .u32,some (zc .u32)):=by kernel_rfl
theorem Ea {P:Program} {t k:TypeId} {c c0:TC} {r:Option TC} (h:(bif Nat.beq t k then some c0 else r)=some c) (hk:FZ P k=some (size c0,some (zc c0))):FZ P t=some (size c,some (zc c))∨r=some c:=by
 cases hb:Nat.beq t k with
 |true=>rw[hb] at h;cases h;rw[Nat.eq_of_beq_eq_true hb];exact .inl hk
 |false=>rw[hb] at h;exact .inr h
theorem Bv8:B4g Try.prog Bv7:=fun t c h=>by
 refine Bv6 ?_ (Bvj c)
 unfold Bv7 at h
 rcases Ea h Bza with h|h
 ·exact h
 rcases Ea h Bzb with h|h
 ·exact h
 rcases Ea h Bzc with h|h
 ·exact h
 rcases Ea h Bzd with h|h
 ·exact h
 rcases Ea h Bze with h|h
 ·exact h
 rcases Ea h Bvr with h|h
 ·exact h
 rcases Ea h Bvs with h|h
 ·exact h
 rcases Ea h Bvt with h|h
 ·exact h
 rcases Ea h Bvu with h|h
 ·exact h
 rcases Ea h Bvv with h|h
 ·exact h
 rcases Ea h Bvw with h|h
 ·exact h
 rcases Ea h Bvx with h|h
 ·exact h
 rcases Ea h Bvy with h|h
 ·exact h
 rcases Ea h Bvz with h|h
 ·exact h
 rcases Ea h Bv0 with h|h
 ·exact h
 rcases Ea h Bv1 with h|h
 ·exact h
 rcases Ea h Bv2 with h|h
 ·exact h
 rcases Ea h Bv3 with h|h
 ·exact h
 rcases Ea h Bv4 with h|h
 ·exact h
 rcases Ea h Bv5 with h|h
 ·exact h
 rcases Ea h Bqm with h|h
 ·exact h
 rcases Ea h Bqn with h|h
 ·exact h
 rcases Ea h Bqo with h|h
 ·exact h
 rcases Ea h Bqp with h|h
 ·exact h
 rcases Ea h Bqq with h|h
 ·exact h
 rcases Ea h Bqr with h|h
 ·exact h
 rcases Ea h Bqs with h|h
 ·exact h
 rcases Ea h Bqt with h|h
 ·exact h
 rcases Ea h Bqu with h|h
 ·exact h
 cases h
end Go.Proofs.Yteebobbhhgmeiaa
namespace Go.Proofs.Yteebobbhhgmeiaa
open Go.RowKit
theorem eqi (d:Nat) (a b:Int) (w:World):(Op.equalIn (d+1) 3 (.int .i64 a) (.int .i64 b)).run Try.prog w=.ok (a==b) w:=run_equalIn_int w d 3 .i64 .i64 a b Try.underlying3
theorem eqb (d:Nat) (a b:Bool) (w:World):(Op.equalIn (d+1) 4 (.bool a) (.bool b)).run Try.prog w=.ok (a==b) w:=run_equalIn_bool' w d 4 a b Try.underlying4
theorem eqs (d:Nat) (a b:ByteArray) (w:World):(Op.equalIn (d+1) 9 (.string a) (.string b)).run Try.prog w=.ok (a.toList==b.toList) w:=run_equalIn_string w d 9 a b Try.underlying9
@[go_sem] theorem eqVec (d:Nat) (a b x y:Int) (w:World):(Op.equalIn (d+2) 31 (.agg #[.int .i64 a,.int .i64 b]) (.agg #[.int .i64 x,.int .i64 y])).run Try.prog w=.ok (a==x&&b==y) w:=by
 have p0:∀a b w,(part 3 #[.int .i64 a,.int .i64 b] 0).run Try.prog w=Result.ok (.int .i64 a) w:=fun a b w=>by kernel_rfl
 have p1:∀a b w,(part 3 #[.int .i64 a,.int .i64 b] 1).run Try.prog w=Result.ok (.int .i64 b) w:=fun a b w=>by kernel_rfl
 unfold Op.equalIn
 cases h:a==x
 ·simp[Sem.run_bind,run_underlying Try.underlying31,List.range',p0,eqi,h]
 ·cases h':b==y<;>simp[Sem.run_bind,run_underlying Try.underlying31,List.range',p0,p1,eqi,h,h']
@[go_sem] theorem eqInt2 (d:Nat) (a b x y:Int) (w:World):(Op.equalIn (d+2) 30 (.agg #[.int .i64 a,.int .i64 b]) (.agg #[.int .i64 x,.int .i64 y])).run Try.prog w=.ok (a==x&&b==y) w:=by
 have p0:∀a b w,(part 3 #[.int .i64 a,.int .i64 b] 0).run Try.prog w=Result.ok (.int .i64 a) w:=fun a b w=>by kernel_rfl
 have p1:∀a b w,(part 3 #[.int .i64 a,.int .i64 b] 1).run Try.prog w=Result.ok (.int .i64 b) w:=fun a b w=>by kernel_rfl
 unfold Op.equalIn
 cases h:a==x
 ·simp[Sem.run_bind,run_underlying Try.underlying30,List.range',p0,eqi,h]
 ·cases h':b==y<;>simp[Sem.run_bind,run_underlying Try.underlying30,List.range',p0,p1,eqi,h,h']
@[go_sem] theorem eqStamp (d:Nat) (a b x y:Int) (w:World):(Op.equalIn (d+2) 51 (.agg #[.int .i64 a,.int .i64 b]) (.agg #[.int .i64 x,.int .i64 y])).run Try.prog w=.ok (a==x&&b==y) w:=by
 rw[run_equalIn_struct w (d+1) 51 _ _ (by kernel_rfl) (by kernel_rfl)]
 have p0:∀a b w,(part 3 #[.int .i64 a,.int .i64 b] 0).run Try.prog w=Result.ok (.int .i64 a) w:=fun a b w=>by kernel_rfl
 have p1:∀a b w,(part 3 #[.int .i64 a,.int .i64 b] 1).run Try.prog w=Result.ok (.int .i64 b) w:=fun a b w=>by kernel_rfl
 cases h:a==x
 ·simp[Program.fieldsOf,Try.underlying51,Op.eqFields,Sem.run_bind,p0,eqi,h]
 ·cases h':b==y<;>simp[Program.fieldsOf,Try.underlying51,Op.eqFields,Sem.run_bind,p0,p1,eqi,h,h']
@[go_sem] theorem eqFront (d:Nat) (a b c e f u v x y z:Int) (w:World):(Op.equalIn (d+2) 25 (.agg #[.int .i64 a,.int .i64 b,.int .i64 c,.int .i64 e,.int .i64 f]) (.agg #[.int .i64 u,.int .i64 v,.int .i64 x,.int .i64 y,.int .i64 z])).run Try.prog w=.ok (a==u&&(b==v&&(c==x&&(e==y&&(f==z))))) w:=by
 rw[run_equalIn_struct w (d+1) 25 _ _ (by kernel_rfl) (by kernel_rfl)]
 have p0:∀a b c e f w,(part 3 #[.int .i64 a,.int .i64 b,.int .i64 c,.int .i64 e,.int .i64 f] 0).run Try.prog w=Result.ok (.int .i64 a) w:=fun a b c e f w=>by kernel_rfl
 have p1:∀a b c e f w,(part 3 #[.int .i64 a,.int .i64 b,.int .i64 c,.int .i64 e,.int .i64 f] 1).run Try.prog w=Result.ok (.int .i64 b) w:=fun a b c e f w=>by kernel_rfl
 have p2:∀a b c e f w,(part 3 #[.int .i64 a,.int .i64 b,.int .i64 c,.int .i64 e,.int .i64 f] 2).run Try.prog w=Result.ok (.int .i64 c) w:=fun a b c e f w=>by kernel_rfl
 have p3:∀a b c e f w,(part 3 #[.int .i64 a,.int .i64 b,.int .i64 c,.int .i64 e,.int .i64 f] 3).run Try.prog w=Result.ok (.int .i64 e) w:=fun a b c e f w=>by kernel_rfl
 have p4:∀a b c e f w,(part 3 #[.int .i64 a,.int .i64 b,.int .i64 c,.int .i64 e,.int .i64 f] 4).run Try.prog w=Result.ok (.int .i64 f) w:=fun a b c e f w=>by kernel_rfl
 cases h0:a==u
 ·simp[Program.fieldsOf,Try.underlying25,Op.eqFields,Sem.run_bind,p0,eqi,h0]
 ·cases h1:b==v
  ·simp[Program.fieldsOf,Try.underlying25,Op.eqFields,Sem.run_bind,p0,p1,eqi,h0,h1]
  ·cases h2:c==x
   ·simp[Program.fieldsOf,Try.underlying25,Op.eqFields,Sem.run_bind,p0,p1,p2,eqi,h0,h1,h2]
   ·cases h3:e==y
    ·simp[Program.fieldsOf,Try.underlying25,Op.eqFields,Sem.run_bind,p0,p1,p2,p3,eqi,h0,h1,h2,h3]
    ·cases h4:f==z
     ·simp[Program.fieldsOf,Try.underlying25,Op.eqFields,Sem.run_bind,p0,p1,p2,p3,p4,eqi,h0,h1,h2,h3,h4]
     ·simp[Program.fieldsOf,Try.underlying25,Op.eqFields,Sem.run_bind,p0,p1,p2,p3,p4,eqi,h0,h1,h2,h3,h4]
@[go_sem] theorem eqRFront (d:Nat) (a b c e f u v x y z:Int) (w:World):(Op.equalIn (d+2) 37 (.agg #[.int .i64 a,.int .i64 b,.int .i64 c,.int .i64 e,.int .i64 f]) (.agg #[.int .i64 u,.int .i64 v,.int .i64 x,.int .i64 y,.int .i64 z])).run Try.prog w=.ok (a==u&&(b==v&&(c==x&&(e==y&&(f==z))))) w:=by
 rw[run_equalIn_struct w (d+1) 37 _ _ (by kernel_rfl) (by kernel_rfl)]
 have p0:∀a b c e f w,(part 3 #[.int .i64 a,.int .i64 b,.int .i64 c,.int .i64 e,.int .i64 f] 0).run Try.prog w=Result.ok (.int .i64 a) w:=fun a b c e f w=>by kernel_rfl
 have p1:∀a b c e f w,(part 3 #[.int .i64 a,.int .i64 b,.int .i64 c,.int .i64 e,.int .i64 f] 1).run Try.prog w=Result.ok (.int .i64 b) w:=fun a b c e f w=>by kernel_rfl
 have p2:∀a b c e f w,(part 3 #[.int .i64 a,.int .i64 b,.int .i64 c,.int .i64 e,.int .i64 f] 2).run Try.prog w=Result.ok (.int .i64 c) w:=fun a b c e f w=>by kernel_rfl
 have p3:∀a b c e f w,(part 3 #[.int .i64 a,.int .i64 b,.int .i64 c,.int .i64 e,.int .i64 f] 3).run Try.prog w=Result.ok (.int .i64 e) w:=fun a b c e f w=>by kernel_rfl
 have p4:∀a b c e f w,(part 3 #[.int .i64 a,.int .i64 b,.int .i64 c,.int .i64 e,.int .i64 f] 4).run Try.prog w=Result.ok (.int .i64 f) w:=fun a b c e f w=>by kernel_rfl
 cases h0:a==u
 ·simp[Program.fieldsOf,Try.underlying37,Op.eqFields,Sem.run_bind,p0,eqi,h0]
 ·cases h1:b==v
  ·simp[Program.fieldsOf,Try.underlying37,Op.eqFields,Sem.run_bind,p0,p1,eqi,h0,h1]
  ·cases h2:c==x
   ·simp[Program.fieldsOf,Try.underlying37,Op.eqFields,Sem.run_bind,p0,p1,p2,eqi,h0,h1,h2]
   ·cases h3:e==y
    ·simp[Program.fieldsOf,Try.underlying37,Op.eqFields,Sem.run_bind,p0,p1,p2,p3,eqi,h0,h1,h2,h3]
    ·cases h4:f==z
     ·simp[Program.fieldsOf,Try.underlying37,Op.eqFields,Sem.run_bind,p0,p1,p2,p3,p4,eqi,h0,h1,h2,h3,h4]
     ·simp[Program.fieldsOf,Try.underlying37,Op.eqFields,Sem.run_bind,p0,p1,p2,p3,p4,eqi,h0,h1,h2,h3,h4]
@[go_sem] theorem eqCell (d:Nat) (a0 a1 a2 a3 a6 a7 b0 b1 b2 b3 b6 b7:Int) (a4 b4:Bool) (a5 b5:ByteArray) (w:World):(Op.equalIn (d+3) 55 (.agg #[.int .i64 a0,.int .i64 a1,.int .i64 a2,.int .i64 a3,.bool a4,.string a5,.int .i64 a6,.int .i64 a7]) (.agg #[.int .i64 b0,.int .i64 b1,.int .i64 b2,.int .i64 b3,.bool b4,.string b5,.int .i64 b6,.int .i64 b7])).run Try.prog w=.ok ((a0==b0&&a1==b1)&&((a2==b2&&a3==b3)&&((a4==b4)&&((a5.toList==b5.toList)&&(a6==b6&&a7==b7))))) w:=by
 rw[run_equalIn_struct w (d+2) 55 _ _ (by kernel_rfl) (by kernel_rfl)]
 have p0:∀(a0 a1 a2 a3 a6 a7:Int) (a4:Bool) (a5:ByteArray) (w:World),(part 51 #[.int .i64 a0,.int .i64 a1,.int .i64 a2,.int .i64 a3,.bool a4,.string a5,.int .i64 a6,.int .i64 a7] 0).run Try.prog w=Result.ok (.agg #[.int .i64 a0,.int .i64 a1]) w:=fun _ _ _ _ _ _ _ _ _=>by kernel_rfl
 have p1:∀(a0 a1 a2 a3 a6 a7:Int) (a4:Bool) (a5:ByteArray) (w:World),(part 31 #[.int .i64 a0,.int .i64 a1,.int .i64 a2,.int .i64 a3,.bool a4,.string a5,.int .i64 a6,.int .i64 a7] 2).run Try.prog w=Result.ok (.agg #[.int .i64 a2,.int .i64 a3]) w:=fun _ _ _ _ _ _ _ _ _=>by kernel_rfl
 have p2:∀(a0 a1 a2 a3 a6 a7:Int) (a4:Bool) (a5:ByteArray) (w:World),(part 4 #[.int .i64 a0,.int .i64 a1,.int .i64 a2,.int .i64 a3,.bool a4,.string a5,.int .i64 a6,.int .i64 a7] 4).run Try.prog w=Result.ok (.bool a4) w:=fun _ _ _ _ _ _ _ _ _=>by kernel_rfl
 have p3:∀(a0 a1 a2 a3 a6 a7:Int) (a4:Bool) (a5:ByteArray) (w:World),(part 9 #[.int .i64 a0,.int .i64 a1,.int .i64 a2,.int .i64 a3,.bool a4,.string a5,.int .i64 a6,.int .i64 a7] 5).run Try.prog w=Result.ok (.string a5) w:=fun _ _ _ _ _ _ _ _ _=>by kernel_rfl
 have p4:∀(a0 a1 a2 a3 a6 a7:Int) (a4:Bool) (a5:ByteArray) (w:World),(part 31 #[.int .i64 a0,.int .i64 a1,.int .i64 a2,.int .i64 a3,.bool a4,.string a5,.int .i64 a6,.int .i64 a7] 6).run Try.prog w=Result.ok (.agg #[.int .i64 a6,.int .i64 a7]) w:=fun _ _ _ _ _ _ _ _ _=>by kernel_rfl
 cases h0:(a0==b0&&a1==b1)
 ·simp only[Program.fieldsOf,Try.underlying55,Op.eqFields,Sem.run_bind,Sem.run_ite,Sem.run_pure,Result.andThen_ok,p0,eqStamp,h0];simp
 ·cases h1:(a2==b2&&a3==b3)
  ·simp only[Program.fieldsOf,Try.underlying55,Op.eqFields,Sem.run_bind,Sem.run_ite,Sem.run_pure,Result.andThen_ok,p0,p1,eqStamp,eqVec,h0,h1];simp
  ·cases h2:(a4==b4)
   ·simp only[Program.fieldsOf,Try.underlying55,Op.eqFields,Sem.run_bind,Sem.run_ite,Sem.run_pure,Result.andThen_ok,p0,p1,p2,eqStamp,eqVec,eqb,h0,h1,h2];simp
   ·cases h3:(a5.toList==b5.toList)
    ·simp only[Program.fieldsOf,Try.underlying55,Op.eqFields,Sem.run_bind,Sem.run_ite,Sem.run_pure,Result.andThen_ok,p0,p1,p2,p3,eqStamp,eqVec,eqb,eqs,h0,h1,h2,h3];simp
    ·cases h4:(a6==b6&&a7==b7)
     ·simp only[Program.fieldsOf,Try.underlying55,Op.eqFields,Sem.run_bind,Sem.run_ite,Sem.run_pure,Result.andThen_ok,p0,p1,p2,p3,p4,eqStamp,eqVec,eqb,eqs,h0,h1,h2,h3,h4];simp
     ·simp only[Program.fieldsOf,Try.underlying55,Op.eqFields,Sem.run_bind,Sem.run_ite,Sem.run_pure,Result.andThen_ok,p0,p1,p2,p3,p4,eqStamp,eqVec,eqb,eqs,h0,h1,h2,h3,h4];simp
theorem Bem:Try.prog.eqGuardType Try.prog.depth 31=false:=by kernel_rfl
@[go_sem] theorem grdVec (op:BinOp) (x y:Operand) (xs ys:Array Value) (w:World):(eqGuard op 31 x y (.agg xs) (.agg ys)).run Try.prog w=.ok () w:=run_eqGuard_agg w op 31 x y xs ys Bem
theorem Bpj:Try.prog.eqGuardType Try.prog.depth 30=false:=by kernel_rfl
@[go_sem] theorem grdInt2 (op:BinOp) (x y:Operand) (xs ys:Array Value) (w:World):(eqGuard op 30 x y (.agg xs) (.agg ys)).run Try.prog w=.ok () w:=run_eqGuard_agg w op 30 x y xs ys Bpj
theorem Awl:Try.prog.eqGuardType Try.prog.depth 51=false:=by kernel_rfl
@[go_sem] theorem grdStamp (op:BinOp) (x y:Operand) (xs ys:Array Value) (w:World):(eqGuard op 51 x y (.agg xs) (.agg ys)).run Try.prog w=.ok () w:=run_eqGuard_agg w op 51 x y xs ys Awl
theorem Bjb:Try.prog.eqGuardType Try.prog.depth 25=false:=by kernel_rfl
@[go_sem] theorem grdFront (op:BinOp) (x y:Operand) (xs ys:Array Value) (w:World):(eqGuard op 25 x y (.agg xs) (.agg ys)).run Try.prog w=.ok () w:=run_eqGuard_agg w op 25 x y xs ys Bjb
theorem Aob:Try.prog.eqGuardType Try.prog.depth 37=false:=by kernel_rfl
@[go_sem] theorem grdRFront (op:BinOp) (x y:Operand) (xs ys:Array Value) (w:World):(eqGuard op 37 x y (.agg xs) (.agg ys)).run Try.prog w=.ok () w:=run_eqGuard_agg w op 37 x y xs ys Aob
theorem A5m:Try.prog.eqGuardType Try.prog.depth 55=false:=by kernel_rfl
@[go_sem] theorem grdCell (op:BinOp) (x y:Operand) (xs ys:Array Value) (w:World):(eqGuard op 55 x y (.agg xs) (.agg ys)).run Try.prog w=.ok () w:=run_eqGuard_agg w op 55 x y xs ys A5m
end Go.Proofs.Yteebobbhhgmeiaa
namespace Go.Proofs.Yteebobbhhgmeiaa
open Go.RowKit
instance (n:Nat):Decidable (Aeu n):=.isFalse id
theorem B4d:Try.prog.follows .mixedOrders=true:=by kernel_rfl
theorem Bja:Try.prog.eqGuardType Try.prog.depth 142=false:=by kernel_rfl
theorem Bxw (d:Nat) (a x:Int) (b y:ByteArray) (w:World):(Op.equalIn (d+2) 142 (.agg #[.int .i64 a,.string b]) (.agg #[.int .i64 x,.string y])).run Try.prog w=.ok (a==x&&b.toList==y.toList) w:=by
 rw[run_equalIn_struct w (d+1) 142 _ _ (by kernel_rfl) (by kernel_rfl)]
 have p0:∀a b w,(part 3 #[.int .i64 a,.string b] 0).run Try.prog w=Result.ok (.int .i64 a) w:=fun a b w=>by kernel_rfl
 have p1:∀a b w,(part 9 #[.int .i64 a,.string b] 1).run Try.prog w=Result.ok (.string b) w:=fun a b w=>by kernel_rfl
 cases h:a==x
 ·simp[Program.fieldsOf,Try.underlying142,Op.eqFields,Sem.run_bind,p0,eqi,h]
 ·cases h':b.toList==y.toList<;>simp[Program.fieldsOf,Try.underlying142,Op.eqFields,Sem.run_bind,p0,p1,eqi,eqs,h,h']
def Bxx:List Value→List Value→Option Bool
 | [.int .i64 a,.int .i64 b],[.int .i64 x,.int .i64 y]=>some (a==x&&b==y)
 |_,_=>none
def B3k:List Value→List Value→Option Bool
 | [.int .i64 a,.string b],[.int .i64 x,.string y]=>some (a==x&&b.toList==y.toList)
 |_,_=>none
def B3l:List Value→List Value→Option Bool
 | [.int .i64 a,.int .i64 b,.int .i64 c,.int .i64 e,.int .i64 f],[.int .i64 u,.int .i64 v,.int .i64 x,.int .i64 y,.int .i64 z]=>some (a==u&&(b==v&&(c==x&&(e==y&&f==z))))
 |_,_=>none
def B3j:List Value→List Value→Option Bool
 | [.int .i64 a0,.int .i64 a1,.int .i64 a2,.int .i64 a3,.bool a4,.string a5,.int .i64 a6,.int .i64 a7],[.int .i64 b0,.int .i64 b1,.int .i64 b2,.int .i64 b3,.bool b4,.string b5,.int .i64 b6,.int .i64 b7]=>
  some ((a0==b0&&a1==b1)&&((a2==b2&&a3==b3)&&((a4==b4)&&((a5.toList==b5.toList)&&(a6==b6&&a7==b7)))))
 |_,_=>none
def Bth (t:TypeId) (xs ys:List Value):Option Bool:=
 bif Nat.beq t 31 then Bxx xs ys else bif Nat.beq t 51 then Bxx xs ys else bif Nat.beq t 55 then B3j xs ys else bif Nat.beq t 142 then B3k xs ys else bif Nat.beq t 37 then B3l xs ys else none
theorem Bti:B4f Try.prog Bth:=fun t xs ys b h=>by
 unfold Bth at h
 cases h1:Nat.beq t 31 with
 |true=>
  rw[h1] at h
  rw[Nat.eq_of_beq_eq_true h1]
  refine⟨Bem,fun R=>?_⟩
  unfold Bxx at h
  simp only[cond_true] at h
  split at h<;>first|(cases h;done)|skip
  cases h
  exact eqVec 9998 _ _ _ _ R
 |false=>
 cases h2:Nat.beq t 51 with
 |true=>
  rw[h1,h2] at h
  rw[Nat.eq_of_beq_eq_true h2]
  refine⟨Awl,fun R=>?_⟩
  unfold Bxx at h
  simp only[cond_true,cond_false] at h
  split at h<;>first|(cases h;done)|skip
  cases h
  exact eqStamp 9998 _ _ _ _ R
 |false=>
 cases h3:Nat.beq t 55 with
 |true=>
  rw[h1,h2,h3] at h
  rw[Nat.eq_of_beq_eq_true h3]
  refine⟨A5m,fun R=>?_⟩
  unfold B3j at h
  simp only[cond_true,cond_false] at h
  split at h<;>first|(cases h;done)|skip
  cases h
  exact eqCell 9997 _ _ _ _ _ _ _ _ _ _ _ _ _ _ _ _ R
 |false=>
 cases h4:Nat.beq t 142 with
 |true=>
  rw[h1,h2,h3,h4] at h
  rw[Nat.eq_of_beq_eq_true h4]
  refine⟨Bja,fun R=>?_⟩
  unfold B3k at h
  simp only[cond_true,cond_false] at h
  split at h<;>first|(cases h;done)|skip
  cases h
  exact Bxw 9998 _ _ _ _ R
 |false=>
 cases h5:Nat.beq t 37 with
 |true=>
  rw[h1,h2,h3,h4,h5] at h
  rw[Nat.eq_of_beq_eq_true h5]
  refine⟨Aob,fun R=>?_⟩
  unfold B3l at h
  simp only[cond_true,cond_false] at h
  split at h<;>first|(cases h;done)|skip
  cases h
  rw[eqRFront 9998]
 |false=>
  rw[h1,h2,h3,h4,h5] at h
  cases h
noncomputable def Au (C:Tab) (L:A7j):Env:=⟨Try.prog,Bth,C,false,Bv7,L⟩
theorem Bxv {C:Tab} {L:A7j} (hC:Cp Try.prog C) (hL:∀l s b ps outs,L l s=some (b,ps,outs)→Wf s ⟨ps,outs,none⟩∧Bh (Au C L) b s ps outs):VF (Au C L) where
 suf f args nx o k x nx' o' ps h:=(hC f args nx o k x nx' o' ps h).2
 wide:=B4d
 eq:=Bti
 C f args nx o k x nx' o' ps h:=(hC f args nx o k x nx' o' ps h).1
 tc:=Bv8
 loops:=hL
end Go.Proofs.Yteebobbhhgmeiaa
namespace Go.Proofs.Yteebobbhhgmeiaa
open Go.RowKit
def G1 (L:A7j):Prop:=∀l s b ps outs,L l s=some (b,ps,outs)→Wf s ⟨ps,outs,none⟩∧Bh (Au C0 L0) b s ps outs
theorem Ay:G1 L0:=fun _ _ _ _ _ h=>by cases h
theorem AS {l0:Nat} {g:St→Option (Code×List Prop×Bb)} {L:A7j} (hg:∀s b ps outs,g s=some (b,ps,outs)→Wf s ⟨ps,outs,none⟩∧Bh (Au C0 L0) b s ps outs) (hL:G1 L):G1 (Di l0 g L):=fun l s b ps outs h=>by
 unfold Di at h
 cases hb:Nat.beq l l0 with
 |true=>rw[hb] at h;exact hg s b ps outs h
 |false=>rw[hb] at h;exact hL l s b ps outs h
theorem Ap {C:Tab} {L:A7j} (hC:Cp Try.prog C) (hL:G1 L):VF (Au C L):=Bxv hC hL
theorem A9 {C:Tab} {L:A7j} (hC:Cp Try.prog C) (hL:G1 L) {u:Nat} {b:Code} {S:CU} {En:C9} {X:Type} {T:X→St} {unT:St→Option X} {fuel:X→Nat} {next:X→X} {goes:X→Cnd} {psA ps:X→List Prop} {outs:X→Bb} (hS:okL S.nb S.nx1 S.ren=true) (hnb:S.nb≤S.nx1)
  (hr:∀x,Bl (Au C L) u b S (T x)=some (psA x,outs x,goes x,T (next x))) (hA:∀x,(∀p∈ps x,p)→∀p∈psA x,p) (hu:∀s x,unT s=some x→s=T x)
  (hw:∀x,Om (outs x)∧∀t c y,AI t (outs x)=some (c,y)→y.n=(T x).n) (hTn:∀x y,(T x).n=(T y).n):∀s b0 qs os,Hw (Au C L) b S En unT fuel next goes ps outs s=some (b0,qs,os)→Wf s ⟨qs,os,none⟩∧Bh (Au C0 L0) b0 s qs os:=
 fun _ _ _ _ he=>By0 (Ap hC hL) hS hnb hr hA hu hw hTn he
def Bjv (n:Nat):Bb→Bool
 | []=>true
 |(t,_,s)::r=>Nat.beq s.n n&&((match AI t r with|some _=>false|none=>true)&&Bjv n r)
theorem AH {n:Nat}:∀{o:Bb},Bjv n o=true→Om o∧∀t c y,AI t o=some (c,y)→y.n=n
 | [],_=>⟨trivial,fun t c y h=>by cases h⟩
 | (k,d,s)::r,h=>by
  unfold Bjv at h
  simp only[Bool.and_eq_true] at h
  obtain⟨h1,h2,h3⟩:=h
  obtain⟨g1,g2⟩:=AH h3
  refine⟨⟨?_,g1⟩,fun t c y hy=>?_⟩
  ·cases hg:AI k r with
   |none=>rfl
   |some x=>rw[hg] at h2;cases h2
  ·have hy':(bif Fd k t then some (d,s) else AI t r)=some (c,y):=hy
   cases hb:Fd k t with
   |true=>rw[hb] at hy';cases hy';exact Nat.eq_of_beq_eq_true h1
   |false=>rw[hb] at hy';exact g2 t c y hy'
theorem Bbv (x:Int):0≤IntKind.u8.wrap x∧IntKind.u8.wrap x <256:=by
 simp only[IntKind.wrap,IntKind.bits,IntKind.signed]
 have h1:=Int.emod_nonneg x (show(256:Int)≠0 by decide)
 have h2:=Int.emod_lt_of_pos x (show(0:Int) <256 by decide)
 exact⟨h1,h2⟩
theorem Bzn (x:Int):0≤IntKind.u64.wrap x:=by
 simp only[IntKind.wrap,IntKind.bits,IntKind.signed]
 exact Int.emod_nonneg x (by decide)
def B3h (c:TC) (x:A):Option (U c×List Prop):=match Ajw x with
 |some cs=>Yv c cs
 |none=>none
def Bxd (c:TC):A→Option (List (U c))
 | .sl c' l=>match TC.same c' c with
  |some h=>some (Anw h.down l)
  |none=>none
 | .nl=>some []
 | .v x=>bif DO x then some [] else none
 |_=>none
section
variable {F:Nat→Prop} {N:Nm} {nx:Nat} {R:World}
theorem Bnb {c:TC} {x:A} {l:List (U c)} {v:Value} (he:Bxd c x=some l) (h:Hv F N nx R x v):Hv F N nx R (.sl c l) v:=by
 unfold Bxd at he
 split at he<;>first|(cases he;done)|skip
 ·split at he<;>first|(cases he;done)|skip
  rename_i h1 _
  obtain⟨h1⟩:=h1
  subst h1
  cases he
  exact h
 ·cases he
  obtain⟨a,e⟩:=h.nl_inv
  exact Hv.sl_nil e
 ·rename_i x
  cases hb:DO x with
  |false=>rw[hb] at he;cases he
  |true=>
   rw[hb] at he
   cases he
   exact Hv.sl_nil (by rw[h.v_inv,Gg hb])
theorem Bjc {c:TC} {d:U c} {vs:List Value} (h:HL F N nx R (enc c d) vs) (ha:c.isAgg=true):Hv F N nx R (Ae c d) (.agg vs.toArray):=by
 unfold Ae
 rw[ha]
 exact Yo h
theorem Btu {c:TC} {d:U c} {vs:List Value} {v:Value} (h:HL F N nx R (enc c d) vs) (ha:c.isAgg=false) (hv:vs[0]?=some v):Hv F N nx R (Ae c d) v:=by
 unfold Ae
 rw[ha]
 show Hv F N nx R (match enc c d with|x::_=>x| []=> .dead) v
 generalize enc c d=l at h
 cases l with
 |nil=>exact .dead _
 |cons x r=>
  obtain⟨w,ws,rfl,h1,_⟩:=h.inv
  cases hv
  exact h1
def UH (c:TC):A→Bool
 | .v (.agg _)=>c.isAgg
 | .agg _=>c.isAgg
 | .v (.tuple _)=>false
 | .v x=>!c.isAgg&&x.oneCell'
 | .opt _ _ _=>false
 | .tup _=>false
 | .dead=>false
 | .it _ _=>false
 | .sq _=>false
 | .dq _=>false
 | .iv _ _=>false
 | .de _ _ _ _=>false
 | .ie _ _ _ _ _=>false
 |_=>!c.isAgg
def B11 (c:TC) (x:A):Option (U c×List Prop):=bif UH c x then B3h c x else none
theorem Bxf {c:TC} {x:A} {d:U c} {ps:List Prop} {v:Value} (he:B11 c x=some (d,ps)) (hp:∀p∈ps,p) (h:Hv F N nx R x v):Hv F N nx R (Ae c d) v:=by
 unfold B11 at he
 cases hf:UH c x with
 |false=>rw[hf] at he;cases he
 | true=>
  rw[hf] at he
  simp only[cond_true] at he
  unfold B3h at he
  split at he<;>first|(cases he;done)|skip
  rename_i cs hcs
  have hd:=A73 (F:=F) (N:=N) (nx:=nx) (R:=R) he hp
  have single:∀{y:A},Hv F N nx R y v→cs=[y]→c.isAgg=false→Hv F N nx R (Ae c d) v:=fun {y} hy e hc=>by
   subst e
   exact Btu (hd [v] (HL.cons hy HL.nil)) hc rfl
  cases x<;>first|(cases hf;done)|skip
  ·rename_i y
   have hv:=h.v_inv
   subst hv
   cases hcs
   have hl:HL F N nx R (toL v.cells.toList) v.cells.toList:=HL.toL _
   cases v with
   |agg xs=>
    have hl':HL F N nx R (toL xs.toList) xs.toList:=hl
    have:=Bjc (hd _ hl') hf
    simpa using this
   |tuple xs=>cases hf
   |_=>
    simp only[UH,Bool.and_eq_true,Bool.not_eq_true'] at hf
    exact Btu (hd _ hl) hf.1 rfl
  ·cases hcs
   exact single h rfl (by simpa[UH] using hf)
  ·cases hcs
   exact single h rfl (by simpa[UH] using hf)
  ·cases hcs
   exact single h rfl (by simpa[UH] using hf)
  ·cases hcs
   exact single h rfl (by simpa[UH] using hf)
  ·cases hcs
   exact single h rfl (by simpa[UH] using hf)
  ·cases hcs
   exact single h rfl (by simpa[UH] using hf)
  ·cases hcs
   exact single h rfl (by simpa[UH] using hf)
  ·cases hcs
   exact single h rfl (by simpa[UH] using hf)
  ·cases hcs
   exact single h rfl (by simpa[UH] using hf)
  ·cases hcs
   obtain⟨vs,rfl,h2⟩:=h.agg_inv
   exact Bjc (hd _ h2) hf
end
theorem R7:freeL []=true:=by unfold freeL;rfl
theorem LS {x:A} {r:List A} (h:x.free=true) (k:freeL r=true):freeL (x::r)=true:=by unfold freeL;rw[h,k];rfl
theorem A6v (c:TC) (d:U c):(Ae c d).free=true:=by
 have hfr:∀l:List A,(∀x∈l,x.free=true)→freeL l=true:=fun l=>by
  induction l with
  |nil=>intro _;unfold freeL;rfl
  |cons x r ih=>intro h;unfold freeL;rw[h x (List.mem_cons_self ..),ih fun y hy=>h y (List.mem_cons_of_mem _ hy)];rfl
 have h:=Bd5 c d
 unfold Ae
 cases c.isAgg with
 |true=>
  show(VH (enc c d)).free=true
  unfold VH
  split
  ·unfold A.free;rfl
  ·unfold A.free;exact hfr _ h
 |false=>
  show A.free (match enc c d with|x::_=>x| []=> .dead)=true
  have hl:=Abt c d
  have hs:0 <size c:=by cases c<;>decide
  generalize enc c d=l at h hl
  cases l with
  |nil=>rw[←hl] at hs;cases hs
  |cons x r=>exact h x (List.mem_cons_self ..)
theorem Anu {P:Program} {f:FuncId} {args args':List A} {nx k nx':Nat} {o o':Objs} {x:A} (h:CallOk P f args' nx o k x nx' o') (ha:∀(F:Nat→Prop) (N:Nm) (R:World) (vs:List Value),HL F N nx R args vs→HL F N nx R args' vs):CallOk P f args nx o k x nx' o':=
 fun F N R vs hh hl=>h F N R vs hh (ha F N R vs hl)
inductive Kd where
 |l (c:TC)
 |t (c:TC)
def Fn (X:Type):List Kd→Type
 | []=>X
 | .l c::r=>List (U c)→Fn X r
 | .t c::r=>U c→Fn X r
abbrev FnP:=Fn (List Prop)
def B4h (ps:List Prop):Prop:=∀p∈ps,p
def B3f (q:List Prop):Option AU→Option AU
 |some (k,x,nx,o,p)=>some (k,x,nx,o,q++p)
 |none=>none
def Bp7 (m nx:Nat) (ob:Objs):(ks:List Kd)→Fn A ks→Fn Objs ks→FnP ks→List A→Option AU
 | [],r,o,ps,[]=>some (1,A.pk (Yj nx) r,nx+m,Yi nx o++ob,ps)
 | .l c::ks,r,o,ps,y::ys=>match Bxd c y with
  |some a=>Bp7 m nx ob ks (r a) (o a) (ps a) ys
  |none=>none
 | .t c::ks,r,o,ps,y::ys=>match B11 c y with
  |some (a,q)=>B3f q (Bp7 m nx ob ks (r a) (o a) (ps a) ys)
  |none=>none
 |_,_,_,_,_=>none
def A5 (ks:List Kd) (m:Nat) (r:Fn A ks) (o:Fn Objs ks) (ps:FnP ks):List A→Nat→Objs→Option AU:=fun args nx ob=>Bp7 m nx ob ks r o ps args
def OkG (P:Program) (f:FuncId) (m:Nat):(ks:List Kd)→List A→Fn A ks→Fn Objs ks→FnP ks→Prop
 | [],pre,r,o,ps=>B4h ps→CallOk P f pre 0 [] 1 r m o
 | .l c::ks,pre,r,o,ps=>∀a,OkG P f m ks (pre++[.sl c a]) (r a) (o a) (ps a)
 | .t c::ks,pre,r,o,ps=>∀a,OkG P f m ks (pre++[Ae c a]) (r a) (o a) (ps a)
theorem Aj8:∀{a b:List A},freeL a=true→freeL b=true→freeL (a++b)=true
 | [],_,_,h=>h
 |x::a,b,h,g=>by
  unfold freeL at h
  rw[Bool.and_eq_true] at h
  exact LS h.1 (Aj8 h.2 g)
theorem Byz {P:Program} {f:FuncId} {m nx:Nat} {ob:Objs}:∀(ks:List Kd) (pre ys:List A) (r:Fn A ks) (o:Fn Objs ks) (ps:FnP ks),freeL pre=true→OkG P f m ks pre r o ps→∀{k x nx' o' qs},Bp7 m nx ob ks r o ps ys=some (k,x,nx',o',qs)→
  (∃d,o'=d++ob)∧∃zs,freeL zs=true∧((∀p∈qs,p)→(∀(F:Nat→Prop) (N:Nm) (R:World) (vs:List Value),HL F N nx R ys vs→HL F N nx R zs vs)∧CallOk P f (pre++zs) nx ob k x nx' o'):=by
 intro ks
 induction ks with
 | nil=>
  intro pre ys r o ps hf hok k x nx' o' qs he
  cases ys with
  |cons y ys=>cases he
  |nil=>
   cases he
   exact⟨⟨_,rfl⟩,[],R7,fun hp=>⟨fun _ _ _ _ h=>h,by rw[List.append_nil];exact Ae1 (hok hp) (Nat.le_refl _) hf nx ob⟩⟩
 | cons kd ks ih=>
  intro pre ys r o ps hf hok k x nx' o' qs he
  cases ys with
  |nil=>cases kd<;>cases he
  | cons y ys=>
   cases kd with
   |l c=>
    unfold Bp7 at he
    split at he<;>first|(cases he;done)|skip
    rename_i a ha
    obtain⟨h1,zs,h2,h3⟩:=ih (pre++[.sl c a]) ys (r a) (o a) (ps a) (Aj8 hf (LS (by unfold A.free;rfl) R7)) (hok a) he
    refine⟨h1,.sl c a::zs,LS (by unfold A.free;rfl) h2,fun hp=>⟨fun F N R vs hl=>?_,by have:=(h3 hp).2;rwa[List.append_assoc] at this⟩⟩
    obtain⟨v,w,rfl,q1,q2⟩:=hl.inv
    exact HL.cons (Bnb ha q1) ((h3 hp).1 F N R w q2)
   |t c=>
    unfold Bp7 at he
    split at he<;>first|(cases he;done)|skip
    rename_i a q ha
    unfold B3f at he
    split at he<;>first|(cases he;done)|skip
    rename_i k1 x1 nx1 o1 p1 he1
    cases he
    obtain⟨h1,zs,h2,h3⟩:=ih (pre++[Ae c a]) ys (r a) (o a) (ps a) (Aj8 hf (LS (A6v _ _) R7)) (hok a) he1
    refine⟨h1,Ae c a::zs,LS (A6v _ _) h2,fun hp=>?_⟩
    have hp1:=fun p hm=>hp p (List.mem_append.2 (.inl hm))
    have hp2:=h3 fun p hm=>hp p (List.mem_append.2 (.inr hm))
    refine⟨fun F N R vs hl=>?_,by have:=hp2.2;rwa[List.append_assoc] at this⟩
    obtain⟨v,w,rfl,q1,q2⟩:=hl.inv
    exact HL.cons (Bxf ha hp1 q1) (hp2.1 F N R w q2)
theorem As {P:Program} {f:FuncId} {ks:List Kd} {m:Nat} {r:Fn A ks} {o:Fn Objs ks} {ps:FnP ks} (h:OkG P f m ks [] r o ps):Ev P f (A5 ks m r o ps):=fun args nx ob k x nx' o' qs he=>by
 obtain⟨h1,zs,_,h3⟩:=Byz ks [] args r o ps R7 h he
 exact⟨fun hp=>Anu (h3 hp).2 (h3 hp).1,h1⟩
end Go.Proofs.Yteebobbhhgmeiaa
namespace Go.Proofs.Yteebobbhhgmeiaa
open Go.RowKit
def It (k:IntKind) (n:Int):Prop:=(Lit.int k n).wf=true
def WfS (x:TStamp):Prop:=It .i64 x.n∧It .i64 x.site
def WfV (x:TVec):Prop:=It .i64 x.a∧It .i64 x.b
def Abi (x:TCell):Prop:=WfS x.stamp∧WfV x.vec∧True∧x.value.size≤maxLen∧WfV x.dead
def Bm6 (x:TRow):Prop:=x.key.size≤maxLen∧(x.cells.length≤maxLen∧∀y∈x.cells,Abi y)
def Bm7 (x:TWrite):Prop:=x.key.size≤maxLen∧It .i64 x.group∧True∧x.value.size≤maxLen
def Bm5 (x:TField):Prop:=It .i64 x.group∧x.value.size≤maxLen
def Wfd:(c:TC)→U c→Prop
 | .i64,n=>It .i64 n
 | .u32,n=>It .u32 n
 | .str,s=>s.size≤maxLen
 | .vec,x=>WfV x
 | .stamp,x=>WfS x
 | .cell,x=>Abi x
 | .group,x=>x.name.size≤maxLen∧It .i64 x.policy
 | .write,x=>Bm7 x
 | .row,x=>Bm6 x
 | .change,x=>It .i64 x.site∧It .i64 x.seq∧WfS x.stamp∧WfV x.vec∧(x.writes.length≤maxLen∧∀y∈x.writes,Bm7 y)
 | .field,x=>Bm5 x
 | .view,x=>x.key.size≤maxLen∧(x.fields.length≤maxLen∧∀y∈x.fields,Bm5 y)
 | .told,x=>It .i64 x.ack∧It .i64 x.own∧It .i64 x.come
 | .act,x=>It .i64 x.kind∧Bm6 x.row∧x.til.size≤maxLen∧It .i64 x.n
 | .front,x=>It .i64 x.site∧It .i64 x.acked∧It .i64 x.stable∧It .i64 x.wait∧It .i64 x.til
 | .ask,x=>WfS x.stamp∧WfV x.vec∧True∧x.value.size≤maxLen
 | .two,x=>Bm6 x.row∧It .i64 x.group∧Abi x.cell
 | .note,x=>x.name.size≤maxLen∧x.text.size≤maxLen
 | .packet,x=>It .i64 x.src∧x.bytes.size≤maxLen
 | .place,x=>x.key.size≤maxLen∧It .i64 x.group
 | .bytes,l=>l.length≤maxLen∧∀y∈l,True
 | .ints,l=>l.length≤maxLen∧∀y∈l,It .i64 y
 | .cells,l=>l.length≤maxLen∧∀y∈l,Abi y
 | .rows,l=>l.length≤maxLen∧∀y∈l,Bm6 y
 | .ask3,x=>x.key.size≤maxLen∧x.from_.size≤maxLen∧x.til.size≤maxLen∧It .i64 x.n
 | .three,x=>(x.a.length≤maxLen∧∀y∈x.a,Abi y)∧(x.b.length≤maxLen∧∀y∈x.b,Abi y)∧(x.c.length≤maxLen∧∀y∈x.c,Abi y)
 |_,_=>True
def FB (w:World) (F:Nat→Prop):Prop:=∀b,b <w.heap.size→F b
def B3c (P:Program) (c:TC) (t:TypeId) {H:Type} (en:TypeId×Value→H) (w:World) (base:Nat) (spare:Nat→Bool) (held:Bool):Prop:=
 ∀(m:Nat) (cs:List Value) (y:DataW H×List MemPlace),DataW.trod en P w base spare held m t cs=some y→∃x:U c,Wfd c x∧∀(F:Nat→Prop) (N:Nm) (nx:Nat),FB w F→HL F N nx w (enc c x) cs
def Opn (P:Program) (c:TC) (t:TypeId):Prop:=∀{H:Type} (en:TypeId×Value→H) (w:World) (base:Nat) (spare:Nat→Bool) (held:Bool),B3c P c t en w base spare held
def A41 (P:Program) (c:TC) (t:TypeId):Prop:=∀{H:Type} (en:TypeId×Value→H) (w:World) (base:Nat) (spare:Nat→Bool) (held:Bool) (m:Nat) (cs:List Value) (y:DataW H×List MemPlace),
 DataW.trod en P w base spare held m t cs=some y→∃l:List (U c),(l.length≤maxLen∧∀x∈l,Wfd c x)∧∀(F:Nat→Prop) (N:Nm) (nx:Nat),FB w F→HL F N nx w [.sl c l] cs
section
variable {P:Program} {t:TypeId}
theorem Byk (hu:P.underlying t=some (.int .i64)):Opn P .i64 t:=fun en w base spare held m cs y h=>by
 obtain⟨n,rfl,_,hw⟩:=DataW.trod_int hu h
 exact⟨n,hw,fun F N nx _=>HL.cons (Hv.v _) HL.nil⟩
theorem Buq (hu:P.underlying t=some .bool):Opn P .bool t:=fun en w base spare held m cs y h=>by
 obtain⟨n,rfl,_⟩:=DataW.trod_bool hu h
 exact⟨n,trivial,fun F N nx _=>HL.cons (Hv.v _) HL.nil⟩
theorem Byl (hu:P.underlying t=some .string):Opn P .str t:=fun en w base spare held m cs y h=>by
 obtain⟨n,rfl,_,hw⟩:=DataW.trod_string hu h
 exact⟨n,hw,fun F N nx _=>HL.cons (Hv.v _) HL.nil⟩
theorem Bnu {α:Type} {Q:Nat→α→Prop}:∀(n:Nat),(∀i,i <n→∃x,Q i x)→∃l:List α,l.length=n∧∀(i:Nat) (x:α),l[i]?=some x→Q i x
 |0,_=>⟨[],rfl,fun i x h=>by cases h⟩
 | n+1,h=>by
  obtain⟨l,h1,h2⟩:=Bnu n fun i hi=>h i (by omega)
  obtain⟨x,hx⟩:=h n (by omega)
  refine⟨l++[x],by simp[h1],fun i y hy=>?_⟩
  rcases Nat.lt_trichotomy i n with hi|rfl|hi
  ·rw[List.getElem?_append_left (by omega)] at hy
   exact h2 i y hy
  ·rw[List.getElem?_append_right (by omega)] at hy
   simp[h1] at hy
   subst hy
   exact hx
  ·rw[List.getElem?_eq_none (by simp;omega)] at hy
   cases hy
theorem Ajy {w:World} {base:Nat} {a:Addr} {n:Nat} {cs:List Value} (h:w.cells? base a n=some cs):base≤a.block∧cs.length=n∧∀(j:Nat) (v:Value),cs[j]?=some v→w.cell? (a.add j)=some v:=by
 unfold World.cells? at h
 split at h
 ·rename_i hb
  refine⟨hb,by simpa using mapM_some_length h,fun j v hv=>?_⟩
  have hl:cs.length=n:=by simpa using mapM_some_length h
  have hj:j <n:=by
   have:=(List.getElem?_eq_some_iff.1 hv).1
   omega
  have:=mapM_some_get h j j (by simp[hj])
  rw[this,hv]
 ·cases h
theorem Ayk {c:TC} {e:TypeId} (hu:P.underlying t=some (.slice e)) (hs:P.cellsOf e=size c) (he:Opn P c e):A41 P c t:=fun en w base spare held m cs y h=>by
 rcases DataW.trod_slice hu h with⟨rfl,_⟩|⟨a,len,cap,elems,rest,n,_,rfl,_,hb,hlc,hcm,hel,hg,_⟩
 ·exact⟨[],⟨Nat.zero_le _,fun x hx=>by cases hx⟩,fun F N nx _=>HL.cons (Hv.sl_nil (a:=none) rfl) HL.nil⟩
 ·have each:∀i,i <len→∃x:U c,Wfd c x∧∃zs,w.cells? base (a.add (i*size c)) (size c)=some zs∧∀(F:Nat→Prop) (N:Nm) (nx:Nat),FB w F→HL F N nx w (enc c x) zs:=fun i hi=>by
   have:=hg i hi
   rw[hs] at this
   have h2:elems[i]?≠none:=by
    intro h0
    rw[List.getElem?_eq_none_iff] at h0
    omega
   obtain⟨z,hz⟩:=Option.ne_none_iff_exists'.1 h2
   rw[hz] at this
   obtain⟨zs,h3,h4⟩:=Option.bind_eq_some_iff.1 this
   obtain⟨x,h5,h6⟩:=he en w base spare held n zs z h4
   exact⟨x,h5,zs,h3,h6⟩
  obtain⟨l,h1,h2⟩:=Bnu len each
  refine⟨l,⟨by omega,fun x hx=>?_⟩,fun F N nx hF=>HL.cons ?_ HL.nil⟩
  ·obtain⟨i,hi⟩:=List.getElem?_of_mem hx
   exact(h2 i x hi).1
  ·subst h1
   refine Hv.sl a hlc (fun hp=>⟨rfl,?_⟩) (fun i d j x hd hx=>?_) (fun i d j x y hd hx hy=>?_)
   ·obtain⟨_,zs,h3,h4⟩:=h2 0 l[0] (by rw[List.getElem?_eq_getElem hp])
    obtain⟨_,h5,h6⟩:=Ajy h3
    have hsz:0 <zs.length:=by rw[h5];cases c<;>decide
    have:=h6 0 zs[0] (by rw[List.getElem?_eq_getElem hsz])
    have:=World.block_lt_of_cell? w _ this
    rw[IP,IP] at this
    exact hF _ this
   ·obtain⟨_,zs,h3,h4⟩:=h2 i d hd
    obtain⟨v,h5,h6⟩:=(h4 F N nx hF).get hx
    refine⟨v,?_⟩
    rw[←DN]
    exact(Ajy h3).2.2 j v h5
   ·obtain⟨_,zs,h3,h4⟩:=h2 i d hd
    obtain⟨v,h5,h6⟩:=(h4 F N nx hF).get hx
    have:=(Ajy h3).2.2 j v h5
    rw[DN,hy] at this
    cases this
    exact h6
end
section
variable {H:Type} {en:TypeId×Value→H} {P:Program} {w:World} {base:Nat} {spare:Nat→Bool} {held:Bool} {F:Nat→Prop} {N:Nm} {nx:Nat}
theorem Afr {fs:Array Field} {cs:List Value} {m i:Nat} {xs:List (DataW H×List MemPlace)} {f:Field} {t:TypeId} {o k:Nat} {c:TC} (ho:Opn P c t) (hf:fs[i]?=some f) (ht:f.type=t) (hof:f.offset=o) (hk:P.cellsOf t=k) (hi:i <xs.length)
  (g:∀(i:Nat) (f:Field),fs[i]?=some f→DataW.trod en P w base spare held m f.type ((cs.drop f.offset).take (P.cellsOf f.type))=xs[i]?):∃x:U c,Wfd c x∧∀(F:Nat→Prop) (N:Nm) (nx:Nat),FB w F→HL F N nx w (enc c x) ((cs.drop o).take k):=by
 subst ht hof hk
 have:=g i f hf
 rw[List.getElem?_eq_getElem hi] at this
 exact ho en w base spare held m _ _ this
theorem B4j {fs:Array Field} {cs:List Value} {m i:Nat} {xs:List (DataW H×List MemPlace)} {f:Field} {t:TypeId} {o k:Nat} {c:TC} (ho:A41 P c t) (hf:fs[i]?=some f) (ht:f.type=t) (hof:f.offset=o) (hk:P.cellsOf t=k) (hi:i <xs.length)
  (g:∀(i:Nat) (f:Field),fs[i]?=some f→DataW.trod en P w base spare held m f.type ((cs.drop f.offset).take (P.cellsOf f.type))=xs[i]?):∃l:List (U c),(l.length≤maxLen∧∀x∈l,Wfd c x)∧∀(F:Nat→Prop) (N:Nm) (nx:Nat),FB w F→HL F N nx w [.sl c l] ((cs.drop o).take k):=by
 subst ht hof hk
 have:=g i f hf
 rw[List.getElem?_eq_getElem hi] at this
 exact ho en w base spare held m _ _ this
theorem B3i {cs:List Value} {m i n:Nat} {xs:List (DataW H×List MemPlace)} {t:TypeId} {k:Nat} {c:TC} (ho:Opn P c t) (hk:P.cellsOf t=k) (hx:i <xs.length) (hn:i <n)
  (g:∀(i:Nat),i <n→DataW.trod en P w base spare held m t ((cs.drop (i*P.cellsOf t)).take (P.cellsOf t))=xs[i]?):∃x:U c,Wfd c x∧∀(F:Nat→Prop) (N:Nm) (nx:Nat),FB w F→HL F N nx w (enc c x) ((cs.drop (i*k)).take k):=by
 subst hk
 have:=g i hn
 rw[List.getElem?_eq_getElem hx] at this
 exact ho en w base spare held m _ _ this
theorem HLd {o k:Nat} {cs:List Value} {l r:List A} (h:HL F N nx w l ((cs.drop o).take k)) (h':HL F N nx w r (cs.drop (o+k))):HL F N nx w (l++r) (cs.drop o):=by
 have e:cs.drop o=(cs.drop o).take k++cs.drop (o+k):=by
  rw[←List.drop_drop,List.take_append_drop]
 rw[e]
 exact h.append h'
theorem HLe {o:Nat} {cs:List Value} (h:cs.length=o):HL F N nx w [] (cs.drop o):=by
 rw[List.drop_eq_nil_of_le (by omega)]
 exact HL.nil
end
end Go.Proofs.Yteebobbhhgmeiaa
namespace Go.Proofs.Yteebobbhhgmeiaa
open Go.RowKit
theorem Axb {X:Type} {next:X→X} {goes:X→Cnd} {ps:X→List Prop} (I:X→Prop) (m:X→Nat) (h:∀x,I x→(∀p∈ps x,p)∧(Be (goes x)=true→I (next x)∧m (next x) <m x)):
  ∀(n:Nat) (x:X),I x→m x≤n→AD next goes ps n x∧I (AZ next goes n x)∧Be (goes (AZ next goes n x))=false
 | 0,x,hi,hm=>by
  obtain⟨h1,h2⟩:=h x hi
  have hg:Be (goes x)=false:=by
   cases hc:Be (goes x) with
   |false=>rfl
   |true=>have:=(h2 hc).2;omega
  exact⟨⟨h1,hg⟩,hi,hg⟩
 | n+1,x,hi,hm=>by
  obtain⟨h1,h2⟩:=h x hi
  cases hc:Be (goes x) with
  | false=>
   have e:AZ next goes (n+1) x=x:=by
    show(bif Be (goes x) then _ else x)=x
    rw[hc];rfl
   rw[e]
   exact⟨⟨h1,fun hh=>by rw[hc] at hh;cases hh⟩,hi,hc⟩
  | true=>
   have e:AZ next goes (n+1) x=AZ next goes n (next x):=by
    show(bif Be (goes x) then _ else x)=_
    rw[hc];rfl
   obtain⟨h3,h4⟩:=h2 hc
   obtain⟨g1,g2,g3⟩:=Axb I m h n (next x) h3 (by omega)
   rw[e]
   exact⟨⟨h1,fun _=>g1⟩,g2,g3⟩
theorem i64_in {n:Int} (h:-9223372036854775808≤n∧n≤9223372036854775807):IntKind.i64.wrap n=n:=IntWalk.i64_in n h
end Go.Proofs.Yteebobbhhgmeiaa
namespace Go.Proofs.Yteebobbhhgmeiaa
open Go.RowKit
def KS (n:Int):Nat:=if n <0∨n >4611686018427387903 then 0 else if n≥1073741824 then 8 else if n≥16384 then 4 else if n≥64 then 2 else 1
def be:Nat→Nat→List UInt8
 |0,_=>[]
 |k+1,N=>UInt8.ofNat (N / 256^k)::be k N
def Bvp (k:Nat):Nat:=if k=2 then 1 else if k=4 then 2 else if k=8 then 3 else 0
def Nk (n:Int):List UInt8:=be (KS n) (n.toNat+Bvp (KS n)*(64*256^(KS n - 1)))
def val (acc:Nat) (l:List UInt8):Nat:=l.foldl (fun a y=>a*256+y.toNat) acc
def Am:List UInt8→Int×Int×Int
 | []=>(0,0,10)
 |x::r=>if r.length+1 <2^(x.toNat / 64) then(0,0,10) else if KS (val (x.toNat % 64) (r.take (2^(x.toNat / 64) - 1))) <2^(x.toNat / 64) then(0,0,11) else((val (x.toNat % 64) (r.take (2^(x.toNat / 64) - 1)):Int),((2^(x.toNat / 64):Nat):Int),0)
theorem YA (x:UInt8) (r:List UInt8):Am (x::r)=if r.length+1 <2^(x.toNat / 64) then(0,0,10) else if KS (val (x.toNat % 64) (r.take (2^(x.toNat / 64) - 1))) <2^(x.toNat / 64) then(0,0,11) else((val (x.toNat % 64) (r.take (2^(x.toNat / 64) - 1)):Int),((2^(x.toNat / 64):Nat):Int),0):=rfl
theorem KL:∀(k N:Nat),(be k N).length=k
 |0,_=>rfl
 |k+1,N=>by unfold be;rw[List.length_cons,KL]
theorem To (acc:Nat) (x:UInt8) (r:List UInt8):val acc (x::r)=val (acc*256+x.toNat) r:=rfl
theorem Ut:∀(l:List UInt8) (acc:Nat),val acc l=acc*256^l.length+val 0 l
 | [],acc=>by show acc=acc*256^0+0;omega
 |x::r,acc=>by
  rw[To,To,Ut r,Ut r (0*256+x.toNat),List.length_cons,Nat.pow_succ,Nat.zero_mul,Nat.zero_add,Nat.add_mul,Nat.mul_assoc,Nat.mul_comm 256]
  omega
theorem Bbm:∀(l:List UInt8),val 0 l <256^l.length
 | []=>by show 0 <256^0;decide
 |x::r=>by
  rw[To,Ut,List.length_cons,Nat.pow_succ,Nat.zero_mul,Nat.zero_add]
  have h1:=Bbm r
  have h2:x.toNat+1≤256:=x.toNat_lt
  have:=Nat.mul_le_mul_right (256^r.length) h2
  rw[Nat.add_mul,Nat.one_mul] at this
  rw[Nat.mul_comm (256^r.length)]
  omega
theorem Bih:∀(k N a:Nat),be k (N+a*256^k)=be k N
 |0,_,_=>rfl
 |k+1,N,a=>by
  unfold be
  have h:N+a*256^(k+1)=N+a*256*256^k:=by rw[Nat.pow_succ,Nat.mul_assoc,Nat.mul_comm (256^k)]
  rw[h,Bih k N (a*256),Nat.add_mul_div_right _ _ (Nat.pow_pos (by decide))]
  congr 1
  apply UInt8.toNat_inj.1
  rw[UInt8.toNat_ofNat',UInt8.toNat_ofNat']
  omega
theorem Bsy:∀(l:List UInt8),be l.length (val 0 l)=l
 | []=>rfl
 | x::r=>by
  rw[List.length_cons]
  have e:val 0 (x::r)=val 0 r+x.toNat*256^r.length:=by
   rw[To,Ut,Nat.zero_mul,Nat.zero_add,Nat.add_comm]
  unfold be
  rw[e,Bih,Bsy r,Nat.add_mul_div_right _ _ (Nat.pow_pos (by decide)),Nat.div_eq_of_lt (Bbm r),Nat.zero_add]
  congr 1
  exact UInt8.ofNat_toNat
theorem Bwj:∀(k N acc:Nat),val acc (be k N)=acc*256^k+N % 256^k
 |0,N,acc=>by show acc=acc*256^0+N % 256^0;omega
 |k+1,N,acc=>by
  unfold be
  have h8:(UInt8.ofNat (N / 256^k)).toNat=N / 256^k % 256:=by rw[UInt8.toNat_ofNat']
  have hm:=Nat.mod_pow_succ (x:=N) (b:=256) (k:=k)
  rw[To,Bwj k,h8,hm,Nat.pow_succ,Nat.add_mul,Nat.mul_assoc,Nat.mul_comm 256 (256^k),Nat.mul_comm (256^k) (N / 256^k % 256)]
  omega
def szs (k:Nat):Prop:=k=1∨k=2∨k=4∨k=8
theorem Boo {n:Int} (h0:0≤n) (h1:n≤4611686018427387903):szs (KS n)∧n.toNat <64*256^(KS n - 1):=by
 unfold KS szs
 rw[if_neg (by omega)]
 split
 ·exact⟨by decide,by show n.toNat <64*256^7;omega⟩
 ·split
  ·exact⟨by decide,by show n.toNat <64*256^3;omega⟩
  ·split
   ·exact⟨by decide,by show n.toNat <64*256^1;omega⟩
   ·exact⟨by decide,by show n.toNat <64*256^0;omega⟩
theorem B4c {n k:Nat} (hk:szs k) (h:n <64*256^(k - 1)):KS n≤k∧1≤KS n∧n≤4611686018427387903:=by
 unfold KS
 rcases hk with rfl|rfl|rfl|rfl
 ·have h':n <64:=h
  rw[if_neg (by omega),if_neg (by omega),if_neg (by omega),if_neg (by omega)];omega
 ·have h':n <64*256:=h
  rw[if_neg (by omega),if_neg (by omega),if_neg (by omega)]
  split<;>omega
 ·have h':n <64*256^3:=h
  have h'':n <1073741824:=by omega
  rw[if_neg (by omega),if_neg (by omega)]
  split
  ·omega
  ·split<;>omega
 ·have h':n <64*256^7:=h
  have h'':n <4611686018427387904:=by omega
  rw[if_neg (by omega)]
  split
  ·omega
  ·split
   ·omega
   ·split<;>omega
theorem B2t {k:Nat} (hk:szs k):Bvp k≤3∧2^Bvp k=k:=by
 rcases hk with rfl|rfl|rfl|rfl<;>decide
theorem Bvq {t:Nat} (h:t≤3):szs (2^t)∧Bvp (2^t)=t:=by
 match t,h with
 |0,_=>exact⟨by unfold szs;decide,rfl⟩
 |1,_=>exact⟨by unfold szs;decide,rfl⟩
 |2,_=>exact⟨by unfold szs;decide,rfl⟩
 |3,_=>exact⟨by unfold szs;decide,rfl⟩
 |n+4,h=>omega
theorem MY (n:Int):(Nk n).length=KS n:=KL _ _
theorem Bx1 {n:Int} (h0:0≤n) (h1:n≤4611686018427387903) (r:List UInt8):Am (Nk n++r)=(n,(KS n:Int),0):=by
 obtain⟨hk,hn⟩:=Boo h0 h1
 unfold Nk
 generalize hkk:KS n=k at*
 obtain⟨m,rfl⟩:∃m,k=m+1:=⟨k - 1,by unfold szs at hk;omega⟩
 obtain⟨t1,t2⟩:=B2t hk
 generalize Bvp (m+1)=t at*
 rw[Nat.add_sub_cancel] at hn⊢
 have hp:0 <256^m:=Nat.pow_pos (by decide)
 have e1:(n.toNat+t*(64*256^m)) / 256^m=n.toNat / 256^m+t*64:=by rw[←Nat.mul_assoc,Nat.add_mul_div_right _ _ hp]
 have e2:n.toNat / 256^m <64:=by rw[Nat.div_lt_iff_lt_mul hp];exact hn
 have e3:(n.toNat+t*(64*256^m)) % 256^m=n.toNat % 256^m:=by rw[←Nat.mul_assoc,Nat.add_mul_mod_self_right]
 unfold be
 rw[e1]
 have aux:∀q:Nat,q <64→(UInt8.ofNat (q+t*64)).toNat=q+t*64∧(q+t*64) / 64=t∧(q+t*64) % 64=q:=fun q hq=>by
  rw[UInt8.toNat_ofNat']
  omega
 obtain⟨hx,ht,hm⟩:=aux _ e2
 show Am (UInt8.ofNat (n.toNat / 256^m+t*64)::(be m (n.toNat+t*(64*256^m))++r))=_
 rw[YA,hx,ht,hm,t2,Nat.add_sub_cancel]
 have hl:(be m (n.toNat+t*(64*256^m))++r).take m=be m (n.toNat+t*(64*256^m)):=by
  rw[List.take_append_of_le_length (by rw[KL];exact Nat.le_refl _),List.take_of_length_le (by rw[KL];exact Nat.le_refl _)]
 rw[hl,Bwj,e3]
 have hv:n.toNat / 256^m*256^m+n.toNat % 256^m=n.toNat:=by rw[Nat.mul_comm];exact Nat.div_add_mod _ _
 rw[hv,if_neg (by rw[List.length_append,KL];omega)]
 have hnn:(n.toNat:Int)=n:=Int.toNat_of_nonneg h0
 rw[hnn,hkk,if_neg (by omega)]
theorem Byr {b:List UInt8} {n k:Int} (h:Am b=(n,k,0)):0≤n∧n≤4611686018427387903∧k=(KS n:Int)∧KS n≤b.length∧b.take (KS n)=Nk n:=by
 cases b with
 |nil=>cases h
 | cons x r=>
  rw[YA] at h
  split at h
  ·cases h
  ·rename_i hlen
   split at h
   ·cases h
   ·rename_i hsz
    have hxl:x.toNat <256:=x.toNat_lt
    obtain⟨k1,k2⟩:=Bvq (t:=x.toNat / 64) (by omega)
    generalize hK:2^(x.toNat / 64)=K at*
    obtain⟨m,rfl⟩:∃m,K=m+1:=⟨K - 1,by unfold szs at k1;omega⟩
    rw[Nat.add_sub_cancel] at*
    have hrl:(r.take m).length=m:=by rw[List.length_take];omega
    have hv:=Ut (r.take m) (x.toNat % 64)
    have hlt:=Bbm (r.take m)
    rw[hrl] at hv hlt
    generalize hN:val (x.toNat % 64) (r.take m)=M at*
    have hM:M <64*256^m:=by
     have:x.toNat % 64+1≤64:=by omega
     have:=Nat.mul_le_mul_right (256^m) this
     rw[Nat.add_mul,Nat.one_mul] at this
     omega
    obtain⟨s1,s2,s3⟩:=B4c k1 (by rw[Nat.add_sub_cancel];exact hM)
    have hs:KS (M:Int)=m+1:=by omega
    injection h with h1 h
    injection h with h2 h3
    subst h1
    refine⟨by omega,by omega,by rw[hs,←h2],by rw[hs,List.length_cons];omega,?_⟩
    rw[hs]
    unfold Nk
    rw[hs,k2,Nat.add_sub_cancel,Int.toNat_natCast]
    have e:M+x.toNat / 64*(64*256^m)=val 0 (x::r.take m):=by
     rw[To,Nat.zero_mul,Nat.zero_add,Ut,hrl,hv,←Nat.mul_assoc]
     have hx:=Nat.div_add_mod x.toNat 64
     have:x.toNat*256^m=(x.toNat / 64*64+x.toNat % 64)*256^m:=by congr 1;omega
     rw[this,Nat.add_mul]
     omega
    rw[e]
    have hb:=Bsy (x::r.take m)
    rw[List.length_cons,hrl] at hb
    rw[hb]
    rfl
theorem Bsx:∀(k N i:Nat),i <k→(be k N)[i]?=some (UInt8.ofNat (N / 256^(k - 1 - i)))
 |0,_,_,h=>by omega
 |k+1,N,0,_=>by unfold be;rfl
 |k+1,N,i+1,h=>by
  unfold be
  rw[List.getElem?_cons_succ,Bsx k N i (by omega)]
  have:k - 1 - i=k+1 - 1 - (i+1):=by omega
  rw[this]
theorem Bxh {k N i:Nat} (h:i <k):(be k N).take (i+1)=(be k N).take i++[UInt8.ofNat (N / 256^(k - 1 - i))]:=by
 rw[List.take_add_one,Bsx k N i h]
 rfl
theorem Byo (j:Nat):(2:Int)^(8*j)=((256^j:Nat):Int):=by
 rw[Int.pow_mul]
 norm_cast
theorem Bu5 {n:Int} {k i:Nat} (hn:0≤n) (hk:k≤8) (hi:i <k):
  UInt8.ofNat (IntKind.u8.wrap (n.fdiv ((2:Int)^min (IntKind.u64.wrap (IntKind.i64.wrap ((8:Int)*IntKind.i64.wrap (IntKind.i64.wrap ((k:Int) - (1:Int)) - (i:Int))))).toNat (64:Nat)))).toNat=UInt8.ofNat (n.toNat / 256^(k - 1 - i)):=by
 have e1:IntKind.u64.wrap (IntKind.i64.wrap ((8:Int)*IntKind.i64.wrap (IntKind.i64.wrap ((k:Int) - (1:Int)) - (i:Int))))=((8*(k - 1 - i):Nat):Int):=by
  rw[i64_in (n:=(k:Int) - 1) (by omega),i64_in (n:=(k:Int) - 1 - (i:Int)) (by omega),i64_in (by omega),IntWalk.u64_in _ (by omega)]
  omega
 rw[e1,Int.toNat_natCast,Nat.min_eq_left (by omega),Byo]
 have e2:n=(n.toNat:Int):=(Int.toNat_of_nonneg hn).symm
 have e3:n.fdiv ((256^(k - 1 - i):Nat):Int)=((n.toNat / 256^(k - 1 - i):Nat):Int):=by
  rw[Int.fdiv_eq_ediv_of_nonneg _ (Int.natCast_nonneg _)]
  conv=>lhs;rw[e2]
  exact(Int.natCast_ediv _ _).symm
 rw[e3]
 generalize n.toNat / 256^(k - 1 - i)=q
 have e4:IntKind.u8.wrap (q:Int)=((q % 256:Nat):Int):=by
  rw[IntKind.wrap_u8]
  omega
 rw[e4,Int.toNat_natCast]
 apply UInt8.toNat_inj.1
 rw[UInt8.toNat_ofNat',UInt8.toNat_ofNat']
 omega
theorem B2l:∀(t:Fin 4) (q:Fin 64),(BitVec.ofInt 8 (q.val:Int) ||| BitVec.ofInt 8 ((64*t.val:Nat):Int)).toNat=q.val+t.val*64:=by decide+kernel
theorem Bym {q t:Nat} (hq:q <64) (ht:t <4):UInt8.ofNat (IntKind.u8.wrap ((BitVec.ofInt 8 (((UInt8.ofNat q).toNat:Nat):Int) ||| BitVec.ofInt 8 ((64*t:Nat):Int)).toNat:Int)).toNat=UInt8.ofNat (q+t*64):=by
 have h1:(UInt8.ofNat q).toNat=q:=by rw[UInt8.toNat_ofNat'];omega
 rw[h1,B2l ⟨t,ht⟩ ⟨q,hq⟩,IntWalk.u8_in _ (by show 0≤((q+t*64:Nat):Int)∧((q+t*64:Nat):Int)≤255;omega),Int.toNat_natCast]
theorem Bbc {m N t:Nat} (b:List UInt8) (hN:N <64*256^m) (ht:t <4) (d:UInt8):
  (b++be (m+1) N).set b.length (UInt8.ofNat (IntKind.u8.wrap ((BitVec.ofInt 8 ((((b++be (m+1) N).getD b.length d).toNat:Nat):Int) ||| BitVec.ofInt 8 ((64*t:Nat):Int)).toNat:Int)).toNat)=b++be (m+1) (N+t*(64*256^m)):=by
 have hp:0 <256^m:=Nat.pow_pos (by decide)
 have e2:N / 256^m <64:=by rw[Nat.div_lt_iff_lt_mul hp];exact hN
 have e0:be (m+1) N=UInt8.ofNat (N / 256^m)::be m N:=rfl
 have e1:be (m+1) (N+t*(64*256^m))=UInt8.ofNat (N / 256^m+t*64)::be m N:=by
  show UInt8.ofNat ((N+t*(64*256^m)) / 256^m)::be m (N+t*(64*256^m))=_
  rw[←Nat.mul_assoc,Bih,Nat.add_mul_div_right _ _ hp]
 have hg:(b++be (m+1) N).getD b.length d=UInt8.ofNat (N / 256^m):=by
  rw[e0,List.getD_eq_getElem?_getD,List.getElem?_append_right (Nat.le_refl _),Nat.sub_self]
  rfl
 rw[hg,Bym e2 ht,e0,e1,List.set_append_right _ _ (Nat.le_refl _),Nat.sub_self]
 rfl
theorem Byn {a:Nat} (ha:a <64*256^6) {y:UInt8}:IntKind.i64.wrap ((BitVec.ofInt 64 (IntKind.i64.wrap ((a:Int)*256)) ||| BitVec.ofInt 64 (IntKind.i64.wrap ((y.toNat:Nat):Int))).toNat:Int)=((a*256+y.toNat:Nat):Int):=by
 have hy:y.toNat <256:=y.toNat_lt
 have h6:64*256^6=18014398509481984:=by decide
 rw[h6] at ha
 rw[i64_in (n:=(a:Int)*256) (by omega),i64_in (n:=((y.toNat:Nat):Int)) (by omega)]
 have e1:(a:Int)*256=((a*256:Nat):Int):=by omega
 have e2:(BitVec.ofInt 64 ((a*256:Nat):Int) ||| BitVec.ofInt 64 ((y.toNat:Nat):Int)).toNat=a*256+y.toNat:=by
  rw[BitVec.toNat_or,BitVec.toNat_ofInt,BitVec.toNat_ofInt]
  have m1:(((a*256:Nat):Int) % ((2^64:Nat):Int)).toNat=2^8*a:=by omega
  have m2:(((y.toNat:Nat):Int) % ((2^64:Nat):Int)).toNat=y.toNat:=by omega
  rw[m1,m2,←Nat.two_pow_add_eq_or_of_lt hy]
  omega
 rw[e1,e2,i64_in (by omega)]
theorem Bwk (a:Nat) (L:List UInt8) (i:Nat) (h:i <L.length) {d:UInt8}:((val a (L.take i)*256+(L.getD i d).toNat:Nat):Int)=(val a (L.take (i+1)):Int):=by
 have e:L.take (i+1)=L.take i++[L.getD i d]:=by
  rw[List.take_add_one,List.getD_eq_getElem?_getD,List.getElem?_eq_getElem h]
  rfl
 rw[e]
 unfold val
 rw[List.foldl_append]
 rfl
theorem B3u (x:UInt8):IntKind.i64.wrap ((1:Int)*(2:Int)^min ((((x.toNat:Nat):Int)).fdiv (64:Int)).toNat (64:Nat))=((2^(x.toNat / 64):Nat):Int):=by
 have hx:x.toNat <256:=x.toNat_lt
 have e:((((x.toNat:Nat):Int)).fdiv (64:Int)).toNat=x.toNat / 64:=by
  rw[Int.fdiv_eq_ediv_of_nonneg _ (by decide)]
  omega
 rw[e,Nat.min_eq_left (by omega)]
 have:x.toNat / 64≤3:=by omega
 generalize x.toNat / 64=t at*
 match t,this with
 |0,_=>rfl
 |1,_=>rfl
 |2,_=>rfl
 |3,_=>rfl
 |n+4,h=>omega
theorem Bub:∀q:Fin 256,(BitVec.ofInt 8 (q.val:Int) &&& BitVec.ofInt 8 63).toNat=q.val % 64:=by decide+kernel
theorem Bx0 (x:UInt8):IntKind.i64.wrap (IntKind.u8.wrap ((BitVec.ofInt 8 ((x.toNat:Nat):Int) &&& BitVec.ofInt 8 63).toNat:Int))=((x.toNat % 64:Nat):Int):=by
 have hx:x.toNat <256:=x.toNat_lt
 rw[Bub ⟨x.toNat,hx⟩,IntWalk.u8_in _ (by show 0≤((x.toNat % 64:Nat):Int)∧((x.toNat % 64:Nat):Int)≤255;omega),i64_in (by show -9223372036854775808≤((x.toNat % 64:Nat):Int)∧((x.toNat % 64:Nat):Int)≤9223372036854775807;omega)]
end Go.Proofs.Yteebobbhhgmeiaa
namespace Go.Proofs.Yteebobbhhgmeiaa
open Go.RowKit
def Qs (a0:Int):Bool:=!(decide (a0 <(0:Int))||decide (a0 >(4611686018427387903:Int)))&&(!decide (a0≥(1073741824:Int))&&decide (a0≥(16384:Int)))
def Qr (a0:Int):Bool:=!(decide (a0 <(0:Int))||decide (a0 >(4611686018427387903:Int)))&&(!decide (a0≥(1073741824:Int))&&(!decide (a0≥(16384:Int))&&decide (a0≥(64:Int))))
def Xb (a0:Int):Bool:=!(decide (a0 <(0:Int))||decide (a0 >(4611686018427387903:Int)))&&(!(!(decide (a0 <(0:Int))||decide (a0 >(4611686018427387903:Int)))&&decide (a0≥(1073741824:Int)))&&(!(Qs a0)&&!(Qr a0)))
def A3 (a0:Int):Int:=bif !(!(decide (a0 <(0:Int))||decide (a0 >(4611686018427387903:Int)))&&decide (a0≥(1073741824:Int)))&&(!(Qs a0)&&(!(Qr a0)&&!(Xb a0))) then(0:Int) else IntKind.i64.wrap ((bif(Xb a0) then(0:Int) else IntKind.i64.wrap ((bif(Qr a0) then(0:Int) else IntKind.i64.wrap ((bif(Qs a0) then(0:Int) else(4:Int))+(2:Int)))+(1:Int)))+(1:Int))
def Ack (a0:Int):A:=.v (.int .i64 (A3 a0))
def Acj (_a0:Int):Objs:=[]
def Xc (_a0:Int):List Prop:=[]
theorem Bfj (a0:Int):Er (Au C0 L0) 9 157 [Ae .i64 a0] 0 []=some (1,Ack a0,0,Acj a0,Xc a0):=by kernel_rfl
theorem Bju (a0:Int) (hp:∀p∈Xc a0,p):CallOk Try.prog 157 [Ae .i64 a0] 0 [] 1 (Ack a0) 0 (Acj a0):=Az (Ap Bzp Ay) (Bfj a0) hp
def Ayc:List A→Nat→Objs→Option AU:=A5 [.t .i64] 0 Ack Acj Xc
theorem A9r:Ev Try.prog 157 Ayc:=As (ks:=[.t .i64]) Bju
noncomputable def Bq3:=AQ 157 Ayc C0
theorem A63:Cp Try.prog Bq3:=Ak A9r Bzp
abbrev D6:Type:=Int×Int×Int×Int×(List UInt8)
def N6 (x:D6):St:=⟨59,3,[(1,.v (.int .i64 x.1)),(5,.sq 2),(6,.v (.int .i64 x.2.1)),(16,.v (.int .i64 x.2.2.1)),(17,.v (.int .i64 x.2.2.2.1))],[(2,some (.arr 5 1 (.ty .u8 x.2.2.2.2)))]⟩
def Rz:St→Option D6
 |⟨59,3,[(1,.v (.int .i64 z0)),(5,.sq 2),(6,.v (.int .i64 z1)),(16,.v (.int .i64 z2)),(17,.v (.int .i64 z3))],[(2,some (.arr 5 1 (.ty .u8 z4)))]⟩=>some (z0,z1,z2,z3,z4)
 |_=>none
theorem Asp:∀s x,Rz s=some x→s=N6 x:=fun s x h=>by
 unfold Rz at h
 split at h
 ·cases h;rfl
 ·cases h
def Ahq:CU:=⟨2,3,[1,5,6,16,17],[],[(4,2)],[4],[5],[2]⟩
def A9q:C9:=⟨[],[(1,2)],[1,5,6,16,17],[1]⟩
def IG (a0:Int) (a1:Int) (_a2:Int) (a3:Int) (_a4:List UInt8):Int:=IntKind.u8.wrap (a0.fdiv ((2:Int)^min (IntKind.u64.wrap (IntKind.i64.wrap ((8:Int)*IntKind.i64.wrap (IntKind.i64.wrap (a1 - (1:Int)) - a3)))).toNat (64:Nat)))
def Ax8 (a0:Int) (a1:Int) (a2:Int) (a3:Int) (a4:List UInt8):List UInt8:=a4++[UInt8.ofNat (IG a0 a1 a2 a3 a4).toNat]
def FM (x:D6):D6:=(x.1,x.2.1,x.2.2.1,IntKind.i64.wrap (x.2.2.2.1+(1:Int)),Ax8 x.1 x.2.1 x.2.2.1 x.2.2.2.1 x.2.2.2.2)
def FL (x:D6):Cnd:=some (!!decide (x.2.2.2.1 <x.2.2.1))
def W9 (x:D6):List Prop:=[((!!decide (x.2.2.2.1 <x.2.2.1))=true→(0:Int)≤IntKind.u64.wrap (IntKind.i64.wrap ((8:Int)*IntKind.i64.wrap (IntKind.i64.wrap (x.2.1 - (1:Int)) - x.2.2.2.1)))),((!!decide (x.2.2.2.1 <x.2.2.1))=true→Ag (x.2.2.2.2.length+(1:Nat))),((!!decide (x.2.2.2.1 <x.2.2.1))=true→(0:Int)≤(IG x.1 x.2.1 x.2.2.1 x.2.2.2.1 x.2.2.2.2)∧(IG x.1 x.2.1 x.2.2.1 x.2.2.2.1 x.2.2.2.2) <(256:Int))]
def IU (x:D6):List Prop:=[((!!decide (x.2.2.2.1 <x.2.2.1))=true→Ag (x.2.2.2.2.length+(1:Nat)))]
def UZ (x:D6):Bb:=[(some 0,some (!decide (x.2.2.2.1 <x.2.2.1)),⟨59,3,[(5,.sq 2)],[(2,some (.arr 5 1 (.ty .u8 x.2.2.2.2)))]⟩)]
def Hb (x:D6):Nat:=(x.2.2.1 - x.2.2.2.1).toNat
def O6 (x:D6):D6:=AZ FM FL (Hb x) x
theorem A3k (a0:Int) (a1:Int) (a2:Int) (a3:Int) (a4:List UInt8):Bl (Au Bq3 L0) 9 (Af Try.prog 119 0) Ahq (N6 (a0,a1,a2,a3,a4))=some (W9 (a0,a1,a2,a3,a4),UZ (a0,a1,a2,a3,a4),FL (a0,a1,a2,a3,a4),N6 (FM (a0,a1,a2,a3,a4))):=by kernel_rfl
theorem A3l (a0:Int) (a1:Int) (a2:Int) (a3:Int) (a4:List UInt8) (hp:∀p∈IU (a0,a1,a2,a3,a4),p):∀p∈W9 (a0,a1,a2,a3,a4),p:=by
 have n0:((!!decide (a3 <a2))=true→(0:Int)≤IntKind.u64.wrap (IntKind.i64.wrap ((8:Int)*IntKind.i64.wrap (IntKind.i64.wrap (a1 - (1:Int)) - a3)))):=by intros;exact Bzn _
 have n1:=N0 hp
 have n2:((!!decide (a3 <a2))=true→(0:Int)≤(IG a0 a1 a2 a3 a4)∧(IG a0 a1 a2 a3 a4) <(256:Int)):=by intros;exact Bbv _
 exact(Aa n0 (Aa n1 (Aa n2 Ad)))
noncomputable def Xa:=Hw (Au Bq3 L0) (Af Try.prog 119 0) Ahq A9q Rz Hb FM FL IU UZ
theorem Ax9:∀s b ps outs,Xa s=some (b,ps,outs)→Wf s ⟨ps,outs,none⟩∧Bh (Au C0 L0) b s ps outs:=
 A9 (T:=N6) A63 Ay (u:=9) (by kernel_rfl) (by decide) (fun⟨a0,a1,a2,a3,a4⟩=>A3k a0 a1 a2 a3 a4) (fun⟨a0,a1,a2,a3,a4⟩=>A3l a0 a1 a2 a3 a4) Asp (fun _=>AH (n:=59) rfl) fun _ _=>rfl
noncomputable def Ahp:=Di 0 Xa L0
theorem Ax7:G1 Ahp:=AS Ax9 Ay
def GT (_a0:List UInt8) (a1:Int):Bool:=A3 a1==(8:Int)
def BE (_a0:List UInt8) (a1:Int):Bool:=A3 a1==(4:Int)
def AY (_a0:List UInt8) (a1:Int):Bool:=A3 a1==(2:Int)
def AF (a0:List UInt8) (_a1:Int):Int:=(↑([]++a0).length:Int)
def AT (a0:List UInt8) (a1:Int):List UInt8:=(O6 (a1,A3 a1,A3 a1,(0:Int),[]++a0)).snd.snd.snd.snd
def Md (a0:List UInt8) (a1:Int):Int:=IntKind.u8.wrap (↑(BitVec.ofInt (8:Nat) (↑(UInt8.toNat ((AT a0 a1).getD (AF a0 a1).toNat (Ac TC.u8))):Int) ||| BitVec.ofInt (8:Nat) (192:Int)).toNat:Int)
def Mc (a0:List UInt8) (a1:Int):Int:=IntKind.u8.wrap (↑(BitVec.ofInt (8:Nat) (↑(UInt8.toNat ((AT a0 a1).getD (AF a0 a1).toNat (Ac TC.u8))):Int) ||| BitVec.ofInt (8:Nat) (128:Int)).toNat:Int)
def Mb (a0:List UInt8) (a1:Int):Int:=IntKind.u8.wrap (↑(BitVec.ofInt (8:Nat) (↑(UInt8.toNat ((AT a0 a1).getD (AF a0 a1).toNat (Ac TC.u8))):Int) ||| BitVec.ofInt (8:Nat) (64:Int)).toNat:Int)
def Aln (a0:List UInt8) (a1:Int):List UInt8:=bif(AY a0 a1) then(AT a0 a1).set (AF a0 a1).toNat (UInt8.ofNat (Mb a0 a1).toNat) else bif(BE a0 a1) then(AT a0 a1).set (AF a0 a1).toNat (UInt8.ofNat (Mc a0 a1).toNat) else bif(GT a0 a1) then(AT a0 a1).set (AF a0 a1).toNat (UInt8.ofNat (Md a0 a1).toNat) else(AT a0 a1)
def A52 (_a0:List UInt8) (_a1:Int):A:=.sq 0
def YM (a0:List UInt8) (a1:Int):Objs:=[(0,some (.arr 5 1 (.ty .u8 (Aln a0 a1))))]
def Aya (a0:List UInt8) (a1:Int):List Prop:=[(Ag ((0:Nat)+a0.length)),(AD FM FL IU (Hb (a1,A3 a1,A3 a1,(0:Int),[]++a0)) (a1,A3 a1,A3 a1,(0:Int),[]++a0)),((AY a0 a1)=true→(0:Int)≤(AF a0 a1)∧(AF a0 a1) <(↑(AT a0 a1).length:Int)),((AY a0 a1)=false→(BE a0 a1)=true→(0:Int)≤(AF a0 a1)∧(AF a0 a1) <(↑(AT a0 a1).length:Int)),((AY a0 a1)=false→(BE a0 a1)=false→(GT a0 a1)=true→(0:Int)≤(AF a0 a1)∧(AF a0 a1) <(↑(AT a0 a1).length:Int))]
theorem Bjt (a0:List UInt8) (a1:Int):Er (Au Bq3 Ahp) 9 119 [Ae .bytes a0,Ae .i64 a1] 0 []=some (1,A52 a0 a1,1,YM a0 a1,[(Ag ((0:Nat)+a0.length)),(Af Try.prog (119:FuncId) (0:Nat)=Af Try.prog (119:FuncId) (0:Nat)),(AD FM FL IU (Hb (a1,A3 a1,A3 a1,(0:Int),[]++a0)) (a1,A3 a1,A3 a1,(0:Int),[]++a0)),((AY a0 a1)=true→(0:Int)≤(AF a0 a1)∧(AF a0 a1) <(↑(AT a0 a1).length:Int)),((AY a0 a1)=true→(AF a0 a1).toNat <(AT a0 a1).length),((AY a0 a1)=true→(0:Int)≤(AF a0 a1)∧(AF a0 a1) <(↑(AT a0 a1).length:Int)),((AY a0 a1)=true→(AF a0 a1).toNat <(AT a0 a1).length),((AY a0 a1)=true→(0:Int)≤(Mb a0 a1)∧(Mb a0 a1) <(256:Int)),((AY a0 a1)=false→(BE a0 a1)=true→(0:Int)≤(AF a0 a1)∧(AF a0 a1) <(↑(AT a0 a1).length:Int)),((AY a0 a1)=false→(BE a0 a1)=true→(AF a0 a1).toNat <(AT a0 a1).length),((AY a0 a1)=false→(BE a0 a1)=true→(0:Int)≤(AF a0 a1)∧(AF a0 a1) <(↑(AT a0 a1).length:Int)),((AY a0 a1)=false→(BE a0 a1)=true→(AF a0 a1).toNat <(AT a0 a1).length),((AY a0 a1)=false→(BE a0 a1)=true→(0:Int)≤(Mc a0 a1)∧(Mc a0 a1) <(256:Int)),((AY a0 a1)=false→(BE a0 a1)=false→(GT a0 a1)=true→(0:Int)≤(AF a0 a1)∧(AF a0 a1) <(↑(AT a0 a1).length:Int)),((AY a0 a1)=false→(BE a0 a1)=false→(GT a0 a1)=true→(AF a0 a1).toNat <(AT a0 a1).length),((AY a0 a1)=false→(BE a0 a1)=false→(GT a0 a1)=true→(0:Int)≤(AF a0 a1)∧(AF a0 a1) <(↑(AT a0 a1).length:Int)),((AY a0 a1)=false→(BE a0 a1)=false→(GT a0 a1)=true→(AF a0 a1).toNat <(AT a0 a1).length),((AY a0 a1)=false→(BE a0 a1)=false→(GT a0 a1)=true→(0:Int)≤(Md a0 a1)∧(Md a0 a1) <(256:Int))]):=by kernel_rfl
theorem Bpp (a0:List UInt8) (a1:Int) (hp:∀p∈Aya a0 a1,p):CallOk Try.prog 119 [Ae .bytes a0,Ae .i64 a1] 0 [] 1 (A52 a0 a1) 1 (YM a0 a1):=by
 have n0:=N0 hp
 have n2:=N0 (N1 hp)
 have n3:((AY a0 a1)=true→(0:Int)≤(AF a0 a1)∧(AF a0 a1) <(↑(AT a0 a1).length:Int)):=N0 (N1 (N1 hp))
 have n4:((AY a0 a1)=true→(AF a0 a1).toNat <(AT a0 a1).length):=by intro h0;have g:=n3 h0;omega
 have n7:((AY a0 a1)=true→(0:Int)≤(Mb a0 a1)∧(Mb a0 a1) <(256:Int)):=by intros;exact Bbv _
 have n8:((AY a0 a1)=false→(BE a0 a1)=true→(0:Int)≤(AF a0 a1)∧(AF a0 a1) <(↑(AT a0 a1).length:Int)):=N0 (N1 (N1 (N1 hp)))
 have n9:((AY a0 a1)=false→(BE a0 a1)=true→(AF a0 a1).toNat <(AT a0 a1).length):=by intro h0 h1;have g:=n8 h0 h1;omega
 have n12:((AY a0 a1)=false→(BE a0 a1)=true→(0:Int)≤(Mc a0 a1)∧(Mc a0 a1) <(256:Int)):=by intros;exact Bbv _
 have n13:((AY a0 a1)=false→(BE a0 a1)=false→(GT a0 a1)=true→(0:Int)≤(AF a0 a1)∧(AF a0 a1) <(↑(AT a0 a1).length:Int)):=N0 (N1 (N1 (N1 (N1 hp))))
 have n14:((AY a0 a1)=false→(BE a0 a1)=false→(GT a0 a1)=true→(AF a0 a1).toNat <(AT a0 a1).length):=by intro h0 h1 h2;have g:=n13 h0 h1 h2;omega
 have n17:((AY a0 a1)=false→(BE a0 a1)=false→(GT a0 a1)=true→(0:Int)≤(Md a0 a1)∧(Md a0 a1) <(256:Int)):=by intros;exact Bbv _
 exact Az (Ap A63 Ax7) (Bjt a0 a1) (Aa n0 (Aa rfl (Aa n2 (Aa n3 (Aa n4 (Aa n3 (Aa n4 (Aa n7 (Aa n8 (Aa n9 (Aa n8 (Aa n9 (Aa n12 (Aa n13 (Aa n14 (Aa n13 (Aa n14 (Aa n17 Ad))))))))))))))))))
def Ayb (_a0:List UInt8) (_a1:Int):A:=.sq 0
def T6 (a0:List UInt8) (a1:Int):Objs:=[(0,some (.arr 5 1 (.ty .u8 (a0++Nk a1))))]
def Ao0 (a0:List UInt8) (_a1:Int):List Prop:=[Ag (a0.length+8)]
theorem Bbd (n:Int):A3 n=(KS n:Int):=by
 unfold A3 Xb Qr Qs KS
 by_cases h0:n <0∨n >4611686018427387903
 ·have e:(decide (n <0)||decide (n >4611686018427387903))=true:=by simpa using h0
  rw[e,if_pos h0];rfl
 ·have e:(decide (n <0)||decide (n >4611686018427387903))=false:=by
   rw[Bool.eq_false_iff]
   intro hh
   exact h0 (by simpa using hh)
  rw[e,if_neg h0]
  by_cases h1:n≥1073741824
  ·rw[if_pos h1,decide_eq_true h1];rfl
  ·rw[if_neg h1,decide_eq_false h1]
   by_cases h2:n≥16384
   ·rw[if_pos h2,decide_eq_true h2];rfl
   ·rw[if_neg h2,decide_eq_false h2]
    by_cases h3:n≥64
    ·rw[if_pos h3,decide_eq_true h3];rfl
    ·rw[if_neg h3,decide_eq_false h3];rfl
theorem Aji (n:Int):KS n=0∨(0≤n∧n≤4611686018427387903∧szs (KS n)):=by
 by_cases h:n <0∨n >4611686018427387903
 ·left;unfold KS;rw[if_pos h]
 ·right;exact⟨by omega,by omega,(Boo (by omega) (by omega)).1⟩
theorem Bu6 (b:List UInt8) (n:Int) (hb:Ag (b.length+8)):
  AD FM FL IU (Hb (n,A3 n,A3 n,0,[]++b)) (n,A3 n,A3 n,0,[]++b)∧
  (O6 (n,A3 n,A3 n,0,[]++b)).2.2.2.2=b++be (KS n) n.toNat:=by
 have hk8:KS n≤8:=by
  rcases Aji n with h|⟨_,_,h⟩
  ·omega
  ·unfold szs at h;omega
 rw[Bbd]
 obtain⟨h1,⟨i,hi,h2⟩,h3⟩:=Axb (next:=FM) (goes:=FL) (ps:=IU)
  (fun x=>∃i:Nat,i≤KS n∧x=(n,(KS n:Int),(KS n:Int),(i:Int),b++(be (KS n) n.toNat).take i)) Hb (by
   rintro x ⟨i,hi,rfl⟩
   refine⟨Aa (fun hp=>?_) Ad,fun hg=>?_⟩
   ·have h':(!!decide ((i:Int) <(KS n:Int)))=true:=hp
    have hlt:i <KS n:=by simpa using h'
    show Ag ((b++(be (KS n) n.toNat).take i).length+1)
    unfold Ag at*
    rw[List.length_append,List.length_take,KL]
    omega
   ·have h':(!!decide ((i:Int) <(KS n:Int)))=true:=hg
    have hlt:i <KS n:=by simpa using h'
    have hw:IntKind.i64.wrap ((i:Int)+1)=((i+1:Nat):Int):=by rw[i64_in (by omega)];rfl
    have hn0:0≤n:=by rcases Aji n with h|⟨h,_⟩<;>omega
    refine⟨⟨i+1,hlt,?_⟩,?_⟩
    ·show(n,(KS n:Int),(KS n:Int),IntKind.i64.wrap ((i:Int)+1),(b++(be (KS n) n.toNat).take i)++[UInt8.ofNat (IntKind.u8.wrap (n.fdiv ((2:Int)^min (IntKind.u64.wrap (IntKind.i64.wrap ((8:Int)*IntKind.i64.wrap (IntKind.i64.wrap ((KS n:Int) - (1:Int)) - (i:Int))))).toNat (64:Nat)))).toNat])=_
     rw[hw,Bu5 hn0 hk8 hlt,List.append_assoc,←Bxh hlt]
    ·show((KS n:Int) - IntKind.i64.wrap ((i:Int)+1)).toNat <((KS n:Int) - (i:Int)).toNat
     rw[hw]
     omega) _ (n,(KS n:Int),(KS n:Int),0,[]++b) ⟨0,Nat.zero_le _,by simp⟩ (Nat.le_refl _)
 refine⟨h1,?_⟩
 have h4:O6 (n,(KS n:Int),(KS n:Int),0,[]++b)=_:=h2
 rw[h2] at h3
 have h3':(!!decide ((i:Int) <(KS n:Int)))=false:=h3
 have hn:¬((i:Int) <(KS n:Int)):=by simpa using h3'
 obtain rfl:i=KS n:=by omega
 rw[h4,List.take_of_length_le (by rw[KL];exact Nat.le_refl _)]
theorem Bjs (b:List UInt8) (n:Int) (hb:Ag (b.length+8)):(∀p∈Aya b n,p)∧Aln b n=b++Nk n:=by
 obtain⟨h1,h2⟩:=Bu6 b n hb
 have h3:AT b n=b++be (KS n) n.toNat:=h2
 have h4:(AF b n).toNat=b.length:=rfl
 have hS:=Bbd n
 have hlen:(b++be (KS n) n.toNat).length=b.length+KS n:=by rw[List.length_append,KL]
 have hpos:KS n≠0→(0:Int)≤AF b n∧AF b n <((AT b n).length:Int):=fun h0=>by
  rw[h3,hlen]
  show(0:Int)≤(b.length:Int)∧(b.length:Int) <((b.length+KS n:Nat):Int)
  omega
 have sz2:∀c:Int,c≠0→(A3 n==c)=true→KS n≠0:=fun c hc h h0=>by
  rw[hS,h0] at h
  have h':(0:Int)=c:=by simpa using h
  exact hc h'.symm
 refine⟨Aa (by unfold Ag at*;omega) (Aa h1 (Aa (fun h=>hpos (sz2 2 (by decide) h)) (Aa (fun _ h=>hpos (sz2 4 (by decide) h)) (Aa (fun _ _ h=>hpos (sz2 8 (by decide) h)) Ad)))),?_⟩
 unfold Aln
 rw[h3,h4]
 have k7:AY b n=((KS n:Int)==2):=by show(A3 n==2)=_;rw[hS]
 have k6:BE b n=((KS n:Int)==4):=by show(A3 n==4)=_;rw[hS]
 have k5:GT b n=((KS n:Int)==8):=by show(A3 n==8)=_;rw[hS]
 have b1:Mb b n=IntKind.u8.wrap ((BitVec.ofInt 8 ((((b++be (KS n) n.toNat).getD b.length (Ac TC.u8)).toNat:Nat):Int) ||| BitVec.ofInt 8 ((64*1:Nat):Int)).toNat:Int):=by rw[←h3,←h4];rfl
 have b0:Mc b n=IntKind.u8.wrap ((BitVec.ofInt 8 ((((b++be (KS n) n.toNat).getD b.length (Ac TC.u8)).toNat:Nat):Int) ||| BitVec.ofInt 8 ((64*2:Nat):Int)).toNat:Int):=by rw[←h3,←h4];rfl
 have b2:Md b n=IntKind.u8.wrap ((BitVec.ofInt 8 ((((b++be (KS n) n.toNat).getD b.length (Ac TC.u8)).toNat:Nat):Int) ||| BitVec.ofInt 8 ((64*3:Nat):Int)).toNat:Int):=by rw[←h3,←h4];rfl
 rw[k7,k6,k5,b1,b0,b2]
 unfold Nk
 rcases Aji n with hz|⟨g1,g2,g3⟩
 ·rw[hz];rfl
 ·have hN:=(Boo g1 g2).2
  generalize hk:KS n=k at*
  rcases g3 with rfl|rfl|rfl|rfl
  ·show b++be 1 n.toNat=b++be 1 (n.toNat+0*(64*256^0))
   rw[Nat.zero_mul,Nat.add_zero]
  ·exact Bbc (m:=1) (t:=1) b hN (by decide) _
  ·exact Bbc (m:=3) (t:=2) b hN (by decide) _
  ·exact Bbc (m:=7) (t:=3) b hN (by decide) _
theorem Bjr (a0:List UInt8) (a1:Int) (hp:∀p∈Ao0 a0 a1,p):CallOk Try.prog 119 [Ae .bytes a0,Ae .i64 a1] 0 [] 1 (Ayb a0 a1) 1 (T6 a0 a1):=by
 obtain⟨h1,h2⟩:=Bjs a0 a1 (hp _ (List.mem_cons_self ..))
 have h:=Bpp a0 a1 h1
 have ho:YM a0 a1=T6 a0 a1:=by unfold YM T6;rw[h2]
 rw[ho] at h
 exact h
def A53:List A→Nat→Objs→Option AU:=A5 [.t .bytes,.t .i64] 1 Ayb T6 Ao0
theorem Bfi:Ev Try.prog 119 A53:=As (ks:=[.t .bytes,.t .i64]) Bjr
noncomputable def Bq4:=AQ 119 A53 Bq3
theorem A64:Cp Try.prog Bq4:=Ak Bfi A63
abbrev D5:Type:=Int×(List UInt8)×Int×Int
def N5 (x:D5):St:=⟨46,0,[(6,.v (.int .i64 x.1)),(28,.sl .u8 x.2.1),(29,.v (.int .i64 x.2.2.1)),(30,.v (.int .i64 x.2.2.2))],[]⟩
def Ry:St→Option D5
 |⟨46,0,[(6,.v (.int .i64 z0)),(28,.sl .u8 z1),(29,.v (.int .i64 z2)),(30,.v (.int .i64 z3))],[]⟩=>some (z0,z1,z2,z3)
 |_=>none
theorem Asn:∀s x,Ry s=some x→s=N5 x:=fun s x h=>by
 unfold Ry at h
 split at h
 ·cases h;rfl
 ·cases h
def Aho:CU:=⟨0,0,[6,28,29,30],[],[],[],[6],[]⟩
def A9p:C9:=⟨[],[],[6,28,29,30],[]⟩
def Ax2 (a0:Int) (a1:List UInt8) (_a2:Int) (a3:Int):Int:=IntKind.i64.wrap (↑(BitVec.ofInt (64:Nat) (IntKind.i64.wrap (a0*(256:Int))) ||| BitVec.ofInt (64:Nat) (IntKind.i64.wrap (↑(UInt8.toNat (a1.getD a3.toNat (Ac TC.u8))):Int))).toNat:Int)
def FK (x:D5):D5:=(Ax2 x.1 x.2.1 x.2.2.1 x.2.2.2,x.2.1,x.2.2.1,IntKind.i64.wrap (x.2.2.2+(1:Int)))
def FJ (x:D5):Cnd:=some (!!decide (x.2.2.2 <x.2.2.1))
def O5 (x:D5):List Prop:=[((!!decide (x.2.2.2 <x.2.2.1))=true→(0:Int)≤x.2.2.2∧x.2.2.2 <(↑x.2.1.length:Int))]
abbrev IT:D5→List Prop:=O5
def UX (x:D5):Bb:=[(some 0,some (!decide (x.2.2.2 <x.2.2.1)),⟨46,0,[(6,.v (.int .i64 x.1))],[]⟩)]
def Ha (x:D5):Nat:=(x.2.2.1 - x.2.2.2).toNat
def Lv (x:D5):D5:=AZ FK FJ (Ha x) x
theorem A3h (a0:Int) (a1:List UInt8) (a2:Int) (a3:Int):Bl (Au Bq4 L0) 9 (Af Try.prog 114 0) Aho (N5 (a0,a1,a2,a3))=some (O5 (a0,a1,a2,a3),UX (a0,a1,a2,a3),FJ (a0,a1,a2,a3),N5 (FK (a0,a1,a2,a3))):=by kernel_rfl
theorem A3i (a0:Int) (a1:List UInt8) (a2:Int) (a3:Int) (hp:∀p∈IT (a0,a1,a2,a3),p):∀p∈O5 (a0,a1,a2,a3),p:=hp
noncomputable def W5:=Hw (Au Bq4 L0) (Af Try.prog 114 0) Aho A9p Ry Ha FK FJ IT UX
theorem Ax3:∀s b ps outs,W5 s=some (b,ps,outs)→Wf s ⟨ps,outs,none⟩∧Bh (Au C0 L0) b s ps outs:=
 A9 (T:=N5) A64 Ay (u:=9) (by kernel_rfl) (by decide) (fun⟨a0,a1,a2,a3⟩=>A3h a0 a1 a2 a3) (fun⟨a0,a1,a2,a3⟩=>A3i a0 a1 a2 a3) Asn (fun _=>AH (n:=46) rfl) fun _ _=>rfl
noncomputable def Ahn:=Di 0 W5 L0
theorem Ax1:G1 Ahn:=AS Ax3 Ay
def HB (a0:List UInt8):Int:=(↑(UInt8.toNat (a0.getD (0:Nat) (Ac TC.u8))):Int)
def CG (a0:List UInt8):Bool:=(↑a0.length:Int)==(0:Int)
def GS (a0:List UInt8):Int:=IntKind.i64.wrap ((1:Int)*(2:Int)^min ((HB a0).fdiv (64:Int)).toNat (64:Nat))
def EA (a0:List UInt8):List UInt8:=List.take ((GS a0).toNat - (1:Nat)) (List.drop (1:Nat) a0)
def FI (a0:List UInt8):Bool:=decide ((↑a0.length:Int) <(GS a0))
def O4 (a0:List UInt8):Bool:=decide (A3 (Lv (IntKind.i64.wrap (IntKind.u8.wrap (↑(BitVec.ofInt (8:Nat) (HB a0) &&& BitVec.ofInt (8:Nat) (63:Int)).toNat:Int)),(EA a0),(↑(EA a0).length:Int),(0:Int))).fst <(GS a0))
def Alk (a0:List UInt8):Int:=bif(CG a0) then(0:Int) else bif(FI a0) then(0:Int) else bif(O4 a0) then(0:Int) else(Lv (IntKind.i64.wrap (IntKind.u8.wrap (↑(BitVec.ofInt (8:Nat) (HB a0) &&& BitVec.ofInt (8:Nat) (63:Int)).toNat:Int)),(EA a0),(↑(EA a0).length:Int),(0:Int))).fst
def All (a0:List UInt8):Int:=bif(CG a0) then(0:Int) else bif(FI a0) then(0:Int) else bif(O4 a0) then(0:Int) else(GS a0)
def Alm (a0:List UInt8):Int:=bif(CG a0) then(10:Int) else bif(FI a0) then(10:Int) else bif(O4 a0) then(11:Int) else(0:Int)
def YL (a0:List UInt8):A:=.v (.tuple ⟨[.int .i64 (Alk a0),.int .i64 (All a0),.int .i64 (Alm a0)]⟩)
def A50 (_a0:List UInt8):Objs:=[]
def Ax5 (a0:List UInt8):List Prop:=[((!(CG a0))=true→(0:Int)≤(0:Int)∧(0:Int) <(↑a0.length:Int)),((!(CG a0))=true→(0:Int)≤(HB a0).fdiv (64:Int)),((!(CG a0))=true→(!(FI a0))=true→(0:Int)≤(0:Int)∧(0:Int) <(↑a0.length:Int)),((!(CG a0))=true→(!(FI a0))=true→(0:Int)≤(1:Int)∧(1:Int)≤(GS a0)∧(GS a0)≤(↑a0.length:Int)),((!(CG a0))=true→(!(FI a0))=true→AD FK FJ IT (Ha (IntKind.i64.wrap (IntKind.u8.wrap (↑(BitVec.ofInt (8:Nat) (HB a0) &&& BitVec.ofInt (8:Nat) (63:Int)).toNat:Int)),(EA a0),(↑(EA a0).length:Int),(0:Int))) (IntKind.i64.wrap (IntKind.u8.wrap (↑(BitVec.ofInt (8:Nat) (HB a0) &&& BitVec.ofInt (8:Nat) (63:Int)).toNat:Int)),(EA a0),(↑(EA a0).length:Int),(0:Int)))]
theorem Bjq (a0:List UInt8):Er (Au Bq4 Ahn) 9 114 [Ae .bytes a0] 0 []=some (1,YL a0,0,A50 a0,[((!(CG a0))=true→(0:Int)≤(0:Int)∧(0:Int) <(↑a0.length:Int)),((!(CG a0))=true→(0:Int)≤(HB a0).fdiv (64:Int)),((!(CG a0))=true→(!(FI a0))=true→(0:Int)≤(0:Int)∧(0:Int) <(↑a0.length:Int)),((!(CG a0))=true→(!(FI a0))=true→(0:Int)≤(1:Int)∧(1:Int)≤(GS a0)∧(GS a0)≤(↑a0.length:Int)),((!(CG a0))=true→(!(FI a0))=true→Af Try.prog (114:FuncId) (0:Nat)=Af Try.prog (114:FuncId) (0:Nat)),((!(CG a0))=true→(!(FI a0))=true→AD FK FJ IT (Ha (IntKind.i64.wrap (IntKind.u8.wrap (↑(BitVec.ofInt (8:Nat) (HB a0) &&& BitVec.ofInt (8:Nat) (63:Int)).toNat:Int)),(EA a0),(↑(EA a0).length:Int),(0:Int))) (IntKind.i64.wrap (IntKind.u8.wrap (↑(BitVec.ofInt (8:Nat) (HB a0) &&& BitVec.ofInt (8:Nat) (63:Int)).toNat:Int)),(EA a0),(↑(EA a0).length:Int),(0:Int)))]):=by kernel_rfl
theorem Bpo (a0:List UInt8) (hp:∀p∈Ax5 a0,p):CallOk Try.prog 114 [Ae .bytes a0] 0 [] 1 (YL a0) 0 (A50 a0):=by
 have n0:=N0 hp
 have n1:=N0 (N1 hp)
 have n2:=N0 (N1 (N1 hp))
 have n3:=N0 (N1 (N1 (N1 hp)))
 have n4:((!(CG a0))=true→(!(FI a0))=true→Af Try.prog (114:FuncId) (0:Nat)=Af Try.prog (114:FuncId) (0:Nat)):=by intros;rfl
 have n5:=N0 (N1 (N1 (N1 (N1 hp))))
 exact Az (Ap A64 Ax1) (Bjq a0) (Aa n0 (Aa n1 (Aa n2 (Aa n3 (Aa n4 (Aa n5 Ad))))))
def T5 (a0:List UInt8):A:=.v (.tuple ⟨[.int .i64 (Am a0).1,.int .i64 (Am a0).2.1,.int .i64 (Am a0).2.2]⟩)
def Ax4 (_a0:List UInt8):Objs:=[]
def Aoz (_a0:List UInt8):List Prop:=[]
theorem Btr (L:List UInt8) (h7:L.length≤7) (a:Nat) (ha:a <64):
  AD FK FJ IT (Ha ((a:Int),L,(L.length:Int),0)) ((a:Int),L,(L.length:Int),0)∧
  (Lv ((a:Int),L,(L.length:Int),0)).1=(val a L:Int):=by
 obtain⟨h1,⟨i,hi,h2⟩,h3⟩:=Axb (next:=FK) (goes:=FJ) (ps:=IT)
  (fun x=>∃i:Nat,i≤L.length∧x=((val a (L.take i):Int),L,(L.length:Int),(i:Int))) Ha (by
   rintro x ⟨i,hi,rfl⟩
   refine⟨Aa (fun hp=>?_) Ad,fun hg=>?_⟩
   ·have h':(!!decide ((i:Int) <(L.length:Int)))=true:=hp
    have hlt:(i:Int) <(L.length:Int):=by simpa using h'
    show(0:Int)≤(i:Int)∧(i:Int) <(L.length:Int)
    exact⟨by omega,hlt⟩
   ·have h':(!!decide ((i:Int) <(L.length:Int)))=true:=hg
    have hlt:i <L.length:=by simpa using h'
    have hw:IntKind.i64.wrap ((i:Int)+1)=((i+1:Nat):Int):=by rw[i64_in (by omega)];rfl
    have hb:val a (L.take i) <64*256^6:=by
     have hv:=Ut (L.take i) a
     have hl:=Bbm (L.take i)
     have e:(L.take i).length=i:=by rw[List.length_take];omega
     rw[e] at hv hl
     have hm:256^i≤256^6:=Nat.pow_le_pow_right (by decide) (by omega)
     have hq:=Nat.mul_le_mul_right (256^i) (show a+1≤64 by omega)
     rw[Nat.add_mul,Nat.one_mul] at hq
     have hq2:=Nat.mul_le_mul_left 64 hm
     omega
    refine⟨⟨i+1,hlt,?_⟩,?_⟩
    ·show(IntKind.i64.wrap ((BitVec.ofInt 64 (IntKind.i64.wrap ((val a (L.take i):Int)*256)) ||| BitVec.ofInt 64 (IntKind.i64.wrap (((L.getD (i:Int).toNat (Ac TC.u8)).toNat:Nat):Int))).toNat:Int),L,(L.length:Int),IntKind.i64.wrap ((i:Int)+1))=_
     rw[hw,Byn hb,Int.toNat_natCast,Bwk _ _ _ hlt]
    ·show((L.length:Int) - IntKind.i64.wrap ((i:Int)+1)).toNat <((L.length:Int) - (i:Int)).toNat
     rw[hw]
     omega) _ ((a:Int),L,(L.length:Int),0) ⟨0,Nat.zero_le _,rfl⟩ (Nat.le_refl _)
 refine⟨h1,?_⟩
 have h4:Lv ((a:Int),L,(L.length:Int),0)=_:=h2
 rw[h2] at h3
 have h3':(!!decide ((i:Int) <(L.length:Int)))=false:=h3
 have hn:¬((i:Int) <(L.length:Int)):=by simpa using h3'
 obtain rfl:i=L.length:=by omega
 rw[h4,List.take_length]
theorem Bjp (b:List UInt8):(∀p∈Ax5 b,p)∧Alk b=(Am b).1∧All b=(Am b).2.1∧Alm b=(Am b).2.2:=by
 cases b with
 |nil=>
  have no:(!(CG []))=true→False:=by intro h;cases h
  exact⟨Aa (fun h=>(no h).elim) (Aa (fun h=>(no h).elim) (Aa (fun h=>(no h).elim) (Aa (fun h=>(no h).elim) (Aa (fun h=>(no h).elim) Ad)))),rfl,rfl,rfl⟩
 | cons x r=>
  have hx:x.toNat <256:=x.toNat_lt
  have k4:CG (x::r)=false:=by
   show(((r.length+1:Nat):Int)==0)=false
   rw[Bool.eq_false_iff]
   intro h
   have:((r.length+1:Nat):Int)=0:=by simpa using h
   omega
  have k3:GS (x::r)=((2^(x.toNat / 64):Nat):Int):=B3u x
  have t3:x.toNat / 64≤3:=by omega
  have hK:=(Bvq t3).1
  have k2:EA (x::r)=r.take (2^(x.toNat / 64) - 1):=by
   show List.take ((GS (x::r)).toNat - 1) r=_
   rw[k3,Int.toNat_natCast]
  have k1:FI (x::r)=decide (r.length+1 <2^(x.toNat / 64)):=by
   show decide (((r.length+1:Nat):Int) <GS (x::r))=_
   rw[k3]
   exact decide_eq_decide.2 Int.ofNat_lt
  have k6:IntKind.i64.wrap (IntKind.u8.wrap ((BitVec.ofInt 8 (HB (x::r)) &&& BitVec.ofInt 8 63).toNat:Int))=((x.toNat % 64:Nat):Int):=Bx0 x
  generalize hKK:2^(x.toNat / 64)=K at*
  have hlen:(r.take (K - 1)).length≤7:=by rw[List.length_take];unfold szs at hK;omega
  obtain⟨n1,n2⟩:=Btr (r.take (K - 1)) hlen (x.toNat % 64) (by omega)
  have k0:O4 (x::r)=decide (KS (val (x.toNat % 64) (r.take (K - 1))) <K):=by
   unfold O4
   rw[k6,k2,n2,Bbd,k3]
   exact decide_eq_decide.2 Int.ofNat_lt
  refine⟨Aa (fun _=>?_) (Aa (fun _=>?_) (Aa (fun _ _=>(by show(0:Int)≤0∧(0:Int) <((r.length+1:Nat):Int);omega)) (Aa (fun _ h=>?_) (Aa (fun _ _=>?_) Ad)))),?_⟩
  ·show(0:Int)≤0∧(0:Int) <((r.length+1:Nat):Int)
   omega
  ·show(0:Int)≤((x.toNat:Nat):Int).fdiv 64
   rw[Int.fdiv_eq_ediv_of_nonneg _ (by decide)]
   omega
  ·rw[k1] at h
   have h':¬(r.length+1 <K):=by simpa using h
   rw[k3]
   show(0:Int)≤1∧(1:Int)≤(K:Int)∧(K:Int)≤((r.length+1:Nat):Int)
   unfold szs at hK
   omega
  ·rw[k6,k2]
   exact n1
  ·unfold Alk All Alm
   rw[k4,k1,k0,k6,k2,n2,k3,YA,hKK]
   by_cases c1:r.length+1 <K
   ·rw[if_pos c1,decide_eq_true c1];exact⟨rfl,rfl,rfl⟩
   ·rw[if_neg c1,decide_eq_false c1]
    by_cases c2:KS (val (x.toNat % 64) (r.take (K - 1))) <K
    ·rw[if_pos c2,decide_eq_true c2];exact⟨rfl,rfl,rfl⟩
    ·rw[if_neg c2,decide_eq_false c2];exact⟨rfl,rfl,rfl⟩
theorem Bjo (a0:List UInt8) (_hp:∀p∈Aoz a0,p):CallOk Try.prog 114 [Ae .bytes a0] 0 [] 1 (T5 a0) 0 (Ax4 a0):=by
 obtain⟨h1,h2,h3,h4⟩:=Bjp a0
 have h:=Bpo a0 h1
 have hr:YL a0=T5 a0:=by unfold YL T5;rw[h2,h3,h4]
 rw[hr] at h
 exact h
def A51:List A→Nat→Objs→Option AU:=A5 [.t .bytes] 0 T5 Ax4 Aoz
theorem Bfh:Ev Try.prog 114 A51:=As (ks:=[.t .bytes]) Bjo
noncomputable def B2w:=AQ 114 A51 Bq4
theorem Bws:Cp Try.prog B2w:=Ak Bfh A64
noncomputable def Ca:=B2w
theorem Bzq:Cp Try.prog Ca:=Bws
end Go.Proofs.Yteebobbhhgmeiaa
namespace Go.Proofs.Yteebobbhhgmeiaa
open Go.RowKit
def PK (a0:Int):Bool:=!a0==(1:Int)
def MK (a0:Int):Bool:=bif !((PK a0)&&!((PK a0)&&a0==(2:Int))) then true else false
def RM (a0:Int):A:=.v (.bool (MK a0))
def RL (_a0:Int):Objs:=[]
def PL (_a0:Int):List Prop:=[]
theorem A1w (a0:Int):Er (Au Ca L0) 9 151 [Ae .i64 a0] 0 []=some (1,RM a0,0,RL a0,PL a0):=by kernel_rfl
theorem A4t (a0:Int) (hp:∀p∈PL a0,p):CallOk Try.prog 151 [Ae .i64 a0] 0 [] 1 (RM a0) 0 (RL a0):=Az (Ap Bzq Ay) (A1w a0) hp
def Aba:List A→Nat→Objs→Option AU:=A5 [.t .i64] 0 RM RL PL
theorem Auf:Ev Try.prog 151 Aba:=As (ks:=[.t .i64]) A4t
noncomputable def B0s:=AQ 151 Aba Ca
theorem Blu:Cp Try.prog B0s:=Ak Auf Bzq
def BQ (a0:TStamp):Bool:=bif a0.1==(0:Int)&&a0.2==(0:Int) then true else decide (a0.1 >(0:Int))&&decide (a0.1≤(281474976710656:Int))&&MK a0.2
def Uo (a0:TStamp):A:=.v (.bool (BQ a0))
def Un (_a0:TStamp):Objs:=[]
def RJ (_a0:TStamp):List Prop:=[]
theorem A4q (a0:TStamp):Er (Au B0s L0) 9 102 [Ae .stamp a0] 0 []=some (1,Uo a0,0,Un a0,RJ a0):=by kernel_rfl
theorem Bbh (a0:TStamp) (hp:∀p∈RJ a0,p):CallOk Try.prog 102 [Ae .stamp a0] 0 [] 1 (Uo a0) 0 (Un a0):=Az (Ap Blu Ay) (A4q a0) hp
def Ajd:List A→Nat→Objs→Option AU:=A5 [.t .stamp] 0 Uo Un RJ
theorem A1t:Ev Try.prog 102 Ajd:=As (ks:=[.t .stamp]) Bbh
noncomputable def B0t:=AQ 102 Ajd B0s
theorem Blv:Cp Try.prog B0t:=Ak A1t Blu
def GX (a0:TStamp):Bool:=bif a0.1==(0:Int)&&a0.2==(0:Int) then true else decide (a0.1≥(1:Int))&&decide (a0.1≤(281474976710656:Int))&&(a0.2==(1:Int)||a0.2==(2:Int))
def Acv (a0:TStamp):A:=.v (.bool (GX a0))
def Acu (_a0:TStamp):Objs:=[]
def Xv (_a0:TStamp):List Prop:=[]
theorem Bft (a0:TStamp):Er (Au B0t L0) 9 104 [Ae .stamp a0] 0 []=some (1,Acv a0,0,Acu a0,Xv a0):=by kernel_rfl
theorem Bj3 (a0:TStamp) (hp:∀p∈Xv a0,p):CallOk Try.prog 104 [Ae .stamp a0] 0 [] 1 (Acv a0) 0 (Acu a0):=Az (Ap Blv Ay) (Bft a0) hp
def Ayv:List A→Nat→Objs→Option AU:=A5 [.t .stamp] 0 Acv Acu Xv
theorem A91:Ev Try.prog 104 Ayv:=As (ks:=[.t .stamp]) Bj3
noncomputable def B0u:=AQ 104 Ayv B0t
theorem Blw:Cp Try.prog B0u:=Ak A91 Blv
def Kc (a0:Int) (_a1:Int):Int:=min (max a0 (0:Int)) (1099511627776:Int)
def RP (a0:Int) (a1:Int):A:=.v (.int .i64 (Kc a0 a1))
def RO (_a0:Int) (_a1:Int):Objs:=[]
def PO (_a0:Int) (_a1:Int):List Prop:=[]
theorem A15 (a0:Int) (a1:Int):Er (Au B0u L0) 9 153 [Ae .i64 a0,Ae .i64 a1] 0 []=some (1,RP a0 a1,0,RO a0 a1,PO a0 a1):=by kernel_rfl
theorem A4w (a0:Int) (a1:Int) (hp:∀p∈PO a0 a1,p):CallOk Try.prog 153 [Ae .i64 a0,Ae .i64 a1] 0 [] 1 (RP a0 a1) 0 (RO a0 a1):=Az (Ap Blw Ay) (A15 a0 a1) hp
def Abc:List A→Nat→Objs→Option AU:=A5 [.t .i64,.t .i64] 0 RP RO PO
theorem Aug:Ev Try.prog 153 Abc:=As (ks:=[.t .i64,.t .i64]) A4w
noncomputable def B0v:=AQ 153 Abc B0u
theorem Blx:Cp Try.prog B0v:=Ak Aug Blw
def RR (a0:Int) (a1:Int):A:=.v (.int .i64 (max a0 a1))
def RQ (_a0:Int) (_a1:Int):Objs:=[]
def PP (_a0:Int) (_a1:Int):List Prop:=[]
theorem A17 (a0:Int) (a1:Int):Er (Au B0v L0) 9 154 [Ae .i64 a0,Ae .i64 a1] 0 []=some (1,RR a0 a1,0,RQ a0 a1,PP a0 a1):=by kernel_rfl
theorem A4x (a0:Int) (a1:Int) (hp:∀p∈PP a0 a1,p):CallOk Try.prog 154 [Ae .i64 a0,Ae .i64 a1] 0 [] 1 (RR a0 a1) 0 (RQ a0 a1):=Az (Ap Blx Ay) (A17 a0 a1) hp
def Abd:List A→Nat→Objs→Option AU:=A5 [.t .i64,.t .i64] 0 RR RQ PP
theorem Auh:Ev Try.prog 154 Abd:=As (ks:=[.t .i64,.t .i64]) A4x
noncomputable def B0w:=AQ 154 Abd B0v
theorem Bly:Cp Try.prog B0w:=Ak Auh Blx
def RT (a0:Int) (a1:Int):A:=.v (.int .i64 (min a0 a1))
def RS (_a0:Int) (_a1:Int):Objs:=[]
def PQ (_a0:Int) (_a1:Int):List Prop:=[]
theorem A18 (a0:Int) (a1:Int):Er (Au B0w L0) 9 156 [Ae .i64 a0,Ae .i64 a1] 0 []=some (1,RT a0 a1,0,RS a0 a1,PQ a0 a1):=by kernel_rfl
theorem A4y (a0:Int) (a1:Int) (hp:∀p∈PQ a0 a1,p):CallOk Try.prog 156 [Ae .i64 a0,Ae .i64 a1] 0 [] 1 (RT a0 a1) 0 (RS a0 a1):=Az (Ap Bly Ay) (A18 a0 a1) hp
def Abe:List A→Nat→Objs→Option AU:=A5 [.t .i64,.t .i64] 0 RT RS PQ
theorem Aui:Ev Try.prog 156 Abe:=As (ks:=[.t .i64,.t .i64]) A4y
noncomputable def B0x:=AQ 156 Abe B0w
theorem Blz:Cp Try.prog B0x:=Ak Aui Bly
noncomputable def B0y:=AQ 152 (inl (Au B0x L0) 4 152) B0x
theorem Bl0:Cp Try.prog B0y:=Ak (TL (Ap Blz Ay) 4 152) Blz
def BG (a0:TVec):Bool:=Kc a0.1 (0:Int)==a0.1&&Kc a0.2 (0:Int)==a0.2
def Aen (a0:TVec):A:=.v (.bool (BG a0))
def Aem (_a0:TVec):Objs:=[]
def Arj (_a0:TVec):List Prop:=[]
theorem Bh1 (a0:TVec):Er (Au B0y L0) 9 103 [Ae .vec a0] 0 []=some (1,Aen a0,0,Aem a0,[((0:Int)≤(0:Int)∧(0:Int) <(2:Int)),((0:Nat) <(2:Nat)),((0:Int)≤(0:Int)∧(0:Int) <(2:Int)),((0:Nat) <(2:Nat)),((0:Int)≤(0:Int)∧(0:Int) <(2:Int)),((0:Nat) <(2:Nat)),((0:Int)≤(1:Int)∧(1:Int) <(2:Int)),((1:Nat) <(2:Nat)),((0:Int)≤(1:Int)∧(1:Int) <(2:Int)),((1:Nat) <(2:Nat)),((0:Int)≤(1:Int)∧(1:Int) <(2:Int)),((1:Nat) <(2:Nat))]):=by kernel_rfl
theorem Bln (a0:TVec) (_hp:∀p∈Arj a0,p):CallOk Try.prog 103 [Ae .vec a0] 0 [] 1 (Aen a0) 0 (Aem a0):=by
 have n0:((0:Int)≤(0:Int)∧(0:Int) <(2:Int)):=by first|rfl|decide+kernel
 have n1:((0:Nat) <(2:Nat)):=by first|rfl|decide+kernel
 have n6:((0:Int)≤(1:Int)∧(1:Int) <(2:Int)):=by first|rfl|decide+kernel
 have n7:((1:Nat) <(2:Nat)):=by first|rfl|decide+kernel
 exact Az (Ap Bl0 Ay) (Bh1 a0) (Aa n0 (Aa n1 (Aa n0 (Aa n1 (Aa n0 (Aa n1 (Aa n6 (Aa n7 (Aa n6 (Aa n7 (Aa n6 (Aa n7 Ad))))))))))))
def A16:List A→Nat→Objs→Option AU:=A5 [.t .vec] 0 Aen Aem Arj
theorem Bbo:Ev Try.prog 103 A16:=As (ks:=[.t .vec]) Bln
noncomputable def B0z:=AQ 103 A16 B0y
theorem Bl1:Cp Try.prog B0z:=Ak Bbo Bl0
def Jw (a0:TVec) (a1:TVec):TVec:=TVec.mk (min a0.1 a1.1) (min a0.2 a1.2)
def Aep (a0:TVec) (a1:TVec):A:=.v (.agg ⟨[.int .i64 ((Jw a0 a1).a),.int .i64 ((Jw a0 a1).b)]⟩)
def Aeo (_a0:TVec) (_a1:TVec):Objs:=[]
def Ark (_a0:TVec) (_a1:TVec):List Prop:=[]
theorem Bh2 (a0:TVec) (a1:TVec):Er (Au B0z L0) 9 112 [Ae .vec a0,Ae .vec a1] 0 []=some (1,Aep a0 a1,0,Aeo a0 a1,[((0:Int)≤(0:Int)∧(0:Int) <(2:Int)),((0:Nat) <(2:Nat)),((0:Int)≤(0:Int)∧(0:Int) <(2:Int)),((0:Nat) <(2:Nat)),((0:Int)≤(0:Int)∧(0:Int) <(2:Int)),((0:Nat) <(2:Nat)),((0:Int)≤(1:Int)∧(1:Int) <(2:Int)),((1:Nat) <(2:Nat)),((0:Int)≤(1:Int)∧(1:Int) <(2:Int)),((1:Nat) <(2:Nat)),((0:Int)≤(1:Int)∧(1:Int) <(2:Int)),((1:Nat) <(2:Nat))]):=by kernel_rfl
theorem Blo (a0:TVec) (a1:TVec) (_hp:∀p∈Ark a0 a1,p):CallOk Try.prog 112 [Ae .vec a0,Ae .vec a1] 0 [] 1 (Aep a0 a1) 0 (Aeo a0 a1):=by
 have n0:((0:Int)≤(0:Int)∧(0:Int) <(2:Int)):=by first|rfl|decide+kernel
 have n1:((0:Nat) <(2:Nat)):=by first|rfl|decide+kernel
 have n6:((0:Int)≤(1:Int)∧(1:Int) <(2:Int)):=by first|rfl|decide+kernel
 have n7:((1:Nat) <(2:Nat)):=by first|rfl|decide+kernel
 exact Az (Ap Bl1 Ay) (Bh2 a0 a1) (Aa n0 (Aa n1 (Aa n0 (Aa n1 (Aa n0 (Aa n1 (Aa n6 (Aa n7 (Aa n6 (Aa n7 (Aa n6 (Aa n7 Ad))))))))))))
def A19:List A→Nat→Objs→Option AU:=A5 [.t .vec,.t .vec] 0 Aep Aeo Ark
theorem Bbp:Ev Try.prog 112 A19:=As (ks:=[.t .vec,.t .vec]) Blo
noncomputable def B00:=AQ 112 A19 B0z
theorem Bl2:Cp Try.prog B00:=Ak Bbp Bl1
def JW (a0:TVec) (a1:TVec):Bool:=(Jw a0 a1).1==a1.1&&(Jw a0 a1).2==a1.2
def Uv (a0:TVec) (a1:TVec):A:=.v (.bool (JW a0 a1))
def Uu (_a0:TVec) (_a1:TVec):Objs:=[]
def RN (_a0:TVec) (_a1:TVec):List Prop:=[]
theorem A4v (a0:TVec) (a1:TVec):Er (Au B00 L0) 9 53 [Ae .vec a0,Ae .vec a1] 0 []=some (1,Uv a0 a1,0,Uu a0 a1,RN a0 a1):=by kernel_rfl
theorem Bbn (a0:TVec) (a1:TVec) (hp:∀p∈RN a0 a1,p):CallOk Try.prog 53 [Ae .vec a0,Ae .vec a1] 0 [] 1 (Uv a0 a1) 0 (Uu a0 a1):=Az (Ap Bl2 Ay) (A4v a0 a1) hp
def Ajk:List A→Nat→Objs→Option AU:=A5 [.t .vec,.t .vec] 0 Uv Uu RN
theorem A12:Ev Try.prog 53 Ajk:=As (ks:=[.t .vec,.t .vec]) Bbn
noncomputable def Bre:=AQ 53 Ajk B00
theorem Bb4:Cp Try.prog Bre:=Ak A12 Bl2
def EB (a0:TVec):Bool:=decide (a0.1≥(0:Int))&&decide (a0.1≤(1099511627776:Int))&&decide (a0.2≥(0:Int))&&decide (a0.2≤(1099511627776:Int))
def Ac0 (a0:TVec):A:=.v (.bool (EB a0))
def Acz (_a0:TVec):Objs:=[]
def Xx (_a0:TVec):List Prop:=[]
theorem Bfw (a0:TVec):Er (Au Bre L0) 9 100 [Ae .vec a0] 0 []=some (1,Ac0 a0,0,Acz a0,Xx a0):=by kernel_rfl
theorem Bj5 (a0:TVec) (hp:∀p∈Xx a0,p):CallOk Try.prog 100 [Ae .vec a0] 0 [] 1 (Ac0 a0) 0 (Acz a0):=Az (Ap Bb4 Ay) (Bfw a0) hp
def Ayy:List A→Nat→Objs→Option AU:=A5 [.t .vec] 0 Ac0 Acz Xx
theorem A94:Ev Try.prog 100 Ayy:=As (ks:=[.t .vec]) Bj5
noncomputable def Brf:=AQ 100 Ayy Bre
theorem Bb5:Cp Try.prog Brf:=Ak A94 Bb4
def Ub (a0:TVec) (a1:TVec):Bool:=decide (a0.1≥a1.1)&&decide (a0.2≥a1.2)
def Ud (a0:TVec) (a1:TVec):A:=.v (.bool (Ub a0 a1))
def Uc (_a0:TVec) (_a1:TVec):Objs:=[]
def RC (_a0:TVec) (_a1:TVec):List Prop:=[]
theorem A3o (a0:TVec) (a1:TVec):Er (Au Brf L0) 9 107 [Ae .vec a0,Ae .vec a1] 0 []=some (1,Ud a0 a1,0,Uc a0 a1,RC a0 a1):=by kernel_rfl
theorem A93 (a0:TVec) (a1:TVec) (hp:∀p∈RC a0 a1,p):CallOk Try.prog 107 [Ae .vec a0,Ae .vec a1] 0 [] 1 (Ud a0 a1) 0 (Uc a0 a1):=Az (Ap Bb5 Ay) (A3o a0 a1) hp
def Ahw:List A→Nat→Objs→Option AU:=A5 [.t .vec,.t .vec] 0 Ud Uc RC
theorem Ayx:Ev Try.prog 107 Ahw:=As (ks:=[.t .vec,.t .vec]) A93
noncomputable def Bzs:=AQ 107 Ahw Brf
theorem Brg:Cp Try.prog Bzs:=Ak Ayx Bb5
noncomputable def Cb:=Bzs
theorem Bl3:Cp Try.prog Cb:=Brg
end Go.Proofs.Yteebobbhhgmeiaa
namespace Go.Proofs.Yteebobbhhgmeiaa
open Go.RowKit
def HF (s:TStamp):Bool:=bif s.n==0&&s.site==0 then true else decide (1≤s.n)&&decide (s.n≤281474976710656)&&(s.site==1||s.site==2)
def Cx (v:TVec):Bool:=decide (0≤v.a)&&decide (v.a≤1099511627776)&&(decide (0≤v.b)&&decide (v.b≤1099511627776))
def G3 (v:TVec):Bool:=v.a==0&&v.b==0
def B0h (s:TStamp):Int:=bif s.n==0 then 0 else 2*s.n+s.site - 1
def B15 (n:Int):TStamp:=if n=0 then⟨0,0⟩ else⟨n / 2,1+n % 2⟩
def Bjy (s:TStamp):List UInt8:=bif HF s then Nk (B0h s) else[]
def Ays (v:TVec):List UInt8:=bif Cx v then Nk v.a++Nk v.b else[]
def A9x (t:ByteArray):List UInt8:=Nk (t.size:Int)++t.data.toList
def FW (b:List UInt8):TStamp×Int×Int:=if(Am b).2.2≠0 then(⟨0,0⟩,0,(Am b).2.2) else if HF (B15 (Am b).1)=true then(B15 (Am b).1,(Am b).2.1,0) else(⟨0,0⟩,0,11)
def FF (b:List UInt8):TVec×Int×Int:=if(Am b).2.2≠0 then(⟨0,0⟩,0,(Am b).2.2) else
 if(Am (b.drop (Am b).2.1.toNat)).2.2≠0 then(⟨0,0⟩,0,(Am (b.drop (Am b).2.1.toNat)).2.2) else
 if Cx ⟨(Am b).1,(Am (b.drop (Am b).2.1.toNat)).1⟩=true then(⟨(Am b).1,(Am (b.drop (Am b).2.1.toNat)).1⟩,(Am b).2.1+(Am (b.drop (Am b).2.1.toNat)).2.1,0) else(⟨0,0⟩,0,11)
def Wa (b:List UInt8) (m:Int):ByteArray×Int×Int:=if(Am b).2.2≠0 then(ByteArray.empty,0,(Am b).2.2) else if(Am b).1 >m then(ByteArray.empty,0,3) else
 if(b.length:Int) - (Am b).2.1 <(Am b).1 then(ByteArray.empty,0,10) else(⟨((b.drop (Am b).2.1.toNat).take (Am b).1.toNat).toArray⟩,(Am b).2.1+(Am b).1,0)
structure Rd {α:Type} (get:List UInt8→α×Int×Int) (good:α→Prop) (put:α→List UInt8):Prop where
 back:∀x r,good x→get (put x++r)=(x,((put x).length:Int),0)
 front:∀b x k,get b=(x,k,0)→good x∧k=((put x).length:Int)∧∃r,b=put x++r
theorem Blh {b p:List UInt8} (h:b.take p.length=p):∃r,b=p++r:=⟨b.drop p.length,by
 conv=>lhs;rw[←List.take_append_drop p.length b,h]⟩
def okN (n:Int):Prop:=0≤n∧n≤4611686018427387903
theorem rdN:Rd Am okN Nk where
 back:=fun x r h=>by rw[Bx1 h.1 h.2 r,MY]
 front:=fun b x k h=>by
  obtain⟨h1,h2,h3,_,h5⟩:=Byr h
  exact⟨⟨h1,h2⟩,by rw[h3,MY],Blh (by rw[MY];exact h5)⟩
theorem Bxz {b:List UInt8} (h:(Am b).2.2=0):∃r,okN (Am b).1∧(Am b).2.1=((Nk (Am b).1).length:Int)∧b=Nk (Am b).1++r:=by
 obtain⟨h1,h2,r,h3⟩:=rdN.front b (Am b).1 (Am b).2.1 (by rw[←h])
 exact⟨r,h1,h2,h3⟩
theorem Btp (b:List UInt8):(Am b).2.2≠0→(Am b).1=0∧(Am b).2.1=0:=fun h=>by
 cases b with
 |nil=>exact⟨rfl,rfl⟩
 | cons x r=>
  rw[YA] at h⊢
  split
  ·exact⟨rfl,rfl⟩
  ·split
   ·exact⟨rfl,rfl⟩
   ·rename_i h1 h2
    rw[if_neg h1,if_neg h2] at h
    exact absurd rfl h
theorem Hm (b:List UInt8):0≤(Am b).2.1∧(Am b).2.1≤(b.length:Int)∧(Am b).2.1≤8∧0≤(Am b).1∧(Am b).1≤4611686018427387903:=by
 by_cases h:(Am b).2.2=0
 ·obtain⟨r,⟨h1,h1'⟩,h2,h3⟩:=Bxz h
  have hl:=congrArg List.length h3
  rw[List.length_append] at hl
  have h8:(Nk (Am b).1).length≤8:=by
   rw[MY]
   have:=(Boo h1 h1').1
   unfold szs at this
   omega
  exact⟨by omega,by omega,by omega,h1,h1'⟩
 ·obtain⟨h1,h2⟩:=Btp b h
  rw[h1,h2]
  omega
theorem Bpg {s:TStamp}:HF s=true↔(s.n=0∧s.site=0)∨(1≤s.n∧s.n≤281474976710656∧(s.site=1∨s.site=2)):=by
 unfold HF
 rw[Bool.cond_eq_ite]
 split
 ·rename_i h
  simp only[Bool.and_eq_true,beq_iff_eq] at h
  exact⟨fun _=> .inl h,fun _=>rfl⟩
 ·rename_i h
  simp only[Bool.and_eq_true,beq_iff_eq] at h
  simp only[Bool.and_eq_true,Bool.or_eq_true,beq_iff_eq,decide_eq_true_eq]
  constructor
  ·intro h';exact .inr ⟨h'.1.1,h'.1.2,h'.2⟩
  ·rintro(h'|⟨h1,h2,h3⟩)
   ·exact absurd h' h
   ·exact⟨⟨h1,h2⟩,h3⟩
theorem Bph {v:TVec}:Cx v=true↔0≤v.a∧v.a≤1099511627776∧0≤v.b∧v.b≤1099511627776:=by
 unfold Cx
 simp only[Bool.and_eq_true,decide_eq_true_eq]
 omega
theorem Bbq {s t:TVec} (h1:s.a=t.a) (h2:s.b=t.b):s=t:=by cases s;cases t;simp_all
theorem Bc2 (n i:Nat):n &&& 2^i=n / 2^i % 2*2^i:=by
 rw[←Nat.toNat_testBit]
 apply Nat.eq_of_testBit_eq
 intro j
 rw[Nat.testBit_and,Nat.testBit_two_pow]
 cases hb:n.testBit i with
 |true=>
  by_cases hij:i=j
  ·subst hij;simp[hb]
  ·simp[hij]
 |false=>
  by_cases hij:i=j
  ·subst hij;simp[hb]
  ·simp[hij]
theorem Bm9 {n:Int} (h:okN n) (k:Nat) (m:Int) (hm:m=((2^k:Nat):Int)) (hk:k <60):(BitVec.ofInt 64 n &&& BitVec.ofInt 64 m).toNat=n.toNat / 2^k % 2*2^k:=by
 obtain⟨h0,h1⟩:=h
 have hp:2^k <2^60:=Nat.pow_lt_pow_right (by decide) hk
 have e60:(2:Nat)^60=1152921504606846976:=by decide
 rw[BitVec.toNat_and,BitVec.toNat_ofInt,BitVec.toNat_ofInt]
 have m1:(n % ((2^64:Nat):Int)).toNat=n.toNat:=by omega
 have m2:(m % ((2^64:Nat):Int)).toNat=2^k:=by
  subst hm
  generalize 2^k=q at*
  omega
 rw[m1,m2,Bc2]
theorem Aex {n:Int} (h:okN n) (k:Nat) (m:Int) (hm:m=((2^k:Nat):Int)) (hk:k <60):decide (IntKind.i64.wrap ((BitVec.ofInt 64 n &&& BitVec.ofInt 64 m).toNat:Int) >0)=(n.toNat / 2^k % 2==1):=by
 rw[Bm9 h k m hm hk]
 have hp:2^k <2^60:=Nat.pow_lt_pow_right (by decide) hk
 have hp0:0 <2^k:=Nat.pow_pos (by decide)
 have e60:(2:Nat)^60=1152921504606846976:=by decide
 generalize n.toNat / 2^k=x
 generalize 2^k=q at*
 rcases Nat.mod_two_eq_zero_or_one x with e|e
 ·rw[e,Nat.zero_mul]
  rfl
 ·rw[e,Nat.one_mul,i64_in (by omega)]
  have:(q:Int) >0:=by omega
  rw[decide_eq_true this]
  rfl
theorem Bxi {n:Int} (h:okN n):IntKind.i64.wrap (IntKind.i64.wrap ((BitVec.ofInt 64 n &&& BitVec.ofInt 64 1).toNat:Int)+1)=1+n % 2:=by
 have e:=Bm9 h 0 1 rfl (by decide)
 rw[e]
 obtain⟨h0,h1⟩:=h
 have e2:n.toNat / 2^0 % 2*2^0=n.toNat % 2:=by rw[Nat.pow_zero,Nat.div_one,Nat.mul_one]
 rw[e2,i64_in (n:=((n.toNat % 2:Nat):Int)) (by omega),i64_in (by omega)]
 omega
end Go.Proofs.Yteebobbhhgmeiaa
namespace Go.Proofs.Yteebobbhhgmeiaa
open Go.RowKit
theorem A79 {x y:ByteArray}:(x.toList==y.toList)=true↔x=y:=by
 rw[beq_iff_eq,ByteArray.toList_eq,ByteArray.toList_eq]
 constructor
 ·intro h
  cases x;cases y
  simpa using h
 ·rintro rfl;rfl
theorem Bn4 {x:ByteArray}:(x.toList==(ByteArray.mk #[]).toList)=true↔x.size=0:=by
 rw[A79]
 constructor
 ·rintro rfl;rfl
 ·intro h
  cases x with|mk d=>
  have:d.size=0:=h
  rw[Array.eq_empty_of_size_eq_zero this]
theorem Ru (x:ByteArray):(x.toList==(ByteArray.mk #[]).toList)=(x.size==0):=by
 rw[Bool.eq_iff_iff,Bn4,beq_iff_eq]
theorem B4a {x:ByteArray} (h:x.size=0):x=ByteArray.mk #[]:=A79.1 (Bn4.2 h)
def B9 (c:TCell):Bool:=!(c.stamp.n==0&&c.stamp.site==0&&(c.vec.a==0&&c.vec.b==0)&&(!c.gone&&c.value.size==0))
def Bo (p:Int) (c:TCell):Bool:=
 bif p==1&&!G3 c.dead||(p==2&&(c.gone||!Cx c.dead)||!(p==1||p==2)) then false else
 bif !B9 c then true else HF c.stamp&&decide (0 <c.stamp.n)&&Cx c.vec&&decide ((c.value.size:Int)≤64)&&!(c.gone&&!(c.value.size==0))
def OJ (c:TCell):Int:=(bif B9 c then 1 else 0)+(bif c.gone then 2 else 0)+(bif G3 c.dead then 0 else 4)
def Bsz (c:TCell):List UInt8:=(bif B9 c then Bjy c.stamp++Ays c.vec++(bif c.gone then[] else A9x c.value) else[])++(bif G3 c.dead then[] else Ays c.dead)
def Bfr (p:Int) (c:TCell):List UInt8:=bif Bo p c then Nk (OJ c)++Bsz c else[]
def zeroC:TCell:=⟨⟨0,0⟩,⟨0,0⟩,false,ByteArray.mk #[],⟨0,0⟩⟩
theorem A62 {v:TVec}:G3 v=true↔v=⟨0,0⟩:=by
 unfold G3
 simp only[Bool.and_eq_true,beq_iff_eq]
 constructor
 ·intro h;exact Bbq h.1 h.2
 ·rintro rfl;exact⟨rfl,rfl⟩
structure B3b (p:Int) (c:TCell):Prop where
 pol:p=1∨p=2
 dead:Cx c.dead=true
 last:p=1→G3 c.dead=true
 del:p=2→c.gone=false
 st:B9 c=true→HF c.stamp=true∧0 <c.stamp.n∧Cx c.vec=true∧(c.value.size:Int)≤64∧(c.gone=true→c.value.size=0)
theorem A5k {p:Int} {c:TCell}:Bo p c=true↔B3b p c:=by
 unfold Bo
 rw[Bool.cond_eq_ite]
 split
 ·rename_i h
  refine⟨fun h=>(by cases h),fun g=>?_⟩
  exfalso
  simp only[Bool.or_eq_true,Bool.and_eq_true,beq_iff_eq,Bool.not_eq_true'] at h
  rcases h with⟨h1,h2⟩|⟨h1,h2⟩|h1
  ·rw[g.last h1] at h2;cases h2
  ·rcases h2 with h2|h2
   ·rw[g.del h1] at h2;cases h2
   ·rw[g.dead] at h2;cases h2
  ·rcases g.pol with h|h
   ·rw[h] at h1;cases h1
   ·rw[h] at h1;cases h1
 ·rename_i h
  have hh:=Bool.eq_false_iff.2 h
  simp only[Bool.or_eq_false_iff] at hh
  obtain⟨h1,h2,h3⟩:=hh
  have hp:p=1∨p=2:=by
   have:(p==1||p==2)=true:=by
    cases hq:(p==1||p==2) with
    |true=>rfl
    |false=>rw[hq] at h3;cases h3
   simpa using this
  have base:Cx c.dead=true∧(p=1→G3 c.dead=true)∧(p=2→c.gone=false):=by
   rcases hp with rfl|rfl
   ·have hz:G3 c.dead=true:=by
     cases hz:G3 c.dead with
     |true=>rfl
     |false=>rw[hz] at h1;cases h1
    refine⟨by rw[A62.1 hz];rfl,fun _=>hz,fun h=>by cases h⟩
   ·have:c.gone=false∧Cx c.dead=true:=by
     cases hg:c.gone with
     |true=>rw[hg] at h2;cases h2
     |false=>
      cases hv:Cx c.dead with
      |true=>exact⟨rfl,rfl⟩
      |false=>rw[hg,hv] at h2;cases h2
    exact⟨this.2,fun h=>(by cases h),fun _=>this.1⟩
  cases hw:B9 c with
  |false=>exact⟨fun _=>⟨hp,base.1,base.2.1,base.2.2,fun h=>by rw[hw] at h;cases h⟩,fun _=>rfl⟩
  | true=>
   rw[Bool.not_true,cond_false]
   simp only[Bool.and_eq_true,decide_eq_true_eq,Bool.not_eq_true',Bool.and_eq_false_iff,Bool.not_eq_false',beq_iff_eq]
   constructor
   ·rintro⟨⟨⟨⟨g1,g2⟩,g3⟩,g4⟩,g5⟩
    refine⟨hp,base.1,base.2.1,base.2.2,fun _=>⟨g1,g2,g3,g4,fun hg=>?_⟩⟩
    rcases g5 with g5|g5
    ·rw[g5] at hg;cases hg
    ·exact g5
   ·intro g
    obtain⟨g1,g2,g3,g4,g5⟩:=g.st hw
    refine⟨⟨⟨⟨g1,g2⟩,g3⟩,g4⟩,?_⟩
    cases hg:c.gone with
    |false=>exact .inl rfl
    |true=>exact .inr (g5 hg)
theorem Bee (c:TCell):okN (OJ c)∧OJ c≤7∧((OJ c).toNat / 2^0 % 2==1)=B9 c∧((OJ c).toNat / 2^1 % 2==1)=c.gone∧((OJ c).toNat / 2^2 % 2==1)=!G3 c.dead:=by
 unfold OJ okN
 cases B9 c<;>cases c.gone<;>cases G3 c.dead<;>decide
def Gf (n:Int) (k:Nat):Bool:=n.toNat / 2^k % 2==1
def stA (b:List UInt8):Bool×TCell×Int:=
 bif(Am b).2.2==0&&Gf (Am b).1 0 then
  (bif !Gf (Am b).1 1 then
   ((Am b).2.2==0&&(FW (b.drop (Am b).2.1.toNat)).2.2==0&&(FF (b.drop ((Am b).2.1+(FW (b.drop (Am b).2.1.toNat)).2.1).toNat)).2.2==0&&(Wa (b.drop ((Am b).2.1+(FW (b.drop (Am b).2.1.toNat)).2.1+(FF (b.drop ((Am b).2.1+(FW (b.drop (Am b).2.1.toNat)).2.1).toNat)).2.1).toNat) 64).2.2==0,
    ⟨(FW (b.drop (Am b).2.1.toNat)).1,(FF (b.drop ((Am b).2.1+(FW (b.drop (Am b).2.1.toNat)).2.1).toNat)).1,Gf (Am b).1 1,(Wa (b.drop ((Am b).2.1+(FW (b.drop (Am b).2.1.toNat)).2.1+(FF (b.drop ((Am b).2.1+(FW (b.drop (Am b).2.1.toNat)).2.1).toNat)).2.1).toNat) 64).1,⟨0,0⟩⟩,
    (Am b).2.1+(FW (b.drop (Am b).2.1.toNat)).2.1+(FF (b.drop ((Am b).2.1+(FW (b.drop (Am b).2.1.toNat)).2.1).toNat)).2.1+(Wa (b.drop ((Am b).2.1+(FW (b.drop (Am b).2.1.toNat)).2.1+(FF (b.drop ((Am b).2.1+(FW (b.drop (Am b).2.1.toNat)).2.1).toNat)).2.1).toNat) 64).2.1)
  else
   ((Am b).2.2==0&&(FW (b.drop (Am b).2.1.toNat)).2.2==0&&(FF (b.drop ((Am b).2.1+(FW (b.drop (Am b).2.1.toNat)).2.1).toNat)).2.2==0,
    ⟨(FW (b.drop (Am b).2.1.toNat)).1,(FF (b.drop ((Am b).2.1+(FW (b.drop (Am b).2.1.toNat)).2.1).toNat)).1,Gf (Am b).1 1,ByteArray.mk #[],⟨0,0⟩⟩,
    (Am b).2.1+(FW (b.drop (Am b).2.1.toNat)).2.1+(FF (b.drop ((Am b).2.1+(FW (b.drop (Am b).2.1.toNat)).2.1).toNat)).2.1))
 else((Am b).2.2==0,zeroC,(Am b).2.1)
def stB (b:List UInt8):Bool×TCell×Int:=
 bif(stA b).1&&Gf (Am b).1 2 then((stA b).1&&(FF (b.drop (stA b).2.2.toNat)).2.2==0,{(stA b).2.1 with dead:=(FF (b.drop (stA b).2.2.toNat)).1},(stA b).2.2+(FF (b.drop (stA b).2.2.toNat)).2.1)
 else stA b
def Bay (n:Int) (c:TCell):Bool:=decide (n≤7)&&Gf n 0==B9 c&&Gf n 1==c.gone&&Gf n 2==!G3 c.dead
def Ary (b:List UInt8) (p:Int):TCell×Int×Int:=
 bif !(stB b).1||!Bay (Am b).1 (stB b).2.1||!Bo p (stB b).2.1 then(zeroC,0,80) else((stB b).2.1,(stB b).2.2,0)
end Go.Proofs.Yteebobbhhgmeiaa
namespace Go.Proofs.Yteebobbhhgmeiaa
open Go.RowKit
theorem A1v (n:Int):MK n=(n==1||n==2):=by
 unfold MK PK
 cases n==1<;>cases n==2<;>rfl
theorem Kb (s:TStamp):BQ s=HF s:=by
 unfold BQ HF
 rw[A1v]
 rfl
theorem Vw (x:Int):(Kc x 0==x)=(decide (0≤x)&&decide (x≤1099511627776)):=by
 unfold Kc
 rw[Bool.eq_iff_iff]
 simp only[beq_iff_eq,Bool.and_eq_true,decide_eq_true_eq]
 omega
theorem KT (v:TVec):BG v=Cx v:=by
 unfold BG Cx
 rw[Vw,Vw]
theorem Xq (n:Int):(Nk n).length≤8:=by
 rw[MY]
 rcases Aji n with h|⟨_,_,h⟩
 ·omega
 ·unfold szs at h;omega
theorem Bu4 (s:TStamp):(Bjy s).length≤8:=by
 unfold Bjy
 cases HF s with
 |true=>exact Xq _
 |false=>exact Nat.zero_le _
theorem A9y (v:TVec):(Ays v).length≤16:=by
 unfold Ays
 cases Cx v with
 |true=>
  rw[cond_true,List.length_append]
  have h1:=Xq v.a
  have h2:=Xq v.b
  omega
 |false=>exact Nat.zero_le _
theorem Bjz (t:ByteArray):(A9x t).length≤8+t.size:=by
 unfold A9x
 rw[List.length_append]
 have h1:=Xq (t.size:Int)
 have hs:t.data.toList.length=t.size:=Array.length_toList
 omega
def I8 (_a0:Int) (_a1:TStamp) (_a2:TVec) (_a3:Bool) (a4:ByteArray):Bool:=decide ((↑a4.size:Int) >(64:Int))
def Iw (a0:Int) (a1:TStamp) (a2:TVec) (a3:Bool) (a4:ByteArray):Bool:=bif a0 !=(1:Int)&&a0 !=(2:Int) then a0 !=(1:Int)&&a0 !=(2:Int) else bif a1.1==(0:Int)&&a1.2==(0:Int) then a1.1==(0:Int)&&a1.2==(0:Int) else bif !BQ a1 then !BQ a1 else bif !BG a2 then !BG a2 else a3&&!a4.toList==(ByteArray.mk #[]).toList
def GH (a0:Int) (a1:TStamp) (a2:TVec) (a3:Bool) (a4:ByteArray):Bool:=(Iw a0 a1 a2 a3 a4)||((I8 a0 a1 a2 a3 a4)||a3&&a0==(2:Int))
def LQ (a0:Int) (a1:TStamp) (a2:TVec) (a3:Bool) (a4:ByteArray):Int:=bif(Iw a0 a1 a2 a3 a4) then(0:Int) else bif(I8 a0 a1 a2 a3 a4) then(0:Int) else(0:Int)
def HM (a0:Int) (a1:TStamp) (a2:TVec) (a3:Bool) (a4:ByteArray):TCell:=TCell.mk (TStamp.mk (bif(GH a0 a1 a2 a3 a4) then(LQ a0 a1 a2 a3 a4) else a1.1) (bif(GH a0 a1 a2 a3 a4) then(LQ a0 a1 a2 a3 a4) else a1.2)) (TVec.mk (bif(GH a0 a1 a2 a3 a4) then(LQ a0 a1 a2 a3 a4) else a2.1) (bif(GH a0 a1 a2 a3 a4) then(LQ a0 a1 a2 a3 a4) else a2.2)) (bif(GH a0 a1 a2 a3 a4) then bif(Iw a0 a1 a2 a3 a4) then false else bif(I8 a0 a1 a2 a3 a4) then false else false else a3) (bif(GH a0 a1 a2 a3 a4) then bif(Iw a0 a1 a2 a3 a4) then ByteArray.mk #[] else bif(I8 a0 a1 a2 a3 a4) then ByteArray.mk #[] else ByteArray.mk #[] else a4) (TVec.mk (bif(GH a0 a1 a2 a3 a4) then bif(Iw a0 a1 a2 a3 a4) then(0:Int) else bif(I8 a0 a1 a2 a3 a4) then(0:Int) else a2.1 else(0:Int)) (bif(GH a0 a1 a2 a3 a4) then bif(Iw a0 a1 a2 a3 a4) then(0:Int) else bif(I8 a0 a1 a2 a3 a4) then(0:Int) else a2.2 else(0:Int)))
def Bo2 (a0:Int) (a1:TStamp) (a2:TVec) (a3:Bool) (a4:ByteArray):Int:=bif(GH a0 a1 a2 a3 a4) then bif(Iw a0 a1 a2 a3 a4) then(2:Int) else bif(I8 a0 a1 a2 a3 a4) then(3:Int) else(0:Int) else(0:Int)
def Ajt (a0:Int) (a1:TStamp) (a2:TVec) (a3:Bool) (a4:ByteArray):A:=.v (.tuple ⟨[.agg ⟨[.int .i64 ((HM a0 a1 a2 a3 a4).stamp.n),.int .i64 ((HM a0 a1 a2 a3 a4).stamp.site),.int .i64 ((HM a0 a1 a2 a3 a4).vec.a),.int .i64 ((HM a0 a1 a2 a3 a4).vec.b),.bool ((HM a0 a1 a2 a3 a4).gone),.string ((HM a0 a1 a2 a3 a4).value),.int .i64 ((HM a0 a1 a2 a3 a4).dead.a),.int .i64 ((HM a0 a1 a2 a3 a4).dead.b)]⟩,.int .i64 (Bo2 a0 a1 a2 a3 a4)]⟩)
def Ajs (_a0:Int) (_a1:TStamp) (_a2:TVec) (_a3:Bool) (_a4:ByteArray):Objs:=[]
def Abm (_a0:Int) (_a1:TStamp) (_a2:TVec) (_a3:Bool) (_a4:ByteArray):List Prop:=[]
theorem Biv (a0:Int) (a1:TStamp) (a2:TVec) (a3:Bool) (a4:ByteArray):Er (Au Cb L0) 9 36 [Ae .i64 a0,Ae .stamp a1,Ae .vec a2,Ae .bool a3,Ae .str a4] 0 []=some (1,Ajt a0 a1 a2 a3 a4,0,Ajs a0 a1 a2 a3 a4,Abm a0 a1 a2 a3 a4):=by kernel_rfl
theorem Bo3 (a0:Int) (a1:TStamp) (a2:TVec) (a3:Bool) (a4:ByteArray) (hp:∀p∈Abm a0 a1 a2 a3 a4,p):CallOk Try.prog 36 [Ae .i64 a0,Ae .stamp a1,Ae .vec a2,Ae .bool a3,Ae .str a4] 0 [] 1 (Ajt a0 a1 a2 a3 a4) 0 (Ajs a0 a1 a2 a3 a4):=Az (Ap Bl3 Ay) (Biv a0 a1 a2 a3 a4) hp
def Aju:List A→Nat→Objs→Option AU:=A5 [.t .i64,.t .stamp,.t .vec,.t .bool,.t .str] 0 Ajt Ajs Abm
theorem An0:Ev Try.prog 36 Aju:=As (ks:=[.t .i64,.t .stamp,.t .vec,.t .bool,.t .str]) Bo3
noncomputable def B01:=AQ 36 Aju Cb
theorem Bl4:Cp Try.prog B01:=Ak An0 Bl3
def E6 (a0:TCell):Bool:=!(a0.1.1==(0:Int)&&a0.1.2==(0:Int)&&(a0.2.1==(0:Int)&&a0.2.2==(0:Int)&&(a0.3==false&&(a0.4.toList==(ByteArray.mk #[]).toList&&true))))
def Ot (a0:TCell):A:=.v (.bool (E6 a0))
def Oq (_a0:TCell):Objs:=[]
def M5 (_a0:TCell):List Prop:=[]
theorem Arn (a0:TCell):Er (Au B01 L0) 9 105 [Ae .cell a0] 0 []=some (1,Ot a0,0,Oq a0,M5 a0):=by kernel_rfl
theorem Avq (a0:TCell) (hp:∀p∈M5 a0,p):CallOk Try.prog 105 [Ae .cell a0] 0 [] 1 (Ot a0) 0 (Oq a0):=Az (Ap Bl4 Ay) (Arn a0) hp
def VO:List A→Nat→Objs→Option AU:=A5 [.t .cell] 0 Ot Oq M5
theorem Ajv:Ev Try.prog 105 VO:=As (ks:=[.t .cell]) Avq
noncomputable def B02:=AQ 105 VO B01
theorem Bl5:Cp Try.prog B02:=Ak Ajv Bl4
def AW (a0:Int) (a1:TCell):Bool:=bif bif a0==(1:Int) then !(a1.5.1==(0:Int)&&a1.5.2==(0:Int)) else !a0==(2:Int)||(a1.3||!BG a1.5) then bif a0==(1:Int) then false else bif a0==(2:Int) then false else false else bif !E6 a1 then true else decide (a1.1.1 >(0:Int))&&BQ a1.1&&BG a1.2&&decide ((↑a1.4.size:Int)≤(64:Int))&&!(a1.3&&!a1.4.toList==(ByteArray.mk #[]).toList)
def VL (a0:Int) (a1:TCell):A:=.v (.bool (AW a0 a1))
def VK (_a0:Int) (_a1:TCell):Objs:=[]
def Tw (_a0:Int) (_a1:TCell):List Prop:=[]
theorem A7t (a0:Int) (a1:TCell):Er (Au B02 L0) 9 38 [Ae .i64 a0,Ae .cell a1] 0 []=some (1,VL a0 a1,0,VK a0 a1,Tw a0 a1):=by kernel_rfl
theorem Any (a0:Int) (a1:TCell) (hp:∀p∈Tw a0 a1,p):CallOk Try.prog 38 [Ae .i64 a0,Ae .cell a1] 0 [] 1 (VL a0 a1) 0 (VK a0 a1):=Az (Ap Bl5 Ay) (A7t a0 a1) hp
def Anz:List A→Nat→Objs→Option AU:=A5 [.t .i64,.t .cell] 0 VL VK Tw
theorem A2e:Ev Try.prog 38 Anz:=As (ks:=[.t .i64,.t .cell]) Any
noncomputable def B03:=AQ 38 Anz B02
theorem Bl6:Cp Try.prog B03:=Ak A2e Bl5
def NW (a0:Int) (a1:TCell):Bool:=!AW a0 a1||!E6 a1||a1.3||!JW a1.2 a1.5
def MN (a0:Int) (a1:TCell):ByteArray:=bif(NW a0 a1) then ByteArray.mk #[] else a1.4
def Hi (a0:Int) (a1:TCell):Bool:=bif(NW a0 a1) then false else true
def VN (a0:Int) (a1:TCell):A:=.v (.tuple ⟨[.string (MN a0 a1),.bool (Hi a0 a1)]⟩)
def VM (_a0:Int) (_a1:TCell):Objs:=[]
def TA (_a0:Int) (_a1:TCell):List Prop:=[]
theorem A7w (a0:Int) (a1:TCell):Er (Au B03 L0) 9 40 [Ae .i64 a0,Ae .cell a1] 0 []=some (1,VN a0 a1,0,VM a0 a1,TA a0 a1):=by kernel_rfl
theorem Bdm (a0:Int) (a1:TCell) (hp:∀p∈TA a0 a1,p):CallOk Try.prog 40 [Ae .i64 a0,Ae .cell a1] 0 [] 1 (VN a0 a1) 0 (VM a0 a1):=Az (Ap Bl6 Ay) (A7w a0 a1) hp
def An5:List A→Nat→Objs→Option AU:=A5 [.t .i64,.t .cell] 0 VN VM TA
theorem A2g:Ev Try.prog 40 An5:=As (ks:=[.t .i64,.t .cell]) Bdm
noncomputable def B04:=AQ 40 An5 B03
theorem Bl7:Cp Try.prog B04:=Ak A2g Bl6
theorem Ke (c:TCell):E6 c=B9 c:=by
 unfold E6 B9
 have hg:(c.3==false)=!c.gone:=by show(c.gone==false)=!c.gone;cases c.gone<;>rfl
 rw[Ru,Bool.and_true,hg]
 simp only[Bool.and_assoc]
theorem Iv (p:Int) (c:TCell):AW p c=Bo p c:=by
 unfold AW Bo G3
 rw[Ke,KT,KT,Kb,Ru]
 have hw:(bif !B9 c then true else decide (c.1.1 >(0:Int))&&HF c.1&&Cx c.2&&decide (((c.4.size:Nat):Int)≤(64:Int))&&!(c.3&&!c.4.size==0))=bif !B9 c then true else HF c.stamp&&decide (0 <c.stamp.n)&&Cx c.vec&&decide ((c.value.size:Int)≤64)&&!(c.gone&&!(c.value.size==0)):=by
  rw[Bool.and_comm (decide (c.1.1 >(0:Int)))]
 rw[hw]
 generalize (bif !B9 c then true else HF c.stamp&&decide (0 <c.stamp.n)&&Cx c.vec&&decide ((c.value.size:Int)≤64)&&!(c.gone&&!(c.value.size==0)))=X
 by_cases h1:p=1
 ·subst h1
  show(bif !(c.5.1==(0:Int)&&c.5.2==(0:Int)) then false else X)=bif !(c.5.1==(0:Int)&&c.5.2==(0:Int))||false then false else X
  rw[Bool.or_false]
 ·have e1:(p==1)=false:=by simpa using h1
  rw[e1]
  by_cases h2:p=2
  ·subst h2
   show(bif c.3||!Cx c.5 then false else X)=bif(c.3||!Cx c.5)||false then false else X
   rw[Bool.or_false]
  ·have e2:(p==2)=false:=by simpa using h2
   rw[e2]
   rfl
def Ym (a0:List UInt8) (a1:TStamp):List UInt8:=a0++Nk (bif a1.1==(0:Int)&&a1.2==(0:Int) then(0:Int) else bif BQ a1 then IntKind.i64.wrap (IntKind.i64.wrap (IntKind.i64.wrap (a1.1*(2:Int))+a1.2) - (1:Int)) else(-1:Int))
def Are (_a0:List UInt8) (_a1:TStamp):A:=.sq 0
def QQ (a0:List UInt8) (a1:TStamp):Objs:=[(0,some (.arr 5 1 (.ty .u8 (Ym a0 a1))))]
def Ajf (a0:List UInt8) (_a1:TStamp):List Prop:=[(Ag (a0.length+(8:Nat)))]
theorem Bbl (a0:List UInt8) (a1:TStamp):Er (Au B04 L0) 9 121 [Ae .bytes a0,Ae .stamp a1] 0 []=some (1,Are a0 a1,1,QQ a0 a1,Ajf a0 a1):=by kernel_rfl
theorem Bht (a0:List UInt8) (a1:TStamp) (hp:∀p∈Ajf a0 a1,p):CallOk Try.prog 121 [Ae .bytes a0,Ae .stamp a1] 0 [] 1 (Are a0 a1) 1 (QQ a0 a1):=Az (Ap Bl7 Ay) (Bbl a0 a1) hp
def Ajg (_a0:List UInt8) (_a1:TStamp):A:=.sq 0
def Oe (a0:List UInt8) (a1:TStamp):Objs:=[(0,some (.arr 5 1 (.ty .u8 (a0++Bjy a1))))]
def Aa9 (a0:List UInt8) (_a1:TStamp):List Prop:=[Ag (a0.length+8)]
theorem Bbk (a0:List UInt8) (a1:TStamp):Ym a0 a1=a0++Bjy a1:=by
 unfold Ym Bjy B0h
 rw[Kb]
 congr 1
 cases hg:HF a1 with
 | false=>
  have hz:(a1.1==(0:Int)&&a1.2==(0:Int))=false:=by
   rw[Bool.eq_false_iff]
   intro h
   unfold HF at hg
   rw[h] at hg
   cases hg
  rw[hz]
  rfl
 | true=>
  have h':=Bpg.1 hg
  rw[cond_true,cond_true]
  congr 1
  by_cases h0:a1.n=0
  ·have hz:(a1.1==(0:Int)&&a1.2==(0:Int))=true:=by
    rcases h' with⟨h1,h2⟩|h1
    ·rw[h1,h2];rfl
    ·omega
   have e:(a1.n==0)=true:=by simpa using h0
   rw[hz,e]
   rfl
  ·have hz:(a1.1==(0:Int)&&a1.2==(0:Int))=false:=by
    have:(a1.1==(0:Int))=false:=by simpa using h0
    rw[this];rfl
   have e:(a1.n==0)=false:=by simpa using h0
   rw[hz,e,cond_false,cond_false,i64_in (n:=a1.1*2) (by omega),i64_in (n:=a1.1*2+a1.2) (by omega),i64_in (by omega)]
   omega
theorem Bbj (a0:List UInt8) (a1:TStamp) (hp:∀p∈Aa9 a0 a1,p):CallOk Try.prog 121 [Ae .bytes a0,Ae .stamp a1] 0 [] 1 (Ajg a0 a1) 1 (Oe a0 a1):=by
 have h:=Bht a0 a1 (Aa (hp _ (List.mem_cons_self ..)) Ad)
 have ho:QQ a0 a1=Oe a0 a1:=by unfold QQ Oe;rw[Bbk]
 rw[ho] at h
 exact h
def Arf:List A→Nat→Objs→Option AU:=A5 [.t .bytes,.t .stamp] 1 Ajg Oe Aa9
theorem A4s:Ev Try.prog 121 Arf:=As (ks:=[.t .bytes,.t .stamp]) Bbj
noncomputable def B05:=AQ 121 Arf B04
theorem Bl8:Cp Try.prog B05:=Ak A4s Bl7
def Uy (a0:List UInt8) (a1:TVec):List UInt8:=a0++Nk a1.1
def Anq (a0:List UInt8) (a1:TVec):List UInt8:=bif !BG a1 then[]++a0 else(Uy a0 a1)++Nk a1.2
def A6y (_a0:List UInt8) (_a1:TVec):A:=.sq 0
def YU (a0:List UInt8) (a1:TVec):Objs:=[(0,some (.arr 5 1 (.ty .u8 (Anq a0 a1))))]
def A2a (a0:List UInt8) (a1:TVec):List Prop:=[((!BG a1)=true→Ag ((0:Nat)+a0.length)),((!!BG a1)=true→Ag (a0.length+(8:Nat))),((!!BG a1)=true→Ag ((Uy a0 a1).length+(8:Nat)))]
theorem Blr (a0:List UInt8) (a1:TVec):Er (Au B05 L0) 9 120 [Ae .bytes a0,Ae .vec a1] 0 []=some (1,A6y a0 a1,1,YU a0 a1,A2a a0 a1):=by kernel_rfl
theorem Bqx (a0:List UInt8) (a1:TVec) (hp:∀p∈A2a a0 a1,p):CallOk Try.prog 120 [Ae .bytes a0,Ae .vec a1] 0 [] 1 (A6y a0 a1) 1 (YU a0 a1):=Az (Ap Bl8 Ay) (Blr a0 a1) hp
def A2b (_a0:List UInt8) (_a1:TVec):A:=.sq 0
def Uz (a0:List UInt8) (a1:TVec):Objs:=[(0,some (.arr 5 1 (.ty .u8 (a0++Ays a1))))]
def Arl (a0:List UInt8) (_a1:TVec):List Prop:=[Ag (a0.length+16)]
theorem Blq (a0:List UInt8) (a1:TVec):Anq a0 a1=a0++Ays a1:=by
 unfold Anq Uy Ays
 rw[KT]
 cases Cx a1 with
 |false=>exact(List.append_nil a0).symm
 |true=>exact List.append_assoc ..
theorem Blp (a0:List UInt8) (a1:TVec) (hp:∀p∈Arl a0 a1,p):CallOk Try.prog 120 [Ae .bytes a0,Ae .vec a1] 0 [] 1 (A2b a0 a1) 1 (Uz a0 a1):=by
 have hb:Ag (a0.length+16):=hp _ (List.mem_cons_self ..)
 have h:=Bqx a0 a1 (Aa (fun _=>by unfold Ag at*;omega) (Aa (fun _=>by unfold Ag at*;omega) (Aa (fun _=>by
  have:=Xq a1.1
  unfold Uy Ag at*
  rw[List.length_append]
  omega) Ad)))
 have ho:YU a0 a1=Uz a0 a1:=by unfold YU Uz;rw[Blq]
 rw[ho] at h
 exact h
def A6z:List A→Nat→Objs→Option AU:=A5 [.t .bytes,.t .vec] 1 A2b Uz Arl
theorem Bh3:Ev Try.prog 120 A6z:=As (ks:=[.t .bytes,.t .vec]) Blp
noncomputable def B06:=AQ 120 A6z B05
theorem Bl9:Cp Try.prog B06:=Ak Bh3 Bl8
def Lw (a0:List UInt8) (a1:ByteArray):List UInt8:=a0++Nk (↑a1.size:Int)
def ZX (a0:List UInt8) (a1:ByteArray):List UInt8:=(Lw a0 a1)++a1.data.toList
def ZY (_a0:List UInt8) (_a1:ByteArray):A:=.sq 0
def Ms (a0:List UInt8) (a1:ByteArray):Objs:=[(0,some (.arr 5 1 (.ty .u8 (ZX a0 a1))))]
def W7 (a0:List UInt8) (a1:ByteArray):List Prop:=[(Ag (a0.length+(8:Nat))),(Ag ((Lw a0 a1).length+a1.data.toList.length))]
theorem Ax6 (a0:List UInt8) (a1:ByteArray):Er (Au B06 L0) 9 122 [Ae .bytes a0,Ae .str a1] 0 []=some (1,ZY a0 a1,1,Ms a0 a1,W7 a0 a1):=by kernel_rfl
theorem A3j (a0:List UInt8) (a1:ByteArray) (hp:∀p∈W7 a0 a1,p):CallOk Try.prog 122 [Ae .bytes a0,Ae .str a1] 0 [] 1 (ZY a0 a1) 1 (Ms a0 a1):=Az (Ap Bl9 Ay) (Ax6 a0 a1) hp
def W8 (_a0:List UInt8) (_a1:ByteArray):A:=.sq 0
def Lx (a0:List UInt8) (a1:ByteArray):Objs:=[(0,some (.arr 5 1 (.ty .u8 (a0++A9x a1))))]
def UY (a0:List UInt8) (a1:ByteArray):List Prop:=[Ag (a0.length+8+a1.size)]
theorem W6 (a0:List UInt8) (a1:ByteArray) (hp:∀p∈UY a0 a1,p):CallOk Try.prog 122 [Ae .bytes a0,Ae .str a1] 0 [] 1 (W8 a0 a1) 1 (Lx a0 a1):=by
 have hb:Ag (a0.length+8+a1.size):=hp _ (List.mem_cons_self ..)
 have h:=A3j a0 a1 (Aa (by unfold Ag at*;omega) (Aa (by
  have:=Xq (a1.size:Int)
  have hs:a1.data.toList.length=a1.size:=Array.length_toList
  unfold Lw Ag at*
  rw[List.length_append,hs]
  omega) Ad))
 have ho:Ms a0 a1=Lx a0 a1:=by unfold Ms Lx ZX Lw A9x;rw[List.append_assoc]
 rw[ho] at h
 exact h
def ZZ:List A→Nat→Objs→Option AU:=A5 [.t .bytes,.t .str] 1 W8 Lx UY
theorem Aso:Ev Try.prog 122 ZZ:=As (ks:=[.t .bytes,.t .str]) W6
noncomputable def B07:=AQ 122 ZZ B06
theorem Bma:Cp Try.prog B07:=Ak Aso Bl9
def DA (_a0:List UInt8) (_a1:Int) (a2:TCell):Int:=bif a2.3 then IntKind.i64.wrap (↑(BitVec.ofInt (64:Nat) (bif E6 a2 then(1:Int) else(0:Int)) ||| BitVec.ofInt (64:Nat) (2:Int)).toNat:Int) else bif E6 a2 then(1:Int) else(0:Int)
def I9 (a0:List UInt8) (a1:Int) (a2:TCell):List UInt8:=a0++Nk (bif !(a2.5.1==(0:Int)&&a2.5.2==(0:Int)) then IntKind.i64.wrap (↑(BitVec.ofInt (64:Nat) (DA a0 a1 a2) ||| BitVec.ofInt (64:Nat) (4:Int)).toNat:Int) else(DA a0 a1 a2))++Bjy a2.1
def Ga (a0:List UInt8) (a1:Int) (a2:TCell):Bool:=decide (IntKind.i64.wrap (↑(BitVec.ofInt (64:Nat) (bif !(a2.5.1==(0:Int)&&a2.5.2==(0:Int)) then IntKind.i64.wrap (↑(BitVec.ofInt (64:Nat) (DA a0 a1 a2) ||| BitVec.ofInt (64:Nat) (4:Int)).toNat:Int) else(DA a0 a1 a2)) &&& BitVec.ofInt (64:Nat) (1:Int)).toNat:Int) >(0:Int))
def PZ (a0:List UInt8) (a1:Int) (a2:TCell):Bool:=decide (IntKind.i64.wrap (↑(BitVec.ofInt (64:Nat) (bif !(a2.5.1==(0:Int)&&a2.5.2==(0:Int)) then IntKind.i64.wrap (↑(BitVec.ofInt (64:Nat) (DA a0 a1 a2) ||| BitVec.ofInt (64:Nat) (4:Int)).toNat:Int) else(DA a0 a1 a2)) &&& BitVec.ofInt (64:Nat) (4:Int)).toNat:Int) >(0:Int))
def KM (a0:List UInt8) (a1:Int) (a2:TCell):List UInt8:=bif(Ga a0 a1 a2) then bif !a2.3 then(I9 a0 a1 a2)++Ays a2.2++A9x a2.4 else(I9 a0 a1 a2)++Ays a2.2 else a0++Nk (bif !(a2.5.1==(0:Int)&&a2.5.2==(0:Int)) then IntKind.i64.wrap (↑(BitVec.ofInt (64:Nat) (DA a0 a1 a2) ||| BitVec.ofInt (64:Nat) (4:Int)).toNat:Int) else(DA a0 a1 a2))
def Abn (a0:List UInt8) (a1:Int) (a2:TCell):List UInt8:=bif !AW a1 a2 then[]++a0 else bif(PZ a0 a1 a2) then(KM a0 a1 a2)++Ays (TVec.mk (bif(Ga a0 a1 a2) then bif !a2.3 then a2.5.1 else a2.5.1 else a2.5.1) (bif(Ga a0 a1 a2) then bif !a2.3 then a2.5.2 else a2.5.2 else a2.5.2)) else(KM a0 a1 a2)
def Avo (_a0:List UInt8) (_a1:Int) (_a2:TCell):A:=.sq 0
def Tz (a0:List UInt8) (a1:Int) (a2:TCell):Objs:=[(0,some (.arr 5 1 (.ty .u8 (Abn a0 a1 a2))))]
def An3 (a0:List UInt8) (a1:Int) (a2:TCell):List Prop:=[((!AW a1 a2)=true→Ag ((0:Nat)+a0.length)),((!!AW a1 a2)=true→Ag (a0.length+(8:Nat))),((!!AW a1 a2)=true→(Ga a0 a1 a2)=true→Ag ((a0++Nk (bif !(a2.5.1==(0:Int)&&a2.5.2==(0:Int)) then IntKind.i64.wrap (↑(BitVec.ofInt (64:Nat) (DA a0 a1 a2) ||| BitVec.ofInt (64:Nat) (4:Int)).toNat:Int) else(DA a0 a1 a2))).length+(8:Nat))),((!!AW a1 a2)=true→(Ga a0 a1 a2)=true→Ag ((I9 a0 a1 a2).length+(16:Nat))),((!!AW a1 a2)=true→(Ga a0 a1 a2)=true→(!a2.3)=true→Ag (((I9 a0 a1 a2)++Ays a2.2).length+(8:Nat)+a2.4.size)),((!!AW a1 a2)=true→(PZ a0 a1 a2)=true→Ag ((KM a0 a1 a2).length+(16:Nat)))]
theorem Bdl (a0:List UInt8) (a1:Int) (a2:TCell):Er (Au B07 L0) 9 56 [Ae .bytes a0,Ae .i64 a1,Ae .cell a2] 0 []=some (1,Avo a0 a1 a2,1,Tz a0 a1 a2,An3 a0 a1 a2):=by kernel_rfl
theorem Biw (a0:List UInt8) (a1:Int) (a2:TCell) (hp:∀p∈An3 a0 a1 a2,p):CallOk Try.prog 56 [Ae .bytes a0,Ae .i64 a1,Ae .cell a2] 0 [] 1 (Avo a0 a1 a2) 1 (Tz a0 a1 a2):=Az (Ap Bma Ay) (Bdl a0 a1 a2) hp
def An4 (_a0:List UInt8) (_a1:Int) (_a2:TCell):A:=.sq 0
def P0 (a0:List UInt8) (a1:Int) (a2:TCell):Objs:=[(0,some (.arr 5 1 (.ty .u8 (a0++Bfr a1 a2))))]
def Ae6 (a0:List UInt8) (_a1:Int) (_a2:TCell):List Prop:=[Ag (a0.length+128)]
theorem LR (a0:List UInt8) (a1:Int) (c:TCell):(bif !(c.5.1==(0:Int)&&c.5.2==(0:Int)) then IntKind.i64.wrap (↑(BitVec.ofInt (64:Nat) (DA a0 a1 c) ||| BitVec.ofInt (64:Nat) (4:Int)).toNat:Int) else(DA a0 a1 c))=OJ c:=by
 unfold DA OJ
 rw[Ke]
 show(bif !(G3 c.dead) then _ else _)=_
 cases B9 c<;>cases c.gone<;>cases G3 c.dead<;>rfl
theorem An1 (a0:List UInt8) (a1:Int) (c:TCell):Ga a0 a1 c=B9 c:=by
 unfold Ga
 obtain⟨h1,_,h3,_⟩:=Bee c
 rw[LR,Aex h1 0 1 rfl (by decide)]
 exact h3
theorem Bdj (a0:List UInt8) (a1:Int) (c:TCell):PZ a0 a1 c=!G3 c.dead:=by
 unfold PZ
 obtain⟨h1,_,_,_,h5⟩:=Bee c
 rw[LR,Aex h1 2 4 rfl (by decide)]
 exact h5
theorem Bdk (a0:List UInt8) (a1:Int) (c:TCell):Abn a0 a1 c=a0++Bfr a1 c:=by
 unfold Abn KM I9 Bfr Bsz
 rw[Iv,LR,An1,Bdj]
 have hd:∀w g:Bool,(TVec.mk (bif w then bif !g then c.5.1 else c.5.1 else c.5.1) (bif w then bif !g then c.5.2 else c.5.2 else c.5.2))=c.dead:=by intro w g;cases w<;>cases g<;>rfl
 rw[hd]
 cases Bo a1 c<;>cases B9 c<;>cases c.gone<;>cases G3 c.dead<;>simp
theorem An2 (a0:List UInt8) (a1:Int) (a2:TCell) (hp:∀p∈Ae6 a0 a1 a2,p):CallOk Try.prog 56 [Ae .bytes a0,Ae .i64 a1,Ae .cell a2] 0 [] 1 (An4 a0 a1 a2) 1 (P0 a0 a1 a2):=by
 have hb:Ag (a0.length+128):=hp _ (List.mem_cons_self ..)
 unfold Ag at hb
 have n8:=Xq (OJ a2)
 have s8:=Bu4 a2.stamp
 have v16:=A9y a2.vec
 have t8:=Bjz a2.value
 have k3:(I9 a0 a1 a2).length≤a0.length+16:=by
  unfold I9
  rw[LR,List.length_append,List.length_append]
  omega
 have sz:(!!AW a1 a2)=true→Ga a0 a1 a2=true→a2.value.size≤64:=fun h1 h2=>by
  rw[Iv,Bool.not_not] at h1
  rw[An1] at h2
  have:=((A5k.1 h1).st h2).2.2.2.1
  omega
 have h:=Biw a0 a1 a2 (Aa (fun _=>by unfold Ag;omega) (Aa (fun _=>by unfold Ag;omega) (Aa (fun _ _=>by rw[LR,List.length_append];unfold Ag;omega) (Aa (fun _ _=>by unfold Ag;omega) (Aa (fun h1 h2 _=>by
   have:=sz h1 h2
   rw[List.length_append];unfold Ag;omega) (Aa (fun h1 _=>by
   have:(KM a0 a1 a2).length≤a0.length+112:=by
    unfold KM
    rw[LR]
    cases hw:Ga a0 a1 a2 with
    |false=>rw[cond_false,List.length_append];omega
    |true=>
     have:=sz h1 hw
     rw[cond_true]
     cases a2.3 with
     |true=>simp only[Bool.not_true,cond_false,List.length_append];omega
     |false=>simp only[Bool.not_false,cond_true,List.length_append];omega
   unfold Ag;omega) Ad))))))
 have ho:Tz a0 a1 a2=P0 a0 a1 a2:=by unfold Tz P0;rw[Bdk]
 rw[ho] at h
 exact h
def Avp:List A→Nat→Objs→Option AU:=A5 [.t .bytes,.t .i64,.t .cell] 1 An4 P0 Ae6
theorem A7v:Ev Try.prog 56 Avp:=As (ks:=[.t .bytes,.t .i64,.t .cell]) An2
noncomputable def B08:=AQ 56 Avp B07
theorem Bmb:Cp Try.prog B08:=Ak A7v Bma
def LJ (a0:List UInt8):Bool:=(Am a0).fst==(0:Int)
def LI (a0:List UInt8):Bool:=(Am a0).snd.snd !=(0:Int)
def LH (a0:List UInt8):Bool:=!BQ (TStamp.mk ((Am a0).fst.fdiv (2:Int)) (IntKind.i64.wrap (IntKind.i64.wrap (↑(BitVec.ofInt (64:Nat) (Am a0).fst &&& BitVec.ofInt (64:Nat) (1:Int)).toNat:Int)+(1:Int))))
def QO (a0:List UInt8):TStamp:=TStamp.mk (bif(LI a0) then(0:Int) else bif(LJ a0) then(0:Int) else bif(LH a0) then(0:Int) else(Am a0).fst.fdiv (2:Int)) (bif(LI a0) then(0:Int) else bif(LJ a0) then(0:Int) else bif(LH a0) then(0:Int) else IntKind.i64.wrap (IntKind.i64.wrap (↑(BitVec.ofInt (64:Nat) (Am a0).fst &&& BitVec.ofInt (64:Nat) (1:Int)).toNat:Int)+(1:Int)))
def Yk (a0:List UInt8):Int:=bif(LI a0) then(0:Int) else bif(LJ a0) then(Am a0).snd.fst else bif(LH a0) then(0:Int) else(Am a0).snd.fst
def Yl (a0:List UInt8):Int:=bif(LI a0) then(Am a0).snd.snd else bif(LJ a0) then(0:Int) else bif(LH a0) then(11:Int) else(0:Int)
def QP (a0:List UInt8):A:=.v (.tuple ⟨[.agg ⟨[.int .i64 ((QO a0).n),.int .i64 ((QO a0).site)]⟩,.int .i64 (Yk a0),.int .i64 (Yl a0)]⟩)
def Arc (_a0:List UInt8):Objs:=[]
def Ajc (_a0:List UInt8):List Prop:=[]
theorem Bbg (a0:List UInt8):Er (Au B08 L0) 9 115 [Ae .bytes a0] 0 []=some (1,QP a0,0,Arc a0,Ajc a0):=by kernel_rfl
theorem Bhs (a0:List UInt8) (hp:∀p∈Ajc a0,p):CallOk Try.prog 115 [Ae .bytes a0] 0 [] 1 (QP a0) 0 (Arc a0):=Az (Ap Bmb Ay) (Bbg a0) hp
def Od (a0:List UInt8):A:=.v (.tuple ⟨[.agg ⟨[.int .i64 (FW a0).1.n,.int .i64 (FW a0).1.site]⟩,.int .i64 (FW a0).2.1,.int .i64 (FW a0).2.2]⟩)
def Ajb (_a0:List UInt8):Objs:=[]
def Aa8 (_a0:List UInt8):List Prop:=[]
theorem Bbf (b:List UInt8):(QO b,Yk b,Yl b)=FW b:=by
 obtain⟨_,_,_,hn0,hn1⟩:=Hm b
 have hok:okN (Am b).1:=⟨hn0,hn1⟩
 unfold QO Yk Yl LH LI LJ FW B15
 rw[Bxi hok,Kb,Int.fdiv_eq_ediv_of_nonneg _ (by decide)]
 by_cases he:(Am b).2.2=0
 ·have e1:((Am b).2.2 !=(0:Int))=false:=by rw[he];rfl
  rw[e1,if_neg (by rw[he];simp)]
  by_cases hz:(Am b).1=0
  ·have e2:((Am b).1==(0:Int))=true:=by rw[hz];rfl
   rw[e2,if_pos hz]
   rfl
  ·have e2:((Am b).1==(0:Int))=false:=by simpa using hz
   rw[e2,if_neg hz]
   cases hg:HF ⟨(Am b).1 / 2,1+(Am b).1 % 2⟩ with
   |true=>rfl
   |false=>rfl
 ·have e1:((Am b).2.2 !=(0:Int))=true:=by simpa using he
  rw[e1,if_pos he]
  rfl
theorem Bbe (a0:List UInt8) (_hp:∀p∈Aa8 a0,p):CallOk Try.prog 115 [Ae .bytes a0] 0 [] 1 (Od a0) 0 (Ajb a0):=by
 have h:=Bhs a0 Ad
 have hr:QP a0=Od a0:=by unfold QP Od;rw[←Bbf]
 rw[hr] at h
 exact h
def Ard:List A→Nat→Objs→Option AU:=A5 [.t .bytes] 0 Od Ajb Aa8
theorem A4p:Ev Try.prog 115 Ard:=As (ks:=[.t .bytes]) Bbe
noncomputable def B09:=AQ 115 Ard B08
theorem Bmc:Cp Try.prog B09:=Ak A4p Bmb
def Eb (a0:List UInt8):Bool:=(Am (List.take ((↑a0.length:Int).toNat - (0:Nat)) (List.drop (0:Nat) a0))).snd.snd !=(0:Int)
def Dz (a0:List UInt8):Int:=IntKind.i64.wrap ((0:Int)+(Am (List.take ((↑a0.length:Int).toNat - (0:Nat)) (List.drop (0:Nat) a0))).snd.fst)
def Uw (a0:List UInt8):Int:=bif(Eb a0) then(0:Int) else(0:Int)
def KK (a0:List UInt8):Int:=(Am (List.take ((↑a0.length:Int).toNat - (Dz a0).toNat) (List.drop (Dz a0).toNat a0))).snd.snd
def PN (a0:List UInt8):Bool:=!BG (TVec.mk (Am (List.take ((↑a0.length:Int).toNat - (0:Nat)) (List.drop (0:Nat) a0))).fst (Am (List.take ((↑a0.length:Int).toNat - (Dz a0).toNat) (List.drop (Dz a0).toNat a0))).fst)
def PM (a0:List UInt8):Bool:=(Eb a0)||(KK a0) !=(0:Int)
def YS (a0:List UInt8):TVec:=TVec.mk (bif(PM a0) then(Uw a0) else bif(PN a0) then(0:Int) else(Am (List.take ((↑a0.length:Int).toNat - (0:Nat)) (List.drop (0:Nat) a0))).fst) (bif(PM a0) then(Uw a0) else bif(PN a0) then(0:Int) else(Am (List.take ((↑a0.length:Int).toNat - (Dz a0).toNat) (List.drop (Dz a0).toNat a0))).fst)
def Ano (a0:List UInt8):Int:=bif(PM a0) then(Uw a0) else bif(PN a0) then(0:Int) else IntKind.i64.wrap ((Dz a0)+(Am (List.take ((↑a0.length:Int).toNat - (Dz a0).toNat) (List.drop (Dz a0).toNat a0))).snd.fst)
def Anp (a0:List UInt8):Int:=bif(PM a0) then bif(Eb a0) then(Am (List.take ((↑a0.length:Int).toNat - (0:Nat)) (List.drop (0:Nat) a0))).snd.snd else(KK a0) else bif(PN a0) then(11:Int) else(0:Int)
def YT (a0:List UInt8):A:=.v (.tuple ⟨[.agg ⟨[.int .i64 ((YS a0).a),.int .i64 ((YS a0).b)]⟩,.int .i64 (Ano a0),.int .i64 (Anp a0)]⟩)
def A6w (_a0:List UInt8):Objs:=[]
def A14 (a0:List UInt8):List Prop:=[((!(Eb a0))=true→(0:Int)≤(Dz a0)∧(Dz a0)≤(↑a0.length:Int)∧(↑a0.length:Int)≤(↑a0.length:Int))]
theorem Blm (a0:List UInt8):Er (Au B09 L0) 9 116 [Ae .bytes a0] 0 []=some (1,YT a0,0,A6w a0,[((0:Int)≤(0:Int)∧(0:Int)≤(↑a0.length:Int)∧(↑a0.length:Int)≤(↑a0.length:Int)),((!(Eb a0))=true→(0:Int)≤(0:Int)∧(0:Int) <(2:Int)),((!(Eb a0))=true→(0:Nat) <(2:Nat)),((!(Eb a0))=true→(0:Int)≤(Dz a0)∧(Dz a0)≤(↑a0.length:Int)∧(↑a0.length:Int)≤(↑a0.length:Int)),((!(Eb a0))=true→(!(KK a0) !=(0:Int))=true→(0:Int)≤(1:Int)∧(1:Int) <(2:Int)),((!(Eb a0))=true→(!(KK a0) !=(0:Int))=true→(1:Nat) <(2:Nat))]):=by kernel_rfl
theorem Bqw (a0:List UInt8) (hp:∀p∈A14 a0,p):CallOk Try.prog 116 [Ae .bytes a0] 0 [] 1 (YT a0) 0 (A6w a0):=by
 have n0:((0:Int)≤(0:Int)∧(0:Int)≤(↑a0.length:Int)∧(↑a0.length:Int)≤(↑a0.length:Int)):=by omega
 have n1:((!(Eb a0))=true→(0:Int)≤(0:Int)∧(0:Int) <(2:Int)):=by omega
 have n2:((!(Eb a0))=true→(0:Nat) <(2:Nat)):=by omega
 have n3:=N0 hp
 have n4:((!(Eb a0))=true→(!(KK a0) !=(0:Int))=true→(0:Int)≤(1:Int)∧(1:Int) <(2:Int)):=by omega
 have n5:((!(Eb a0))=true→(!(KK a0) !=(0:Int))=true→(1:Nat) <(2:Nat)):=by omega
 exact Az (Ap Bmc Ay) (Blm a0) (Aa n0 (Aa n1 (Aa n2 (Aa n3 (Aa n4 (Aa n5 Ad))))))
def Ux (a0:List UInt8):A:=.v (.tuple ⟨[.agg ⟨[.int .i64 (FF a0).1.a,.int .i64 (FF a0).1.b]⟩,.int .i64 (FF a0).2.1,.int .i64 (FF a0).2.2]⟩)
def A13 (_a0:List UInt8):Objs:=[]
def Ari (_a0:List UInt8):List Prop:=[]
theorem Ei {b:List UInt8} {k:Int}:List.take (((b.length:Nat):Int).toNat - k.toNat) (List.drop k.toNat b)=b.drop k.toNat:=by
 rw[Int.toNat_natCast]
 exact List.take_of_length_le (by rw[List.length_drop];exact Nat.le_refl _)
theorem Bll (b:List UInt8):(∀p∈A14 b,p)∧(YS b,Ano b,Anp b)=FF b:=by
 obtain⟨hk0,hk1,hk2,hn0,hn1⟩:=Hm b
 have e0:List.take (((b.length:Nat):Int).toNat - (0:Nat)) (List.drop (0:Nat) b)=b:=by
  simp
 have k4:Dz b=(Am b).2.1:=by
  unfold Dz
  rw[e0,i64_in (by omega)]
  omega
 refine⟨Aa (fun _=>?_) Ad,?_⟩
 ·rw[k4];omega
 ·unfold YS Ano Anp PM PN KK Uw Eb FF
  rw[k4,e0,Ei,KT]
  obtain⟨hj0,hj1,hj2,hm0,hm1⟩:=Hm (b.drop (Am b).2.1.toNat)
  rw[i64_in (n:=(Am b).2.1+_) (by omega)]
  by_cases he:(Am b).2.2=0
  ·have e1:((Am b).2.2 !=(0:Int))=false:=by rw[he];rfl
   rw[e1,if_neg (by rw[he];simp)]
   by_cases he2:(Am (b.drop (Am b).2.1.toNat)).2.2=0
   ·have e2:((Am (b.drop (Am b).2.1.toNat)).2.2 !=(0:Int))=false:=by rw[he2];rfl
    rw[e2,if_neg (by rw[he2];simp)]
    cases hg:Cx ⟨(Am b).1,(Am (b.drop (Am b).2.1.toNat)).1⟩ with
    |true=>rfl
    |false=>rfl
   ·have e2:((Am (b.drop (Am b).2.1.toNat)).2.2 !=(0:Int))=true:=by simpa using he2
    rw[e2,if_pos he2]
    rfl
  ·have e1:((Am b).2.2 !=(0:Int))=true:=by simpa using he
   rw[e1,if_pos he]
   rfl
theorem Blk (a0:List UInt8) (_hp:∀p∈Ari a0,p):CallOk Try.prog 116 [Ae .bytes a0] 0 [] 1 (Ux a0) 0 (A13 a0):=by
 obtain⟨h1,h2⟩:=Bll a0
 have h:=Bqw a0 h1
 have hr:YT a0=Ux a0:=by unfold YT Ux;rw[←h2]
 rw[hr] at h
 exact h
def A6x:List A→Nat→Objs→Option AU:=A5 [.t .bytes] 0 Ux A13 Ari
theorem Bh0:Ev Try.prog 116 A6x:=As (ks:=[.t .bytes]) Blk
noncomputable def Bro:=AQ 116 A6x B09
theorem Bcc:Cp Try.prog Bro:=Ak Bh0 Bmc
def HW (a0:List UInt8) (_a1:Int):Bool:=(Am a0).snd.snd !=(0:Int)
def HV (a0:List UInt8) (_a1:Int):Int:=IntKind.i64.wrap ((Am a0).snd.fst+(Am a0).fst)
def HU (a0:List UInt8) (a1:Int):Bool:=decide ((Am a0).fst >a1)
def HT (a0:List UInt8) (a1:Int):Bool:=(HW a0 a1)||((HU a0 a1)||decide (IntKind.i64.wrap ((↑a0.length:Int) - (Am a0).snd.fst) <(Am a0).fst))
def Rv (a0:List UInt8) (a1:Int):ByteArray:=bif(HT a0 a1) then bif(HW a0 a1) then ByteArray.mk #[] else bif(HU a0 a1) then ByteArray.mk #[] else ByteArray.mk #[] else ByteArray.mk (List.take ((HV a0 a1).toNat - (Am a0).snd.fst.toNat) (List.drop (Am a0).snd.fst.toNat a0)).toArray
def Rw (a0:List UInt8) (a1:Int):Int:=bif(HT a0 a1) then bif(HW a0 a1) then(0:Int) else bif(HU a0 a1) then(0:Int) else(0:Int) else(HV a0 a1)
def Rx (a0:List UInt8) (a1:Int):Int:=bif(HT a0 a1) then bif(HW a0 a1) then(Am a0).snd.snd else bif(HU a0 a1) then(3:Int) else(10:Int) else(0:Int)
def Mr (a0:List UInt8) (a1:Int):A:=.v (.tuple ⟨[.string (Rv a0 a1),.int .i64 (Rw a0 a1),.int .i64 (Rx a0 a1)]⟩)
def ZV (_a0:List UInt8) (_a1:Int):Objs:=[]
def O3 (a0:List UInt8) (a1:Int):List Prop:=[((!(HT a0 a1))=true→(0:Int)≤(Am a0).snd.fst∧(Am a0).snd.fst≤(HV a0 a1)∧(HV a0 a1)≤(↑a0.length:Int))]
theorem Ax0 (a0:List UInt8) (a1:Int):Er (Au Bro L0) 9 117 [Ae .bytes a0,Ae .i64 a1] 0 []=some (1,Mr a0 a1,0,ZV a0 a1,O3 a0 a1):=by kernel_rfl
theorem A3g (a0:List UInt8) (a1:Int) (hp:∀p∈O3 a0 a1,p):CallOk Try.prog 117 [Ae .bytes a0,Ae .i64 a1] 0 [] 1 (Mr a0 a1) 0 (ZV a0 a1):=Az (Ap Bcc Ay) (Ax0 a0 a1) hp
def Lu (a0:List UInt8) (a1:Int):A:=.v (.tuple ⟨[.string (Wa a0 a1).1,.int .i64 (Wa a0 a1).2.1,.int .i64 (Wa a0 a1).2.2]⟩)
def W0 (_a0:List UInt8) (_a1:Int):Objs:=[]
def UW (a0:List UInt8) (_a1:Int):List Prop:=[Ag a0.length]
theorem Axz (b:List UInt8) (m:Int) (hb:Ag b.length):(∀p∈O3 b m,p)∧(Rv b m,Rw b m,Rx b m)=Wa b m:=by
 obtain⟨hk0,hk1,hk2,hn0,hn1⟩:=Hm b
 unfold Ag at hb
 have k2:HV b m=(Am b).2.1+(Am b).1:=by
  unfold HV
  exact i64_in (by omega)
 have k0:HT b m=((Am b).2.2 !=0||(decide ((Am b).1 >m)||decide ((b.length:Int) - (Am b).2.1 <(Am b).1))):=by
  unfold HT HU HW
  rw[i64_in (by omega)]
 refine⟨Aa (fun h=>?_) Ad,?_⟩
 ·rw[k0] at h
  rw[k2]
  simp only[Bool.not_eq_true',Bool.or_eq_false_iff,decide_eq_false_iff_not] at h
  omega
 ·unfold Rv Rw Rx HU HW Wa
  rw[k0,k2]
  by_cases he:(Am b).2.2=0
  ·have e1:((Am b).2.2 !=(0:Int))=false:=by rw[he];rfl
   rw[e1,if_neg (by rw[he];simp)]
   by_cases hm:(Am b).1 >m
   ·rw[decide_eq_true hm,if_pos hm];rfl
   ·rw[decide_eq_false hm,if_neg hm]
    by_cases hc:(b.length:Int) - (Am b).2.1 <(Am b).1
    ·rw[decide_eq_true hc,if_pos hc];rfl
    ·rw[decide_eq_false hc,if_neg hc]
     have e3:((Am b).2.1+(Am b).1).toNat - (Am b).2.1.toNat=(Am b).1.toNat:=by omega
     rw[e3]
     rfl
  ·have e1:((Am b).2.2 !=(0:Int))=true:=by simpa using he
   rw[e1,if_pos he]
   rfl
theorem Axy (a0:List UInt8) (a1:Int) (hp:∀p∈UW a0 a1,p):CallOk Try.prog 117 [Ae .bytes a0,Ae .i64 a1] 0 [] 1 (Lu a0 a1) 0 (W0 a0 a1):=by
 obtain⟨h1,h2⟩:=Axz a0 a1 (hp _ (List.mem_cons_self ..))
 have h:=A3g a0 a1 h1
 have hr:Mr a0 a1=Lu a0 a1:=by unfold Mr Lu;rw[←h2]
 rw[hr] at h
 exact h
def ZW:List A→Nat→Objs→Option AU:=A5 [.t .bytes,.t .i64] 0 Lu W0 UW
theorem Asm:Ev Try.prog 117 ZW:=As (ks:=[.t .bytes,.t .i64]) Axy
noncomputable def Brp:=AQ 117 ZW Bro
theorem Bcd:Cp Try.prog Brp:=Ak Asm Bcc
noncomputable def Brq:=AQ 113 (inl (Au Brp L0) 9 113) Brp
theorem Bce:Cp Try.prog Brq:=Ak (TL (Ap Bcd Ay) 9 113) Bcd
def AJ (a0:List UInt8) (_a1:Int):Int:=IntKind.i64.wrap ((0:Int)+(Am a0).snd.fst)
def AK (a0:List UInt8) (a1:Int):Int:=IntKind.i64.wrap ((AJ a0 a1)+(FW (List.take ((↑a0.length:Int).toNat - (AJ a0 a1).toNat) (List.drop (AJ a0 a1).toNat a0))).snd.fst)
def E1 (a0:List UInt8) (a1:Int):Int:=bif(Am a0).snd.snd==(0:Int)&&decide (IntKind.i64.wrap (↑(BitVec.ofInt (64:Nat) (Am a0).fst &&& BitVec.ofInt (64:Nat) (1:Int)).toNat:Int) >(0:Int)) then bif !decide (IntKind.i64.wrap (↑(BitVec.ofInt (64:Nat) (Am a0).fst &&& BitVec.ofInt (64:Nat) (2:Int)).toNat:Int) >(0:Int)) then(FF (List.take ((↑a0.length:Int).toNat - (AK a0 a1).toNat) (List.drop (AK a0 a1).toNat a0))).fst.2 else(FF (List.take ((↑a0.length:Int).toNat - (AK a0 a1).toNat) (List.drop (AK a0 a1).toNat a0))).fst.2 else(0:Int)
def F9 (a0:List UInt8) (a1:Int):Int:=bif(Am a0).snd.snd==(0:Int)&&decide (IntKind.i64.wrap (↑(BitVec.ofInt (64:Nat) (Am a0).fst &&& BitVec.ofInt (64:Nat) (1:Int)).toNat:Int) >(0:Int)) then bif !decide (IntKind.i64.wrap (↑(BitVec.ofInt (64:Nat) (Am a0).fst &&& BitVec.ofInt (64:Nat) (2:Int)).toNat:Int) >(0:Int)) then(FF (List.take ((↑a0.length:Int).toNat - (AK a0 a1).toNat) (List.drop (AK a0 a1).toNat a0))).fst.1 else(FF (List.take ((↑a0.length:Int).toNat - (AK a0 a1).toNat) (List.drop (AK a0 a1).toNat a0))).fst.1 else(0:Int)
def F8 (a0:List UInt8) (a1:Int):Int:=bif(Am a0).snd.snd==(0:Int)&&decide (IntKind.i64.wrap (↑(BitVec.ofInt (64:Nat) (Am a0).fst &&& BitVec.ofInt (64:Nat) (1:Int)).toNat:Int) >(0:Int)) then bif !decide (IntKind.i64.wrap (↑(BitVec.ofInt (64:Nat) (Am a0).fst &&& BitVec.ofInt (64:Nat) (2:Int)).toNat:Int) >(0:Int)) then(FW (List.take ((↑a0.length:Int).toNat - (AJ a0 a1).toNat) (List.drop (AJ a0 a1).toNat a0))).fst.2 else(FW (List.take ((↑a0.length:Int).toNat - (AJ a0 a1).toNat) (List.drop (AJ a0 a1).toNat a0))).fst.2 else(0:Int)
def F7 (a0:List UInt8) (a1:Int):Int:=bif(Am a0).snd.snd==(0:Int)&&decide (IntKind.i64.wrap (↑(BitVec.ofInt (64:Nat) (Am a0).fst &&& BitVec.ofInt (64:Nat) (1:Int)).toNat:Int) >(0:Int)) then bif !decide (IntKind.i64.wrap (↑(BitVec.ofInt (64:Nat) (Am a0).fst &&& BitVec.ofInt (64:Nat) (2:Int)).toNat:Int) >(0:Int)) then(FW (List.take ((↑a0.length:Int).toNat - (AJ a0 a1).toNat) (List.drop (AJ a0 a1).toNat a0))).fst.1 else(FW (List.take ((↑a0.length:Int).toNat - (AJ a0 a1).toNat) (List.drop (AJ a0 a1).toNat a0))).fst.1 else(0:Int)
def El (a0:List UInt8) (_a1:Int):Int:=bif(Am a0).snd.snd==(0:Int)&&decide (IntKind.i64.wrap (↑(BitVec.ofInt (64:Nat) (Am a0).fst &&& BitVec.ofInt (64:Nat) (1:Int)).toNat:Int) >(0:Int)) then bif !decide (IntKind.i64.wrap (↑(BitVec.ofInt (64:Nat) (Am a0).fst &&& BitVec.ofInt (64:Nat) (2:Int)).toNat:Int) >(0:Int)) then(0:Int) else(0:Int) else(0:Int)
def Bz (a0:List UInt8) (a1:Int):Int:=IntKind.i64.wrap ((AK a0 a1)+(FF (List.take ((↑a0.length:Int).toNat - (AK a0 a1).toNat) (List.drop (AK a0 a1).toNat a0))).snd.fst)
def Ek (a0:List UInt8) (_a1:Int):Bool:=bif(Am a0).snd.snd==(0:Int)&&decide (IntKind.i64.wrap (↑(BitVec.ofInt (64:Nat) (Am a0).fst &&& BitVec.ofInt (64:Nat) (1:Int)).toNat:Int) >(0:Int)) then bif !decide (IntKind.i64.wrap (↑(BitVec.ofInt (64:Nat) (Am a0).fst &&& BitVec.ofInt (64:Nat) (2:Int)).toNat:Int) >(0:Int)) then decide (IntKind.i64.wrap (↑(BitVec.ofInt (64:Nat) (Am a0).fst &&& BitVec.ofInt (64:Nat) (2:Int)).toNat:Int) >(0:Int)) else decide (IntKind.i64.wrap (↑(BitVec.ofInt (64:Nat) (Am a0).fst &&& BitVec.ofInt (64:Nat) (2:Int)).toNat:Int) >(0:Int)) else false
def F6 (a0:List UInt8) (a1:Int):ByteArray:=bif(Am a0).snd.snd==(0:Int)&&decide (IntKind.i64.wrap (↑(BitVec.ofInt (64:Nat) (Am a0).fst &&& BitVec.ofInt (64:Nat) (1:Int)).toNat:Int) >(0:Int)) then bif !decide (IntKind.i64.wrap (↑(BitVec.ofInt (64:Nat) (Am a0).fst &&& BitVec.ofInt (64:Nat) (2:Int)).toNat:Int) >(0:Int)) then(Wa (List.take ((↑a0.length:Int).toNat - (Bz a0 a1).toNat) (List.drop (Bz a0 a1).toNat a0)) (64:Int)).fst else ByteArray.mk #[] else ByteArray.mk #[]
def AV (a0:List UInt8) (a1:Int):Int:=bif(Am a0).snd.snd==(0:Int)&&decide (IntKind.i64.wrap (↑(BitVec.ofInt (64:Nat) (Am a0).fst &&& BitVec.ofInt (64:Nat) (1:Int)).toNat:Int) >(0:Int)) then bif !decide (IntKind.i64.wrap (↑(BitVec.ofInt (64:Nat) (Am a0).fst &&& BitVec.ofInt (64:Nat) (2:Int)).toNat:Int) >(0:Int)) then IntKind.i64.wrap ((Bz a0 a1)+(Wa (List.take ((↑a0.length:Int).toNat - (Bz a0 a1).toNat) (List.drop (Bz a0 a1).toNat a0)) (64:Int)).snd.fst) else(Bz a0 a1) else(AJ a0 a1)
def AC (a0:List UInt8) (a1:Int):Bool:=(bif(Am a0).snd.snd==(0:Int)&&decide (IntKind.i64.wrap (↑(BitVec.ofInt (64:Nat) (Am a0).fst &&& BitVec.ofInt (64:Nat) (1:Int)).toNat:Int) >(0:Int)) then bif !decide (IntKind.i64.wrap (↑(BitVec.ofInt (64:Nat) (Am a0).fst &&& BitVec.ofInt (64:Nat) (2:Int)).toNat:Int) >(0:Int)) then(Am a0).snd.snd==(0:Int)&&(FW (List.take ((↑a0.length:Int).toNat - (AJ a0 a1).toNat) (List.drop (AJ a0 a1).toNat a0))).snd.snd==(0:Int)&&(FF (List.take ((↑a0.length:Int).toNat - (AK a0 a1).toNat) (List.drop (AK a0 a1).toNat a0))).snd.snd==(0:Int)&&(Wa (List.take ((↑a0.length:Int).toNat - (Bz a0 a1).toNat) (List.drop (Bz a0 a1).toNat a0)) (64:Int)).snd.snd==(0:Int) else(Am a0).snd.snd==(0:Int)&&(FW (List.take ((↑a0.length:Int).toNat - (AJ a0 a1).toNat) (List.drop (AJ a0 a1).toNat a0))).snd.snd==(0:Int)&&(FF (List.take ((↑a0.length:Int).toNat - (AK a0 a1).toNat) (List.drop (AK a0 a1).toNat a0))).snd.snd==(0:Int) else(Am a0).snd.snd==(0:Int))&&decide (IntKind.i64.wrap (↑(BitVec.ofInt (64:Nat) (Am a0).fst &&& BitVec.ofInt (64:Nat) (4:Int)).toNat:Int) >(0:Int))
def Ej (a0:List UInt8) (a1:Int):Bool:=(!bif(AC a0 a1) then(bif(Am a0).snd.snd==(0:Int)&&decide (IntKind.i64.wrap (↑(BitVec.ofInt (64:Nat) (Am a0).fst &&& BitVec.ofInt (64:Nat) (1:Int)).toNat:Int) >(0:Int)) then bif !decide (IntKind.i64.wrap (↑(BitVec.ofInt (64:Nat) (Am a0).fst &&& BitVec.ofInt (64:Nat) (2:Int)).toNat:Int) >(0:Int)) then(Am a0).snd.snd==(0:Int)&&(FW (List.take ((↑a0.length:Int).toNat - (AJ a0 a1).toNat) (List.drop (AJ a0 a1).toNat a0))).snd.snd==(0:Int)&&(FF (List.take ((↑a0.length:Int).toNat - (AK a0 a1).toNat) (List.drop (AK a0 a1).toNat a0))).snd.snd==(0:Int)&&(Wa (List.take ((↑a0.length:Int).toNat - (Bz a0 a1).toNat) (List.drop (Bz a0 a1).toNat a0)) (64:Int)).snd.snd==(0:Int) else(Am a0).snd.snd==(0:Int)&&(FW (List.take ((↑a0.length:Int).toNat - (AJ a0 a1).toNat) (List.drop (AJ a0 a1).toNat a0))).snd.snd==(0:Int)&&(FF (List.take ((↑a0.length:Int).toNat - (AK a0 a1).toNat) (List.drop (AK a0 a1).toNat a0))).snd.snd==(0:Int) else(Am a0).snd.snd==(0:Int))&&(FF (List.take ((↑a0.length:Int).toNat - (AV a0 a1).toNat) (List.drop (AV a0 a1).toNat a0))).snd.snd==(0:Int) else bif(Am a0).snd.snd==(0:Int)&&decide (IntKind.i64.wrap (↑(BitVec.ofInt (64:Nat) (Am a0).fst &&& BitVec.ofInt (64:Nat) (1:Int)).toNat:Int) >(0:Int)) then bif !decide (IntKind.i64.wrap (↑(BitVec.ofInt (64:Nat) (Am a0).fst &&& BitVec.ofInt (64:Nat) (2:Int)).toNat:Int) >(0:Int)) then(Am a0).snd.snd==(0:Int)&&(FW (List.take ((↑a0.length:Int).toNat - (AJ a0 a1).toNat) (List.drop (AJ a0 a1).toNat a0))).snd.snd==(0:Int)&&(FF (List.take ((↑a0.length:Int).toNat - (AK a0 a1).toNat) (List.drop (AK a0 a1).toNat a0))).snd.snd==(0:Int)&&(Wa (List.take ((↑a0.length:Int).toNat - (Bz a0 a1).toNat) (List.drop (Bz a0 a1).toNat a0)) (64:Int)).snd.snd==(0:Int) else(Am a0).snd.snd==(0:Int)&&(FW (List.take ((↑a0.length:Int).toNat - (AJ a0 a1).toNat) (List.drop (AJ a0 a1).toNat a0))).snd.snd==(0:Int)&&(FF (List.take ((↑a0.length:Int).toNat - (AK a0 a1).toNat) (List.drop (AK a0 a1).toNat a0))).snd.snd==(0:Int) else(Am a0).snd.snd==(0:Int))||!((decide ((Am a0).fst≤(7:Int))&&decide (IntKind.i64.wrap (↑(BitVec.ofInt (64:Nat) (Am a0).fst &&& BitVec.ofInt (64:Nat) (1:Int)).toNat:Int) >(0:Int))==E6 (TCell.mk (TStamp.mk (bif(AC a0 a1) then(F7 a0 a1) else(F7 a0 a1)) (bif(AC a0 a1) then(F8 a0 a1) else(F8 a0 a1))) (TVec.mk (bif(AC a0 a1) then(F9 a0 a1) else(F9 a0 a1)) (bif(AC a0 a1) then(E1 a0 a1) else(E1 a0 a1))) (bif(AC a0 a1) then(Ek a0 a1) else(Ek a0 a1)) (bif(AC a0 a1) then(F6 a0 a1) else(F6 a0 a1)) (TVec.mk (bif(AC a0 a1) then(FF (List.take ((↑a0.length:Int).toNat - (AV a0 a1).toNat) (List.drop (AV a0 a1).toNat a0))).fst.1 else(El a0 a1)) (bif(AC a0 a1) then(FF (List.take ((↑a0.length:Int).toNat - (AV a0 a1).toNat) (List.drop (AV a0 a1).toNat a0))).fst.2 else(El a0 a1))))&&decide (IntKind.i64.wrap (↑(BitVec.ofInt (64:Nat) (Am a0).fst &&& BitVec.ofInt (64:Nat) (2:Int)).toNat:Int) >(0:Int))==bif(AC a0 a1) then(Ek a0 a1) else(Ek a0 a1))&&decide (IntKind.i64.wrap (↑(BitVec.ofInt (64:Nat) (Am a0).fst &&& BitVec.ofInt (64:Nat) (4:Int)).toNat:Int) >(0:Int))==!((bif(AC a0 a1) then(FF (List.take ((↑a0.length:Int).toNat - (AV a0 a1).toNat) (List.drop (AV a0 a1).toNat a0))).fst.1 else(El a0 a1))==(0:Int)&&(bif(AC a0 a1) then(FF (List.take ((↑a0.length:Int).toNat - (AV a0 a1).toNat) (List.drop (AV a0 a1).toNat a0))).fst.2 else(El a0 a1))==(0:Int)))||!AW a1 (TCell.mk (TStamp.mk (bif(AC a0 a1) then(F7 a0 a1) else(F7 a0 a1)) (bif(AC a0 a1) then(F8 a0 a1) else(F8 a0 a1))) (TVec.mk (bif(AC a0 a1) then(F9 a0 a1) else(F9 a0 a1)) (bif(AC a0 a1) then(E1 a0 a1) else(E1 a0 a1))) (bif(AC a0 a1) then(Ek a0 a1) else(Ek a0 a1)) (bif(AC a0 a1) then(F6 a0 a1) else(F6 a0 a1)) (TVec.mk (bif(AC a0 a1) then(FF (List.take ((↑a0.length:Int).toNat - (AV a0 a1).toNat) (List.drop (AV a0 a1).toNat a0))).fst.1 else(El a0 a1)) (bif(AC a0 a1) then(FF (List.take ((↑a0.length:Int).toNat - (AV a0 a1).toNat) (List.drop (AV a0 a1).toNat a0))).fst.2 else(El a0 a1))))
def Hy (a0:List UInt8) (a1:Int):TCell:=TCell.mk (TStamp.mk (bif(Ej a0 a1) then(0:Int) else bif(AC a0 a1) then(F7 a0 a1) else(F7 a0 a1)) (bif(Ej a0 a1) then(0:Int) else bif(AC a0 a1) then(F8 a0 a1) else(F8 a0 a1))) (TVec.mk (bif(Ej a0 a1) then(0:Int) else bif(AC a0 a1) then(F9 a0 a1) else(F9 a0 a1)) (bif(Ej a0 a1) then(0:Int) else bif(AC a0 a1) then(E1 a0 a1) else(E1 a0 a1))) (bif(Ej a0 a1) then false else bif(AC a0 a1) then(Ek a0 a1) else(Ek a0 a1)) (bif(Ej a0 a1) then ByteArray.mk #[] else bif(AC a0 a1) then(F6 a0 a1) else(F6 a0 a1)) (TVec.mk (bif(Ej a0 a1) then(0:Int) else bif(AC a0 a1) then(FF (List.take ((↑a0.length:Int).toNat - (AV a0 a1).toNat) (List.drop (AV a0 a1).toNat a0))).fst.1 else(El a0 a1)) (bif(Ej a0 a1) then(0:Int) else bif(AC a0 a1) then(FF (List.take ((↑a0.length:Int).toNat - (AV a0 a1).toNat) (List.drop (AV a0 a1).toNat a0))).fst.2 else(El a0 a1)))
def Abk (a0:List UInt8) (a1:Int):Int:=bif(Ej a0 a1) then(0:Int) else bif(AC a0 a1) then IntKind.i64.wrap ((AV a0 a1)+(FF (List.take ((↑a0.length:Int).toNat - (AV a0 a1).toNat) (List.drop (AV a0 a1).toNat a0))).snd.fst) else(AV a0 a1)
def Abl (a0:List UInt8) (a1:Int):Int:=bif(Ej a0 a1) then(80:Int) else(0:Int)
def Tv (a0:List UInt8) (a1:Int):A:=.v (.tuple ⟨[.agg ⟨[.int .i64 ((Hy a0 a1).stamp.n),.int .i64 ((Hy a0 a1).stamp.site),.int .i64 ((Hy a0 a1).vec.a),.int .i64 ((Hy a0 a1).vec.b),.bool ((Hy a0 a1).gone),.string ((Hy a0 a1).value),.int .i64 ((Hy a0 a1).dead.a),.int .i64 ((Hy a0 a1).dead.b)]⟩,.int .i64 (Abk a0 a1),.int .i64 (Abl a0 a1)]⟩)
def Avl (_a0:List UInt8) (_a1:Int):Objs:=[]
def VJ (a0:List UInt8) (a1:Int):List Prop:=[(((Am a0).snd.snd==(0:Int)&&decide (IntKind.i64.wrap (↑(BitVec.ofInt (64:Nat) (Am a0).fst &&& BitVec.ofInt (64:Nat) (1:Int)).toNat:Int) >(0:Int)))=true→(0:Int)≤(AJ a0 a1)∧(AJ a0 a1)≤(↑a0.length:Int)∧(↑a0.length:Int)≤(↑a0.length:Int)),(((Am a0).snd.snd==(0:Int)&&decide (IntKind.i64.wrap (↑(BitVec.ofInt (64:Nat) (Am a0).fst &&& BitVec.ofInt (64:Nat) (1:Int)).toNat:Int) >(0:Int)))=true→(0:Int)≤(AK a0 a1)∧(AK a0 a1)≤(↑a0.length:Int)∧(↑a0.length:Int)≤(↑a0.length:Int)),(((Am a0).snd.snd==(0:Int)&&decide (IntKind.i64.wrap (↑(BitVec.ofInt (64:Nat) (Am a0).fst &&& BitVec.ofInt (64:Nat) (1:Int)).toNat:Int) >(0:Int)))=true→(!decide (IntKind.i64.wrap (↑(BitVec.ofInt (64:Nat) (Am a0).fst &&& BitVec.ofInt (64:Nat) (2:Int)).toNat:Int) >(0:Int)))=true→(0:Int)≤(Bz a0 a1)∧(Bz a0 a1)≤(↑a0.length:Int)∧(↑a0.length:Int)≤(↑a0.length:Int)),(((Am a0).snd.snd==(0:Int)&&decide (IntKind.i64.wrap (↑(BitVec.ofInt (64:Nat) (Am a0).fst &&& BitVec.ofInt (64:Nat) (1:Int)).toNat:Int) >(0:Int)))=true→(!decide (IntKind.i64.wrap (↑(BitVec.ofInt (64:Nat) (Am a0).fst &&& BitVec.ofInt (64:Nat) (2:Int)).toNat:Int) >(0:Int)))=true→Ag (List.take ((↑a0.length:Int).toNat - (Bz a0 a1).toNat) (List.drop (Bz a0 a1).toNat a0)).length),((AC a0 a1)=true→(0:Int)≤(AV a0 a1)∧(AV a0 a1)≤(↑a0.length:Int)∧(↑a0.length:Int)≤(↑a0.length:Int))]
theorem Bdi (a0:List UInt8) (a1:Int):Er (Au Brq L0) 9 54 [Ae .bytes a0,Ae .i64 a1] 0 []=some (1,Tv a0 a1,0,Avl a0 a1,VJ a0 a1):=by kernel_rfl
theorem Biu (a0:List UInt8) (a1:Int) (hp:∀p∈VJ a0 a1,p):CallOk Try.prog 54 [Ae .bytes a0,Ae .i64 a1] 0 [] 1 (Tv a0 a1) 0 (Avl a0 a1):=Az (Ap Bce Ay) (Bdi a0 a1) hp
def PY (a0:List UInt8) (a1:Int):A:=.v (.tuple ⟨[.agg ⟨[.int .i64 (Ary a0 a1).1.stamp.n,.int .i64 (Ary a0 a1).1.stamp.site,.int .i64 (Ary a0 a1).1.vec.a,.int .i64 (Ary a0 a1).1.vec.b,.bool (Ary a0 a1).1.gone,.string (Ary a0 a1).1.value,.int .i64 (Ary a0 a1).1.dead.a,.int .i64 (Ary a0 a1).1.dead.b]⟩,.int .i64 (Ary a0 a1).2.1,.int .i64 (Ary a0 a1).2.2]⟩)
def Anx (_a0:List UInt8) (_a1:Int):Objs:=[]
def Ae4 (a0:List UInt8) (_a1:Int):List Prop:=[Ag a0.length]
theorem Bek (b:List UInt8):0≤(FW b).2.1∧(FW b).2.1≤(b.length:Int):=by
 obtain⟨h1,h2,_⟩:=Hm b
 unfold FW
 split
 ·exact⟨Int.le_refl _,by show(0:Int)≤(b.length:Int);omega⟩
 ·split
  ·exact⟨h1,h2⟩
  ·exact⟨Int.le_refl _,by show(0:Int)≤(b.length:Int);omega⟩
theorem Aoa (b:List UInt8):0≤(FF b).2.1∧(FF b).2.1≤(b.length:Int):=by
 obtain⟨h1,h2,_⟩:=Hm b
 obtain⟨h3,h4,_⟩:=Hm (b.drop (Am b).2.1.toNat)
 rw[List.length_drop] at h4
 unfold FF
 split
 ·exact⟨Int.le_refl _,by show(0:Int)≤(b.length:Int);omega⟩
 ·split
  ·exact⟨Int.le_refl _,by show(0:Int)≤(b.length:Int);omega⟩
  ·split
   ·exact⟨by show 0≤(Am b).2.1+_;omega,by show(Am b).2.1+_≤(b.length:Int);omega⟩
   ·exact⟨Int.le_refl _,by show(0:Int)≤(b.length:Int);omega⟩
theorem Bel (b:List UInt8) (m:Int):0≤(Wa b m).2.1∧(Wa b m).2.1≤(b.length:Int):=by
 obtain⟨h1,h2,_,h3,_⟩:=Hm b
 unfold Wa
 split
 ·exact⟨Int.le_refl _,by show(0:Int)≤(b.length:Int);omega⟩
 ·split
  ·exact⟨Int.le_refl _,by show(0:Int)≤(b.length:Int);omega⟩
  ·split
   ·exact⟨Int.le_refl _,by show(0:Int)≤(b.length:Int);omega⟩
   ·exact⟨by show 0≤(Am b).2.1+_;omega,by show(Am b).2.1+_≤(b.length:Int);omega⟩
theorem Bdh (b:List UInt8) (p:Int) (hb:Ag b.length):(∀q∈VJ b p,q)∧(Hy b p,Abk b p,Abl b p)=Ary b p:=by
 unfold Ag at hb
 obtain⟨a1,a2,_,a3,a4⟩:=Hm b
 have hok:okN (Am b).1:=⟨a3,a4⟩
 have B1:=Aex hok 0 1 rfl (by decide)
 have B2:=Aex hok 1 2 rfl (by decide)
 have B4:=Aex hok 2 4 rfl (by decide)
 have e12:AJ b p=(Am b).2.1:=by
  unfold AJ
  rw[i64_in (by omega)];omega
 obtain⟨s1,s2⟩:=Bek (b.drop (Am b).2.1.toNat)
 rw[List.length_drop] at s2
 have e11:AK b p=(Am b).2.1+(FW (b.drop (Am b).2.1.toNat)).2.1:=by
  unfold AK
  rw[e12,Ei,i64_in (by omega)]
 obtain⟨v1,v2⟩:=Aoa (b.drop ((Am b).2.1+(FW (b.drop (Am b).2.1.toNat)).2.1).toNat)
 rw[List.length_drop] at v2
 have e5:Bz b p=(Am b).2.1+(FW (b.drop (Am b).2.1.toNat)).2.1+(FF (b.drop ((Am b).2.1+(FW (b.drop (Am b).2.1.toNat)).2.1).toNat)).2.1:=by
  unfold Bz
  rw[e11,Ei,i64_in (by omega)]
 obtain⟨t1,t2⟩:=Bel (b.drop ((Am b).2.1+(FW (b.drop (Am b).2.1.toNat)).2.1+(FF (b.drop ((Am b).2.1+(FW (b.drop (Am b).2.1.toNat)).2.1).toNat)).2.1).toNat) 64
 rw[List.length_drop] at t2
 have e2:AV b p=(stA b).2.2∧0≤(stA b).2.2∧(stA b).2.2≤(b.length:Int):=by
  unfold AV stA
  rw[e5,e12,Ei,B1,B2]
  show(bif(Am b).2.2==0&&Gf (Am b).1 0 then bif !Gf (Am b).1 1 then _ else _ else _)=_∧_
  rw[i64_in (by omega)]
  cases((Am b).2.2==0&&Gf (Am b).1 0)<;>cases Gf (Am b).1 1<;>refine⟨rfl,?_,?_⟩<;>(first|exact a1|exact a2|(simp only[cond_true,cond_false,Bool.not_true,Bool.not_false];omega))
 obtain⟨e2,e2a,e2b⟩:=e2
 obtain⟨d1,d2⟩:=Aoa (b.drop (stA b).2.2.toNat)
 rw[List.length_drop] at d2
 have hcell:(stA b).2.1=⟨⟨F7 b p,F8 b p⟩,⟨F9 b p,E1 b p⟩,Ek b p,F6 b p,⟨0,0⟩⟩:=by
  unfold F7 F8 F9 E1 Ek F6 stA
  rw[e11,e5,e12,Ei,Ei,Ei,B1,B2]
  show _=TCell.mk (TStamp.mk (bif(Am b).2.2==0&&Gf (Am b).1 0 then bif !Gf (Am b).1 1 then _ else _ else _) _) _ _ _ _
  show(bif(Am b).2.2==0&&Gf (Am b).1 0 then bif !Gf (Am b).1 1 then _ else _ else _:Bool×TCell×Int).2.1=TCell.mk (TStamp.mk (bif(Am b).2.2==0&&Gf (Am b).1 0 then bif !Gf (Am b).1 1 then _ else _ else _) (bif(Am b).2.2==0&&Gf (Am b).1 0 then bif !Gf (Am b).1 1 then _ else _ else _)) (TVec.mk (bif(Am b).2.2==0&&Gf (Am b).1 0 then bif !Gf (Am b).1 1 then _ else _ else _) (bif(Am b).2.2==0&&Gf (Am b).1 0 then bif !Gf (Am b).1 1 then _ else _ else _)) (bif(Am b).2.2==0&&Gf (Am b).1 0 then bif !Gf (Am b).1 1 then Gf (Am b).1 1 else Gf (Am b).1 1 else _) (bif(Am b).2.2==0&&Gf (Am b).1 0 then bif !Gf (Am b).1 1 then _ else _ else _) _
  cases((Am b).2.2==0&&Gf (Am b).1 0)<;>cases Gf (Am b).1 1<;>rfl
 have hok1:(bif(Am b).2.2==0&&Gf (Am b).1 0 then bif !Gf (Am b).1 1 then(Am b).2.2==0&&(FW (b.drop (Am b).2.1.toNat)).2.2==0&&(FF (b.drop ((Am b).2.1+(FW (b.drop (Am b).2.1.toNat)).2.1).toNat)).2.2==0&&(Wa (b.drop ((Am b).2.1+(FW (b.drop (Am b).2.1.toNat)).2.1+(FF (b.drop ((Am b).2.1+(FW (b.drop (Am b).2.1.toNat)).2.1).toNat)).2.1).toNat) 64).2.2==0
   else(Am b).2.2==0&&(FW (b.drop (Am b).2.1.toNat)).2.2==0&&(FF (b.drop ((Am b).2.1+(FW (b.drop (Am b).2.1.toNat)).2.1).toNat)).2.2==0 else(Am b).2.2==0)=(stA b).1:=by
  unfold stA
  cases((Am b).2.2==0&&Gf (Am b).1 0)<;>cases Gf (Am b).1 1<;>rfl
 have e1:AC b p=((stA b).1&&Gf (Am b).1 2):=by
  unfold AC
  rw[e11,e5,e12,Ei,Ei,Ei,B1,B2,B4]
  show((bif(Am b).2.2==0&&Gf (Am b).1 0 then bif !Gf (Am b).1 1 then _ else _ else _)&&Gf (Am b).1 2)=_
  rw[hok1]
 have e6:El b p=0:=by
  unfold El
  cases((Am b).2.2==0&&decide (IntKind.i64.wrap (↑(BitVec.ofInt (64:Nat) (Am b).1 &&& BitVec.ofInt (64:Nat) (1:Int)).toNat:Int) >(0:Int)))<;>cases decide (IntKind.i64.wrap (↑(BitVec.ofInt (64:Nat) (Am b).1 &&& BitVec.ofInt (64:Nat) (2:Int)).toNat:Int) >(0:Int))<;>rfl
 refine⟨Aa (fun _=>by rw[e12];omega) (Aa (fun _=>by rw[e11];omega) (Aa (fun _ _=>by rw[e5];omega) (Aa (fun _ _=>by rw[e5,Ei,List.length_drop];unfold Ag;omega) (Aa (fun _=>by rw[e2];omega) Ad)))),?_⟩
 have hB1:(stB b).1=bif(stA b).1&&Gf (Am b).1 2 then(stA b).1&&(FF (b.drop (stA b).2.2.toNat)).2.2==0 else(stA b).1:=by unfold stB;cases((stA b).1&&Gf (Am b).1 2)<;>rfl
 have hB2:(stB b).2.1=TCell.mk (TStamp.mk (bif AC b p then F7 b p else F7 b p) (bif AC b p then F8 b p else F8 b p)) (TVec.mk (bif AC b p then F9 b p else F9 b p) (bif AC b p then E1 b p else E1 b p)) (bif AC b p then Ek b p else Ek b p) (bif AC b p then F6 b p else F6 b p) (TVec.mk (bif AC b p then(FF (b.drop (stA b).2.2.toNat)).1.1 else El b p) (bif AC b p then(FF (b.drop (stA b).2.2.toNat)).1.2 else El b p)):=by
  rw[e1]
  unfold stB
  cases((stA b).1&&Gf (Am b).1 2) with
  |true=>simp only[cond_true];rw[hcell]
  |false=>simp only[cond_false];rw[hcell,e6]
 have hB3:(stB b).2.2=bif AC b p then(stA b).2.2+(FF (b.drop (stA b).2.2.toNat)).2.1 else(stA b).2.2:=by
  rw[e1]
  unfold stB
  cases((stA b).1&&Gf (Am b).1 2)<;>rfl
 have e0:Ej b p=(!(stB b).1||!Bay (Am b).1 (stB b).2.1||!Bo p (stB b).2.1):=by
  unfold Ej
  rw[e2,e11,e5,e12,Ei,Ei,Ei,Ei,Iv,Ke,←hB2]
  rw[B1,B2,B4]
  show((!bif AC b p then(bif(Am b).2.2==0&&Gf (Am b).1 0 then bif !Gf (Am b).1 1 then _ else _ else _)&&_ else(bif(Am b).2.2==0&&Gf (Am b).1 0 then bif !Gf (Am b).1 1 then _ else _ else _))||_||_)=_
  rw[hok1,hB1,←e1]
  unfold Bay
  rw[hB2]
  rfl
 unfold Hy Abk Abl Ary
 rw[e0]
 cases(!(stB b).1||!Bay (Am b).1 (stB b).2.1||!Bo p (stB b).2.1) with
 |true=>rfl
 |false=>
  simp only[cond_false]
  rw[hB3,e2,Ei,hB2,i64_in (by omega)]
theorem Bdg (a0:List UInt8) (a1:Int) (hp:∀p∈Ae4 a0 a1,p):CallOk Try.prog 54 [Ae .bytes a0,Ae .i64 a1] 0 [] 1 (PY a0 a1) 0 (Anx a0 a1):=by
 obtain⟨h1,h2⟩:=Bdh a0 a1 (hp _ (List.mem_cons_self ..))
 have h:=Biu a0 a1 h1
 have hr:Tv a0 a1=PY a0 a1:=by unfold Tv PY;rw[←h2]
 rw[hr] at h
 exact h
def Avm:List A→Nat→Objs→Option AU:=A5 [.t .bytes,.t .i64] 0 PY Anx Ae4
theorem A7s:Ev Try.prog 54 Avm:=As (ks:=[.t .bytes,.t .i64]) Bdg
noncomputable def Bzv:=AQ 54 Avm Brq
theorem Brr:Cp Try.prog Bzv:=Ak A7s Bce
noncomputable def Cd:=Bzv
theorem Bzw:Cp Try.prog Cd:=Brr
end Go.Proofs.Yteebobbhhgmeiaa
namespace Go.Proofs.Yteebobbhhgmeiaa
open Go.RowKit
def Adb (a0:TVec):A:=.v (.bool (a0.1==(0:Int)&&a0.2==(0:Int)))
def Ada (_a0:TVec):Objs:=[]
def XG (_a0:TVec):List Prop:=[]
theorem Bf9 (a0:TVec):Er (Au Cd L0) 9 108 [Ae .vec a0] 0 []=some (1,Adb a0,0,Ada a0,XG a0):=by kernel_rfl
theorem Bkd (a0:TVec) (hp:∀p∈XG a0,p):CallOk Try.prog 108 [Ae .vec a0] 0 [] 1 (Adb a0) 0 (Ada a0):=Az (Ap Bzw Ay) (Bf9 a0) hp
def Azh:List A→Nat→Objs→Option AU:=A5 [.t .vec] 0 Adb Ada XG
theorem Bab:Ev Try.prog 108 Azh:=As (ks:=[.t .vec]) Bkd
noncomputable def B1a:=AQ 108 Azh Cd
theorem Bmd:Cp Try.prog B1a:=Ak Bab Bzw
def J8 (a0:TCell):Bool:=a0.1.1 !=(0:Int)||a0.1.2 !=(0:Int)||a0.2.1 !=(0:Int)||a0.2.2 !=(0:Int)||a0.3||!a0.4.toList==(ByteArray.mk #[]).toList
def RE (a0:TCell):A:=.v (.bool (J8 a0))
def RD (_a0:TCell):Objs:=[]
def Pm (_a0:TCell):List Prop:=[]
theorem Azg (a0:TCell):Er (Au B1a L0) 9 106 [Ae .cell a0] 0 []=some (1,RE a0,0,RD a0,Pm a0):=by kernel_rfl
theorem A3t (a0:TCell) (hp:∀p∈Pm a0,p):CallOk Try.prog 106 [Ae .cell a0] 0 [] 1 (RE a0) 0 (RD a0):=Az (Ap Bmd Ay) (Azg a0) hp
def Z9:List A→Nat→Objs→Option AU:=A5 [.t .cell] 0 RE RD Pm
theorem As1:Ev Try.prog 106 Z9:=As (ks:=[.t .cell]) A3t
noncomputable def B1b:=AQ 106 Z9 B1a
theorem Bme:Cp Try.prog B1b:=Ak As1 Bmd
def Pj (a0:Int) (a1:TCell):Bool:=bif a0==(1:Int)&&!(a1.5.1==(0:Int)&&a1.5.2==(0:Int))||a0==(2:Int)&&(a1.3||!EB a1.5)||a0 !=(1:Int)&&a0 !=(2:Int) then false else bif !J8 a1 then true else GX a1.1&&decide (a1.1.1 >(0:Int))&&EB a1.2&&decide ((↑a1.4.size:Int)≤(64:Int))&&(!a1.3||a1.4.toList==(ByteArray.mk #[]).toList)
def Ac5 (a0:Int) (a1:TCell):A:=.v (.bool (Pj a0 a1))
def Ac4 (_a0:Int) (_a1:TCell):Objs:=[]
def XA (_a0:Int) (_a1:TCell):List Prop:=[]
theorem Bf2 (a0:Int) (a1:TCell):Er (Au B1b L0) 9 42 [Ae .i64 a0,Ae .cell a1] 0 []=some (1,Ac5 a0 a1,0,Ac4 a0 a1,XA a0 a1):=by kernel_rfl
theorem Bj9 (a0:Int) (a1:TCell) (hp:∀p∈XA a0 a1,p):CallOk Try.prog 42 [Ae .i64 a0,Ae .cell a1] 0 [] 1 (Ac5 a0 a1) 0 (Ac4 a0 a1):=Az (Ap Bme Ay) (Bf2 a0 a1) hp
def Aza:List A→Nat→Objs→Option AU:=A5 [.t .i64,.t .cell] 0 Ac5 Ac4 XA
theorem A97:Ev Try.prog 42 Aza:=As (ks:=[.t .i64,.t .cell]) Bj9
noncomputable def B2x:=AQ 42 Aza B1b
theorem Bwt:Cp Try.prog B2x:=Ak A97 Bme
theorem Xu (s:TStamp):GX s=HF s:=rfl
theorem Qy (v:TVec):EB v=Cx v:=by
 unfold EB Cx
 rw[Bool.and_assoc]
theorem XF (c:TCell):J8 c=B9 c:=by
 unfold J8 B9 bne
 rw[Ru]
 generalize (c.1.1==(0:Int))=a
 generalize (c.1.2==(0:Int))=b
 generalize (c.2.1==(0:Int))=d
 generalize (c.2.2==(0:Int))=e
 show(!a||!b||!d||!e||c.gone||!(c.4.size==0))=!(a&&b&&(d&&e)&&(!c.gone&&c.value.size==0))
 cases a<;>cases b<;>cases d<;>cases e<;>cases c.gone<;>simp
theorem Aph (p:Int) (c:TCell):Pj p c=Bo p c:=by
 unfold Pj Bo bne
 rw[XF,Qy,Qy,Xu,Ru]
 have h1:(p==(1:Int)&&!(c.5.1==(0:Int)&&c.5.2==(0:Int))||p==(2:Int)&&(c.3||!Cx c.5)||!(p==(1:Int))&&!(p==(2:Int)))=(p==1&&!G3 c.dead||(p==2&&(c.gone||!Cx c.dead)||!(p==1||p==2))):=by
  rw[Bool.or_assoc,Bool.not_or]
  rfl
 have h2:(!c.3||c.4.size==0)=!(c.gone&&!(c.value.size==0)):=by rw[Bool.not_and,Bool.not_not]
 rw[h1,h2]
noncomputable def Cf:=B2x
theorem Brs:Cp Try.prog Cf:=Bwt
end Go.Proofs.Yteebobbhhgmeiaa
namespace Go.Proofs.Yteebobbhhgmeiaa
open Go.RowKit
theorem A6l {X:Type} (mk:Nat→X) (n:Nat) (stop:Nat→Bool) (next:X→X) (goes:X→Cnd) (ps:X→List Prop)
  (hg:∀i,i≤n→(∀j,j <i→stop j=false)→Be (goes (mk i))=(decide (i <n)&&!stop i)) (hn:∀i,i <n→(∀j,j <i+1→stop j=false)→next (mk i)=mk (i+1)) (hp:∀i,i≤n→(∀j,j <i→stop j=false)→∀p∈ps (mk i),p):
  ∀(f i:Nat),i≤n→n≤i+f→(∀j,j <i→stop j=false)→
  AD next goes ps f (mk i)∧∃k,k≤n∧AZ next goes f (mk i)=mk k∧(∀j,j <k→stop j=false)∧(k <n→stop k=true)
 |0,i,hi,hf,hs=>by
  have hc:=hg i hi hs
  have:i=n:=by omega
  rw[decide_eq_false (by omega),Bool.false_and] at hc
  exact⟨⟨hp i hi hs,hc⟩,i,hi,rfl,hs,fun h=>by omega⟩
 | f +1,i,hi,hf,hs=>by
  have hc:=hg i hi hs
  cases hb:Be (goes (mk i)) with
  | false=>
   have e:AZ next goes (f+1) (mk i)=mk i:=by
    show(bif Be (goes (mk i)) then _ else mk i)=mk i
    rw[hb];rfl
   rw[e]
   refine⟨⟨hp i hi hs,fun h=>by rw[hb] at h;cases h⟩,i,hi,rfl,hs,fun h=>?_⟩
   rw[hb,decide_eq_true h,Bool.true_and] at hc
   cases hst:stop i with
   |true=>rfl
   |false=>rw[hst] at hc;cases hc
  | true=>
   rw[hb] at hc
   have h1:i <n:=by
    cases hd:decide (i <n) with
    |true=>exact of_decide_eq_true hd
    |false=>rw[hd] at hc;cases hc
   have h2:stop i=false:=by
    cases hst:stop i with
    |false=>rfl
    |true=>rw[hst,Bool.and_comm] at hc;cases hc
   have hs':∀j,j <i+1→stop j=false:=fun j hj=>by
    by_cases h:j <i
    ·exact hs j h
    ·obtain rfl:j=i:=by omega
     exact h2
   have e:AZ next goes (f+1) (mk i)=AZ next goes f (mk (i+1)):=by
    show(bif Be (goes (mk i)) then AZ next goes f (next (mk i)) else mk i)=_
    rw[hb,hn i h1 hs'];rfl
   obtain⟨g1,g2⟩:=A6l mk n stop next goes ps hg hn hp f (i+1) h1 (by omega) hs'
   rw[e]
   exact⟨⟨hp i hi hs,fun _=>by rw[hn i h1 hs'];exact g1⟩,g2⟩
theorem Bqd {X:Type} (mk:Nat→X) (n:Nat) (stop:Nat→Bool) (next:X→X) (goes:X→Cnd) (ps:X→List Prop) (f:Nat) (x:X) (hx:x=mk 0) (hf:n≤f)
  (hg:∀i,i≤n→(∀j,j <i→stop j=false)→Be (goes (mk i))=(decide (i <n)&&!stop i)) (hn:∀i,i <n→(∀j,j <i+1→stop j=false)→next (mk i)=mk (i+1)) (hp:∀i,i≤n→(∀j,j <i→stop j=false)→∀p∈ps (mk i),p):
  AD next goes ps f x∧∃k,k≤n∧AZ next goes f x=mk k∧(∀j,j <k→stop j=false)∧(k <n→stop k=true):=by
 subst hx
 exact A6l mk n stop next goes ps hg hn hp f 0 (Nat.zero_le _) (by omega) fun j h=>absurd h (Nat.not_lt_zero _)
theorem Eu {i:Nat} (h:i <9223372036854775807):IntKind.i64.wrap ((i:Int)+1)=((i+1:Nat):Int):=by rw[i64_in (by omega)];omega
theorem Mp {i n:Nat}:decide ((i:Int) <(n:Int))=decide (i <n):=by
 by_cases h:i <n
 ·rw[decide_eq_true h,decide_eq_true (by omega)]
 ·rw[decide_eq_false h,decide_eq_false (by omega)]
theorem nn (b:Bool):(!!b)=b:=Bool.not_not b
theorem Bc0 {α:Type} (l:List α) (d:α) (p:α→Bool) (k:Nat) (hk:k≤l.length) (h1:∀j,j <k→p (l.getD j d)=true) (h2:k <l.length→p (l.getD k d)=false):l.all p=decide (¬k <l.length):=by
 by_cases h:k <l.length
 ·rw[decide_eq_false (by omega)]
  have:=h2 h
  rw[List.getD_eq_getElem?_getD,List.getElem?_eq_getElem h,Option.getD_some] at this
  cases ha:l.all p with
  |false=>rfl
  |true=>rw[List.all_eq_true.1 ha _ (List.getElem_mem h)] at this;cases this
 ·rw[decide_eq_true (by omega)]
  refine List.all_eq_true.2 fun x hx=>?_
  obtain⟨i,hi,rfl⟩:=List.mem_iff_getElem.1 hx
  have:=h1 i (by omega)
  rw[List.getD_eq_getElem?_getD,List.getElem?_eq_getElem hi,Option.getD_some] at this
  exact this
def Ao (n:Nat):Prop:=n≤9223372036854775807
def KU (n:Nat) (p:Nat→Bool):Bool:=(List.range n).all p
theorem I7 {n:Nat} {p:Nat→Bool}:KU n p=true↔∀i,i <n→p i=true:=by
 unfold KU
 rw[List.all_eq_true]
 exact⟨fun h i hi=>h i (List.mem_range.2 hi),fun h i hi=>h i (List.mem_range.1 hi)⟩
theorem Iu {n:Nat} {p q:Nat→Bool} (h:∀i,i <n→p i=q i):KU n p=KU n q:=by
 rw[Bool.eq_iff_iff,I7,I7]
 exact⟨fun g i hi=>(h i hi)▸g i hi,fun g i hi=>(h i hi).symm▸g i hi⟩
theorem Ij {X:Type} (mk:Nat→X) (n:Nat) (bad:Nat→Bool) (next:X→X) (goes:X→Cnd) (ps:X→List Prop) (f:Nat) (x:X) (hx:x=mk 0) (hf:n≤f)
  (hg:∀i,i≤n→(∀j,j <i→bad j=false)→Be (goes (mk i))=(decide (i <n)&&!bad i)) (hn:∀i,i <n→(∀j,j <i+1→bad j=false)→next (mk i)=mk (i+1)) (hp:∀i,i≤n→(∀j,j <i→bad j=false)→∀p∈ps (mk i),p):
  AD next goes ps f x∧∃k,k≤n∧AZ next goes f x=mk k∧(∀j,j <k→bad j=false)∧(k <n→bad k=true)∧(decide (k <n)&&bad k)=!KU n (fun i=>!bad i):=by
 obtain⟨h1,k,hk,h2,h3,h4⟩:=Bqd mk n bad next goes ps f x hx hf hg hn hp
 refine⟨h1,k,hk,h2,h3,h4,?_⟩
 by_cases h:k <n
 ·rw[decide_eq_true h,h4 h]
  cases ha:KU n (fun i=>!bad i) with
  |false=>rfl
  |true=>have:=I7.1 ha k h;rw[h4 h] at this;cases this
 ·rw[decide_eq_false h,I7.2 (fun i hi=>by rw[h3 i (by omega)];rfl)]
  rfl
theorem Bsw {α:Type} (l:List α) (d:α) (p:α→Bool):l.all p=KU l.length (fun i=>p (l.getD i d)):=by
 rw[Bool.eq_iff_iff,List.all_eq_true,I7]
 constructor
 ·intro h i hi
  rw[List.getD_eq_getElem?_getD,List.getElem?_eq_getElem hi,Option.getD_some]
  exact h _ (List.getElem_mem hi)
 ·intro h x hx
  obtain⟨i,hi,rfl⟩:=List.mem_iff_getElem.1 hx
  have:=h i hi
  rw[List.getD_eq_getElem?_getD,List.getElem?_eq_getElem hi,Option.getD_some] at this
  exact this
theorem B0r {α β:Type} (l:List α) (r:List β) (d:α) (e:β) (p:α→β→Bool) (h:r.length=l.length):(l.zip r).all (fun x=>p x.1 x.2)=KU l.length (fun i=>p (l.getD i d) (r.getD i e)):=by
 rw[Bsw (l.zip r) (d,e),List.length_zip,h,Nat.min_self]
 refine Iu fun i hi=>?_
 rw[List.getD_eq_getElem?_getD,List.getD_eq_getElem?_getD,List.getD_eq_getElem?_getD,List.getElem?_eq_getElem (by rw[List.length_zip];omega),List.getElem?_eq_getElem hi,List.getElem?_eq_getElem (by omega),List.getElem_zip]
 rfl
theorem B4i (n:Nat):(n==0)=!decide (1≤n):=by cases n<;>simp
theorem Ave (n:Nat):((n:Int)==0)=(n==0):=by cases n<;>simp;omega
theorem dgt (n k:Nat):decide ((n:Int) >(k:Int))=decide (k <n):=decide_eq_decide.2 (by omega)
instance:LawfulBEq ByteArray where
 rfl:=fun {a}=>by cases a with|mk a=>exact beq_self_eq_true a
 eq_of_beq:=fun {a b} h=>by
  cases a with|mk a=>cases b with|mk b=>exact congrArg ByteArray.mk (eq_of_beq (α:=Array UInt8) h)
theorem Awc:∀(m:List (ByteArray×Int)) (b:ByteArray) (v:Int) (x:ByteArray),J2 (Zj m b v) x=if x=b then v else J2 m x
 | [],b,v,x=>by
  by_cases h:x=b
  ·subst h;simp[Zj,J2]
  ·simp[Zj,J2,h,show(x==b)=false from beq_eq_false_iff_ne.2 h]
 | (a,n)::r,b,v,x=>by
  unfold Zj
  by_cases h:b=a
  ·subst h
   rw[show(b==b)=true from beq_self_eq_true b,cond_true]
   by_cases hx:x=b
   ·subst hx;simp[J2]
   ·simp[J2,hx,show(x==b)=false from beq_eq_false_iff_ne.2 hx]
  ·rw[show(b==a)=false from beq_eq_false_iff_ne.2 h,cond_false]
   by_cases hx:x=a
   ·subst hx
    rw[if_neg (fun e=>h e.symm)]
    simp[J2]
   ·simp only[J2,show(x==a)=false from beq_eq_false_iff_ne.2 hx,cond_false]
    exact Awc r b v x
def WH (b:UInt8):Bool:=decide (97≤b.toNat)&&decide (b.toNat≤122)
def Il (s:ByteArray):Bool:=s.data.toList.all WH&&(decide (1≤s.size)&&decide (s.size≤12))
def O8 (p:Int):Bool:=p==1||p==2
def Ra:List ByteArray→List TGroup→Int
 |_,[]=>0
 |seen,g::r=>bif !(Il g.name&&O8 g.policy) then 2 else bif seen.any (fun s=>s==g.name) then 70 else Ra (seen++[g.name]) r
def AP (l:List TGroup):Int:=bif l.length==0 then 2 else bif decide (4 <l.length) then 3 else Ra [] l
theorem KR (s:ByteArray):s.data.toList.length=s.size:=by show s.data.toList.length=s.data.size;exact Array.length_toList
theorem Btq (s:ByteArray) (i:Nat) (h:i <s.size):s.data.toList.getD i 0=s[i]'h:=by
 rw[List.getD_eq_getElem?_getD,List.getElem?_eq_getElem (by rw[KR];exact h)]
 rfl
theorem Bhm (s:ByteArray) (i:Nat) (h:i <s.size):(decide (((Utf8.decode s i).1:Int) <97)||decide (((Utf8.decode s i).1:Int) >122))=!WH (s.data.toList.getD i 0)∧(WH (s.data.toList.getD i 0)=true→(Utf8.decode s i).2=1):=by
 rw[Btq s i h]
 by_cases hb:(s[i]'h).toNat <128
 ·rw[decode_ascii s i h hb]
  refine⟨?_,fun _=>rfl⟩
  unfold WH
  rw[Bool.not_and,←decide_not,←decide_not]
  congr 1<;>exact decide_eq_decide.2 (by omega)
 ·have h2:=(decode_high s i h (by omega)).1
  have hl:WH (s[i]'h)=false:=by unfold WH;rw[decide_eq_false (p:=(s[i]'h).toNat≤122) (by omega),Bool.and_false]
  rw[hl]
  refine⟨?_,fun h=>by cases h⟩
  rw[decide_eq_true (p:=((Utf8.decode s i).1:Int) >122) (by omega),Bool.or_true]
  rfl
theorem G0 {l:List TGroup} (h:AP l=0):1≤l.length∧l.length≤4:=by
 unfold AP at h
 cases h1:l.length==0 with
 |true=>rw[h1] at h;cases h
 | false=>
  rw[h1] at h
  cases h2:decide (4 <l.length) with
  |true=>rw[h2] at h;cases h
  |false=>
   have:=of_decide_eq_false h2
   have h3:l.length≠0:=by simpa using h1
   omega
theorem A5l (l:List TGroup) (k:Nat) (seen:List ByteArray):(∀j,j <k→j <l.length→(Il (l.getD j (Ac TC.group)).name&&O8 (l.getD j (Ac TC.group)).policy)=true∧(seen++(l.take j).map (·.name)).any (fun s=>s==(l.getD j (Ac TC.group)).name)=false)→
  Ra seen l=Ra (seen++(l.take k).map (·.name)) (l.drop k):=by
 induction l generalizing k seen with
 |nil=>intro _;simp[Ra]
 | cons g r ih=>
  intro h
  cases k with
  |zero=>simp
  | succ k=>
   obtain⟨h1,h2⟩:=h 0 (Nat.succ_pos _) (Nat.succ_pos _)
   have h1':(Il g.name&&O8 g.policy)=true:=h1
   have h2':seen.any (fun s=>s==g.name)=false:=by simpa using h2
   rw[Ra,h1',h2',Bool.not_true,cond_false,cond_false]
   rw[ih k (seen++[g.name]) (fun j hj hl=>by
    have:=h (j+1) (by omega) (by simpa using hl)
    simpa[List.append_assoc] using this)]
   simp[List.append_assoc]
def SL (l:List TGroup):Nat→List (ByteArray×Int)
 |0=>[]
 |i+1=>Zj (SL l i) (l.getD i (Ac TC.group)).1 (IntKind.i64.wrap (J2 (SL l i) (l.getD i (Ac TC.group)).1+1))
def Vv (l:List TGroup) (i:Nat):Bool:=!(Il (l.getD i (Ac TC.group)).1&&O8 (l.getD i (Ac TC.group)).2)||((l.take i).map (·.name)).any (fun s=>s==(l.getD i (Ac TC.group)).1)
theorem Blg (l:List TGroup) (i:Nat) (h:i <l.length):(l.take (i+1)).map (·.name)=(l.take i).map (·.name)++[(l.getD i (Ac TC.group)).1]:=by
 rw[List.take_add_one,List.getD_eq_getElem?_getD,List.getElem?_eq_getElem h,List.map_append]
 rfl
theorem Awb (l:List TGroup):∀(i:Nat),i≤l.length→(∀j,j <i→Vv l j=false)→∀x,J2 (SL l i) x=bif((l.take i).map (·.name)).any (fun s=>s==x) then 1 else 0
 |0,_,_,x=>by simp[SL,J2]
 | i+1,hi,hs,x=>by
  have ih:=Awb l i (by omega) (fun j hj=>hs j (by omega))
  have h:=hs i (Nat.lt_succ_self i)
  unfold Vv at h
  have h2:=(Bool.or_eq_false_iff.1 h).2
  unfold SL
  rw[Awc,ih,h2,Blg l i (by omega),List.any_append,ih]
  by_cases hx:x=(l.getD i (Ac TC.group)).1
  ·subst hx
   rw[if_pos rfl]
   simp
   decide
  ·rw[if_neg hx]
   have:([(l.getD i (Ac TC.group)).1].any fun s=>s==x)=false:=by
    simp only[List.any_cons,List.any_nil,Bool.or_false]
    exact beq_eq_false_iff_ne.2 fun e=>hx e.symm
   rw[this,Bool.or_false]
end Go.Proofs.Yteebobbhhgmeiaa
namespace Go.Proofs.Yteebobbhhgmeiaa
open Go.RowKit
abbrev Bw:Type:=ByteArray×Nat
def I5 (x:Bw):St:=⟨36,2,[(26,.own 1 0)],[(1,some (.sit x.1 x.2))]⟩
def KE:St→Option Bw
 |⟨36,2,[(26,.own 1 0)],[(1,some (.sit z0 z1))]⟩=>some (z0,z1)
 |_=>none
theorem Xn:∀s x,KE s=some x→s=I5 x:=fun s x h=>by
 unfold KE at h
 split at h
 ·cases h;rfl
 ·cases h
def Qw:CU:=⟨2,2,[26],[],[(1,1)],[1],[2],[1]⟩
def Ahu:C9:=⟨[],[(1,1)],[26],[1]⟩
def E7 (a0:ByteArray) (a1:Nat):Bool:=!!decide (a1 <a0.size)
def CI (a0:ByteArray) (a1:Nat):Bool:=(E7 a0 a1)&&(decide ((↑(Utf8.decode a0 a1).fst:Int) <(97:Int))||decide ((↑(Utf8.decode a0 a1).fst:Int) >(122:Int)))
def Y9 (a0:ByteArray) (a1:Nat):Nat:=bif decide (a1 <a0.size) then a1+(Utf8.decode a0 a1).snd else a1
def Za (a0:ByteArray) (a1:Nat):Bool:=(E7 a0 a1)&&!(CI a0 a1)
def Zb (a0:ByteArray) (a1:Nat):Nat:=bif decide (a1 <a0.size) then a1+(Utf8.decode a0 a1).snd else a1
def Zc (a0:ByteArray) (a1:Nat):Nat:=bif decide (a1 <a0.size) then a1+(Utf8.decode a0 a1).snd else a1
def DC (x:Bw):Bw:=(x.1,Y9 x.1 x.2)
def DB (x:Bw):Cnd:=some (Za x.1 x.2)
def NT (x:Bw):List Prop:=[((E7 x.1 x.2)=true→decide (x.2 <x.1.size)=true)]
def GV (_x:Bw):List Prop:=[]
def MW (x:Bw):Bb:=[(some 0,some (!decide (x.2 <x.1.size)),⟨36,2,[(2,.dead)],[(1,some (.sit x.1 (Zb x.1 x.2)))]⟩),(none,some ((CI x.1 x.2)),⟨36,2,[(2,.v (.bool (false)))],[(1,some (.sit x.1 (Zc x.1 x.2)))]⟩)]
def E8 (x:Bw):Nat:=x.1.size - x.2
def JZ (x:Bw):Bw:=AZ DC DB (E8 x) x
theorem Acq (a0:ByteArray) (a1:Nat):Bl (Au Cf L0) 9 (Af Try.prog 164 0) Qw (I5 (a0,a1))=some (NT (a0,a1),MW (a0,a1),DB (a0,a1),I5 (DC (a0,a1))):=by kernel_rfl
theorem Acr (a0:ByteArray) (a1:Nat) (_hp:∀p∈GV (a0,a1),p):∀p∈NT (a0,a1),p:=by
 have n0:((E7 a0 a1)=true→decide (a1 <a0.size)=true):=by intro h;exact(Bool.not_not _).symm.trans h
 exact(Aa n0 Ad)
noncomputable def NU:=Hw (Au Cf L0) (Af Try.prog 164 0) Qw Ahu KE E8 DC DB GV MW
theorem Zd:∀s b ps outs,NU s=some (b,ps,outs)→Wf s ⟨ps,outs,none⟩∧Bh (Au C0 L0) b s ps outs:=
 A9 (T:=I5) Brs Ay (u:=9) (by kernel_rfl) (by decide) (fun⟨a0,a1⟩=>Acq a0 a1) (fun⟨a0,a1⟩=>Acr a0 a1) Xn (fun _=>AH (n:=36) rfl) fun _ _=>rfl
noncomputable def Qv:=Di 0 NU L0
theorem Y8:G1 Qv:=AS Zd Ay
def FN (a0:TGroup):Bool:=a0.1.toList==(ByteArray.mk #[]).toList||decide ((↑a0.1.size:Int) >(12:Int))||a0.2 !=(1:Int)&&a0.2 !=(2:Int)
def Pe (a0:TGroup):Bool:=bif(FN a0) then false else bif CI (JZ (a0.1,(0:Nat))).fst (JZ (a0.1,(0:Nat))).snd then false else true
def Pf (a0:TGroup):A:=.v (.bool (Pe a0))
def Xo (_a0:TGroup):Objs:=[]
def U3 (a0:TGroup):List Prop:=[((!(FN a0))=true→AD DC DB GV (E8 (a0.1,(0:Nat))) (a0.1,(0:Nat)))]
theorem Ass (a0:TGroup):Er (Au Cf Qv) 9 164 [Ae .group a0] 0 []=some (1,Pf a0,0,Xo a0,[((!(FN a0))=true→Af Try.prog (164:FuncId) (0:Nat)=Af Try.prog (164:FuncId) (0:Nat)),((!(FN a0))=true→AD DC DB GV (E8 (a0.1,(0:Nat))) (a0.1,(0:Nat)))]):=by kernel_rfl
theorem Ayq (a0:TGroup) (hp:∀p∈U3 a0,p):CallOk Try.prog 164 [Ae .group a0] 0 [] 1 (Pf a0) 0 (Xo a0):=by
 have n0:((!(FN a0))=true→Af Try.prog (164:FuncId) (0:Nat)=Af Try.prog (164:FuncId) (0:Nat)):=by intros;rfl
 have n1:=N0 hp
 exact Az (Ap Brs Y8) (Ass a0) (Aa n0 (Aa n1 Ad))
def U4 (a0:TGroup):A:=.v (.bool (Il a0.name&&O8 a0.policy))
def U2 (_a0:TGroup):Objs:=[]
def SX (_a0:TGroup):List Prop:=[]
theorem U1 (g:TGroup):(∀p∈U3 g,p)∧Pe g=(Il g.name&&O8 g.policy):=by
 have hk0:∀i,CI g.1 i=(decide (i <g.1.size)&&!WH (g.1.data.toList.getD i 0)):=fun i=>by
  unfold CI E7
  rw[nn]
  by_cases h:i <g.1.size
  ·rw[decide_eq_true h,Bool.true_and,Bool.true_and];exact(Bhm g.1 i h).1
  ·rw[decide_eq_false h];rfl
 obtain⟨h1,k,hk,hx,hs,hst⟩:=Bqd (fun i=>((g.1,i):ByteArray×Nat)) g.1.size (fun i=>!WH (g.1.data.toList.getD i 0)) DC DB GV (E8 (g.1,0)) (g.1,0) rfl (Nat.le_refl _)
  (fun i _ _=>by
   show((!!decide (i <g.1.size))&&!CI g.1 i)=_
   rw[hk0,nn]
   cases decide (i <g.1.size)<;>rfl)
  (fun i hi hj=>by
   show(g.1,(bif decide (i <g.1.size) then i+(Utf8.decode g.1 i).snd else i))=(g.1,i+1)
   have h2:=hj i (Nat.lt_succ_self i)
   rw[decide_eq_true hi,cond_true,(Bhm g.1 i hi).2 (by simpa using h2)])
  (fun _ _ _=>Ad)
 refine⟨Aa (fun _=>h1) Ad,?_⟩
 have hr:JZ (g.1,0)=(g.1,k):=hx
 have ha:g.1.data.toList.all WH=decide (¬k <g.1.size):=by
  have:=Bc0 g.1.data.toList 0 WH k (by rw[KR];exact hk) (fun j hj=>by simpa using hs j hj) (fun h=>by rw[KR] at h;simpa using hst h)
  rw[KR] at this
  exact this
 unfold Pe
 rw[hr]
 show(bif FN g then false else bif CI g.1 k then false else true)=_
 rw[hk0]
 unfold FN Il O8
 rw[Ru]
 show _=(g.1.data.toList.all WH&&(decide (1≤g.1.size)&&decide (g.1.size≤12))&&(g.2==1||g.2==2))
 rw[ha]
 have e1:(g.1.size==0)=!decide (1≤g.1.size):=B4i _
 have e2:decide ((g.1.size:Int) >12)=!decide (g.1.size≤12):=by
  rw[←decide_not];exact decide_eq_decide.2 (by generalize g.1.size=m;omega)
 have e3:(g.2 !=1&&g.2 !=2)=!(g.2==1||g.2==2):=by simp[bne]
 rw[e1,e2,e3]
 by_cases h:k <g.1.size
 ·have:=hst h
  rw[this,decide_eq_true h,decide_eq_false (not_not_intro h)]
  simp
 ·rw[decide_eq_false h,decide_eq_true h]
  cases decide (1≤g.1.size)<;>cases decide (g.1.size≤12)<;>cases(g.2==1||g.2==2)<;>rfl
theorem Asr (a0:TGroup) (_hp:∀p∈SX a0,p):CallOk Try.prog 164 [Ae .group a0] 0 [] 1 (U4 a0) 0 (U2 a0):=by
 have h:=Ayq a0 (U1 a0).1
 unfold Pf at h
 rw[(U1 a0).2] at h
 exact h
def Xp:List A→Nat→Objs→Option AU:=A5 [.t .group] 0 U4 U2 SX
theorem Alr:Ev Try.prog 164 Xp:=As (ks:=[.t .group]) Asr
noncomputable def Brt:=AQ 164 Xp Cf
theorem A65:Cp Try.prog Brt:=Ak Alr Brs
abbrev Bf:Type:=(List TGroup)×Int×Int×(List (U .str×U .i64))
def JM (x:Bf):St:=⟨35,1,[(3,.mp 0),(15,.sl .group x.1),(16,.v (.int .i64 x.2.1)),(17,.v (.int .i64 x.2.2.1))],[(0,some (.map .str .i64 x.2.2.2))]⟩
def Ly:St→Option Bf
 |⟨35,1,[(3,.mp 0),(15,.sl .group z0),(16,.v (.int .i64 z1)),(17,.v (.int .i64 z2))],[(0,some (.map .str .i64 z3))]⟩=>some (z0,z1,z2,z3)
 |_=>none
theorem Y7:∀s x,Ly s=some x→s=JM x:=fun s x h=>by
 unfold Ly at h
 split at h
 ·cases h;rfl
 ·cases h
def SW:CU:=⟨1,1,[3,15,16,17],[],[(0,0)],[0],[2],[0]⟩
def Alq:C9:=⟨[],[(0,0)],[3,15,16,17],[0]⟩
def Eg (a0:List TGroup) (_a1:Int) (a2:Int) (a3:List (U .str×U .i64)):List (ByteArray×Int):=Zj a3 (a0.getD a2.toNat (Ac TC.group)).1 (IntKind.i64.wrap (J2 a3 (a0.getD a2.toNat (Ac TC.group)).1+(1:Int)))
def C6 (a0:List TGroup) (a1:Int) (a2:Int) (a3:List (U .str×U .i64)):Bool:=!!decide (a2 <a1)&&(!(Il (a0.getD a2.toNat (Ac TC.group)).1&&O8 (a0.getD a2.toNat (Ac TC.group)).2)||decide (J2 (Eg a0 a1 a2 a3) (a0.getD a2.toNat (Ac TC.group)).1 >(1:Int)))
def Acn (a0:List TGroup) (a1:Int) (a2:Int) (a3:List (U .str×U .i64)):List (U .str×U .i64):=(Eg a0 a1 a2 a3)
def Aco (a0:List TGroup) (a1:Int) (a2:Int) (a3:List (U .str×U .i64)):Bool:=!!decide (a2 <a1)&&!(C6 a0 a1 a2 a3)
def IA (a0:List TGroup) (_a1:Int) (a2:Int) (_a3:List (U .str×U .i64)):Int:=bif !(Il (a0.getD a2.toNat (Ac TC.group)).1&&O8 (a0.getD a2.toNat (Ac TC.group)).2) then(2:Int) else(70:Int)
def Y6 (a0:List TGroup) (a1:Int) (a2:Int) (a3:List (U .str×U .i64)):List (U .str×U .i64):=bif !(Il (a0.getD a2.toNat (Ac TC.group)).1&&O8 (a0.getD a2.toNat (Ac TC.group)).2) then a3 else(Eg a0 a1 a2 a3)
def C8 (x:Bf):Bf:=(x.1,x.2.1,IntKind.i64.wrap (x.2.2.1+(1:Int)),Acn x.1 x.2.1 x.2.2.1 x.2.2.2)
def C7 (x:Bf):Cnd:=some (Aco x.1 x.2.1 x.2.2.1 x.2.2.2)
def KD (x:Bf):List Prop:=[((!!decide (x.2.2.1 <x.2.1))=true→(0:Int)≤x.2.2.1∧x.2.2.1 <(↑x.1.length:Int))]
abbrev Fq:Bf→List Prop:=KD
def NS (x:Bf):Bb:=[(some 1,some (!decide (x.2.2.1 <x.2.1)),⟨35,1,[(2,.dead)],[(0,some (.map .str .i64 x.2.2.2))]⟩),(none,some ((C6 x.1 x.2.1 x.2.2.1 x.2.2.2)),⟨35,2,[(2,.v (.int .i64 (IA x.1 x.2.1 x.2.2.1 x.2.2.2)))],[(0,some (.map .str .i64 (Y6 x.1 x.2.1 x.2.2.1 x.2.2.2)))]⟩)]
def Eh (x:Bf):Nat:=(x.2.1 - x.2.2.1).toNat
def GU (x:Bf):Bf:=AZ C8 C7 (Eh x) x
theorem Ahs (a0:List TGroup) (a1:Int) (a2:Int) (a3:List (U .str×U .i64)):Bl (Au Brt L0) 9 (Af Try.prog 131 1) SW (JM (a0,a1,a2,a3))=some (KD (a0,a1,a2,a3),NS (a0,a1,a2,a3),C7 (a0,a1,a2,a3),JM (C8 (a0,a1,a2,a3))):=by kernel_rfl
theorem Aht (a0:List TGroup) (a1:Int) (a2:Int) (a3:List (U .str×U .i64)) (hp:∀p∈Fq (a0,a1,a2,a3),p):∀p∈KD (a0,a1,a2,a3),p:=hp
noncomputable def Pd:=Hw (Au Brt L0) (Af Try.prog 131 1) SW Alq Ly Eh C8 C7 Fq NS
theorem Acp:∀s b ps outs,Pd s=some (b,ps,outs)→Wf s ⟨ps,outs,none⟩∧Bh (Au C0 L0) b s ps outs:=
 A9 (T:=JM) A65 Ay (u:=9) (by kernel_rfl) (by decide) (fun⟨a0,a1,a2,a3⟩=>Ahs a0 a1 a2 a3) (fun⟨a0,a1,a2,a3⟩=>Aht a0 a1 a2 a3) Y7 (fun _=>AH (n:=35) rfl) fun _ _=>rfl
noncomputable def SV:=Di 1 Pd L0
theorem Acm:G1 SV:=AS Acp Ay
def D7 (a0:List TGroup):Bool:=(↑a0.length:Int)==(0:Int)||decide ((↑a0.length:Int) >(4:Int))
def Pc (a0:List TGroup):List TGroup:=(GU (a0,(↑a0.length:Int),(0:Int),[])).fst
def Pb (a0:List TGroup):Int:=(GU (a0,(↑a0.length:Int),(0:Int),[])).snd.fst
def Pa (a0:List TGroup):List (U TC.str×U TC.i64):=(GU (a0,(↑a0.length:Int),(0:Int),[])).snd.snd.snd
def O9 (a0:List TGroup):Int:=(GU (a0,(↑a0.length:Int),(0:Int),[])).snd.snd.fst
def J6 (a0:List TGroup):Int:=bif(D7 a0) then bif(↑a0.length:Int)==(0:Int) then(2:Int) else(3:Int) else bif C6 (Pc a0) (Pb a0) (O9 a0) (Pa a0) then IA (Pc a0) (Pb a0) (O9 a0) (Pa a0) else(0:Int)
def RB (a0:List TGroup):A:=.v (.int .i64 (J6 a0))
def Z2 (_a0:List TGroup):Objs:=[]
def Xj (a0:List TGroup):List Prop:=[((!(D7 a0))=true→AD C8 C7 Fq (Eh (a0,(↑a0.length:Int),(0:Int),[])) (a0,(↑a0.length:Int),(0:Int),[]))]
theorem Ayp (a0:List TGroup):Er (Au Brt SV) 9 131 [.sl .group a0] 0 []=some (1,RB a0,0,Z2 a0,[((!(D7 a0))=true→Af Try.prog (131:FuncId) (1:Nat)=Af Try.prog (131:FuncId) (1:Nat)),((!(D7 a0))=true→AD C8 C7 Fq (Eh (a0,(↑a0.length:Int),(0:Int),[])) (a0,(↑a0.length:Int),(0:Int),[]))]):=by kernel_rfl
theorem A3m (a0:List TGroup) (hp:∀p∈Xj a0,p):CallOk Try.prog 131 [.sl .group a0] 0 [] 1 (RB a0) 0 (Z2 a0):=by
 have n0:((!(D7 a0))=true→Af Try.prog (131:FuncId) (1:Nat)=Af Try.prog (131:FuncId) (1:Nat)):=by intros;rfl
 have n1:=N0 hp
 exact Az (Ap A65 Acm) (Ayp a0) (Aa n0 (Aa n1 Ad))
def Xk (a0:List TGroup):A:=.v (.int .i64 (AP a0))
def Xi (_a0:List TGroup):Objs:=[]
def U0 (_a0:List TGroup):List Prop:=[]
theorem Xh (l:List TGroup):(∀p∈Xj l,p)∧J6 l=AP l:=by
 have e4:D7 l=(l.length==0||decide (4 <l.length)):=by
  unfold D7
  rw[Ave]
  congr 1
  exact dgt l.length 4
 have main:D7 l=false→AD C8 C7 Fq (Eh (l,(l.length:Int),0,[])) (l,(l.length:Int),0,[])∧J6 l=AP l:=fun h4=>by
  have hn4:l.length≤4:=by
   rw[e4] at h4
   have:=of_decide_eq_false (Bool.or_eq_false_iff.1 h4).2
   omega
  have hk0:∀i,i≤l.length→(∀j,j <i→Vv l j=false)→C6 l (l.length:Int) (i:Int) (SL l i)=(decide (i <l.length)&&Vv l i):=fun i hi hs=>by
   unfold C6 Eg
   rw[Int.toNat_natCast,Awc,if_pos rfl,Awb l i hi hs,nn,Mp]
   unfold Vv
   congr 2
   cases((l.take i).map (·.name)).any (fun s=>s==(l.getD i (Ac TC.group)).1)<;>rfl
  obtain⟨h1,k,hk,hx,hs,hst⟩:=Bqd (fun i=>((l,(l.length:Int),(i:Int),SL l i):Bf)) l.length (Vv l) C8 C7 Fq (Eh (l,(l.length:Int),0,[])) ((l,(l.length:Int),0,[]):Bf) rfl
   (by show l.length≤((l.length:Int) - 0).toNat;omega)
   (fun i hi hs=>by
    show((!!decide ((i:Int) <(l.length:Int)))&&!C6 l (l.length:Int) (i:Int) (SL l i))=_
    rw[hk0 i hi hs,nn,Mp]
    cases decide (i <l.length)<;>rfl)
   (fun i hi hs=>by
    show(l,(l.length:Int),IntKind.i64.wrap ((i:Int)+1),Eg l (l.length:Int) (i:Int) (SL l i))=(l,(l.length:Int),((i+1:Nat):Int),SL l (i+1))
    rw[Eu (by omega)]
    unfold Eg
    rw[Int.toNat_natCast]
    rfl)
   (fun i hi hs=>Aa (fun h=>by
    have h':(!!decide ((i:Int) <(l.length:Int)))=true:=h
    rw[nn] at h'
    have:=of_decide_eq_true h'
    show(0:Int)≤(i:Int)∧(i:Int) <(l.length:Int)
    omega) Ad)
  refine⟨h1,?_⟩
  have hr:GU (l,(l.length:Int),0,[])=(l,(l.length:Int),(k:Int),SL l k):=hx
  unfold J6 Pc Pb Pa O9
  rw[hr,h4,cond_false]
  show(bif C6 l (l.length:Int) (k:Int) (SL l k) then IA l (l.length:Int) (k:Int) (SL l k) else 0)=_
  rw[hk0 k hk hs]
  rw[e4] at h4
  obtain⟨h5,h6⟩:=Bool.or_eq_false_iff.1 h4
  unfold AP
  rw[h5,h6,cond_false,cond_false,A5l l k [] (fun j hj hl=>by
   have:=hs j hj
   unfold Vv at this
   obtain⟨q1,q2⟩:=Bool.or_eq_false_iff.1 this
   exact⟨by rw[Bool.not_eq_false'] at q1;exact q1,by simpa using q2⟩),List.nil_append]
  by_cases hkl:k <l.length
  ·have hst':=hst hkl
   rw[hst',decide_eq_true hkl,Bool.and_true,cond_true]
   have hd:l.drop k=l.getD k (Ac TC.group)::l.drop (k+1):=by
    rw[List.getD_eq_getElem?_getD,List.getElem?_eq_getElem hkl,Option.getD_some]
    exact List.drop_eq_getElem_cons hkl
   rw[hd]
   unfold Ra IA
   rw[Int.toNat_natCast]
   unfold Vv at hst'
   show(bif !(Il (l.getD k (Ac TC.group)).1&&O8 (l.getD k (Ac TC.group)).2) then(2:Int) else 70)=bif !(Il (l.getD k (Ac TC.group)).1&&O8 (l.getD k (Ac TC.group)).2) then 2 else _
   cases hq:!(Il (l.getD k (Ac TC.group)).1&&O8 (l.getD k (Ac TC.group)).2) with
   |true=>rfl
   |false=>
    rw[hq,Bool.false_or] at hst'
    have hst2:((l.take k).map (·.name)).any (fun s=>s==(l.getD k (Ac TC.group)).name)=true:=hst'
    rw[cond_false,cond_false,hst2]
    rfl
  ·rw[decide_eq_false hkl,Bool.false_and,cond_false,List.drop_eq_nil_of_le (by omega)]
   rfl
 cases h4:D7 l with
 |false=>
  obtain⟨g1,g2⟩:=main h4
  exact⟨Aa (fun _=>g1) Ad,g2⟩
 | true=>
  refine⟨Aa (fun h=>by rw[h4] at h;cases h) Ad,?_⟩
  unfold J6 AP
  rw[h4,cond_true,Ave]
  rw[e4] at h4
  cases h5:l.length==0 with
  |true=>rfl
  |false=>
   rw[h5,Bool.false_or] at h4
   rw[h4]
   rfl
theorem Xg (a0:List TGroup) (_hp:∀p∈U0 a0,p):CallOk Try.prog 131 [.sl .group a0] 0 [] 1 (Xk a0) 0 (Xi a0):=by
 have h:=A3m a0 (Xh a0).1
 unfold RB at h
 rw[(Xh a0).2] at h
 exact h
def Z3:List A→Nat→Objs→Option AU:=A5 [.l .group] 0 Xk Xi U0
theorem Asq:Ev Try.prog 131 Z3:=As (ks:=[.l .group]) Xg
noncomputable def Bru:=AQ 131 Z3 Brt
theorem A66:Cp Try.prog Bru:=Ak Asq A65
abbrev Dm:Type:=ByteArray×Int
def My (x:Dm):St:=⟨28,0,[(0,.v (.string x.1)),(3,.v (.int .i64 x.2))],[]⟩
def Pi:St→Option Dm
 |⟨28,0,[(0,.v (.string z0)),(3,.v (.int .i64 z1))],[]⟩=>some (z0,z1)
 |_=>none
theorem Alz:∀s x,Pi s=some x→s=My x:=fun s x h=>by
 unfold Pi at h
 split at h
 ·cases h;rfl
 ·cases h
def Z8:CU:=⟨0,0,[0,3],[],[],[],[2],[]⟩
def A3r:C9:=⟨[],[],[0,3],[]⟩
def HZ (a0:ByteArray) (a1:Int):Bool:=!!decide (a1 <(↑a0.size:Int))
def EH (a0:ByteArray) (a1:Int):Bool:=(HZ a0 a1)&&(decide ((↑(a0.data.toList.getD a1.toNat (0:UInt8)).toNat:Int) <(97:Int))||decide ((↑(a0.data.toList.getD a1.toNat (0:UInt8)).toNat:Int) >(122:Int)))
def Asz (a0:ByteArray) (a1:Int):Bool:=(HZ a0 a1)&&!(EH a0 a1)
def Gq (x:Dm):Dm:=(x.1,IntKind.i64.wrap (x.2+(1:Int)))
def Gp (x:Dm):Cnd:=some (Asz x.1 x.2)
def No (x:Dm):List Prop:=[((HZ x.1 x.2)=true→(0:Int)≤x.2∧x.2 <(↑x.1.size:Int)),((HZ x.1 x.2)=true→decide ((↑(x.1.data.toList.getD x.2.toNat (0:UInt8)).toNat:Int) <(97:Int))=false→(0:Int)≤x.2∧x.2 <(↑x.1.size:Int))]
abbrev Jk:Dm→List Prop:=No
def S1 (x:Dm):Bb:=[(some 0,some (!decide (x.2 <(↑x.1.size:Int))),⟨28,0,[(2,.dead)],[]⟩),(none,some ((EH x.1 x.2)),⟨28,0,[(2,.v (.bool (false)))],[]⟩)]
def H0 (x:Dm):Nat:=((↑x.1.size:Int) - x.2).toNat
def Np (x:Dm):Dm:=AZ Gq Gp (H0 x) x
theorem Ay6 (a0:ByteArray) (a1:Int):Bl (Au Bru L0) 9 (Af Try.prog 163 0) Z8 (My (a0,a1))=some (No (a0,a1),S1 (a0,a1),Gp (a0,a1),My (Gq (a0,a1))):=by kernel_rfl
theorem Ay7 (a0:ByteArray) (a1:Int) (hp:∀p∈Jk (a0,a1),p):∀p∈No (a0,a1),p:=hp
noncomputable def U9:=Hw (Au Bru L0) (Af Try.prog 163 0) Z8 A3r Pi H0 Gq Gp Jk S1
theorem As0:∀s b ps outs,U9 s=some (b,ps,outs)→Wf s ⟨ps,outs,none⟩∧Bh (Au C0 L0) b s ps outs:=
 A9 (T:=My) A66 Ay (u:=9) (by kernel_rfl) (by decide) (fun⟨a0,a1⟩=>Ay6 a0 a1) (fun⟨a0,a1⟩=>Ay7 a0 a1) Alz (fun _=>AH (n:=28) rfl) fun _ _=>rfl
noncomputable def Z7:=Di 0 U9 L0
theorem Asy:G1 Z7:=AS As0 Ay
def Ac2 (a0:ByteArray):Bool:=bif EH (Np (a0,(0:Int))).fst (Np (a0,(0:Int))).snd then false else decide ((↑a0.size:Int)≥(1:Int))&&decide ((↑a0.size:Int)≤(12:Int))
def Ac3 (a0:ByteArray):A:=.v (.bool (Ac2 a0))
def Ay8 (_a0:ByteArray):Objs:=[]
def Apf (a0:ByteArray):List Prop:=[(AD Gq Gp Jk (H0 (a0,(0:Int))) (a0,(0:Int)))]
theorem Bf1 (a0:ByteArray):Er (Au Bru Z7) 9 163 [Ae .str a0] 0 []=some (1,Ac3 a0,0,Ay8 a0,[(Af Try.prog (163:FuncId) (0:Nat)=Af Try.prog (163:FuncId) (0:Nat)),(AD Gq Gp Jk (H0 (a0,(0:Int))) (a0,(0:Int)))]):=by kernel_rfl
theorem Bj8 (a0:ByteArray) (hp:∀p∈Apf a0,p):CallOk Try.prog 163 [Ae .str a0] 0 [] 1 (Ac3 a0) 0 (Ay8 a0):=by
 have n1:=N0 hp
 exact Az (Ap A66 Asy) (Bf1 a0) (Aa rfl (Aa n1 Ad))
def Apg (a0:ByteArray):A:=.v (.bool (Il a0))
def Ape (_a0:ByteArray):Objs:=[]
def Ahy (a0:ByteArray):List Prop:=[Ao a0.size]
theorem Apd (g:ByteArray) (hb:Ao g.size):(∀p∈Apf g,p)∧Ac2 g=Il g:=by
 unfold Ao at hb
 have hlow:∀i,(decide ((((g.data.toList.getD i 0).toNat:Nat):Int) <97)||decide ((((g.data.toList.getD i 0).toNat:Nat):Int) >122))=!WH (g.data.toList.getD i 0):=fun i=>by
  unfold WH
  rw[Bool.not_and,←decide_not,←decide_not]
  congr 1<;>exact decide_eq_decide.2 (by omega)
 have hk0:∀i:Nat,EH g (i:Int)=(decide (i <g.size)&&!WH (g.data.toList.getD i 0)):=fun i=>by
  unfold EH HZ
  rw[nn,Mp,Int.toNat_natCast,hlow]
 obtain⟨h1,k,hk,hx,hs,hst⟩:=Bqd (fun i=>((g,(i:Int)):ByteArray×Int)) g.size (fun i=>!WH (g.data.toList.getD i 0)) Gq Gp Jk (H0 (g,0)) (g,0) rfl (by show g.size≤((g.size:Int) - 0).toNat;omega)
  (fun i _ _=>by
   show((!!decide ((i:Int) <(g.size:Int)))&&!EH g i)=_
   rw[hk0,nn,Mp]
   cases decide (i <g.size)<;>rfl)
  (fun i hi hj=>by
   show(g,IntKind.i64.wrap ((i:Int)+1))=(g,((i+1:Nat):Int))
   rw[Eu (by omega)])
  (fun i _ _=>Aa (fun h=>by
    have h':(!!decide ((i:Int) <(g.size:Int)))=true:=h
    rw[nn] at h'
    have:=of_decide_eq_true h'
    show(0:Int)≤(i:Int)∧(i:Int) <(g.size:Int)
    omega) (Aa (fun h _=>by
    have h':(!!decide ((i:Int) <(g.size:Int)))=true:=h
    rw[nn] at h'
    have:=of_decide_eq_true h'
    show(0:Int)≤(i:Int)∧(i:Int) <(g.size:Int)
    omega) Ad))
 refine⟨Aa h1 Ad,?_⟩
 have hr:Np (g,0)=(g,(k:Int)):=hx
 have ha:g.data.toList.all WH=decide (¬k <g.size):=by
  have:=Bc0 g.data.toList 0 WH k (by rw[KR];exact hk) (fun j hj=>by simpa using hs j hj) (fun h=>by rw[KR] at h;simpa using hst h)
  rw[KR] at this
  exact this
 unfold Ac2
 rw[hr]
 show(bif EH g (k:Int) then false else decide ((g.size:Int)≥1)&&decide ((g.size:Int)≤12))=_
 rw[hk0]
 unfold Il
 rw[ha,show decide ((g.size:Int)≥1)=decide (1≤g.size) from decide_eq_decide.2 (by omega),show decide ((g.size:Int)≤12)=decide (g.size≤12) from decide_eq_decide.2 (by omega)]
 by_cases h:k <g.size
 ·rw[hst h,decide_eq_true h,decide_eq_false (not_not_intro h)]
  rfl
 ·rw[decide_eq_false h,decide_eq_true h]
  rfl
theorem Bf0 (a0:ByteArray) (hp:∀p∈Ahy a0,p):CallOk Try.prog 163 [Ae .str a0] 0 [] 1 (Apg a0) 0 (Ape a0):=by
 have hb:Ao a0.size:=hp _ (List.mem_cons_self ..)
 have h:=Bj8 a0 (Apd a0 hb).1
 unfold Ac3 at h
 rw[(Apd a0 hb).2] at h
 exact h
def Ay9:List A→Nat→Objs→Option AU:=A5 [.t .str] 0 Apg Ape Ahy
theorem A96:Ev Try.prog 163 Ay9:=As (ks:=[.t .str]) Bf0
noncomputable def Bh6:=AQ 163 Ay9 Bru
theorem Auj:Cp Try.prog Bh6:=Ak A96 A66
abbrev CM:Type:=(List TGroup)×Int×Int
def Mx (x:CM):St:=⟨56,0,[(0,.sl .group x.1),(3,.v (.int .i64 x.2.1)),(4,.v (.int .i64 x.2.2))],[]⟩
def Ph:St→Option CM
 |⟨56,0,[(0,.sl .group z0),(3,.v (.int .i64 z1)),(4,.v (.int .i64 z2))],[]⟩=>some (z0,z1,z2)
 |_=>none
theorem Aly:∀s x,Ph s=some x→s=Mx x:=fun s x h=>by
 unfold Ph at h
 split at h
 ·cases h;rfl
 ·cases h
def Z6:CU:=⟨0,0,[0,3,4],[],[],[],[2],[]⟩
def A3q:C9:=⟨[],[],[0,3,4],[]⟩
def DE (a0:List TGroup) (a1:Int) (a2:Int):Bool:=!!decide (a2 <a1)&&(a0.getD a2.toNat (Ac TC.group)).1.toList==(a0.getD a1.toNat (Ac TC.group)).1.toList
def Asw (a0:List TGroup) (a1:Int) (a2:Int):Bool:=!!decide (a2 <a1)&&!(DE a0 a1 a2)
def EG (x:CM):CM:=(x.1,x.2.1,IntKind.i64.wrap (x.2.2+(1:Int)))
def EF (x:CM):Cnd:=some (Asw x.1 x.2.1 x.2.2)
def Nn (x:CM):List Prop:=[((!!decide (x.2.2 <x.2.1))=true→(0:Int)≤x.2.2∧x.2.2 <(↑x.1.length:Int)),((!!decide (x.2.2 <x.2.1))=true→(0:Int)≤x.2.1∧x.2.1 <(↑x.1.length:Int))]
abbrev HY:CM→List Prop:=Nn
def S0 (x:CM):Bb:=[(some 2,some (!decide (x.2.2 <x.2.1)),⟨56,0,[(2,.dead)],[]⟩),(none,some ((DE x.1 x.2.1 x.2.2)),⟨56,0,[(2,.v (.int .i64 ((70:Int))))],[]⟩)]
def Gn (x:CM):Nat:=(x.2.1 - x.2.2).toNat
def FO (x:CM):CM:=AZ EG EF (Gn x) x
theorem Ay2 (a0:List TGroup) (a1:Int) (a2:Int):Bl (Au Bh6 L0) 9 (Af Try.prog 128 2) Z6 (Mx (a0,a1,a2))=some (Nn (a0,a1,a2),S0 (a0,a1,a2),EF (a0,a1,a2),Mx (EG (a0,a1,a2))):=by kernel_rfl
theorem Ay3 (a0:List TGroup) (a1:Int) (a2:Int) (hp:∀p∈HY (a0,a1,a2),p):∀p∈Nn (a0,a1,a2),p:=hp
noncomputable def U8:=Hw (Au Bh6 L0) (Af Try.prog 128 2) Z6 A3q Ph Gn EG EF HY S0
theorem Asx:∀s b ps outs,U8 s=some (b,ps,outs)→Wf s ⟨ps,outs,none⟩∧Bh (Au C0 L0) b s ps outs:=
 A9 (T:=Mx) Auj Ay (u:=9) (by kernel_rfl) (by decide) (fun⟨a0,a1,a2⟩=>Ay2 a0 a1 a2) (fun⟨a0,a1,a2⟩=>Ay3 a0 a1 a2) Aly (fun _=>AH (n:=56) rfl) fun _ _=>rfl
noncomputable def Mw:=Di 2 U8 L0
theorem U7:G1 Mw:=AS Asx Ay
abbrev Cc:Type:=(List TGroup)×Int
def Mu (x:Cc):St:=⟨56,0,[(0,.sl .group x.1),(3,.v (.int .i64 x.2))],[]⟩
def Pg:St→Option Cc
 |⟨56,0,[(0,.sl .group z0),(3,.v (.int .i64 z1))],[]⟩=>some (z0,z1)
 |_=>none
theorem Alx:∀s x,Pg s=some x→s=Mu x:=fun s x h=>by
 unfold Pg at h
 split at h
 ·cases h;rfl
 ·cases h
def Z5:CU:=⟨0,0,[0,3],[],[],[],[2],[]⟩
def A3p:C9:=⟨[],[],[0,3],[]⟩
def A4 (a0:List TGroup) (a1:Int):Bool:=!!decide (a1 <(↑a0.length:Int))
def DD (a0:List TGroup) (a1:Int):Bool:=!Il (a0.getD a1.toNat (Ac TC.group)).1||(a0.getD a1.toNat (Ac TC.group)).2 !=(1:Int)&&(a0.getD a1.toNat (Ac TC.group)).2 !=(2:Int)
def EC (a0:List TGroup) (a1:Int):Bool:=(A4 a0 a1)&&((DD a0 a1)||DE (FO (a0,a1,(0:Int))).fst (FO (a0,a1,(0:Int))).snd.fst (FO (a0,a1,(0:Int))).snd.snd)
def Asu (a0:List TGroup) (a1:Int):Bool:=(A4 a0 a1)&&!(EC a0 a1)
def JN (a0:List TGroup) (a1:Int):Int:=bif(DD a0 a1) then(2:Int) else(70:Int)
def EE (x:Cc):Cc:=(x.1,IntKind.i64.wrap (x.2+(1:Int)))
def ED (x:Cc):Cnd:=some (Asu x.1 x.2)
def U5 (x:Cc):List Prop:=[((A4 x.1 x.2)=true→(0:Int)≤x.2∧x.2 <(↑x.1.length:Int)),((A4 x.1 x.2)=true→Ao (x.1.getD x.2.toNat (Ac TC.group)).1.size),((A4 x.1 x.2)=true→(!Il (x.1.getD x.2.toNat (Ac TC.group)).1)=false→(0:Int)≤x.2∧x.2 <(↑x.1.length:Int)),((A4 x.1 x.2)=true→((x.1.getD x.2.toNat (Ac TC.group)).2 !=(1:Int))=true→(!Il (x.1.getD x.2.toNat (Ac TC.group)).1)=false→(0:Int)≤x.2∧x.2 <(↑x.1.length:Int)),((A4 x.1 x.2)=true→(!(DD x.1 x.2))=true→Af Try.prog (128:FuncId) (2:Nat)=Af Try.prog (128:FuncId) (2:Nat)),((A4 x.1 x.2)=true→(!(DD x.1 x.2))=true→AD EG EF HY (Gn (x.1,x.2,(0:Int))) (x.1,x.2,(0:Int)))]
def HX (x:Cc):List Prop:=[((A4 x.1 x.2)=true→(0:Int)≤x.2∧x.2 <(↑x.1.length:Int)),((A4 x.1 x.2)=true→Ao (x.1.getD x.2.toNat (Ac TC.group)).1.size),((A4 x.1 x.2)=true→(!Il (x.1.getD x.2.toNat (Ac TC.group)).1)=false→(0:Int)≤x.2∧x.2 <(↑x.1.length:Int)),((A4 x.1 x.2)=true→((x.1.getD x.2.toNat (Ac TC.group)).2 !=(1:Int))=true→(!Il (x.1.getD x.2.toNat (Ac TC.group)).1)=false→(0:Int)≤x.2∧x.2 <(↑x.1.length:Int)),((A4 x.1 x.2)=true→(!(DD x.1 x.2))=true→AD EG EF HY (Gn (x.1,x.2,(0:Int))) (x.1,x.2,(0:Int)))]
def SZ (x:Cc):Bb:=[(some 0,some (!decide (x.2 <(↑x.1.length:Int))),⟨56,0,[(2,.dead)],[]⟩),(none,some ((EC x.1 x.2)),⟨56,0,[(2,.v (.int .i64 (JN x.1 x.2)))],[]⟩)]
def Gm (x:Cc):Nat:=((↑x.1.length:Int) - x.2).toNat
def Nl (x:Cc):Cc:=AZ EE ED (Gm x) x
theorem Ay0 (a0:List TGroup) (a1:Int):Bl (Au Bh6 Mw) 9 (Af Try.prog 128 0) Z5 (Mu (a0,a1))=some (U5 (a0,a1),SZ (a0,a1),ED (a0,a1),Mu (EE (a0,a1))):=by kernel_rfl
theorem Ay1 (a0:List TGroup) (a1:Int) (hp:∀p∈HX (a0,a1),p):∀p∈U5 (a0,a1),p:=by
 have n0:=N0 hp
 have n1:=N0 (N1 hp)
 have n2:=N0 (N1 (N1 hp))
 have n3:=N0 (N1 (N1 (N1 hp)))
 have n4:((A4 a0 a1)=true→(!(DD a0 a1))=true→Af Try.prog (128:FuncId) (2:Nat)=Af Try.prog (128:FuncId) (2:Nat)):=by intros;rfl
 have n5:=N0 (N1 (N1 (N1 (N1 hp))))
 exact(Aa n0 (Aa n1 (Aa n2 (Aa n3 (Aa n4 (Aa n5 Ad))))))
noncomputable def U6:=Hw (Au Bh6 Mw) (Af Try.prog 128 0) Z5 A3p Pg Gm EE ED HX SZ
theorem Asv:∀s b ps outs,U6 s=some (b,ps,outs)→Wf s ⟨ps,outs,none⟩∧Bh (Au C0 L0) b s ps outs:=
 A9 (T:=Mu) Auj U7 (u:=9) (by kernel_rfl) (by decide) (fun⟨a0,a1⟩=>Ay0 a0 a1) (fun⟨a0,a1⟩=>Ay1 a0 a1) Alx (fun _=>AH (n:=56) rfl) fun _ _=>rfl
noncomputable def Z4:=Di 0 U6 Mw
theorem Ast:G1 Z4:=AS Asv U7
def Xz (a0:List TGroup):Int:=(Nl (a0,(0:Int))).snd
def Xy (a0:List TGroup):List TGroup:=(Nl (a0,(0:Int))).fst
def Hr (a0:List TGroup):Bool:=(↑a0.length:Int)==(0:Int)
def Im (a0:List TGroup):Bool:=decide ((↑a0.length:Int) >(4:Int))
def Me (a0:List TGroup):Int:=bif(Hr a0) then(2:Int) else bif(Im a0) then(3:Int) else bif EC (Xy a0) (Xz a0) then JN (Xy a0) (Xz a0) else(0:Int)
def Ac1 (a0:List TGroup):A:=.v (.int .i64 (Me a0))
def Ay4 (_a0:List TGroup):Objs:=[]
def Apb (a0:List TGroup):List Prop:=[((!(Hr a0))=true→(!(Im a0))=true→AD EE ED HX (Gm (a0,(0:Int))) (a0,(0:Int)))]
theorem Bfz (a0:List TGroup):Er (Au Bh6 Z4) 9 128 [.sl .group a0] 0 []=some (1,Ac1 a0,0,Ay4 a0,[((!(Hr a0))=true→(!(Im a0))=true→Af Try.prog (128:FuncId) (0:Nat)=Af Try.prog (128:FuncId) (0:Nat)),((!(Hr a0))=true→(!(Im a0))=true→AD EE ED HX (Gm (a0,(0:Int))) (a0,(0:Int)))]):=by kernel_rfl
theorem Bj7 (a0:List TGroup) (hp:∀p∈Apb a0,p):CallOk Try.prog 128 [.sl .group a0] 0 [] 1 (Ac1 a0) 0 (Ay4 a0):=by
 have n0:((!(Hr a0))=true→(!(Im a0))=true→Af Try.prog (128:FuncId) (0:Nat)=Af Try.prog (128:FuncId) (0:Nat)):=by intros;rfl
 have n1:=N0 hp
 exact Az (Ap Auj Ast) (Bfz a0) (Aa n0 (Aa n1 Ad))
def Apc (a0:List TGroup):A:=.v (.int .i64 (AP a0))
def Apa (_a0:List TGroup):Objs:=[]
def Ahx (a0:List TGroup):List Prop:=[∀g∈a0,Ao g.name.size]
theorem tlb (a b:ByteArray):(a.toList==b.toList)=(a==b):=by
 rw[Bool.eq_iff_iff,A79,beq_iff_eq]
theorem Bou (l:List TGroup) (x:ByteArray) (i k:Nat) (hi:i≤l.length) (hk:k≤i) (h1:∀j,j <k→((l.getD j (Ac TC.group)).1==x)=false) (h2:k <i→((l.getD k (Ac TC.group)).1==x)=true):((l.take i).map (·.name)).any (fun s=>s==x)=decide (k <i):=by
 rw[List.any_map]
 by_cases h:k <i
 ·rw[decide_eq_true h]
  refine List.any_eq_true.2 ⟨l.getD k (Ac TC.group),?_,h2 h⟩
  rw[List.getD_eq_getElem?_getD,List.getElem?_eq_getElem (by omega),Option.getD_some]
  exact List.mem_take_iff_getElem.2 ⟨k,by omega,rfl⟩
 ·rw[decide_eq_false h]
  refine Bool.eq_false_iff.2 fun ha=>?_
  obtain⟨g,hg,hx⟩:=List.any_eq_true.1 ha
  obtain⟨j,hj,rfl⟩:=List.mem_take_iff_getElem.1 hg
  have:=h1 j (by omega)
  rw[List.getD_eq_getElem?_getD,List.getElem?_eq_getElem (by omega),Option.getD_some] at this
  have hx':(l[j].1==x)=true:=hx
  rw[this] at hx'
  cases hx'
theorem A58 (l:List TGroup) (hl:l.length≤4) (i:Nat) (hi:i <l.length):
  AD EG EF HY (Gn (l,(i:Int),0)) (l,(i:Int),0)∧
  DE (FO (l,(i:Int),0)).fst (FO (l,(i:Int),0)).snd.fst (FO (l,(i:Int),0)).snd.snd=((l.take i).map (·.name)).any (fun s=>s==(l.getD i (Ac TC.group)).1):=by
 have hk0:∀k:Nat,DE l (i:Int) (k:Int)=(decide (k <i)&&((l.getD k (Ac TC.group)).1==(l.getD i (Ac TC.group)).1)):=fun k=>by
  unfold DE
  rw[nn,Mp,Int.toNat_natCast,Int.toNat_natCast,tlb]
 obtain⟨h1,k,hk,hx,hs,hst⟩:=Bqd (fun k=>((l,(i:Int),(k:Int)):CM)) i (fun k=>(l.getD k (Ac TC.group)).1==(l.getD i (Ac TC.group)).1) EG EF HY (Gn (l,(i:Int),0)) (l,(i:Int),0) rfl (by show i≤((i:Int) - 0).toNat;omega)
  (fun k _ _=>by
   show((!!decide ((k:Int) <(i:Int)))&&!DE l i k)=_
   rw[hk0,nn,Mp]
   cases decide (k <i)<;>rfl)
  (fun k hk _=>by
   show(l,(i:Int),IntKind.i64.wrap ((k:Int)+1))=(l,(i:Int),((k+1:Nat):Int))
   rw[Eu (by omega)])
  (fun k _ _=>Aa (fun h=>by
    have h':(!!decide ((k:Int) <(i:Int)))=true:=h
    rw[nn] at h'
    have:=of_decide_eq_true h'
    show(0:Int)≤(k:Int)∧(k:Int) <(l.length:Int)
    omega) (Aa (fun _=>by
    show(0:Int)≤(i:Int)∧(i:Int) <(l.length:Int)
    omega) Ad))
 refine⟨h1,?_⟩
 have hr:FO (l,(i:Int),0)=(l,(i:Int),(k:Int)):=hx
 rw[hr]
 show DE l (i:Int) (k:Int)=_
 rw[hk0,Bou l _ i k (by omega) hk hs hst]
 by_cases h:k <i
 ·rw[hst h,Bool.and_true]
 ·rw[decide_eq_false h,Bool.false_and]
theorem Ao9 (l:List TGroup) (hb:∀g∈l,Ao g.name.size):(∀p∈Apb l,p)∧Me l=AP l:=by
 have main:Hr l=false→Im l=false→AD EE ED HX (Gm (l,0)) (l,0)∧Me l=AP l:=fun h1 h0=>by
  have hn4:l.length≤4:=by have h:=of_decide_eq_false h0;omega
  have hf1:∀i:Nat,DD l (i:Int)=!(Il (l.getD i (Ac TC.group)).1&&O8 (l.getD i (Ac TC.group)).2):=fun i=>by
   unfold DD O8
   rw[Int.toNat_natCast,Bool.not_and]
   congr 1
   simp[bne]
  have hk0:∀i:Nat,EC l (i:Int)=(decide (i <l.length)&&Vv l i):=fun i=>by
   unfold EC A4
   rw[hf1,nn,Mp]
   by_cases hi:i <l.length
   ·rw[(A58 l hn4 i hi).2];rfl
   ·rw[decide_eq_false hi];rfl
  obtain⟨g1,k,hk,hx,hs,hst⟩:=Bqd (fun i=>((l,(i:Int)):Cc)) l.length (Vv l) EE ED HX (Gm (l,0)) ((l,0):Cc) rfl
   (by show l.length≤((l.length:Int) - 0).toNat;omega)
   (fun i hi hs=>by
    show((!!decide ((i:Int) <(l.length:Int)))&&!EC l (i:Int))=_
    rw[hk0 i,nn,Mp]
    cases decide (i <l.length)<;>rfl)
   (fun i hi hs=>by
    show(l,IntKind.i64.wrap ((i:Int)+1))=(l,((i+1:Nat):Int))
    rw[Eu (by omega)])
   (fun i hi hs=>by
    have hlt:(!!decide ((i:Int) <(l.length:Int)))=true→i <l.length:=fun h=>by
     rw[nn] at h
     have:=of_decide_eq_true h
     omega
    have hin:(!!decide ((i:Int) <(l.length:Int)))=true→(0:Int)≤(i:Int)∧(i:Int) <(l.length:Int):=fun h=>by
     have:=hlt h
     omega
    exact Aa hin (Aa (fun h=>by
     have:=hlt h
     show Ao (l.getD i (Ac TC.group)).1.size
     rw[List.getD_eq_getElem?_getD,List.getElem?_eq_getElem this,Option.getD_some]
     exact hb _ (List.getElem_mem this)) (Aa (fun h _=>hin h) (Aa (fun h _ _=>hin h) (Aa (fun h _=>(A58 l hn4 i (hlt h)).1) Ad)))))
  refine⟨g1,?_⟩
  have hr:Nl (l,0)=(l,(k:Int)):=hx
  unfold Me Xz Xy
  rw[hr,h1,h0,cond_false,cond_false]
  show(bif EC l (k:Int) then JN l (k:Int) else 0)=_
  rw[hk0 k]
  have e1:(l.length==0)=false:=by rw[←Ave];exact h1
  have e2:decide (4 <l.length)=false:=decide_eq_false (by omega)
  unfold AP
  rw[e1,e2,cond_false,cond_false,A5l l k [] (fun j hj hl=>by
   have:=hs j hj
   unfold Vv at this
   obtain⟨q1,q2⟩:=Bool.or_eq_false_iff.1 this
   exact⟨by rw[Bool.not_eq_false'] at q1;exact q1,by simpa using q2⟩),List.nil_append]
  by_cases hkl:k <l.length
  ·have hst':=hst hkl
   rw[hst',decide_eq_true hkl,Bool.and_true,cond_true]
   have hd:l.drop k=l.getD k (Ac TC.group)::l.drop (k+1):=by
    rw[List.getD_eq_getElem?_getD,List.getElem?_eq_getElem hkl,Option.getD_some]
    exact List.drop_eq_getElem_cons hkl
   rw[hd]
   unfold Ra JN
   rw[hf1]
   unfold Vv at hst'
   show(bif !(Il (l.getD k (Ac TC.group)).1&&O8 (l.getD k (Ac TC.group)).2) then(2:Int) else 70)=bif !(Il (l.getD k (Ac TC.group)).1&&O8 (l.getD k (Ac TC.group)).2) then 2 else _
   cases hq:!(Il (l.getD k (Ac TC.group)).1&&O8 (l.getD k (Ac TC.group)).2) with
   |true=>rfl
   |false=>
    rw[hq,Bool.false_or] at hst'
    have hst2:((l.take k).map (·.name)).any (fun s=>s==(l.getD k (Ac TC.group)).name)=true:=hst'
    rw[cond_false,cond_false,hst2]
    rfl
  ·rw[decide_eq_false hkl,Bool.false_and,cond_false,List.drop_eq_nil_of_le (by omega)]
   rfl
 cases h1:Hr l with
 |true=>
  refine⟨Aa (fun h=>by rw[h1] at h;cases h) Ad,?_⟩
  unfold Me AP
  rw[h1,cond_true,←Ave]
  unfold Hr at h1
  rw[h1]
  rfl
 | false=>
  cases h0:Im l with
  |true=>
   refine⟨Aa (fun _ h=>by rw[h0] at h;cases h) Ad,?_⟩
   unfold Me AP
   rw[h1,h0,cond_false,cond_true,←Ave]
   unfold Hr at h1
   rw[h1,cond_false,←dgt l.length 4]
   unfold Im at h0
   rw[show(decide ((l.length:Int) >((4:Nat):Int)))=true from h0]
   rfl
  |false=>
   obtain⟨g1,g2⟩:=main h1 h0
   exact⟨Aa (fun _ _=>g1) Ad,g2⟩
theorem Bfy (a0:List TGroup) (hp:∀p∈Ahx a0,p):CallOk Try.prog 128 [.sl .group a0] 0 [] 1 (Apc a0) 0 (Apa a0):=by
 have hb:∀g∈a0,Ao g.name.size:=hp _ (List.mem_cons_self ..)
 have h:=Bj7 a0 (Ao9 a0 hb).1
 unfold Ac1 at h
 rw[(Ao9 a0 hb).2] at h
 exact h
def Ay5:List A→Nat→Objs→Option AU:=A5 [.l .group] 0 Apc Apa Ahx
theorem A95:Ev Try.prog 128 Ay5:=As (ks:=[.l .group]) Bfy
noncomputable def B2y:=AQ 128 Ay5 Bh6
theorem Bwu:Cp Try.prog B2y:=Ak A95 Auj
noncomputable def Ch:=B2y
theorem B2z:Cp Try.prog Ch:=Bwu
end Go.Proofs.Yteebobbhhgmeiaa
