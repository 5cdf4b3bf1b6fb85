/- made by a program (rowgen.py): ModelMerges: for every input the law returns true, and each argument reads behind the call as it read before. -/
import Derived.Test.YteebobbhhgmeiaaKMmc

set_option maxRecDepth 100000
namespace Go.Proofs.Yteebobbhhgmeiaa
open Go.RowKit
def zc:TC→List Value
 | .u8=>[.int .u8 0]
 | .i64=>[.int .i64 0]
 | .u32=>[.int .u32 0]
 | .bool=>[.bool false]
 | .str=>[.string ByteArray.empty]
 | .bytes=>[.slice none 0 0]
 | .ints=>[.slice none 0 0]
 | .cells=>[.slice none 0 0]
 | .rows=>[.slice none 0 0]
 | .digest=>List.replicate 32 (.int .u8 0)
 |c=>(enc c (Ab c)).map fun x=>match x with
  | .v y=>y
  |_=> .slice none 0 0
theorem B90 (c:TC) (F:Nat→Prop) (N:Nm) (nx:Nat) (R:World):HL F N nx R (enc c (Ab c)) (zc c):=by
 cases c<;>(repeat' (first|exact HL.nil|exact Hv.v _|exact Hv.sl_nil rfl|apply HL.cons))
def GD (P:Program) (t:TypeId):Option (Nat×Option (List Value)):=(P.info? t).map fun i=>(i.size,i.zero.map fun z=>z.cells.toList)
theorem B1w {P:Program} {t:TypeId} {c:TC} (h:GD P t=some (size c,some (zc c))) (h0:0 <size c):∃i,P.info? t=some i∧i.size=size c∧0 <size c∧∃z,i.zero=some z∧∀(F:Nat→Prop) (N:Nm) (nx:Nat) (R:World),HL F N nx R (enc c (Ab c)) z.cells.toList:=by
 unfold GD at h
 cases hi:P.info? t with
 |none=>rw[hi] at h;cases h
 | some i=>
  rw[hi] at h
  have h':some (i.size,i.zero.map fun z=>z.cells.toList)=some (size c,some (zc c)):=h
  injection h' with h'
  injection h' with h1 h2
  cases hz:i.zero with
  |none=>rw[hz] at h2;cases h2
  |some z=>
   rw[hz] at h2
   injection h2 with h2
   have h3:z.cells.toList=zc c:=h2
   exact⟨i,rfl,h1,h0,z,hz,fun F N nx R=>by rw[h3];exact B90 c F N nx R⟩
theorem B09 (c:TC):0 <size c:=by cases c<;>decide
def B1x (t:TypeId):Option TC:=bif Nat.beq t 2 then some .i64 else bif Nat.beq t 3 then some .i64 else bif Nat.beq t 4 then some .bool else bif Nat.beq t 5 then some .u8 else bif Nat.beq t 9 then some .str else bif Nat.beq t 25 then some .front else bif Nat.beq t 26 then some .i64 else bif Nat.beq t 30 then some .vec else bif Nat.beq t 31 then some .vec else bif Nat.beq t 33 then some .told else bif Nat.beq t 37 then some .front else bif Nat.beq t 51 then some .stamp else bif Nat.beq t 53 then some .ask else bif Nat.beq t 55 then some .cell else bif Nat.beq t 67 then some .rows else bif Nat.beq t 69 then some .cells else bif Nat.beq t 71 then some .row else bif Nat.beq t 79 then some .group else bif Nat.beq t 84 then some .bytes else bif Nat.beq t 94 then some .view else bif Nat.beq t 108 then some .three else bif Nat.beq t 112 then some .two else bif Nat.beq t 133 then some .ints else bif Nat.beq t 136 then some .change else bif Nat.beq t 139 then some .write else bif Nat.beq t 142 then some .field else bif Nat.beq t 145 then some .ask3 else bif Nat.beq t 226 then some .place else bif Nat.beq t 239 then some .u32 else none
theorem B4y:GD Try.prog 2=some (size .i64,some (zc .i64)):=by kernel_rfl
theorem B4z:GD Try.prog 3=some (size .i64,some (zc .i64)):=by kernel_rfl
theorem B40:GD Try.prog 4=some (size .bool,some (zc .bool)):=by kernel_rfl
theorem B41:GD Try.prog 5=some (size .u8,some (zc .u8)):=by kernel_rfl
theorem B42:GD Try.prog 9=some (size .str,some (zc .str)):=by kernel_rfl
theorem B1h:GD Try.prog 25=some (size .front,some (zc .front)):=by kernel_rfl
theorem B1i:GD Try.prog 26=some (size .i64,some (zc .i64)):=by kernel_rfl
theorem B1j:GD Try.prog 30=some (size .vec,some (zc .vec)):=by kernel_rfl
theorem B1k:GD Try.prog 31=some (size .vec,some (zc .vec)):=by kernel_rfl
theorem B1l:GD Try.prog 33=some (size .told,some (zc .told)):=by kernel_rfl
theorem B1m:GD Try.prog 37=some (size .front,some (zc .front)):=by kernel_rfl
theorem B1n:GD Try.prog 51=some (size .stamp,some (zc .stamp)):=by kernel_rfl
theorem B1o:GD Try.prog 53=some (size .ask,some (zc .ask)):=by kernel_rfl
theorem B1p:GD Try.prog 55=some (size .cell,some (zc .cell)):=by kernel_rfl
theorem B1q:GD Try.prog 67=some (size .rows,some (zc .rows)):=by kernel_rfl
theorem B1r:GD Try.prog 69=some (size .cells,some (zc .cells)):=by kernel_rfl
theorem B1s:GD Try.prog 71=some (size .row,some (zc .row)):=by kernel_rfl
theorem B1t:GD Try.prog 79=some (size .group,some (zc .group)):=by kernel_rfl
theorem B1u:GD Try.prog 84=some (size .bytes,some (zc .bytes)):=by kernel_rfl
theorem B1v:GD Try.prog 94=some (size .view,some (zc .view)):=by kernel_rfl
theorem Bv7:GD Try.prog 108=some (size .three,some (zc .three)):=by kernel_rfl
theorem Bv8:GD Try.prog 112=some (size .two,some (zc .two)):=by kernel_rfl
theorem Bv9:GD Try.prog 133=some (size .ints,some (zc .ints)):=by kernel_rfl
theorem Bwa:GD Try.prog 136=some (size .change,some (zc .change)):=by kernel_rfl
theorem Bwb:GD Try.prog 139=some (size .write,some (zc .write)):=by kernel_rfl
theorem Bwc:GD Try.prog 142=some (size .field,some (zc .field)):=by kernel_rfl
theorem Bwd:GD Try.prog 145=some (size .ask3,some (zc .ask3)):=by kernel_rfl
theorem Bwe:GD Try.prog 226=some (size .place,some (zc .place)):=by kernel_rfl
theorem Bwf:GD Try.prog 239=some (size .u32,some (zc .u32)):=by kernel_rfl
theorem EJ {P:Program} {t k:TypeId} {c c0:TC} {r:Option TC} (h:(bif Nat.beq t k then some c0 else r)=some c) (hk:GD P k=some (size c0,some (zc c0))):GD P t=some (size c,some (zc c))∨r=some c:=by
 cases hb:Nat.beq t k with
 |true=>rw[hb] at h;cases h;rw[Nat.eq_of_beq_eq_true hb];exact .inl hk
 |false=>rw[hb] at h;exact .inr h
theorem B1y:B92 Try.prog B1x:=fun t c h=>by
 refine B1w ?_ (B09 c)
 unfold B1x at h
 rcases EJ h B4y with h|h
 ·exact h
 rcases EJ h B4z with h|h
 ·exact h
 rcases EJ h B40 with h|h
 ·exact h
 rcases EJ h B41 with h|h
 ·exact h
 rcases EJ h B42 with h|h
 ·exact h
 rcases EJ h B1h with h|h
 ·exact h
 rcases EJ h B1i with h|h
 ·exact h
 rcases EJ h B1j with h|h
 ·exact h
 rcases EJ h B1k with h|h
 ·exact h
 rcases EJ h B1l with h|h
 ·exact h
 rcases EJ h B1m with h|h
 ·exact h
 rcases EJ h B1n with h|h
 ·exact h
 rcases EJ h B1o with h|h
 ·exact h
 rcases EJ h B1p with h|h
 ·exact h
 rcases EJ h B1q with h|h
 ·exact h
 rcases EJ h B1r with h|h
 ·exact h
 rcases EJ h B1s with h|h
 ·exact h
 rcases EJ h B1t with h|h
 ·exact h
 rcases EJ h B1u with h|h
 ·exact h
 rcases EJ h B1v with h|h
 ·exact h
 rcases EJ h Bv7 with h|h
 ·exact h
 rcases EJ h Bv8 with h|h
 ·exact h
 rcases EJ h Bv9 with h|h
 ·exact h
 rcases EJ h Bwa with h|h
 ·exact h
 rcases EJ h Bwb with h|h
 ·exact h
 rcases EJ h Bwc with h|h
 ·exact h
 rcases EJ h Bwd with h|h
 ·exact h
 rcases EJ h Bwe with h|h
 ·exact h
 rcases EJ h Bwf with h|h
 ·exact h
 cases h
end Go.Proofs.Yteebobbhhgmeiaa
namespace Go.Proofs.Yteebobbhhgmeiaa
open Go.RowKit
theorem eqi (d:Nat) (a b:Int) (w:World):(Op.equalIn (d+1) 3 (.int .i64 a) (.int .i64 b)).run Try.prog w=.ok (a==b) w:=run_equalIn_int w d 3 .i64 .i64 a b Try.underlying3
theorem eqb (d:Nat) (a b:Bool) (w:World):(Op.equalIn (d+1) 4 (.bool a) (.bool b)).run Try.prog w=.ok (a==b) w:=run_equalIn_bool' w d 4 a b Try.underlying4
theorem eqs (d:Nat) (a b:ByteArray) (w:World):(Op.equalIn (d+1) 9 (.string a) (.string b)).run Try.prog w=.ok (a.toList==b.toList) w:=run_equalIn_string w d 9 a b Try.underlying9
@[go_sem] theorem eqVec (d:Nat) (a b x y:Int) (w:World):(Op.equalIn (d+2) 31 (.agg #[.int .i64 a,.int .i64 b]) (.agg #[.int .i64 x,.int .i64 y])).run Try.prog w=.ok (a==x&&b==y) w:=by
 have p0:∀a b w,(part 3 #[.int .i64 a,.int .i64 b] 0).run Try.prog w=Result.ok (.int .i64 a) w:=fun a b w=>by kernel_rfl
 have p1:∀a b w,(part 3 #[.int .i64 a,.int .i64 b] 1).run Try.prog w=Result.ok (.int .i64 b) w:=fun a b w=>by kernel_rfl
 unfold Op.equalIn
 cases h:a==x
 ·simp[Sem.run_bind,run_underlying Try.underlying31,List.range',p0,eqi,h]
 ·cases h':b==y<;>simp[Sem.run_bind,run_underlying Try.underlying31,List.range',p0,p1,eqi,h,h']
@[go_sem] theorem eqInt2 (d:Nat) (a b x y:Int) (w:World):(Op.equalIn (d+2) 30 (.agg #[.int .i64 a,.int .i64 b]) (.agg #[.int .i64 x,.int .i64 y])).run Try.prog w=.ok (a==x&&b==y) w:=by
 have p0:∀a b w,(part 3 #[.int .i64 a,.int .i64 b] 0).run Try.prog w=Result.ok (.int .i64 a) w:=fun a b w=>by kernel_rfl
 have p1:∀a b w,(part 3 #[.int .i64 a,.int .i64 b] 1).run Try.prog w=Result.ok (.int .i64 b) w:=fun a b w=>by kernel_rfl
 unfold Op.equalIn
 cases h:a==x
 ·simp[Sem.run_bind,run_underlying Try.underlying30,List.range',p0,eqi,h]
 ·cases h':b==y<;>simp[Sem.run_bind,run_underlying Try.underlying30,List.range',p0,p1,eqi,h,h']
@[go_sem] theorem eqStamp (d:Nat) (a b x y:Int) (w:World):(Op.equalIn (d+2) 51 (.agg #[.int .i64 a,.int .i64 b]) (.agg #[.int .i64 x,.int .i64 y])).run Try.prog w=.ok (a==x&&b==y) w:=by
 rw[run_equalIn_struct w (d+1) 51 _ _ (by kernel_rfl) (by kernel_rfl)]
 have p0:∀a b w,(part 3 #[.int .i64 a,.int .i64 b] 0).run Try.prog w=Result.ok (.int .i64 a) w:=fun a b w=>by kernel_rfl
 have p1:∀a b w,(part 3 #[.int .i64 a,.int .i64 b] 1).run Try.prog w=Result.ok (.int .i64 b) w:=fun a b w=>by kernel_rfl
 cases h:a==x
 ·simp[Program.fieldsOf,Try.underlying51,Op.eqFields,Sem.run_bind,p0,eqi,h]
 ·cases h':b==y<;>simp[Program.fieldsOf,Try.underlying51,Op.eqFields,Sem.run_bind,p0,p1,eqi,h,h']
@[go_sem] theorem eqFront (d:Nat) (a b c e f u v x y z:Int) (w:World):(Op.equalIn (d+2) 25 (.agg #[.int .i64 a,.int .i64 b,.int .i64 c,.int .i64 e,.int .i64 f]) (.agg #[.int .i64 u,.int .i64 v,.int .i64 x,.int .i64 y,.int .i64 z])).run Try.prog w=.ok (a==u&&(b==v&&(c==x&&(e==y&&(f==z))))) w:=by
 rw[run_equalIn_struct w (d+1) 25 _ _ (by kernel_rfl) (by kernel_rfl)]
 have p0:∀a b c e f w,(part 3 #[.int .i64 a,.int .i64 b,.int .i64 c,.int .i64 e,.int .i64 f] 0).run Try.prog w=Result.ok (.int .i64 a) w:=fun a b c e f w=>by kernel_rfl
 have p1:∀a b c e f w,(part 3 #[.int .i64 a,.int .i64 b,.int .i64 c,.int .i64 e,.int .i64 f] 1).run Try.prog w=Result.ok (.int .i64 b) w:=fun a b c e f w=>by kernel_rfl
 have p2:∀a b c e f w,(part 3 #[.int .i64 a,.int .i64 b,.int .i64 c,.int .i64 e,.int .i64 f] 2).run Try.prog w=Result.ok (.int .i64 c) w:=fun a b c e f w=>by kernel_rfl
 have p3:∀a b c e f w,(part 3 #[.int .i64 a,.int .i64 b,.int .i64 c,.int .i64 e,.int .i64 f] 3).run Try.prog w=Result.ok (.int .i64 e) w:=fun a b c e f w=>by kernel_rfl
 have p4:∀a b c e f w,(part 3 #[.int .i64 a,.int .i64 b,.int .i64 c,.int .i64 e,.int .i64 f] 4).run Try.prog w=Result.ok (.int .i64 f) w:=fun a b c e f w=>by kernel_rfl
 cases h0:a==u
 ·simp[Program.fieldsOf,Try.underlying25,Op.eqFields,Sem.run_bind,p0,eqi,h0]
 ·cases h1:b==v
  ·simp[Program.fieldsOf,Try.underlying25,Op.eqFields,Sem.run_bind,p0,p1,eqi,h0,h1]
  ·cases h2:c==x
   ·simp[Program.fieldsOf,Try.underlying25,Op.eqFields,Sem.run_bind,p0,p1,p2,eqi,h0,h1,h2]
   ·cases h3:e==y
    ·simp[Program.fieldsOf,Try.underlying25,Op.eqFields,Sem.run_bind,p0,p1,p2,p3,eqi,h0,h1,h2,h3]
    ·cases h4:f==z
     ·simp[Program.fieldsOf,Try.underlying25,Op.eqFields,Sem.run_bind,p0,p1,p2,p3,p4,eqi,h0,h1,h2,h3,h4]
     ·simp[Program.fieldsOf,Try.underlying25,Op.eqFields,Sem.run_bind,p0,p1,p2,p3,p4,eqi,h0,h1,h2,h3,h4]
@[go_sem] theorem eqRFront (d:Nat) (a b c e f u v x y z:Int) (w:World):(Op.equalIn (d+2) 37 (.agg #[.int .i64 a,.int .i64 b,.int .i64 c,.int .i64 e,.int .i64 f]) (.agg #[.int .i64 u,.int .i64 v,.int .i64 x,.int .i64 y,.int .i64 z])).run Try.prog w=.ok (a==u&&(b==v&&(c==x&&(e==y&&(f==z))))) w:=by
 rw[run_equalIn_struct w (d+1) 37 _ _ (by kernel_rfl) (by kernel_rfl)]
 have p0:∀a b c e f w,(part 3 #[.int .i64 a,.int .i64 b,.int .i64 c,.int .i64 e,.int .i64 f] 0).run Try.prog w=Result.ok (.int .i64 a) w:=fun a b c e f w=>by kernel_rfl
 have p1:∀a b c e f w,(part 3 #[.int .i64 a,.int .i64 b,.int .i64 c,.int .i64 e,.int .i64 f] 1).run Try.prog w=Result.ok (.int .i64 b) w:=fun a b c e f w=>by kernel_rfl
 have p2:∀a b c e f w,(part 3 #[.int .i64 a,.int .i64 b,.int .i64 c,.int .i64 e,.int .i64 f] 2).run Try.prog w=Result.ok (.int .i64 c) w:=fun a b c e f w=>by kernel_rfl
 have p3:∀a b c e f w,(part 3 #[.int .i64 a,.int .i64 b,.int .i64 c,.int .i64 e,.int .i64 f] 3).run Try.prog w=Result.ok (.int .i64 e) w:=fun a b c e f w=>by kernel_rfl
 have p4:∀a b c e f w,(part 3 #[.int .i64 a,.int .i64 b,.int .i64 c,.int .i64 e,.int .i64 f] 4).run Try.prog w=Result.ok (.int .i64 f) w:=fun a b c e f w=>by kernel_rfl
 cases h0:a==u
 ·simp[Program.fieldsOf,Try.underlying37,Op.eqFields,Sem.run_bind,p0,eqi,h0]
 ·cases h1:b==v
  ·simp[Program.fieldsOf,Try.underlying37,Op.eqFields,Sem.run_bind,p0,p1,eqi,h0,h1]
  ·cases h2:c==x
   ·simp[Program.fieldsOf,Try.underlying37,Op.eqFields,Sem.run_bind,p0,p1,p2,eqi,h0,h1,h2]
   ·cases h3:e==y
    ·simp[Program.fieldsOf,Try.underlying37,Op.eqFields,Sem.run_bind,p0,p1,p2,p3,eqi,h0,h1,h2,h3]
    ·cases h4:f==z
     ·simp[Program.fieldsOf,Try.underlying37,Op.eqFields,Sem.run_bind,p0,p1,p2,p3,p4,eqi,h0,h1,h2,h3,h4]
     ·simp[Program.fieldsOf,Try.underlying37,Op.eqFields,Sem.run_bind,p0,p1,p2,p3,p4,eqi,h0,h1,h2,h3,h4]
@[go_sem] theorem eqCell (d:Nat) (a0 a1 a2 a3 a6 a7 b0 b1 b2 b3 b6 b7:Int) (a4 b4:Bool) (a5 b5:ByteArray) (w:World):(Op.equalIn (d+3) 55 (.agg #[.int .i64 a0,.int .i64 a1,.int .i64 a2,.int .i64 a3,.bool a4,.string a5,.int .i64 a6,.int .i64 a7]) (.agg #[.int .i64 b0,.int .i64 b1,.int .i64 b2,.int .i64 b3,.bool b4,.string b5,.int .i64 b6,.int .i64 b7])).run Try.prog w=.ok ((a0==b0&&a1==b1)&&((a2==b2&&a3==b3)&&((a4==b4)&&((a5.toList==b5.toList)&&(a6==b6&&a7==b7))))) w:=by
 rw[run_equalIn_struct w (d+2) 55 _ _ (by kernel_rfl) (by kernel_rfl)]
 have p0:∀(a0 a1 a2 a3 a6 a7:Int) (a4:Bool) (a5:ByteArray) (w:World),(part 51 #[.int .i64 a0,.int .i64 a1,.int .i64 a2,.int .i64 a3,.bool a4,.string a5,.int .i64 a6,.int .i64 a7] 0).run Try.prog w=Result.ok (.agg #[.int .i64 a0,.int .i64 a1]) w:=fun _ _ _ _ _ _ _ _ _=>by kernel_rfl
 have p1:∀(a0 a1 a2 a3 a6 a7:Int) (a4:Bool) (a5:ByteArray) (w:World),(part 31 #[.int .i64 a0,.int .i64 a1,.int .i64 a2,.int .i64 a3,.bool a4,.string a5,.int .i64 a6,.int .i64 a7] 2).run Try.prog w=Result.ok (.agg #[.int .i64 a2,.int .i64 a3]) w:=fun _ _ _ _ _ _ _ _ _=>by kernel_rfl
 have p2:∀(a0 a1 a2 a3 a6 a7:Int) (a4:Bool) (a5:ByteArray) (w:World),(part 4 #[.int .i64 a0,.int .i64 a1,.int .i64 a2,.int .i64 a3,.bool a4,.string a5,.int .i64 a6,.int .i64 a7] 4).run Try.prog w=Result.ok (.bool a4) w:=fun _ _ _ _ _ _ _ _ _=>by kernel_rfl
 have p3:∀(a0 a1 a2 a3 a6 a7:Int) (a4:Bool) (a5:ByteArray) (w:World),(part 9 #[.int .i64 a0,.int .i64 a1,.int .i64 a2,.int .i64 a3,.bool a4,.string a5,.int .i64 a6,.int .i64 a7] 5).run Try.prog w=Result.ok (.string a5) w:=fun _ _ _ _ _ _ _ _ _=>by kernel_rfl
 have p4:∀(a0 a1 a2 a3 a6 a7:Int) (a4:Bool) (a5:ByteArray) (w:World),(part 31 #[.int .i64 a0,.int .i64 a1,.int .i64 a2,.int .i64 a3,.bool a4,.string a5,.int .i64 a6,.int .i64 a7] 6).run Try.prog w=Result.ok (.agg #[.int .i64 a6,.int .i64 a7]) w:=fun _ _ _ _ _ _ _ _ _=>by kernel_rfl
 cases h0:(a0==b0&&a1==b1)
 ·simp only[Program.fieldsOf,Try.underlying55,Op.eqFields,Sem.run_bind,Sem.run_ite,Sem.run_pure,Result.andThen_ok,p0,eqStamp,h0];simp
 ·cases h1:(a2==b2&&a3==b3)
  ·simp only[Program.fieldsOf,Try.underlying55,Op.eqFields,Sem.run_bind,Sem.run_ite,Sem.run_pure,Result.andThen_ok,p0,p1,eqStamp,eqVec,h0,h1];simp
  ·cases h2:(a4==b4)
   ·simp only[Program.fieldsOf,Try.underlying55,Op.eqFields,Sem.run_bind,Sem.run_ite,Sem.run_pure,Result.andThen_ok,p0,p1,p2,eqStamp,eqVec,eqb,h0,h1,h2];simp
   ·cases h3:(a5.toList==b5.toList)
    ·simp only[Program.fieldsOf,Try.underlying55,Op.eqFields,Sem.run_bind,Sem.run_ite,Sem.run_pure,Result.andThen_ok,p0,p1,p2,p3,eqStamp,eqVec,eqb,eqs,h0,h1,h2,h3];simp
    ·cases h4:(a6==b6&&a7==b7)
     ·simp only[Program.fieldsOf,Try.underlying55,Op.eqFields,Sem.run_bind,Sem.run_ite,Sem.run_pure,Result.andThen_ok,p0,p1,p2,p3,p4,eqStamp,eqVec,eqb,eqs,h0,h1,h2,h3,h4];simp
     ·simp only[Program.fieldsOf,Try.underlying55,Op.eqFields,Sem.run_bind,Sem.run_ite,Sem.run_pure,Result.andThen_ok,p0,p1,p2,p3,p4,eqStamp,eqVec,eqb,eqs,h0,h1,h2,h3,h4];simp
theorem Bjv:Try.prog.eqGuardType Try.prog.depth 31=false:=by kernel_rfl
@[go_sem] theorem grdVec (op:BinOp) (x y:Operand) (xs ys:Array Value) (w:World):(eqGuard op 31 x y (.agg xs) (.agg ys)).run Try.prog w=.ok () w:=run_eqGuard_agg w op 31 x y xs ys Bjv
theorem Buz:Try.prog.eqGuardType Try.prog.depth 30=false:=by kernel_rfl
@[go_sem] theorem grdInt2 (op:BinOp) (x y:Operand) (xs ys:Array Value) (w:World):(eqGuard op 30 x y (.agg xs) (.agg ys)).run Try.prog w=.ok () w:=run_eqGuard_agg w op 30 x y xs ys Buz
theorem A0t:Try.prog.eqGuardType Try.prog.depth 51=false:=by kernel_rfl
@[go_sem] theorem grdStamp (op:BinOp) (x y:Operand) (xs ys:Array Value) (w:World):(eqGuard op 51 x y (.agg xs) (.agg ys)).run Try.prog w=.ok () w:=run_eqGuard_agg w op 51 x y xs ys A0t
theorem Bor:Try.prog.eqGuardType Try.prog.depth 25=false:=by kernel_rfl
@[go_sem] theorem grdFront (op:BinOp) (x y:Operand) (xs ys:Array Value) (w:World):(eqGuard op 25 x y (.agg xs) (.agg ys)).run Try.prog w=.ok () w:=run_eqGuard_agg w op 25 x y xs ys Bor
theorem Ar8:Try.prog.eqGuardType Try.prog.depth 37=false:=by kernel_rfl
@[go_sem] theorem grdRFront (op:BinOp) (x y:Operand) (xs ys:Array Value) (w:World):(eqGuard op 37 x y (.agg xs) (.agg ys)).run Try.prog w=.ok () w:=run_eqGuard_agg w op 37 x y xs ys Ar8
theorem Bad:Try.prog.eqGuardType Try.prog.depth 55=false:=by kernel_rfl
@[go_sem] theorem grdCell (op:BinOp) (x y:Operand) (xs ys:Array Value) (w:World):(eqGuard op 55 x y (.agg xs) (.agg ys)).run Try.prog w=.ok () w:=run_eqGuard_agg w op 55 x y xs ys Bad
end Go.Proofs.Yteebobbhhgmeiaa
namespace Go.Proofs.Yteebobbhhgmeiaa
open Go.RowKit
instance (n:Nat):Decidable (Ain n):=.isFalse id
theorem B9z:Try.prog.follows .mixedOrders=true:=by kernel_rfl
theorem Boq:Try.prog.eqGuardType Try.prog.depth 142=false:=by kernel_rfl
theorem B3j (d:Nat) (a x:Int) (b y:ByteArray) (w:World):(Op.equalIn (d+2) 142 (.agg #[.int .i64 a,.string b]) (.agg #[.int .i64 x,.string y])).run Try.prog w=.ok (a==x&&b.toList==y.toList) w:=by
 rw[run_equalIn_struct w (d+1) 142 _ _ (by kernel_rfl) (by kernel_rfl)]
 have p0:∀a b w,(part 3 #[.int .i64 a,.string b] 0).run Try.prog w=Result.ok (.int .i64 a) w:=fun a b w=>by kernel_rfl
 have p1:∀a b w,(part 9 #[.int .i64 a,.string b] 1).run Try.prog w=Result.ok (.string b) w:=fun a b w=>by kernel_rfl
 cases h:a==x
 ·simp[Program.fieldsOf,Try.underlying142,Op.eqFields,Sem.run_bind,p0,eqi,h]
 ·cases h':b.toList==y.toList<;>simp[Program.fieldsOf,Try.underlying142,Op.eqFields,Sem.run_bind,p0,p1,eqi,eqs,h,h']
def B3k:List Value→List Value→Option Bool
 | [.int .i64 a,.int .i64 b],[.int .i64 x,.int .i64 y]=>some (a==x&&b==y)
 |_,_=>none
def B89:List Value→List Value→Option Bool
 | [.int .i64 a,.string b],[.int .i64 x,.string y]=>some (a==x&&b.toList==y.toList)
 |_,_=>none
def B9a:List Value→List Value→Option Bool
 | [.int .i64 a,.int .i64 b,.int .i64 c,.int .i64 e,.int .i64 f],[.int .i64 u,.int .i64 v,.int .i64 x,.int .i64 y,.int .i64 z]=>some (a==u&&(b==v&&(c==x&&(e==y&&f==z))))
 |_,_=>none
def B88:List Value→List Value→Option Bool
 | [.int .i64 a0,.int .i64 a1,.int .i64 a2,.int .i64 a3,.bool a4,.string a5,.int .i64 a6,.int .i64 a7],[.int .i64 b0,.int .i64 b1,.int .i64 b2,.int .i64 b3,.bool b4,.string b5,.int .i64 b6,.int .i64 b7]=>
  some ((a0==b0&&a1==b1)&&((a2==b2&&a3==b3)&&((a4==b4)&&((a5.toList==b5.toList)&&(a6==b6&&a7==b7)))))
 |_,_=>none
def By5 (t:TypeId) (xs ys:List Value):Option Bool:=
 bif Nat.beq t 31 then B3k xs ys else bif Nat.beq t 51 then B3k xs ys else bif Nat.beq t 55 then B88 xs ys else bif Nat.beq t 142 then B89 xs ys else bif Nat.beq t 37 then B9a xs ys else none
theorem By6:B91 Try.prog By5:=fun t xs ys b h=>by
 unfold By5 at h
 cases h1:Nat.beq t 31 with
 |true=>
  rw[h1] at h
  rw[Nat.eq_of_beq_eq_true h1]
  refine⟨Bjv,fun R=>?_⟩
  unfold B3k at h
  simp only[cond_true] at h
  split at h<;>first|(cases h;done)|skip
  cases h
  exact eqVec 9998 _ _ _ _ R
 |false=>
 cases h2:Nat.beq t 51 with
 |true=>
  rw[h1,h2] at h
  rw[Nat.eq_of_beq_eq_true h2]
  refine⟨A0t,fun R=>?_⟩
  unfold B3k at h
  simp only[cond_true,cond_false] at h
  split at h<;>first|(cases h;done)|skip
  cases h
  exact eqStamp 9998 _ _ _ _ R
 |false=>
 cases h3:Nat.beq t 55 with
 |true=>
  rw[h1,h2,h3] at h
  rw[Nat.eq_of_beq_eq_true h3]
  refine⟨Bad,fun R=>?_⟩
  unfold B88 at h
  simp only[cond_true,cond_false] at h
  split at h<;>first|(cases h;done)|skip
  cases h
  exact eqCell 9997 _ _ _ _ _ _ _ _ _ _ _ _ _ _ _ _ R
 |false=>
 cases h4:Nat.beq t 142 with
 |true=>
  rw[h1,h2,h3,h4] at h
  rw[Nat.eq_of_beq_eq_true h4]
  refine⟨Boq,fun R=>?_⟩
  unfold B89 at h
  simp only[cond_true,cond_false] at h
  split at h<;>first|(cases h;done)|skip
  cases h
  exact B3j 9998 _ _ _ _ R
 |false=>
 cases h5:Nat.beq t 37 with
 |true=>
  rw[h1,h2,h3,h4,h5] at h
  rw[Nat.eq_of_beq_eq_true h5]
  refine⟨Ar8,fun R=>?_⟩
  unfold B9a at h
  simp only[cond_true,cond_false] at h
  split at h<;>first|(cases h;done)|skip
  cases h
  rw[eqRFront 9998]
 |false=>
  rw[h1,h2,h3,h4,h5] at h
  cases h
noncomputable def Au (C:Tab) (L:Bcc):Env:=⟨Try.prog,By5,C,false,B1x,L⟩
theorem B3i {C:Tab} {L:Bcc} (hC:CD Try.prog C) (hL:∀l s b ps outs,L l s=some (b,ps,outs)→Wf s ⟨ps,outs,none⟩∧Be (Au C L) b s ps outs):Xr (Au C L) where
 suf f args nx o k x nx' o' ps h:=(hC f args nx o k x nx' o' ps h).2
 wide:=B9z
 eq:=By6
 C f args nx o k x nx' o' ps h:=(hC f args nx o k x nx' o' ps h).1
 tc:=B1y
 loops:=hL
end Go.Proofs.Yteebobbhhgmeiaa
namespace Go.Proofs.Yteebobbhhgmeiaa
open Go.RowKit
def Gf (L:Bcc):Prop:=∀l s b ps outs,L l s=some (b,ps,outs)→Wf s ⟨ps,outs,none⟩∧Be (Au C0 L0) b s ps outs
theorem Av:Gf L0:=fun _ _ _ _ _ h=>by cases h
theorem AP {l0:Nat} {g:St→Option (Code×List Prop×Bd)} {L:Bcc} (hg:∀s b ps outs,g s=some (b,ps,outs)→Wf s ⟨ps,outs,none⟩∧Be (Au C0 L0) b s ps outs) (hL:Gf L):Gf (CY l0 g L):=fun l s b ps outs h=>by
 unfold CY at h
 cases hb:Nat.beq l l0 with
 |true=>rw[hb] at h;exact hg s b ps outs h
 |false=>rw[hb] at h;exact hL l s b ps outs h
theorem Ap {C:Tab} {L:Bcc} (hC:CD Try.prog C) (hL:Gf L):Xr (Au C L):=B3i hC hL
theorem A6 {C:Tab} {L:Bcc} (hC:CD Try.prog C) (hL:Gf L) {u:Nat} {b:Code} {S:Co} {En:CR} {X:Type} {T:X→St} {unT:St→Option X} {fuel:X→Nat} {next:X→X} {goes:X→Cnd} {psA ps:X→List Prop} {outs:X→Bd} (hS:okL S.nb S.nx1 S.ren=true) (hnb:S.nb≤S.nx1)
  (hr:∀x,Bk (Au C L) u b S (T x)=some (psA x,outs x,goes x,T (next x))) (hA:∀x,(∀p∈ps x,p)→∀p∈psA x,p) (hu:∀s x,unT s=some x→s=T x)
  (hw:∀x,PB (outs x)∧∀t c y,AM t (outs x)=some (c,y)→y.n=(T x).n) (hTn:∀x y,(T x).n=(T y).n):∀s b0 qs os,GH (Au C L) b S En unT fuel next goes ps outs s=some (b0,qs,os)→Wf s ⟨qs,os,none⟩∧Be (Au C0 L0) b0 s qs os:=
 fun _ _ _ _ he=>B4n (Ap hC hL) hS hnb hr hA hu hw hTn he
def Bpa (n:Nat):Bd→Bool
 | []=>true
 |(t,_,s)::r=>Nat.beq s.n n&&((match AM t r with|some _=>false|none=>true)&&Bpa n r)
theorem AI {n:Nat}:∀{o:Bd},Bpa n o=true→PB o∧∀t c y,AM t o=some (c,y)→y.n=n
 | [],_=>⟨trivial,fun t c y h=>by cases h⟩
 | (k,d,s)::r,h=>by
  unfold Bpa at h
  simp only[Bool.and_eq_true] at h
  obtain⟨h1,h2,h3⟩:=h
  obtain⟨g1,g2⟩:=AI h3
  refine⟨⟨?_,g1⟩,fun t c y hy=>?_⟩
  ·cases hg:AM k r with
   |none=>rfl
   |some x=>rw[hg] at h2;cases h2
  ·have hy':(bif FO k t then some (d,s) else AM t r)=some (c,y):=hy
   cases hb:FO k t with
   |true=>rw[hb] at hy';cases hy';exact Nat.eq_of_beq_eq_true h1
   |false=>rw[hb] at hy';exact g2 t c y hy'
theorem Bg1 (x:Int):0≤IntKind.u8.wrap x∧IntKind.u8.wrap x <256:=by
 simp only[IntKind.wrap,IntKind.bits,IntKind.signed]
 have h1:=Int.emod_nonneg x (show(256:Int)≠0 by decide)
 have h2:=Int.emod_lt_of_pos x (show(0:Int) <256 by decide)
 exact⟨h1,h2⟩
theorem B5c (x:Int):0≤IntKind.u64.wrap x:=by
 simp only[IntKind.wrap,IntKind.bits,IntKind.signed]
 exact Int.emod_nonneg x (by decide)
def B86 (c:TC) (x:A):Option (U c×List Prop):=match Anw x with
 |some cs=>dec c cs
 |none=>none
def B22 (c:TC):A→Option (List (U c))
 | .sl c' l=>match TC.same c' c with
  |some h=>some (Art h.down l)
  |none=>none
 | .nl=>some []
 | .v x=>bif Ei x then some [] else none
 |_=>none
section
variable {F:Nat→Prop} {N:Nm} {nx:Nat} {R:World}
theorem Bsu {c:TC} {x:A} {l:List (U c)} {v:Value} (he:B22 c x=some l) (h:Hv F N nx R x v):Hv F N nx R (.sl c l) v:=by
 unfold B22 at he
 split at he<;>first|(cases he;done)|skip
 ·split at he<;>first|(cases he;done)|skip
  rename_i h1 _
  obtain⟨h1⟩:=h1
  subst h1
  cases he
  exact h
 ·cases he
  obtain⟨a,e⟩:=h.nl_inv
  exact Hv.sl_nil e
 ·rename_i x
  cases hb:Ei x with
  |false=>rw[hb] at he;cases he
  |true=>
   rw[hb] at he
   cases he
   exact Hv.sl_nil (by rw[h.v_inv,GS hb])
theorem Bzl {c:TC} {d:U c} {vs:List Value} (h:HL F N nx R (enc c d) vs) (ha:c.isAgg=true):Hv F N nx R (Af c d) (.agg vs.toArray):=by
 unfold Af
 rw[ha]
 exact Aaj h
theorem Bzm {c:TC} {d:U c} {vs:List Value} {v:Value} (h:HL F N nx R (enc c d) vs) (ha:c.isAgg=false) (hv:vs[0]?=some v):Hv F N nx R (Af c d) v:=by
 unfold Af
 rw[ha]
 show Hv F N nx R (match enc c d with|x::_=>x| []=> .dead) v
 generalize enc c d=l at h
 cases l with
 |nil=>exact .dead _
 |cons x r=>
  obtain⟨w,ws,rfl,h1,_⟩:=h.inv
  cases hv
  exact h1
def Wb (c:TC):A→Bool
 | .v (.agg _)=>c.isAgg
 | .agg _=>c.isAgg
 | .v (.tuple _)=>false
 | .v x=>!c.isAgg&&x.oneCell'
 | .opt _ _ _=>false
 | .tup _=>false
 | .dead=>false
 | .it _ _=>false
 | .sq _=>false
 | .dq _=>false
 | .iv _ _=>false
 | .de _ _ _ _=>false
 | .ie _ _ _ _ _=>false
 |_=>!c.isAgg
def B7p (c:TC) (x:A):Option (U c×List Prop):=bif Wb c x then B86 c x else none
theorem B24 {c:TC} {x:A} {d:U c} {ps:List Prop} {v:Value} (he:B7p c x=some (d,ps)) (hp:∀p∈ps,p) (h:Hv F N nx R x v):Hv F N nx R (Af c d) v:=by
 unfold B7p at he
 cases hf:Wb c x with
 |false=>rw[hf] at he;cases he
 | true=>
  rw[hf] at he
  simp only[cond_true] at he
  unfold B86 at he
  split at he<;>first|(cases he;done)|skip
  rename_i cs hcs
  have hd:=Bcu (F:=F) (N:=N) (nx:=nx) (R:=R) he hp
  have single:∀{y:A},Hv F N nx R y v→cs=[y]→c.isAgg=false→Hv F N nx R (Af c d) v:=fun {y} hy e hc=>by
   subst e
   exact Bzm (hd [v] (HL.cons hy HL.nil)) hc rfl
  cases x<;>first|(cases hf;done)|skip
  ·rename_i y
   have hv:=h.v_inv
   subst hv
   cases hcs
   have hl:HL F N nx R (toL v.cells.toList) v.cells.toList:=HL.toL _
   cases v with
   |agg xs=>
    have hl':HL F N nx R (toL xs.toList) xs.toList:=hl
    have:=Bzl (hd _ hl') hf
    simpa using this
   |tuple xs=>cases hf
   |_=>
    simp only[Wb,Bool.and_eq_true,Bool.not_eq_true'] at hf
    exact Bzm (hd _ hl) hf.1 rfl
  ·cases hcs
   exact single h rfl (by simpa[Wb] using hf)
  ·cases hcs
   exact single h rfl (by simpa[Wb] using hf)
  ·cases hcs
   exact single h rfl (by simpa[Wb] using hf)
  ·cases hcs
   exact single h rfl (by simpa[Wb] using hf)
  ·cases hcs
   exact single h rfl (by simpa[Wb] using hf)
  ·cases hcs
   exact single h rfl (by simpa[Wb] using hf)
  ·cases hcs
   exact single h rfl (by simpa[Wb] using hf)
  ·cases hcs
   exact single h rfl (by simpa[Wb] using hf)
  ·cases hcs
   exact single h rfl (by simpa[Wb] using hf)
  ·cases hcs
   obtain⟨vs,rfl,h2⟩:=h.agg_inv
   exact Bzl (hd _ h2) hf
end
theorem Tt:freeL []=true:=by unfold freeL;rfl
theorem MZ {x:A} {r:List A} (h:x.free=true) (k:freeL r=true):freeL (x::r)=true:=by unfold freeL;rw[h,k];rfl
theorem Bbp (c:TC) (d:U c):(Af c d).free=true:=by
 have hfr:∀l:List A,(∀x∈l,x.free=true)→freeL l=true:=fun l=>by
  induction l with
  |nil=>intro _;unfold freeL;rfl
  |cons x r ih=>intro h;unfold freeL;rw[h x (List.mem_cons_self ..),ih fun y hy=>h y (List.mem_cons_of_mem _ hy)];rfl
 have h:=Bjf c d
 unfold Af
 cases c.isAgg with
 |true=>
  show(Xu (enc c d)).free=true
  unfold Xu
  split
  ·unfold A.free;rfl
  ·unfold A.free;exact hfr _ h
 |false=>
  show A.free (match enc c d with|x::_=>x| []=> .dead)=true
  have hl:=Afd c d
  have hs:0 <size c:=by cases c<;>decide
  generalize enc c d=l at h hl
  cases l with
  |nil=>rw[←hl] at hs;cases hs
  |cons x r=>exact h x (List.mem_cons_self ..)
theorem Arr {P:Program} {f:FuncId} {args args':List A} {nx k nx':Nat} {o o':Objs} {x:A} (h:CallOk P f args' nx o k x nx' o') (ha:∀(F:Nat→Prop) (N:Nm) (R:World) (vs:List Value),HL F N nx R args vs→HL F N nx R args' vs):CallOk P f args nx o k x nx' o':=
 fun F N R vs hh hl=>h F N R vs hh (ha F N R vs hl)
inductive Kd where
 |l (c:TC)
 |t (c:TC)
def Fn (X:Type):List Kd→Type
 | []=>X
 | .l c::r=>List (U c)→Fn X r
 | .t c::r=>U c→Fn X r
abbrev FnP:=Fn (List Prop)
def B93 (ps:List Prop):Prop:=∀p∈ps,p
def B84 (q:List Prop):Option AV→Option AV
 |some (k,x,nx,o,p)=>some (k,x,nx,o,q++p)
 |none=>none
def Bvr (m nx:Nat) (ob:Objs):(ks:List Kd)→Fn A ks→Fn Objs ks→FnP ks→List A→Option AV
 | [],r,o,ps,[]=>some (1,A.pk (Aad nx) r,nx+m,Aac nx o++ob,ps)
 | .l c::ks,r,o,ps,y::ys=>match B22 c y with
  |some a=>Bvr m nx ob ks (r a) (o a) (ps a) ys
  |none=>none
 | .t c::ks,r,o,ps,y::ys=>match B7p c y with
  |some (a,q)=>B84 q (Bvr m nx ob ks (r a) (o a) (ps a) ys)
  |none=>none
 |_,_,_,_,_=>none
def A7 (ks:List Kd) (m:Nat) (r:Fn A ks) (o:Fn Objs ks) (ps:FnP ks):List A→Nat→Objs→Option AV:=fun args nx ob=>Bvr m nx ob ks r o ps args
def OkG (P:Program) (f:FuncId) (m:Nat):(ks:List Kd)→List A→Fn A ks→Fn Objs ks→FnP ks→Prop
 | [],pre,r,o,ps=>B93 ps→CallOk P f pre 0 [] 1 r m o
 | .l c::ks,pre,r,o,ps=>∀a,OkG P f m ks (pre++[.sl c a]) (r a) (o a) (ps a)
 | .t c::ks,pre,r,o,ps=>∀a,OkG P f m ks (pre++[Af c a]) (r a) (o a) (ps a)
theorem An8:∀{a b:List A},freeL a=true→freeL b=true→freeL (a++b)=true
 | [],_,_,h=>h
 |x::a,b,h,g=>by
  unfold freeL at h
  rw[Bool.and_eq_true] at h
  exact MZ h.1 (An8 h.2 g)
theorem B4m {P:Program} {f:FuncId} {m nx:Nat} {ob:Objs}:∀(ks:List Kd) (pre ys:List A) (r:Fn A ks) (o:Fn Objs ks) (ps:FnP ks),freeL pre=true→OkG P f m ks pre r o ps→∀{k x nx' o' qs},Bvr m nx ob ks r o ps ys=some (k,x,nx',o',qs)→
  (∃d,o'=d++ob)∧∃zs,freeL zs=true∧((∀p∈qs,p)→(∀(F:Nat→Prop) (N:Nm) (R:World) (vs:List Value),HL F N nx R ys vs→HL F N nx R zs vs)∧CallOk P f (pre++zs) nx ob k x nx' o'):=by
 intro ks
 induction ks with
 | nil=>
  intro pre ys r o ps hf hok k x nx' o' qs he
  cases ys with
  |cons y ys=>cases he
  |nil=>
   cases he
   exact⟨⟨_,rfl⟩,[],Tt,fun hp=>⟨fun _ _ _ _ h=>h,by rw[List.append_nil];exact Aiu (hok hp) (Nat.le_refl _) hf nx ob⟩⟩
 | cons kd ks ih=>
  intro pre ys r o ps hf hok k x nx' o' qs he
  cases ys with
  |nil=>cases kd<;>cases he
  | cons y ys=>
   cases kd with
   |l c=>
    unfold Bvr at he
    split at he<;>first|(cases he;done)|skip
    rename_i a ha
    obtain⟨h1,zs,h2,h3⟩:=ih (pre++[.sl c a]) ys (r a) (o a) (ps a) (An8 hf (MZ (by unfold A.free;rfl) Tt)) (hok a) he
    refine⟨h1,.sl c a::zs,MZ (by unfold A.free;rfl) h2,fun hp=>⟨fun F N R vs hl=>?_,by have:=(h3 hp).2;rwa[List.append_assoc] at this⟩⟩
    obtain⟨v,w,rfl,q1,q2⟩:=hl.inv
    exact HL.cons (Bsu ha q1) ((h3 hp).1 F N R w q2)
   |t c=>
    unfold Bvr at he
    split at he<;>first|(cases he;done)|skip
    rename_i a q ha
    unfold B84 at he
    split at he<;>first|(cases he;done)|skip
    rename_i k1 x1 nx1 o1 p1 he1
    cases he
    obtain⟨h1,zs,h2,h3⟩:=ih (pre++[Af c a]) ys (r a) (o a) (ps a) (An8 hf (MZ (Bbp _ _) Tt)) (hok a) he1
    refine⟨h1,Af c a::zs,MZ (Bbp _ _) h2,fun hp=>?_⟩
    have hp1:=fun p hm=>hp p (List.mem_append.2 (.inl hm))
    have hp2:=h3 fun p hm=>hp p (List.mem_append.2 (.inr hm))
    refine⟨fun F N R vs hl=>?_,by have:=hp2.2;rwa[List.append_assoc] at this⟩
    obtain⟨v,w,rfl,q1,q2⟩:=hl.inv
    exact HL.cons (B24 ha hp1 q1) (hp2.1 F N R w q2)
theorem Aq {P:Program} {f:FuncId} {ks:List Kd} {m:Nat} {r:Fn A ks} {o:Fn Objs ks} {ps:FnP ks} (h:OkG P f m ks [] r o ps):ET P f (A7 ks m r o ps):=fun args nx ob k x nx' o' qs he=>by
 obtain⟨h1,zs,_,h3⟩:=B4m ks [] args r o ps Tt h he
 exact⟨fun hp=>Arr (h3 hp).2 (h3 hp).1,h1⟩
end Go.Proofs.Yteebobbhhgmeiaa
namespace Go.Proofs.Yteebobbhhgmeiaa
open Go.RowKit
def Jb (k:IntKind) (n:Int):Prop:=(Lit.int k n).wf=true
def WfS (x:TStamp):Prop:=Jb .i64 x.n∧Jb .i64 x.site
def WfV (x:TVec):Prop:=Jb .i64 x.a∧Jb .i64 x.b
def Ae2 (x:TCell):Prop:=WfS x.stamp∧WfV x.vec∧True∧x.value.size≤maxLen∧WfV x.dead
def Bsp (x:TRow):Prop:=x.key.size≤maxLen∧(x.cells.length≤maxLen∧∀y∈x.cells,Ae2 y)
def Bsq (x:TWrite):Prop:=x.key.size≤maxLen∧Jb .i64 x.group∧True∧x.value.size≤maxLen
def Bso (x:TField):Prop:=Jb .i64 x.group∧x.value.size≤maxLen
def Wfd:(c:TC)→U c→Prop
 | .i64,n=>Jb .i64 n
 | .u32,n=>Jb .u32 n
 | .str,s=>s.size≤maxLen
 | .vec,x=>WfV x
 | .stamp,x=>WfS x
 | .cell,x=>Ae2 x
 | .group,x=>x.name.size≤maxLen∧Jb .i64 x.policy
 | .write,x=>Bsq x
 | .row,x=>Bsp x
 | .change,x=>Jb .i64 x.site∧Jb .i64 x.seq∧WfS x.stamp∧WfV x.vec∧(x.writes.length≤maxLen∧∀y∈x.writes,Bsq y)
 | .field,x=>Bso x
 | .view,x=>x.key.size≤maxLen∧(x.fields.length≤maxLen∧∀y∈x.fields,Bso y)
 | .told,x=>Jb .i64 x.ack∧Jb .i64 x.own∧Jb .i64 x.come
 | .act,x=>Jb .i64 x.kind∧Bsp x.row∧x.til.size≤maxLen∧Jb .i64 x.n
 | .front,x=>Jb .i64 x.site∧Jb .i64 x.acked∧Jb .i64 x.stable∧Jb .i64 x.wait∧Jb .i64 x.til
 | .ask,x=>WfS x.stamp∧WfV x.vec∧True∧x.value.size≤maxLen
 | .two,x=>Bsp x.row∧Jb .i64 x.group∧Ae2 x.cell
 | .note,x=>x.name.size≤maxLen∧x.text.size≤maxLen
 | .packet,x=>Jb .i64 x.src∧x.bytes.size≤maxLen
 | .place,x=>x.key.size≤maxLen∧Jb .i64 x.group
 | .bytes,l=>l.length≤maxLen∧∀y∈l,True
 | .ints,l=>l.length≤maxLen∧∀y∈l,Jb .i64 y
 | .cells,l=>l.length≤maxLen∧∀y∈l,Ae2 y
 | .rows,l=>l.length≤maxLen∧∀y∈l,Bsp y
 | .ask3,x=>x.key.size≤maxLen∧x.from_.size≤maxLen∧x.til.size≤maxLen∧Jb .i64 x.n
 | .three,x=>(x.a.length≤maxLen∧∀y∈x.a,Ae2 y)∧(x.b.length≤maxLen∧∀y∈x.b,Ae2 y)∧(x.c.length≤maxLen∧∀y∈x.c,Ae2 y)
 |_,_=>True
def FB (w:World) (F:Nat→Prop):Prop:=∀b,b <w.heap.size→F b
def B81 (P:Program) (c:TC) (t:TypeId) {H:Type} (en:TypeId×Value→H) (w:World) (base:Nat) (spare:Nat→Bool) (held:Bool):Prop:=
 ∀(m:Nat) (cs:List Value) (y:DataW H×List MemPlace),DataW.trod en P w base spare held m t cs=some y→∃x:U c,Wfd c x∧∀(F:Nat→Prop) (N:Nm) (nx:Nat),FB w F→HL F N nx w (enc c x) cs
def Opn (P:Program) (c:TC) (t:TypeId):Prop:=∀{H:Type} (en:TypeId×Value→H) (w:World) (base:Nat) (spare:Nat→Bool) (held:Bool),B81 P c t en w base spare held
def A9p (P:Program) (c:TC) (t:TypeId):Prop:=∀{H:Type} (en:TypeId×Value→H) (w:World) (base:Nat) (spare:Nat→Bool) (held:Bool) (m:Nat) (cs:List Value) (y:DataW H×List MemPlace),
 DataW.trod en P w base spare held m t cs=some y→∃l:List (U c),(l.length≤maxLen∧∀x∈l,Wfd c x)∧∀(F:Nat→Prop) (N:Nm) (nx:Nat),FB w F→HL F N nx w [.sl c l] cs
section
variable {P:Program} {t:TypeId}
theorem B37 (hu:P.underlying t=some (.int .i64)):Opn P .i64 t:=fun en w base spare held m cs y h=>by
 obtain⟨n,rfl,_,hw⟩:=DataW.trod_int hu h
 exact⟨n,hw,fun F N nx _=>HL.cons (Hv.v _) HL.nil⟩
theorem B0g (hu:P.underlying t=some .bool):Opn P .bool t:=fun en w base spare held m cs y h=>by
 obtain⟨n,rfl,_⟩:=DataW.trod_bool hu h
 exact⟨n,trivial,fun F N nx _=>HL.cons (Hv.v _) HL.nil⟩
theorem B38 (hu:P.underlying t=some .string):Opn P .str t:=fun en w base spare held m cs y h=>by
 obtain⟨n,rfl,_,hw⟩:=DataW.trod_string hu h
 exact⟨n,hw,fun F N nx _=>HL.cons (Hv.v _) HL.nil⟩
theorem Bte {α:Type} {Q:Nat→α→Prop}:∀(n:Nat),(∀i,i <n→∃x,Q i x)→∃l:List α,l.length=n∧∀(i:Nat) (x:α),l[i]?=some x→Q i x
 |0,_=>⟨[],rfl,fun i x h=>by cases h⟩
 | n+1,h=>by
  obtain⟨l,h1,h2⟩:=Bte n fun i hi=>h i (by omega)
  obtain⟨x,hx⟩:=h n (by omega)
  refine⟨l++[x],by simp[h1],fun i y hy=>?_⟩
  rcases Nat.lt_trichotomy i n with hi|rfl|hi
  ·rw[List.getElem?_append_left (by omega)] at hy
   exact h2 i y hy
  ·rw[List.getElem?_append_right (by omega)] at hy
   simp[h1] at hy
   subst hy
   exact hx
  ·rw[List.getElem?_eq_none (by simp;omega)] at hy
   cases hy
theorem Any {w:World} {base:Nat} {a:Addr} {n:Nat} {cs:List Value} (h:w.cells? base a n=some cs):base≤a.block∧cs.length=n∧∀(j:Nat) (v:Value),cs[j]?=some v→w.cell? (a.add j)=some v:=by
 unfold World.cells? at h
 split at h
 ·rename_i hb
  refine⟨hb,by simpa using mapM_some_length h,fun j v hv=>?_⟩
  have hl:cs.length=n:=by simpa using mapM_some_length h
  have hj:j <n:=by
   have:=(List.getElem?_eq_some_iff.1 hv).1
   omega
  have:=mapM_some_get h j j (by simp[hj])
  rw[this,hv]
 ·cases h
theorem A2y {c:TC} {e:TypeId} (hu:P.underlying t=some (.slice e)) (hs:P.cellsOf e=size c) (he:Opn P c e):A9p P c t:=fun en w base spare held m cs y h=>by
 rcases DataW.trod_slice hu h with⟨rfl,_⟩|⟨a,len,cap,elems,rest,n,_,rfl,_,hb,hlc,hcm,hel,hg,_⟩
 ·exact⟨[],⟨Nat.zero_le _,fun x hx=>by cases hx⟩,fun F N nx _=>HL.cons (Hv.sl_nil (a:=none) rfl) HL.nil⟩
 ·have each:∀i,i <len→∃x:U c,Wfd c x∧∃zs,w.cells? base (a.add (i*size c)) (size c)=some zs∧∀(F:Nat→Prop) (N:Nm) (nx:Nat),FB w F→HL F N nx w (enc c x) zs:=fun i hi=>by
   have:=hg i hi
   rw[hs] at this
   have h2:elems[i]?≠none:=by
    intro h0
    rw[List.getElem?_eq_none_iff] at h0
    omega
   obtain⟨z,hz⟩:=Option.ne_none_iff_exists'.1 h2
   rw[hz] at this
   obtain⟨zs,h3,h4⟩:=Option.bind_eq_some_iff.1 this
   obtain⟨x,h5,h6⟩:=he en w base spare held n zs z h4
   exact⟨x,h5,zs,h3,h6⟩
  obtain⟨l,h1,h2⟩:=Bte len each
  refine⟨l,⟨by omega,fun x hx=>?_⟩,fun F N nx hF=>HL.cons ?_ HL.nil⟩
  ·obtain⟨i,hi⟩:=List.getElem?_of_mem hx
   exact(h2 i x hi).1
  ·subst h1
   refine Hv.sl a hlc (fun hp=>⟨rfl,?_⟩) (fun i d j x hd hx=>?_) (fun i d j x y hd hx hy=>?_)
   ·obtain⟨_,zs,h3,h4⟩:=h2 0 l[0] (by rw[List.getElem?_eq_getElem hp])
    obtain⟨_,h5,h6⟩:=Any h3
    have hsz:0 <zs.length:=by rw[h5];cases c<;>decide
    have:=h6 0 zs[0] (by rw[List.getElem?_eq_getElem hsz])
    have:=World.block_lt_of_cell? w _ this
    rw[Jz,Jz] at this
    exact hF _ this
   ·obtain⟨_,zs,h3,h4⟩:=h2 i d hd
    obtain⟨v,h5,h6⟩:=(h4 F N nx hF).get hx
    refine⟨v,?_⟩
    rw[←Eh]
    exact(Any h3).2.2 j v h5
   ·obtain⟨_,zs,h3,h4⟩:=h2 i d hd
    obtain⟨v,h5,h6⟩:=(h4 F N nx hF).get hx
    have:=(Any h3).2.2 j v h5
    rw[Eh,hy] at this
    cases this
    exact h6
end
section
variable {H:Type} {en:TypeId×Value→H} {P:Program} {w:World} {base:Nat} {spare:Nat→Bool} {held:Bool} {F:Nat→Prop} {N:Nm} {nx:Nat}
theorem A66 {fs:Array Field} {cs:List Value} {m i:Nat} {xs:List (DataW H×List MemPlace)} {f:Field} {t:TypeId} {o k:Nat} {c:TC} (ho:Opn P c t) (hf:fs[i]?=some f) (ht:f.type=t) (hof:f.offset=o) (hk:P.cellsOf t=k) (hi:i <xs.length)
  (g:∀(i:Nat) (f:Field),fs[i]?=some f→DataW.trod en P w base spare held m f.type ((cs.drop f.offset).take (P.cellsOf f.type))=xs[i]?):∃x:U c,Wfd c x∧∀(F:Nat→Prop) (N:Nm) (nx:Nat),FB w F→HL F N nx w (enc c x) ((cs.drop o).take k):=by
 subst ht hof hk
 have:=g i f hf
 rw[List.getElem?_eq_getElem hi] at this
 exact ho en w base spare held m _ _ this
theorem B95 {fs:Array Field} {cs:List Value} {m i:Nat} {xs:List (DataW H×List MemPlace)} {f:Field} {t:TypeId} {o k:Nat} {c:TC} (ho:A9p P c t) (hf:fs[i]?=some f) (ht:f.type=t) (hof:f.offset=o) (hk:P.cellsOf t=k) (hi:i <xs.length)
  (g:∀(i:Nat) (f:Field),fs[i]?=some f→DataW.trod en P w base spare held m f.type ((cs.drop f.offset).take (P.cellsOf f.type))=xs[i]?):∃l:List (U c),(l.length≤maxLen∧∀x∈l,Wfd c x)∧∀(F:Nat→Prop) (N:Nm) (nx:Nat),FB w F→HL F N nx w [.sl c l] ((cs.drop o).take k):=by
 subst ht hof hk
 have:=g i f hf
 rw[List.getElem?_eq_getElem hi] at this
 exact ho en w base spare held m _ _ this
theorem B87 {cs:List Value} {m i n:Nat} {xs:List (DataW H×List MemPlace)} {t:TypeId} {k:Nat} {c:TC} (ho:Opn P c t) (hk:P.cellsOf t=k) (hx:i <xs.length) (hn:i <n)
  (g:∀(i:Nat),i <n→DataW.trod en P w base spare held m t ((cs.drop (i*P.cellsOf t)).take (P.cellsOf t))=xs[i]?):∃x:U c,Wfd c x∧∀(F:Nat→Prop) (N:Nm) (nx:Nat),FB w F→HL F N nx w (enc c x) ((cs.drop (i*k)).take k):=by
 subst hk
 have:=g i hn
 rw[List.getElem?_eq_getElem hx] at this
 exact ho en w base spare held m _ _ this
theorem HLd {o k:Nat} {cs:List Value} {l r:List A} (h:HL F N nx w l ((cs.drop o).take k)) (h':HL F N nx w r (cs.drop (o+k))):HL F N nx w (l++r) (cs.drop o):=by
 have e:cs.drop o=(cs.drop o).take k++cs.drop (o+k):=by
  rw[←List.drop_drop,List.take_append_drop]
 rw[e]
 exact h.append h'
theorem HLe {o:Nat} {cs:List Value} (h:cs.length=o):HL F N nx w [] (cs.drop o):=by
 rw[List.drop_eq_nil_of_le (by omega)]
 exact HL.nil
end
end Go.Proofs.Yteebobbhhgmeiaa
namespace Go.Proofs.Yteebobbhhgmeiaa
open Go.RowKit
theorem Yu {X:Type} {next:X→X} {goes:X→Cnd} {ps:X→List Prop} (I:X→Prop) (m:X→Nat) (h:∀x,I x→(∀p∈ps x,p)∧(Bo (goes x)=true→I (next x)∧m (next x) <m x)):
  ∀(n:Nat) (x:X),I x→m x≤n→AB next goes ps n x∧I (A5 next goes n x)∧Bo (goes (A5 next goes n x))=false
 | 0,x,hi,hm=>by
  obtain⟨h1,h2⟩:=h x hi
  have hg:Bo (goes x)=false:=by
   cases hc:Bo (goes x) with
   |false=>rfl
   |true=>have:=(h2 hc).2;omega
  exact⟨⟨h1,hg⟩,hi,hg⟩
 | n+1,x,hi,hm=>by
  obtain⟨h1,h2⟩:=h x hi
  cases hc:Bo (goes x) with
  | false=>
   have e:A5 next goes (n+1) x=x:=by
    show(bif Bo (goes x) then _ else x)=x
    rw[hc];rfl
   rw[e]
   exact⟨⟨h1,fun hh=>by rw[hc] at hh;cases hh⟩,hi,hc⟩
  | true=>
   have e:A5 next goes (n+1) x=A5 next goes n (next x):=by
    show(bif Bo (goes x) then _ else x)=_
    rw[hc];rfl
   obtain⟨h3,h4⟩:=h2 hc
   obtain⟨g1,g2,g3⟩:=Yu I m h n (next x) h3 (by omega)
   rw[e]
   exact⟨⟨h1,fun _=>g1⟩,g2,g3⟩
theorem i64_in {n:Int} (h:-9223372036854775808≤n∧n≤9223372036854775807):IntKind.i64.wrap n=n:=IntWalk.i64_in n h
end Go.Proofs.Yteebobbhhgmeiaa
namespace Go.Proofs.Yteebobbhhgmeiaa
open Go.RowKit
def LN (n:Int):Nat:=if n <0∨n >4611686018427387903 then 0 else if n≥1073741824 then 8 else if n≥16384 then 4 else if n≥64 then 2 else 1
def be:Nat→Nat→List UInt8
 |0,_=>[]
 |k+1,N=>UInt8.ofNat (N / 256^k)::be k N
def B1f (k:Nat):Nat:=if k=2 then 1 else if k=4 then 2 else if k=8 then 3 else 0
def OF (n:Int):List UInt8:=be (LN n) (n.toNat+B1f (LN n)*(64*256^(LN n - 1)))
def val (acc:Nat) (l:List UInt8):Nat:=l.foldl (fun a y=>a*256+y.toNat) acc
def Ao:List UInt8→Int×Int×Int
 | []=>(0,0,10)
 |x::r=>if r.length+1 <2^(x.toNat / 64) then(0,0,10) else if LN (val (x.toNat % 64) (r.take (2^(x.toNat / 64) - 1))) <2^(x.toNat / 64) then(0,0,11) else((val (x.toNat % 64) (r.take (2^(x.toNat / 64) - 1)):Int),((2^(x.toNat / 64):Nat):Int),0)
theorem Aas (x:UInt8) (r:List UInt8):Ao (x::r)=if r.length+1 <2^(x.toNat / 64) then(0,0,10) else if LN (val (x.toNat % 64) (r.take (2^(x.toNat / 64) - 1))) <2^(x.toNat / 64) then(0,0,11) else((val (x.toNat % 64) (r.take (2^(x.toNat / 64) - 1)):Int),((2^(x.toNat / 64):Nat):Int),0):=rfl
theorem LE:∀(k N:Nat),(be k N).length=k
 |0,_=>rfl
 |k+1,N=>by unfold be;rw[List.length_cons,LE]
theorem UM (acc:Nat) (x:UInt8) (r:List UInt8):val acc (x::r)=val (acc*256+x.toNat) r:=rfl
theorem VY:∀(l:List UInt8) (acc:Nat),val acc l=acc*256^l.length+val 0 l
 | [],acc=>by show acc=acc*256^0+0;omega
 |x::r,acc=>by
  rw[UM,UM,VY r,VY r (0*256+x.toNat),List.length_cons,Nat.pow_succ,Nat.zero_mul,Nat.zero_add,Nat.add_mul,Nat.mul_assoc,Nat.mul_comm 256]
  omega
theorem Bgs:∀(l:List UInt8),val 0 l <256^l.length
 | []=>by show 0 <256^0;decide
 |x::r=>by
  rw[UM,VY,List.length_cons,Nat.pow_succ,Nat.zero_mul,Nat.zero_add]
  have h1:=Bgs r
  have h2:x.toNat+1≤256:=x.toNat_lt
  have:=Nat.mul_le_mul_right (256^r.length) h2
  rw[Nat.add_mul,Nat.one_mul] at this
  rw[Nat.mul_comm (256^r.length)]
  omega
theorem Bny:∀(k N a:Nat),be k (N+a*256^k)=be k N
 |0,_,_=>rfl
 |k+1,N,a=>by
  unfold be
  have h:N+a*256^(k+1)=N+a*256*256^k:=by rw[Nat.pow_succ,Nat.mul_assoc,Nat.mul_comm (256^k)]
  rw[h,Bny k N (a*256),Nat.add_mul_div_right _ _ (Nat.pow_pos (by decide))]
  congr 1
  apply UInt8.toNat_inj.1
  rw[UInt8.toNat_ofNat',UInt8.toNat_ofNat']
  omega
theorem Byk:∀(l:List UInt8),be l.length (val 0 l)=l
 | []=>rfl
 | x::r=>by
  rw[List.length_cons]
  have e:val 0 (x::r)=val 0 r+x.toNat*256^r.length:=by
   rw[UM,VY,Nat.zero_mul,Nat.zero_add,Nat.add_comm]
  unfold be
  rw[e,Bny,Byk r,Nat.add_mul_div_right _ _ (Nat.pow_pos (by decide)),Nat.div_eq_of_lt (Bgs r),Nat.zero_add]
  congr 1
  exact UInt8.ofNat_toNat
theorem B19:∀(k N acc:Nat),val acc (be k N)=acc*256^k+N % 256^k
 |0,N,acc=>by show acc=acc*256^0+N % 256^0;omega
 |k+1,N,acc=>by
  unfold be
  have h8:(UInt8.ofNat (N / 256^k)).toNat=N / 256^k % 256:=by rw[UInt8.toNat_ofNat']
  have hm:=Nat.mod_pow_succ (x:=N) (b:=256) (k:=k)
  rw[UM,B19 k,h8,hm,Nat.pow_succ,Nat.add_mul,Nat.mul_assoc,Nat.mul_comm 256 (256^k),Nat.mul_comm (256^k) (N / 256^k % 256)]
  omega
def szs (k:Nat):Prop:=k=1∨k=2∨k=4∨k=8
theorem Bt7 {n:Int} (h0:0≤n) (h1:n≤4611686018427387903):szs (LN n)∧n.toNat <64*256^(LN n - 1):=by
 unfold LN szs
 rw[if_neg (by omega)]
 split
 ·exact⟨by decide,by show n.toNat <64*256^7;omega⟩
 ·split
  ·exact⟨by decide,by show n.toNat <64*256^3;omega⟩
  ·split
   ·exact⟨by decide,by show n.toNat <64*256^1;omega⟩
   ·exact⟨by decide,by show n.toNat <64*256^0;omega⟩
theorem B9x {n k:Nat} (hk:szs k) (h:n <64*256^(k - 1)):LN n≤k∧1≤LN n∧n≤4611686018427387903:=by
 unfold LN
 rcases hk with rfl|rfl|rfl|rfl
 ·have h':n <64:=h
  rw[if_neg (by omega),if_neg (by omega),if_neg (by omega),if_neg (by omega)];omega
 ·have h':n <64*256:=h
  rw[if_neg (by omega),if_neg (by omega),if_neg (by omega)]
  split<;>omega
 ·have h':n <64*256^3:=h
  have h'':n <1073741824:=by omega
  rw[if_neg (by omega),if_neg (by omega)]
  split
  ·omega
  ·split<;>omega
 ·have h':n <64*256^7:=h
  have h'':n <4611686018427387904:=by omega
  rw[if_neg (by omega)]
  split
  ·omega
  ·split
   ·omega
   ·split<;>omega
theorem B8i {k:Nat} (hk:szs k):B1f k≤3∧2^B1f k=k:=by
 rcases hk with rfl|rfl|rfl|rfl<;>decide
theorem B1g {t:Nat} (h:t≤3):szs (2^t)∧B1f (2^t)=t:=by
 match t,h with
 |0,_=>exact⟨by unfold szs;decide,rfl⟩
 |1,_=>exact⟨by unfold szs;decide,rfl⟩
 |2,_=>exact⟨by unfold szs;decide,rfl⟩
 |3,_=>exact⟨by unfold szs;decide,rfl⟩
 |n+4,h=>omega
theorem Og (n:Int):(OF n).length=LN n:=LE _ _
theorem B3o {n:Int} (h0:0≤n) (h1:n≤4611686018427387903) (r:List UInt8):Ao (OF n++r)=(n,(LN n:Int),0):=by
 obtain⟨hk,hn⟩:=Bt7 h0 h1
 unfold OF
 generalize hkk:LN n=k at*
 obtain⟨m,rfl⟩:∃m,k=m+1:=⟨k - 1,by unfold szs at hk;omega⟩
 obtain⟨t1,t2⟩:=B8i hk
 generalize B1f (m+1)=t at*
 rw[Nat.add_sub_cancel] at hn⊢
 have hp:0 <256^m:=Nat.pow_pos (by decide)
 have e1:(n.toNat+t*(64*256^m)) / 256^m=n.toNat / 256^m+t*64:=by rw[←Nat.mul_assoc,Nat.add_mul_div_right _ _ hp]
 have e2:n.toNat / 256^m <64:=by rw[Nat.div_lt_iff_lt_mul hp];exact hn
 have e3:(n.toNat+t*(64*256^m)) % 256^m=n.toNat % 256^m:=by rw[←Nat.mul_assoc,Nat.add_mul_mod_self_right]
 unfold be
 rw[e1]
 have aux:∀q:Nat,q <64→(UInt8.ofNat (q+t*64)).toNat=q+t*64∧(q+t*64) / 64=t∧(q+t*64) % 64=q:=fun q hq=>by
  rw[UInt8.toNat_ofNat']
  omega
 obtain⟨hx,ht,hm⟩:=aux _ e2
 show Ao (UInt8.ofNat (n.toNat / 256^m+t*64)::(be m (n.toNat+t*(64*256^m))++r))=_
 rw[Aas,hx,ht,hm,t2,Nat.add_sub_cancel]
 have hl:(be m (n.toNat+t*(64*256^m))++r).take m=be m (n.toNat+t*(64*256^m)):=by
  rw[List.take_append_of_le_length (by rw[LE];exact Nat.le_refl _),List.take_of_length_le (by rw[LE];exact Nat.le_refl _)]
 rw[hl,B19,e3]
 have hv:n.toNat / 256^m*256^m+n.toNat % 256^m=n.toNat:=by rw[Nat.mul_comm];exact Nat.div_add_mod _ _
 rw[hv,if_neg (by rw[List.length_append,LE];omega)]
 have hnn:(n.toNat:Int)=n:=Int.toNat_of_nonneg h0
 rw[hnn,hkk,if_neg (by omega)]
theorem B4e {b:List UInt8} {n k:Int} (h:Ao b=(n,k,0)):0≤n∧n≤4611686018427387903∧k=(LN n:Int)∧LN n≤b.length∧b.take (LN n)=OF n:=by
 cases b with
 |nil=>cases h
 | cons x r=>
  rw[Aas] at h
  split at h
  ·cases h
  ·rename_i hlen
   split at h
   ·cases h
   ·rename_i hsz
    have hxl:x.toNat <256:=x.toNat_lt
    obtain⟨k1,k2⟩:=B1g (t:=x.toNat / 64) (by omega)
    generalize hK:2^(x.toNat / 64)=K at*
    obtain⟨m,rfl⟩:∃m,K=m+1:=⟨K - 1,by unfold szs at k1;omega⟩
    rw[Nat.add_sub_cancel] at*
    have hrl:(r.take m).length=m:=by rw[List.length_take];omega
    have hv:=VY (r.take m) (x.toNat % 64)
    have hlt:=Bgs (r.take m)
    rw[hrl] at hv hlt
    generalize hN:val (x.toNat % 64) (r.take m)=M at*
    have hM:M <64*256^m:=by
     have:x.toNat % 64+1≤64:=by omega
     have:=Nat.mul_le_mul_right (256^m) this
     rw[Nat.add_mul,Nat.one_mul] at this
     omega
    obtain⟨s1,s2,s3⟩:=B9x k1 (by rw[Nat.add_sub_cancel];exact hM)
    have hs:LN (M:Int)=m+1:=by omega
    injection h with h1 h
    injection h with h2 h3
    subst h1
    refine⟨by omega,by omega,by rw[hs,←h2],by rw[hs,List.length_cons];omega,?_⟩
    rw[hs]
    unfold OF
    rw[hs,k2,Nat.add_sub_cancel,Int.toNat_natCast]
    have e:M+x.toNat / 64*(64*256^m)=val 0 (x::r.take m):=by
     rw[UM,Nat.zero_mul,Nat.zero_add,VY,hrl,hv,←Nat.mul_assoc]
     have hx:=Nat.div_add_mod x.toNat 64
     have:x.toNat*256^m=(x.toNat / 64*64+x.toNat % 64)*256^m:=by congr 1;omega
     rw[this,Nat.add_mul]
     omega
    rw[e]
    have hb:=Byk (x::r.take m)
    rw[List.length_cons,hrl] at hb
    rw[hb]
    rfl
theorem Byj:∀(k N i:Nat),i <k→(be k N)[i]?=some (UInt8.ofNat (N / 256^(k - 1 - i)))
 |0,_,_,h=>by omega
 |k+1,N,0,_=>by unfold be;rfl
 |k+1,N,i+1,h=>by
  unfold be
  rw[List.getElem?_cons_succ,Byj k N i (by omega)]
  have:k - 1 - i=k+1 - 1 - (i+1):=by omega
  rw[this]
theorem B25 {k N i:Nat} (h:i <k):(be k N).take (i+1)=(be k N).take i++[UInt8.ofNat (N / 256^(k - 1 - i))]:=by
 rw[List.take_add_one,Byj k N i h]
 rfl
theorem B4b (j:Nat):(2:Int)^(8*j)=((256^j:Nat):Int):=by
 rw[Int.pow_mul]
 norm_cast
theorem B0w {n:Int} {k i:Nat} (hn:0≤n) (hk:k≤8) (hi:i <k):
  UInt8.ofNat (IntKind.u8.wrap (n.fdiv ((2:Int)^min (IntKind.u64.wrap (IntKind.i64.wrap ((8:Int)*IntKind.i64.wrap (IntKind.i64.wrap ((k:Int) - (1:Int)) - (i:Int))))).toNat (64:Nat)))).toNat=UInt8.ofNat (n.toNat / 256^(k - 1 - i)):=by
 have e1:IntKind.u64.wrap (IntKind.i64.wrap ((8:Int)*IntKind.i64.wrap (IntKind.i64.wrap ((k:Int) - (1:Int)) - (i:Int))))=((8*(k - 1 - i):Nat):Int):=by
  rw[i64_in (n:=(k:Int) - 1) (by omega),i64_in (n:=(k:Int) - 1 - (i:Int)) (by omega),i64_in (by omega),IntWalk.u64_in _ (by omega)]
  omega
 rw[e1,Int.toNat_natCast,Nat.min_eq_left (by omega),B4b]
 have e2:n=(n.toNat:Int):=(Int.toNat_of_nonneg hn).symm
 have e3:n.fdiv ((256^(k - 1 - i):Nat):Int)=((n.toNat / 256^(k - 1 - i):Nat):Int):=by
  rw[Int.fdiv_eq_ediv_of_nonneg _ (Int.natCast_nonneg _)]
  conv=>lhs;rw[e2]
  exact(Int.natCast_ediv _ _).symm
 rw[e3]
 generalize n.toNat / 256^(k - 1 - i)=q
 have e4:IntKind.u8.wrap (q:Int)=((q % 256:Nat):Int):=by
  rw[IntKind.wrap_u8]
  omega
 rw[e4,Int.toNat_natCast]
 apply UInt8.toNat_inj.1
 rw[UInt8.toNat_ofNat',UInt8.toNat_ofNat']
 omega
theorem B8a:∀(t:Fin 4) (q:Fin 64),(BitVec.ofInt 8 (q.val:Int) ||| BitVec.ofInt 8 ((64*t.val:Nat):Int)).toNat=q.val+t.val*64:=by decide+kernel
theorem B39 {q t:Nat} (hq:q <64) (ht:t <4):UInt8.ofNat (IntKind.u8.wrap ((BitVec.ofInt 8 (((UInt8.ofNat q).toNat:Nat):Int) ||| BitVec.ofInt 8 ((64*t:Nat):Int)).toNat:Int)).toNat=UInt8.ofNat (q+t*64):=by
 have h1:(UInt8.ofNat q).toNat=q:=by rw[UInt8.toNat_ofNat'];omega
 rw[h1,B8a ⟨t,ht⟩ ⟨q,hq⟩,IntWalk.u8_in _ (by show 0≤((q+t*64:Nat):Int)∧((q+t*64:Nat):Int)≤255;omega),Int.toNat_natCast]
theorem Bgh {m N t:Nat} (b:List UInt8) (hN:N <64*256^m) (ht:t <4) (d:UInt8):
  (b++be (m+1) N).set b.length (UInt8.ofNat (IntKind.u8.wrap ((BitVec.ofInt 8 ((((b++be (m+1) N).getD b.length d).toNat:Nat):Int) ||| BitVec.ofInt 8 ((64*t:Nat):Int)).toNat:Int)).toNat)=b++be (m+1) (N+t*(64*256^m)):=by
 have hp:0 <256^m:=Nat.pow_pos (by decide)
 have e2:N / 256^m <64:=by rw[Nat.div_lt_iff_lt_mul hp];exact hN
 have e0:be (m+1) N=UInt8.ofNat (N / 256^m)::be m N:=rfl
 have e1:be (m+1) (N+t*(64*256^m))=UInt8.ofNat (N / 256^m+t*64)::be m N:=by
  show UInt8.ofNat ((N+t*(64*256^m)) / 256^m)::be m (N+t*(64*256^m))=_
  rw[←Nat.mul_assoc,Bny,Nat.add_mul_div_right _ _ hp]
 have hg:(b++be (m+1) N).getD b.length d=UInt8.ofNat (N / 256^m):=by
  rw[e0,List.getD_eq_getElem?_getD,List.getElem?_append_right (Nat.le_refl _),Nat.sub_self]
  rfl
 rw[hg,B39 e2 ht,e0,e1,List.set_append_right _ _ (Nat.le_refl _),Nat.sub_self]
 rfl
theorem B4a {a:Nat} (ha:a <64*256^6) {y:UInt8}:IntKind.i64.wrap ((BitVec.ofInt 64 (IntKind.i64.wrap ((a:Int)*256)) ||| BitVec.ofInt 64 (IntKind.i64.wrap ((y.toNat:Nat):Int))).toNat:Int)=((a*256+y.toNat:Nat):Int):=by
 have hy:y.toNat <256:=y.toNat_lt
 have h6:64*256^6=18014398509481984:=by decide
 rw[h6] at ha
 rw[i64_in (n:=(a:Int)*256) (by omega),i64_in (n:=((y.toNat:Nat):Int)) (by omega)]
 have e1:(a:Int)*256=((a*256:Nat):Int):=by omega
 have e2:(BitVec.ofInt 64 ((a*256:Nat):Int) ||| BitVec.ofInt 64 ((y.toNat:Nat):Int)).toNat=a*256+y.toNat:=by
  rw[BitVec.toNat_or,BitVec.toNat_ofInt,BitVec.toNat_ofInt]
  have m1:(((a*256:Nat):Int) % ((2^64:Nat):Int)).toNat=2^8*a:=by omega
  have m2:(((y.toNat:Nat):Int) % ((2^64:Nat):Int)).toNat=y.toNat:=by omega
  rw[m1,m2,←Nat.two_pow_add_eq_or_of_lt hy]
  omega
 rw[e1,e2,i64_in (by omega)]
theorem B2a (a:Nat) (L:List UInt8) (i:Nat) (h:i <L.length) {d:UInt8}:((val a (L.take i)*256+(L.getD i d).toNat:Nat):Int)=(val a (L.take (i+1)):Int):=by
 have e:L.take (i+1)=L.take i++[L.getD i d]:=by
  rw[List.take_add_one,List.getD_eq_getElem?_getD,List.getElem?_eq_getElem h]
  rfl
 rw[e]
 unfold val
 rw[List.foldl_append]
 rfl
theorem B9i (x:UInt8):IntKind.i64.wrap ((1:Int)*(2:Int)^min ((((x.toNat:Nat):Int)).fdiv (64:Int)).toNat (64:Nat))=((2^(x.toNat / 64):Nat):Int):=by
 have hx:x.toNat <256:=x.toNat_lt
 have e:((((x.toNat:Nat):Int)).fdiv (64:Int)).toNat=x.toNat / 64:=by
  rw[Int.fdiv_eq_ediv_of_nonneg _ (by decide)]
  omega
 rw[e,Nat.min_eq_left (by omega)]
 have:x.toNat / 64≤3:=by omega
 generalize x.toNat / 64=t at*
 match t,this with
 |0,_=>rfl
 |1,_=>rfl
 |2,_=>rfl
 |3,_=>rfl
 |n+4,h=>omega
theorem Bz1:∀q:Fin 256,(BitVec.ofInt 8 (q.val:Int) &&& BitVec.ofInt 8 63).toNat=q.val % 64:=by decide+kernel
theorem B3n (x:UInt8):IntKind.i64.wrap (IntKind.u8.wrap ((BitVec.ofInt 8 ((x.toNat:Nat):Int) &&& BitVec.ofInt 8 63).toNat:Int))=((x.toNat % 64:Nat):Int):=by
 have hx:x.toNat <256:=x.toNat_lt
 rw[Bz1 ⟨x.toNat,hx⟩,IntWalk.u8_in _ (by show 0≤((x.toNat % 64:Nat):Int)∧((x.toNat % 64:Nat):Int)≤255;omega),i64_in (by show -9223372036854775808≤((x.toNat % 64:Nat):Int)∧((x.toNat % 64:Nat):Int)≤9223372036854775807;omega)]
end Go.Proofs.Yteebobbhhgmeiaa
namespace Go.Proofs.Yteebobbhhgmeiaa
open Go.RowKit
def RK (a0:Int):Bool:=!(decide (a0 <(0:Int))||decide (a0 >(4611686018427387903:Int)))&&(!decide (a0≥(1073741824:Int))&&decide (a0≥(16384:Int)))
def RJ (a0:Int):Bool:=!(decide (a0 <(0:Int))||decide (a0 >(4611686018427387903:Int)))&&(!decide (a0≥(1073741824:Int))&&(!decide (a0≥(16384:Int))&&decide (a0≥(64:Int))))
def YW (a0:Int):Bool:=!(decide (a0 <(0:Int))||decide (a0 >(4611686018427387903:Int)))&&(!(!(decide (a0 <(0:Int))||decide (a0 >(4611686018427387903:Int)))&&decide (a0≥(1073741824:Int)))&&(!(RK a0)&&!(RJ a0)))
def Ba (a0:Int):Int:=bif !(!(decide (a0 <(0:Int))||decide (a0 >(4611686018427387903:Int)))&&decide (a0≥(1073741824:Int)))&&(!(RK a0)&&(!(RJ a0)&&!(YW a0))) then(0:Int) else IntKind.i64.wrap ((bif(YW a0) then(0:Int) else IntKind.i64.wrap ((bif(RJ a0) then(0:Int) else IntKind.i64.wrap ((bif(RK a0) then(0:Int) else(4:Int))+(2:Int)))+(1:Int)))+(1:Int))
def Agb (a0:Int):A:=.v (.int .i64 (Ba a0))
def Aga (_a0:Int):Objs:=[]
def YX (_a0:Int):List Prop:=[]
theorem Bkv (a0:Int):Eo (Au C0 L0) 9 157 [Af .i64 a0] 0 []=some (1,Agb a0,0,Aga a0,YX a0):=by kernel_rfl
theorem Bo9 (a0:Int) (hp:∀p∈YX a0,p):CallOk Try.prog 157 [Af .i64 a0] 0 [] 1 (Agb a0) 0 (Aga a0):=Ax (Ap B5e Av) (Bkv a0) hp
def A2r:List A→Nat→Objs→Option AV:=A7 [.t .i64] 0 Agb Aga YX
theorem Beo:ET Try.prog 157 A2r:=Aq (ks:=[.t .i64]) Bo9
noncomputable def Bwp:=AU 157 A2r C0
theorem Bbw:CD Try.prog Bwp:=Ak Beo B5e
abbrev EE:Type:=Int×Int×Int×Int×(List UInt8)
def Pl (x:EE):St:=⟨59,3,[(1,.v (.int .i64 x.1)),(5,.sq 2),(6,.v (.int .i64 x.2.1)),(16,.v (.int .i64 x.2.2.1)),(17,.v (.int .i64 x.2.2.2.1))],[(2,some (.arr 5 1 (.ty .u8 x.2.2.2.2)))]⟩
def SV:St→Option EE
 |⟨59,3,[(1,.v (.int .i64 z0)),(5,.sq 2),(6,.v (.int .i64 z1)),(16,.v (.int .i64 z2)),(17,.v (.int .i64 z3))],[(2,some (.arr 5 1 (.ty .u8 z4)))]⟩=>some (z0,z1,z2,z3,z4)
 |_=>none
theorem Awr:∀s x,SV s=some x→s=Pl x:=fun s x h=>by
 unfold SV at h
 split at h
 ·cases h;rfl
 ·cases h
def Ali:Co:=⟨2,3,[1,5,6,16,17],[],[(4,2)],[4],[5],[2]⟩
def Ben:CR:=⟨[],[(1,2)],[1,5,6,16,17],[1]⟩
def Jq (a0:Int) (a1:Int) (_a2:Int) (a3:Int) (_a4:List UInt8):Int:=IntKind.u8.wrap (a0.fdiv ((2:Int)^min (IntKind.u64.wrap (IntKind.i64.wrap ((8:Int)*IntKind.i64.wrap (IntKind.i64.wrap (a1 - (1:Int)) - a3)))).toNat (64:Nat)))
def A2n (a0:Int) (a1:Int) (a2:Int) (a3:Int) (a4:List UInt8):List UInt8:=a4++[UInt8.ofNat (Jq a0 a1 a2 a3 a4).toNat]
def Gn (x:EE):EE:=(x.1,x.2.1,x.2.2.1,IntKind.i64.wrap (x.2.2.2.1+(1:Int)),A2n x.1 x.2.1 x.2.2.1 x.2.2.2.1 x.2.2.2.2)
def Gm (x:EE):Cnd:=some (!!decide (x.2.2.2.1 <x.2.2.1))
def YU (x:EE):List Prop:=[((!!decide (x.2.2.2.1 <x.2.2.1))=true→(0:Int)≤IntKind.u64.wrap (IntKind.i64.wrap ((8:Int)*IntKind.i64.wrap (IntKind.i64.wrap (x.2.1 - (1:Int)) - x.2.2.2.1)))),((!!decide (x.2.2.2.1 <x.2.2.1))=true→Ag (x.2.2.2.2.length+(1:Nat))),((!!decide (x.2.2.2.1 <x.2.2.1))=true→(0:Int)≤(Jq x.1 x.2.1 x.2.2.1 x.2.2.2.1 x.2.2.2.2)∧(Jq x.1 x.2.1 x.2.2.1 x.2.2.2.1 x.2.2.2.2) <(256:Int))]
def JD (x:EE):List Prop:=[((!!decide (x.2.2.2.1 <x.2.2.1))=true→Ag (x.2.2.2.2.length+(1:Nat)))]
def Wy (x:EE):Bd:=[(some 0,some (!decide (x.2.2.2.1 <x.2.2.1)),⟨59,3,[(5,.sq 2)],[(2,some (.arr 5 1 (.ty .u8 x.2.2.2.2)))]⟩)]
def HP (x:EE):Nat:=(x.2.2.1 - x.2.2.2.1).toNat
def Qm (x:EE):EE:=A5 Gn Gm (HP x) x
theorem A71 (a0:Int) (a1:Int) (a2:Int) (a3:Int) (a4:List UInt8):Bk (Au Bwp L0) 9 (Ae Try.prog 119 0) Ali (Pl (a0,a1,a2,a3,a4))=some (YU (a0,a1,a2,a3,a4),Wy (a0,a1,a2,a3,a4),Gm (a0,a1,a2,a3,a4),Pl (Gn (a0,a1,a2,a3,a4))):=by kernel_rfl
theorem A72 (a0:Int) (a1:Int) (a2:Int) (a3:Int) (a4:List UInt8) (hp:∀p∈JD (a0,a1,a2,a3,a4),p):∀p∈YU (a0,a1,a2,a3,a4),p:=by
 have n0:((!!decide (a3 <a2))=true→(0:Int)≤IntKind.u64.wrap (IntKind.i64.wrap ((8:Int)*IntKind.i64.wrap (IntKind.i64.wrap (a1 - (1:Int)) - a3)))):=by intros;exact B5c _
 have n1:=N0 hp
 have n2:((!!decide (a3 <a2))=true→(0:Int)≤(Jq a0 a1 a2 a3 a4)∧(Jq a0 a1 a2 a3 a4) <(256:Int)):=by intros;exact Bg1 _
 exact(Aa n0 (Aa n1 (Aa n2 Ad)))
noncomputable def YV:=GH (Au Bwp L0) (Ae Try.prog 119 0) Ali Ben SV HP Gn Gm JD Wy
theorem A2o:∀s b ps outs,YV s=some (b,ps,outs)→Wf s ⟨ps,outs,none⟩∧Be (Au C0 L0) b s ps outs:=
 A6 (T:=Pl) Bbw Av (u:=9) (by kernel_rfl) (by decide) (fun⟨a0,a1,a2,a3,a4⟩=>A71 a0 a1 a2 a3 a4) (fun⟨a0,a1,a2,a3,a4⟩=>A72 a0 a1 a2 a3 a4) Awr (fun _=>AI (n:=59) rfl) fun _ _=>rfl
noncomputable def Alh:=CY 0 YV L0
theorem A2m:Gf Alh:=AP A2o Av
def Hy (_a0:List UInt8) (a1:Int):Bool:=Ba a1==(8:Int)
def BT (_a0:List UInt8) (a1:Int):Bool:=Ba a1==(4:Int)
def A4 (_a0:List UInt8) (a1:Int):Bool:=Ba a1==(2:Int)
def AH (a0:List UInt8) (_a1:Int):Int:=(↑([]++a0).length:Int)
def AY (a0:List UInt8) (a1:Int):List UInt8:=(Qm (a1,Ba a1,Ba a1,(0:Int),[]++a0)).snd.snd.snd.snd
def Nj (a0:List UInt8) (a1:Int):Int:=IntKind.u8.wrap (↑(BitVec.ofInt (8:Nat) (↑(UInt8.toNat ((AY a0 a1).getD (AH a0 a1).toNat (Ab TC.u8))):Int) ||| BitVec.ofInt (8:Nat) (192:Int)).toNat:Int)
def Ni (a0:List UInt8) (a1:Int):Int:=IntKind.u8.wrap (↑(BitVec.ofInt (8:Nat) (↑(UInt8.toNat ((AY a0 a1).getD (AH a0 a1).toNat (Ab TC.u8))):Int) ||| BitVec.ofInt (8:Nat) (128:Int)).toNat:Int)
def Nh (a0:List UInt8) (a1:Int):Int:=IntKind.u8.wrap (↑(BitVec.ofInt (8:Nat) (↑(UInt8.toNat ((AY a0 a1).getD (AH a0 a1).toNat (Ab TC.u8))):Int) ||| BitVec.ofInt (8:Nat) (64:Int)).toNat:Int)
def Apm (a0:List UInt8) (a1:Int):List UInt8:=bif(A4 a0 a1) then(AY a0 a1).set (AH a0 a1).toNat (UInt8.ofNat (Nh a0 a1).toNat) else bif(BT a0 a1) then(AY a0 a1).set (AH a0 a1).toNat (UInt8.ofNat (Ni a0 a1).toNat) else bif(Hy a0 a1) then(AY a0 a1).set (AH a0 a1).toNat (UInt8.ofNat (Nj a0 a1).toNat) else(AY a0 a1)
def Bat (_a0:List UInt8) (_a1:Int):A:=.sq 0
def Aa3 (a0:List UInt8) (a1:Int):Objs:=[(0,some (.arr 5 1 (.ty .u8 (Apm a0 a1))))]
def A2p (a0:List UInt8) (a1:Int):List Prop:=[(Ag ((0:Nat)+a0.length)),(AB Gn Gm JD (HP (a1,Ba a1,Ba a1,(0:Int),[]++a0)) (a1,Ba a1,Ba a1,(0:Int),[]++a0)),((A4 a0 a1)=true→(0:Int)≤(AH a0 a1)∧(AH a0 a1) <(↑(AY a0 a1).length:Int)),((A4 a0 a1)=false→(BT a0 a1)=true→(0:Int)≤(AH a0 a1)∧(AH a0 a1) <(↑(AY a0 a1).length:Int)),((A4 a0 a1)=false→(BT a0 a1)=false→(Hy a0 a1)=true→(0:Int)≤(AH a0 a1)∧(AH a0 a1) <(↑(AY a0 a1).length:Int))]
theorem Bo8 (a0:List UInt8) (a1:Int):Eo (Au Bwp Alh) 9 119 [Af .bytes a0,Af .i64 a1] 0 []=some (1,Bat a0 a1,1,Aa3 a0 a1,[(Ag ((0:Nat)+a0.length)),(Ae Try.prog (119:FuncId) (0:Nat)=Ae Try.prog (119:FuncId) (0:Nat)),(AB Gn Gm JD (HP (a1,Ba a1,Ba a1,(0:Int),[]++a0)) (a1,Ba a1,Ba a1,(0:Int),[]++a0)),((A4 a0 a1)=true→(0:Int)≤(AH a0 a1)∧(AH a0 a1) <(↑(AY a0 a1).length:Int)),((A4 a0 a1)=true→(AH a0 a1).toNat <(AY a0 a1).length),((A4 a0 a1)=true→(0:Int)≤(AH a0 a1)∧(AH a0 a1) <(↑(AY a0 a1).length:Int)),((A4 a0 a1)=true→(AH a0 a1).toNat <(AY a0 a1).length),((A4 a0 a1)=true→(0:Int)≤(Nh a0 a1)∧(Nh a0 a1) <(256:Int)),((A4 a0 a1)=false→(BT a0 a1)=true→(0:Int)≤(AH a0 a1)∧(AH a0 a1) <(↑(AY a0 a1).length:Int)),((A4 a0 a1)=false→(BT a0 a1)=true→(AH a0 a1).toNat <(AY a0 a1).length),((A4 a0 a1)=false→(BT a0 a1)=true→(0:Int)≤(AH a0 a1)∧(AH a0 a1) <(↑(AY a0 a1).length:Int)),((A4 a0 a1)=false→(BT a0 a1)=true→(AH a0 a1).toNat <(AY a0 a1).length),((A4 a0 a1)=false→(BT a0 a1)=true→(0:Int)≤(Ni a0 a1)∧(Ni a0 a1) <(256:Int)),((A4 a0 a1)=false→(BT a0 a1)=false→(Hy a0 a1)=true→(0:Int)≤(AH a0 a1)∧(AH a0 a1) <(↑(AY a0 a1).length:Int)),((A4 a0 a1)=false→(BT a0 a1)=false→(Hy a0 a1)=true→(AH a0 a1).toNat <(AY a0 a1).length),((A4 a0 a1)=false→(BT a0 a1)=false→(Hy a0 a1)=true→(0:Int)≤(AH a0 a1)∧(AH a0 a1) <(↑(AY a0 a1).length:Int)),((A4 a0 a1)=false→(BT a0 a1)=false→(Hy a0 a1)=true→(AH a0 a1).toNat <(AY a0 a1).length),((A4 a0 a1)=false→(BT a0 a1)=false→(Hy a0 a1)=true→(0:Int)≤(Nj a0 a1)∧(Nj a0 a1) <(256:Int))]):=by kernel_rfl
theorem Bu9 (a0:List UInt8) (a1:Int) (hp:∀p∈A2p a0 a1,p):CallOk Try.prog 119 [Af .bytes a0,Af .i64 a1] 0 [] 1 (Bat a0 a1) 1 (Aa3 a0 a1):=by
 have n0:=N0 hp
 have n2:=N0 (N1 hp)
 have n3:((A4 a0 a1)=true→(0:Int)≤(AH a0 a1)∧(AH a0 a1) <(↑(AY a0 a1).length:Int)):=N0 (N1 (N1 hp))
 have n4:((A4 a0 a1)=true→(AH a0 a1).toNat <(AY a0 a1).length):=by intro h0;have g:=n3 h0;omega
 have n7:((A4 a0 a1)=true→(0:Int)≤(Nh a0 a1)∧(Nh a0 a1) <(256:Int)):=by intros;exact Bg1 _
 have n8:((A4 a0 a1)=false→(BT a0 a1)=true→(0:Int)≤(AH a0 a1)∧(AH a0 a1) <(↑(AY a0 a1).length:Int)):=N0 (N1 (N1 (N1 hp)))
 have n9:((A4 a0 a1)=false→(BT a0 a1)=true→(AH a0 a1).toNat <(AY a0 a1).length):=by intro h0 h1;have g:=n8 h0 h1;omega
 have n12:((A4 a0 a1)=false→(BT a0 a1)=true→(0:Int)≤(Ni a0 a1)∧(Ni a0 a1) <(256:Int)):=by intros;exact Bg1 _
 have n13:((A4 a0 a1)=false→(BT a0 a1)=false→(Hy a0 a1)=true→(0:Int)≤(AH a0 a1)∧(AH a0 a1) <(↑(AY a0 a1).length:Int)):=N0 (N1 (N1 (N1 (N1 hp))))
 have n14:((A4 a0 a1)=false→(BT a0 a1)=false→(Hy a0 a1)=true→(AH a0 a1).toNat <(AY a0 a1).length):=by intro h0 h1 h2;have g:=n13 h0 h1 h2;omega
 have n17:((A4 a0 a1)=false→(BT a0 a1)=false→(Hy a0 a1)=true→(0:Int)≤(Nj a0 a1)∧(Nj a0 a1) <(256:Int)):=by intros;exact Bg1 _
 exact Ax (Ap Bbw A2m) (Bo8 a0 a1) (Aa n0 (Aa rfl (Aa n2 (Aa n3 (Aa n4 (Aa n3 (Aa n4 (Aa n7 (Aa n8 (Aa n9 (Aa n8 (Aa n9 (Aa n12 (Aa n13 (Aa n14 (Aa n13 (Aa n14 (Aa n17 Ad))))))))))))))))))
def A2q (_a0:List UInt8) (_a1:Int):A:=.sq 0
def Vu (a0:List UInt8) (a1:Int):Objs:=[(0,some (.arr 5 1 (.ty .u8 (a0++OF a1))))]
def As2 (a0:List UInt8) (_a1:Int):List Prop:=[Ag (a0.length+8)]
theorem Bgi (n:Int):Ba n=(LN n:Int):=by
 unfold Ba YW RJ RK LN
 by_cases h0:n <0∨n >4611686018427387903
 ·have e:(decide (n <0)||decide (n >4611686018427387903))=true:=by simpa using h0
  rw[e,if_pos h0];rfl
 ·have e:(decide (n <0)||decide (n >4611686018427387903))=false:=by
   rw[Bool.eq_false_iff]
   intro hh
   exact h0 (by simpa using hh)
  rw[e,if_neg h0]
  by_cases h1:n≥1073741824
  ·rw[if_pos h1,decide_eq_true h1];rfl
  ·rw[if_neg h1,decide_eq_false h1]
   by_cases h2:n≥16384
   ·rw[if_pos h2,decide_eq_true h2];rfl
   ·rw[if_neg h2,decide_eq_false h2]
    by_cases h3:n≥64
    ·rw[if_pos h3,decide_eq_true h3];rfl
    ·rw[if_neg h3,decide_eq_false h3];rfl
theorem Ani (n:Int):LN n=0∨(0≤n∧n≤4611686018427387903∧szs (LN n)):=by
 by_cases h:n <0∨n >4611686018427387903
 ·left;unfold LN;rw[if_pos h]
 ·right;exact⟨by omega,by omega,(Bt7 (by omega) (by omega)).1⟩
theorem B0x (b:List UInt8) (n:Int) (hb:Ag (b.length+8)):
  AB Gn Gm JD (HP (n,Ba n,Ba n,0,[]++b)) (n,Ba n,Ba n,0,[]++b)∧
  (Qm (n,Ba n,Ba n,0,[]++b)).2.2.2.2=b++be (LN n) n.toNat:=by
 have hk8:LN n≤8:=by
  rcases Ani n with h|⟨_,_,h⟩
  ·omega
  ·unfold szs at h;omega
 rw[Bgi]
 obtain⟨h1,⟨i,hi,h2⟩,h3⟩:=Yu (next:=Gn) (goes:=Gm) (ps:=JD)
  (fun x=>∃i:Nat,i≤LN n∧x=(n,(LN n:Int),(LN n:Int),(i:Int),b++(be (LN n) n.toNat).take i)) HP (by
   rintro x ⟨i,hi,rfl⟩
   refine⟨Aa (fun hp=>?_) Ad,fun hg=>?_⟩
   ·have h':(!!decide ((i:Int) <(LN n:Int)))=true:=hp
    have hlt:i <LN n:=by simpa using h'
    show Ag ((b++(be (LN n) n.toNat).take i).length+1)
    unfold Ag at*
    rw[List.length_append,List.length_take,LE]
    omega
   ·have h':(!!decide ((i:Int) <(LN n:Int)))=true:=hg
    have hlt:i <LN n:=by simpa using h'
    have hw:IntKind.i64.wrap ((i:Int)+1)=((i+1:Nat):Int):=by rw[i64_in (by omega)];rfl
    have hn0:0≤n:=by rcases Ani n with h|⟨h,_⟩<;>omega
    refine⟨⟨i+1,hlt,?_⟩,?_⟩
    ·show(n,(LN n:Int),(LN n:Int),IntKind.i64.wrap ((i:Int)+1),(b++(be (LN n) n.toNat).take i)++[UInt8.ofNat (IntKind.u8.wrap (n.fdiv ((2:Int)^min (IntKind.u64.wrap (IntKind.i64.wrap ((8:Int)*IntKind.i64.wrap (IntKind.i64.wrap ((LN n:Int) - (1:Int)) - (i:Int))))).toNat (64:Nat)))).toNat])=_
     rw[hw,B0w hn0 hk8 hlt,List.append_assoc,←B25 hlt]
    ·show((LN n:Int) - IntKind.i64.wrap ((i:Int)+1)).toNat <((LN n:Int) - (i:Int)).toNat
     rw[hw]
     omega) _ (n,(LN n:Int),(LN n:Int),0,[]++b) ⟨0,Nat.zero_le _,by simp⟩ (Nat.le_refl _)
 refine⟨h1,?_⟩
 have h4:Qm (n,(LN n:Int),(LN n:Int),0,[]++b)=_:=h2
 rw[h2] at h3
 have h3':(!!decide ((i:Int) <(LN n:Int)))=false:=h3
 have hn:¬((i:Int) <(LN n:Int)):=by simpa using h3'
 obtain rfl:i=LN n:=by omega
 rw[h4,List.take_of_length_le (by rw[LE];exact Nat.le_refl _)]
theorem Bo7 (b:List UInt8) (n:Int) (hb:Ag (b.length+8)):(∀p∈A2p b n,p)∧Apm b n=b++OF n:=by
 obtain⟨h1,h2⟩:=B0x b n hb
 have h3:AY b n=b++be (LN n) n.toNat:=h2
 have h4:(AH b n).toNat=b.length:=rfl
 have hS:=Bgi n
 have hlen:(b++be (LN n) n.toNat).length=b.length+LN n:=by rw[List.length_append,LE]
 have hpos:LN n≠0→(0:Int)≤AH b n∧AH b n <((AY b n).length:Int):=fun h0=>by
  rw[h3,hlen]
  show(0:Int)≤(b.length:Int)∧(b.length:Int) <((b.length+LN n:Nat):Int)
  omega
 have sz2:∀c:Int,c≠0→(Ba n==c)=true→LN n≠0:=fun c hc h h0=>by
  rw[hS,h0] at h
  have h':(0:Int)=c:=by simpa using h
  exact hc h'.symm
 refine⟨Aa (by unfold Ag at*;omega) (Aa h1 (Aa (fun h=>hpos (sz2 2 (by decide) h)) (Aa (fun _ h=>hpos (sz2 4 (by decide) h)) (Aa (fun _ _ h=>hpos (sz2 8 (by decide) h)) Ad)))),?_⟩
 unfold Apm
 rw[h3,h4]
 have k7:A4 b n=((LN n:Int)==2):=by show(Ba n==2)=_;rw[hS]
 have k6:BT b n=((LN n:Int)==4):=by show(Ba n==4)=_;rw[hS]
 have k5:Hy b n=((LN n:Int)==8):=by show(Ba n==8)=_;rw[hS]
 have b1:Nh b n=IntKind.u8.wrap ((BitVec.ofInt 8 ((((b++be (LN n) n.toNat).getD b.length (Ab TC.u8)).toNat:Nat):Int) ||| BitVec.ofInt 8 ((64*1:Nat):Int)).toNat:Int):=by rw[←h3,←h4];rfl
 have b0:Ni b n=IntKind.u8.wrap ((BitVec.ofInt 8 ((((b++be (LN n) n.toNat).getD b.length (Ab TC.u8)).toNat:Nat):Int) ||| BitVec.ofInt 8 ((64*2:Nat):Int)).toNat:Int):=by rw[←h3,←h4];rfl
 have b2:Nj b n=IntKind.u8.wrap ((BitVec.ofInt 8 ((((b++be (LN n) n.toNat).getD b.length (Ab TC.u8)).toNat:Nat):Int) ||| BitVec.ofInt 8 ((64*3:Nat):Int)).toNat:Int):=by rw[←h3,←h4];rfl
 rw[k7,k6,k5,b1,b0,b2]
 unfold OF
 rcases Ani n with hz|⟨g1,g2,g3⟩
 ·rw[hz];rfl
 ·have hN:=(Bt7 g1 g2).2
  generalize hk:LN n=k at*
  rcases g3 with rfl|rfl|rfl|rfl
  ·show b++be 1 n.toNat=b++be 1 (n.toNat+0*(64*256^0))
   rw[Nat.zero_mul,Nat.add_zero]
  ·exact Bgh (m:=1) (t:=1) b hN (by decide) _
  ·exact Bgh (m:=3) (t:=2) b hN (by decide) _
  ·exact Bgh (m:=7) (t:=3) b hN (by decide) _
theorem Bo6 (a0:List UInt8) (a1:Int) (hp:∀p∈As2 a0 a1,p):CallOk Try.prog 119 [Af .bytes a0,Af .i64 a1] 0 [] 1 (A2q a0 a1) 1 (Vu a0 a1):=by
 obtain⟨h1,h2⟩:=Bo7 a0 a1 (hp _ (List.mem_cons_self ..))
 have h:=Bu9 a0 a1 h1
 have ho:Aa3 a0 a1=Vu a0 a1:=by unfold Aa3 Vu;rw[h2]
 rw[ho] at h
 exact h
def Bau:List A→Nat→Objs→Option AV:=A7 [.t .bytes,.t .i64] 1 A2q Vu As2
theorem Bku:ET Try.prog 119 Bau:=Aq (ks:=[.t .bytes,.t .i64]) Bo6
noncomputable def Bwq:=AU 119 Bau Bwp
theorem Bbx:CD Try.prog Bwq:=Ak Bku Bbw
abbrev ED:Type:=Int×(List UInt8)×Int×Int
def Pj (x:ED):St:=⟨46,0,[(6,.v (.int .i64 x.1)),(28,.sl .u8 x.2.1),(29,.v (.int .i64 x.2.2.1)),(30,.v (.int .i64 x.2.2.2))],[]⟩
def SU:St→Option ED
 |⟨46,0,[(6,.v (.int .i64 z0)),(28,.sl .u8 z1),(29,.v (.int .i64 z2)),(30,.v (.int .i64 z3))],[]⟩=>some (z0,z1,z2,z3)
 |_=>none
theorem Awp:∀s x,SU s=some x→s=Pj x:=fun s x h=>by
 unfold SU at h
 split at h
 ·cases h;rfl
 ·cases h
def Alg:Co:=⟨0,0,[6,28,29,30],[],[],[],[6],[]⟩
def Bem:CR:=⟨[],[],[6,28,29,30],[]⟩
def A2h (a0:Int) (a1:List UInt8) (_a2:Int) (a3:Int):Int:=IntKind.i64.wrap (↑(BitVec.ofInt (64:Nat) (IntKind.i64.wrap (a0*(256:Int))) ||| BitVec.ofInt (64:Nat) (IntKind.i64.wrap (↑(UInt8.toNat (a1.getD a3.toNat (Ab TC.u8))):Int))).toNat:Int)
def Gl (x:ED):ED:=(A2h x.1 x.2.1 x.2.2.1 x.2.2.2,x.2.1,x.2.2.1,IntKind.i64.wrap (x.2.2.2+(1:Int)))
def Gk (x:ED):Cnd:=some (!!decide (x.2.2.2 <x.2.2.1))
def Ql (x:ED):List Prop:=[((!!decide (x.2.2.2 <x.2.2.1))=true→(0:Int)≤x.2.2.2∧x.2.2.2 <(↑x.2.1.length:Int))]
abbrev JC:ED→List Prop:=Ql
def Ww (x:ED):Bd:=[(some 0,some (!decide (x.2.2.2 <x.2.2.1)),⟨46,0,[(6,.v (.int .i64 x.1))],[]⟩)]
def HO (x:ED):Nat:=(x.2.2.1 - x.2.2.2).toNat
def MC (x:ED):ED:=A5 Gl Gk (HO x) x
theorem A7y (a0:Int) (a1:List UInt8) (a2:Int) (a3:Int):Bk (Au Bwq L0) 9 (Ae Try.prog 114 0) Alg (Pj (a0,a1,a2,a3))=some (Ql (a0,a1,a2,a3),Ww (a0,a1,a2,a3),Gk (a0,a1,a2,a3),Pj (Gl (a0,a1,a2,a3))):=by kernel_rfl
theorem A7z (a0:Int) (a1:List UInt8) (a2:Int) (a3:Int) (hp:∀p∈JC (a0,a1,a2,a3),p):∀p∈Ql (a0,a1,a2,a3),p:=hp
noncomputable def YQ:=GH (Au Bwq L0) (Ae Try.prog 114 0) Alg Bem SU HO Gl Gk JC Ww
theorem A2i:∀s b ps outs,YQ s=some (b,ps,outs)→Wf s ⟨ps,outs,none⟩∧Be (Au C0 L0) b s ps outs:=
 A6 (T:=Pj) Bbx Av (u:=9) (by kernel_rfl) (by decide) (fun⟨a0,a1,a2,a3⟩=>A7y a0 a1 a2 a3) (fun⟨a0,a1,a2,a3⟩=>A7z a0 a1 a2 a3) Awp (fun _=>AI (n:=46) rfl) fun _ _=>rfl
noncomputable def Alf:=CY 0 YQ L0
theorem A2g:Gf Alf:=AP A2i Av
def Il (a0:List UInt8):Int:=(↑(UInt8.toNat (a0.getD (0:Nat) (Ab TC.u8))):Int)
def C8 (a0:List UInt8):Bool:=(↑a0.length:Int)==(0:Int)
def Hx (a0:List UInt8):Int:=IntKind.i64.wrap ((1:Int)*(2:Int)^min ((Il a0).fdiv (64:Int)).toNat (64:Nat))
def E7 (a0:List UInt8):List UInt8:=List.take ((Hx a0).toNat - (1:Nat)) (List.drop (1:Nat) a0)
def Gj (a0:List UInt8):Bool:=decide ((↑a0.length:Int) <(Hx a0))
def Qk (a0:List UInt8):Bool:=decide (Ba (MC (IntKind.i64.wrap (IntKind.u8.wrap (↑(BitVec.ofInt (8:Nat) (Il a0) &&& BitVec.ofInt (8:Nat) (63:Int)).toNat:Int)),(E7 a0),(↑(E7 a0).length:Int),(0:Int))).fst <(Hx a0))
def Apj (a0:List UInt8):Int:=bif(C8 a0) then(0:Int) else bif(Gj a0) then(0:Int) else bif(Qk a0) then(0:Int) else(MC (IntKind.i64.wrap (IntKind.u8.wrap (↑(BitVec.ofInt (8:Nat) (Il a0) &&& BitVec.ofInt (8:Nat) (63:Int)).toNat:Int)),(E7 a0),(↑(E7 a0).length:Int),(0:Int))).fst
def Apk (a0:List UInt8):Int:=bif(C8 a0) then(0:Int) else bif(Gj a0) then(0:Int) else bif(Qk a0) then(0:Int) else(Hx a0)
def Apl (a0:List UInt8):Int:=bif(C8 a0) then(10:Int) else bif(Gj a0) then(10:Int) else bif(Qk a0) then(11:Int) else(0:Int)
def Aa2 (a0:List UInt8):A:=.v (.tuple ⟨[.int .i64 (Apj a0),.int .i64 (Apk a0),.int .i64 (Apl a0)]⟩)
def Bar (_a0:List UInt8):Objs:=[]
def A2k (a0:List UInt8):List Prop:=[((!(C8 a0))=true→(0:Int)≤(0:Int)∧(0:Int) <(↑a0.length:Int)),((!(C8 a0))=true→(0:Int)≤(Il a0).fdiv (64:Int)),((!(C8 a0))=true→(!(Gj a0))=true→(0:Int)≤(0:Int)∧(0:Int) <(↑a0.length:Int)),((!(C8 a0))=true→(!(Gj a0))=true→(0:Int)≤(1:Int)∧(1:Int)≤(Hx a0)∧(Hx a0)≤(↑a0.length:Int)),((!(C8 a0))=true→(!(Gj a0))=true→AB Gl Gk JC (HO (IntKind.i64.wrap (IntKind.u8.wrap (↑(BitVec.ofInt (8:Nat) (Il a0) &&& BitVec.ofInt (8:Nat) (63:Int)).toNat:Int)),(E7 a0),(↑(E7 a0).length:Int),(0:Int))) (IntKind.i64.wrap (IntKind.u8.wrap (↑(BitVec.ofInt (8:Nat) (Il a0) &&& BitVec.ofInt (8:Nat) (63:Int)).toNat:Int)),(E7 a0),(↑(E7 a0).length:Int),(0:Int)))]
theorem Bo5 (a0:List UInt8):Eo (Au Bwq Alf) 9 114 [Af .bytes a0] 0 []=some (1,Aa2 a0,0,Bar a0,[((!(C8 a0))=true→(0:Int)≤(0:Int)∧(0:Int) <(↑a0.length:Int)),((!(C8 a0))=true→(0:Int)≤(Il a0).fdiv (64:Int)),((!(C8 a0))=true→(!(Gj a0))=true→(0:Int)≤(0:Int)∧(0:Int) <(↑a0.length:Int)),((!(C8 a0))=true→(!(Gj a0))=true→(0:Int)≤(1:Int)∧(1:Int)≤(Hx a0)∧(Hx a0)≤(↑a0.length:Int)),((!(C8 a0))=true→(!(Gj a0))=true→Ae Try.prog (114:FuncId) (0:Nat)=Ae Try.prog (114:FuncId) (0:Nat)),((!(C8 a0))=true→(!(Gj a0))=true→AB Gl Gk JC (HO (IntKind.i64.wrap (IntKind.u8.wrap (↑(BitVec.ofInt (8:Nat) (Il a0) &&& BitVec.ofInt (8:Nat) (63:Int)).toNat:Int)),(E7 a0),(↑(E7 a0).length:Int),(0:Int))) (IntKind.i64.wrap (IntKind.u8.wrap (↑(BitVec.ofInt (8:Nat) (Il a0) &&& BitVec.ofInt (8:Nat) (63:Int)).toNat:Int)),(E7 a0),(↑(E7 a0).length:Int),(0:Int)))]):=by kernel_rfl
theorem Bu8 (a0:List UInt8) (hp:∀p∈A2k a0,p):CallOk Try.prog 114 [Af .bytes a0] 0 [] 1 (Aa2 a0) 0 (Bar a0):=by
 have n0:=N0 hp
 have n1:=N0 (N1 hp)
 have n2:=N0 (N1 (N1 hp))
 have n3:=N0 (N1 (N1 (N1 hp)))
 have n4:((!(C8 a0))=true→(!(Gj a0))=true→Ae Try.prog (114:FuncId) (0:Nat)=Ae Try.prog (114:FuncId) (0:Nat)):=by intros;rfl
 have n5:=N0 (N1 (N1 (N1 (N1 hp))))
 exact Ax (Ap Bbx A2g) (Bo5 a0) (Aa n0 (Aa n1 (Aa n2 (Aa n3 (Aa n4 (Aa n5 Ad))))))
def Vt (a0:List UInt8):A:=.v (.tuple ⟨[.int .i64 (Ao a0).1,.int .i64 (Ao a0).2.1,.int .i64 (Ao a0).2.2]⟩)
def A2j (_a0:List UInt8):Objs:=[]
def As1 (_a0:List UInt8):List Prop:=[]
theorem Bzg (L:List UInt8) (h7:L.length≤7) (a:Nat) (ha:a <64):
  AB Gl Gk JC (HO ((a:Int),L,(L.length:Int),0)) ((a:Int),L,(L.length:Int),0)∧
  (MC ((a:Int),L,(L.length:Int),0)).1=(val a L:Int):=by
 obtain⟨h1,⟨i,hi,h2⟩,h3⟩:=Yu (next:=Gl) (goes:=Gk) (ps:=JC)
  (fun x=>∃i:Nat,i≤L.length∧x=((val a (L.take i):Int),L,(L.length:Int),(i:Int))) HO (by
   rintro x ⟨i,hi,rfl⟩
   refine⟨Aa (fun hp=>?_) Ad,fun hg=>?_⟩
   ·have h':(!!decide ((i:Int) <(L.length:Int)))=true:=hp
    have hlt:(i:Int) <(L.length:Int):=by simpa using h'
    show(0:Int)≤(i:Int)∧(i:Int) <(L.length:Int)
    exact⟨by omega,hlt⟩
   ·have h':(!!decide ((i:Int) <(L.length:Int)))=true:=hg
    have hlt:i <L.length:=by simpa using h'
    have hw:IntKind.i64.wrap ((i:Int)+1)=((i+1:Nat):Int):=by rw[i64_in (by omega)];rfl
    have hb:val a (L.take i) <64*256^6:=by
     have hv:=VY (L.take i) a
     have hl:=Bgs (L.take i)
     have e:(L.take i).length=i:=by rw[List.length_take];omega
     rw[e] at hv hl
     have hm:256^i≤256^6:=Nat.pow_le_pow_right (by decide) (by omega)
     have hq:=Nat.mul_le_mul_right (256^i) (show a+1≤64 by omega)
     rw[Nat.add_mul,Nat.one_mul] at hq
     have hq2:=Nat.mul_le_mul_left 64 hm
     omega
    refine⟨⟨i+1,hlt,?_⟩,?_⟩
    ·show(IntKind.i64.wrap ((BitVec.ofInt 64 (IntKind.i64.wrap ((val a (L.take i):Int)*256)) ||| BitVec.ofInt 64 (IntKind.i64.wrap (((L.getD (i:Int).toNat (Ab TC.u8)).toNat:Nat):Int))).toNat:Int),L,(L.length:Int),IntKind.i64.wrap ((i:Int)+1))=_
     rw[hw,B4a hb,Int.toNat_natCast,B2a _ _ _ hlt]
    ·show((L.length:Int) - IntKind.i64.wrap ((i:Int)+1)).toNat <((L.length:Int) - (i:Int)).toNat
     rw[hw]
     omega) _ ((a:Int),L,(L.length:Int),0) ⟨0,Nat.zero_le _,rfl⟩ (Nat.le_refl _)
 refine⟨h1,?_⟩
 have h4:MC ((a:Int),L,(L.length:Int),0)=_:=h2
 rw[h2] at h3
 have h3':(!!decide ((i:Int) <(L.length:Int)))=false:=h3
 have hn:¬((i:Int) <(L.length:Int)):=by simpa using h3'
 obtain rfl:i=L.length:=by omega
 rw[h4,List.take_length]
theorem Bo4 (b:List UInt8):(∀p∈A2k b,p)∧Apj b=(Ao b).1∧Apk b=(Ao b).2.1∧Apl b=(Ao b).2.2:=by
 cases b with
 |nil=>
  have no:(!(C8 []))=true→False:=by intro h;cases h
  exact⟨Aa (fun h=>(no h).elim) (Aa (fun h=>(no h).elim) (Aa (fun h=>(no h).elim) (Aa (fun h=>(no h).elim) (Aa (fun h=>(no h).elim) Ad)))),rfl,rfl,rfl⟩
 | cons x r=>
  have hx:x.toNat <256:=x.toNat_lt
  have k4:C8 (x::r)=false:=by
   show(((r.length+1:Nat):Int)==0)=false
   rw[Bool.eq_false_iff]
   intro h
   have:((r.length+1:Nat):Int)=0:=by simpa using h
   omega
  have k3:Hx (x::r)=((2^(x.toNat / 64):Nat):Int):=B9i x
  have t3:x.toNat / 64≤3:=by omega
  have hK:=(B1g t3).1
  have k2:E7 (x::r)=r.take (2^(x.toNat / 64) - 1):=by
   show List.take ((Hx (x::r)).toNat - 1) r=_
   rw[k3,Int.toNat_natCast]
  have k1:Gj (x::r)=decide (r.length+1 <2^(x.toNat / 64)):=by
   show decide (((r.length+1:Nat):Int) <Hx (x::r))=_
   rw[k3]
   exact decide_eq_decide.2 Int.ofNat_lt
  have k6:IntKind.i64.wrap (IntKind.u8.wrap ((BitVec.ofInt 8 (Il (x::r)) &&& BitVec.ofInt 8 63).toNat:Int))=((x.toNat % 64:Nat):Int):=B3n x
  generalize hKK:2^(x.toNat / 64)=K at*
  have hlen:(r.take (K - 1)).length≤7:=by rw[List.length_take];unfold szs at hK;omega
  obtain⟨n1,n2⟩:=Bzg (r.take (K - 1)) hlen (x.toNat % 64) (by omega)
  have k0:Qk (x::r)=decide (LN (val (x.toNat % 64) (r.take (K - 1))) <K):=by
   unfold Qk
   rw[k6,k2,n2,Bgi,k3]
   exact decide_eq_decide.2 Int.ofNat_lt
  refine⟨Aa (fun _=>?_) (Aa (fun _=>?_) (Aa (fun _ _=>(by show(0:Int)≤0∧(0:Int) <((r.length+1:Nat):Int);omega)) (Aa (fun _ h=>?_) (Aa (fun _ _=>?_) Ad)))),?_⟩
  ·show(0:Int)≤0∧(0:Int) <((r.length+1:Nat):Int)
   omega
  ·show(0:Int)≤((x.toNat:Nat):Int).fdiv 64
   rw[Int.fdiv_eq_ediv_of_nonneg _ (by decide)]
   omega
  ·rw[k1] at h
   have h':¬(r.length+1 <K):=by simpa using h
   rw[k3]
   show(0:Int)≤1∧(1:Int)≤(K:Int)∧(K:Int)≤((r.length+1:Nat):Int)
   unfold szs at hK
   omega
  ·rw[k6,k2]
   exact n1
  ·unfold Apj Apk Apl
   rw[k4,k1,k0,k6,k2,n2,k3,Aas,hKK]
   by_cases c1:r.length+1 <K
   ·rw[if_pos c1,decide_eq_true c1];exact⟨rfl,rfl,rfl⟩
   ·rw[if_neg c1,decide_eq_false c1]
    by_cases c2:LN (val (x.toNat % 64) (r.take (K - 1))) <K
    ·rw[if_pos c2,decide_eq_true c2];exact⟨rfl,rfl,rfl⟩
    ·rw[if_neg c2,decide_eq_false c2];exact⟨rfl,rfl,rfl⟩
theorem Bo3 (a0:List UInt8) (_hp:∀p∈As1 a0,p):CallOk Try.prog 114 [Af .bytes a0] 0 [] 1 (Vt a0) 0 (A2j a0):=by
 obtain⟨h1,h2,h3,h4⟩:=Bo4 a0
 have h:=Bu8 a0 h1
 have hr:Aa2 a0=Vt a0:=by unfold Aa2 Vt;rw[h2,h3,h4]
 rw[hr] at h
 exact h
def Bas:List A→Nat→Objs→Option AV:=A7 [.t .bytes] 0 Vt A2j As1
theorem Bkt:ET Try.prog 114 Bas:=Aq (ks:=[.t .bytes]) Bo3
noncomputable def B8l:=AU 114 Bas Bwq
theorem B2j:CD Try.prog B8l:=Ak Bkt Bbx
noncomputable def Ca:=B8l
theorem B5f:CD Try.prog Ca:=B2j
end Go.Proofs.Yteebobbhhgmeiaa
namespace Go.Proofs.Yteebobbhhgmeiaa
open Go.RowKit
def Q1 (a0:Int):Bool:=!a0==(1:Int)
def NS (a0:Int):Bool:=bif !((Q1 a0)&&!((Q1 a0)&&a0==(2:Int))) then true else false
def Tb (a0:Int):A:=.v (.bool (NS a0))
def Ta (_a0:Int):Objs:=[]
def Q2 (_a0:Int):List Prop:=[]
theorem A6i (a0:Int):Eo (Au Ca L0) 9 151 [Af .i64 a0] 0 []=some (1,Tb a0,0,Ta a0,Q2 a0):=by kernel_rfl
theorem A9g (a0:Int) (hp:∀p∈Q2 a0,p):CallOk Try.prog 151 [Af .i64 a0] 0 [] 1 (Tb a0) 0 (Ta a0):=Ax (Ap B5f Av) (A6i a0) hp
def Aev:List A→Nat→Objs→Option AV:=A7 [.t .i64] 0 Tb Ta Q2
theorem Ayj:ET Try.prog 151 Aev:=Aq (ks:=[.t .i64]) A9g
noncomputable def B6h:=AU 151 Aev Ca
theorem Bra:CD Try.prog B6h:=Ak Ayj B5f
def Cm (a0:TStamp):Bool:=bif a0.1==(0:Int)&&a0.2==(0:Int) then true else decide (a0.1 >(0:Int))&&decide (a0.1≤(281474976710656:Int))&&NS a0.2
def VT (a0:TStamp):A:=.v (.bool (Cm a0))
def VS (_a0:TStamp):Objs:=[]
def S8 (_a0:TStamp):List Prop:=[]
theorem A9d (a0:TStamp):Eo (Au B6h L0) 9 102 [Af .stamp a0] 0 []=some (1,VT a0,0,VS a0,S8 a0):=by kernel_rfl
theorem Bgn (a0:TStamp) (hp:∀p∈S8 a0,p):CallOk Try.prog 102 [Af .stamp a0] 0 [] 1 (VT a0) 0 (VS a0):=Ax (Ap Bra Av) (A9d a0) hp
def Anc:List A→Nat→Objs→Option AV:=A7 [.t .stamp] 0 VT VS S8
theorem A6f:ET Try.prog 102 Anc:=Aq (ks:=[.t .stamp]) Bgn
noncomputable def B6i:=AU 102 Anc B6h
theorem Brb:CD Try.prog B6i:=Ak A6f Bra
def HD (a0:TStamp):Bool:=bif a0.1==(0:Int)&&a0.2==(0:Int) then true else decide (a0.1≥(1:Int))&&decide (a0.1≤(281474976710656:Int))&&(a0.2==(1:Int)||a0.2==(2:Int))
def Agl (a0:TStamp):A:=.v (.bool (HD a0))
def Agk (_a0:TStamp):Objs:=[]
def Zf (_a0:TStamp):List Prop:=[]
theorem Bk6 (a0:TStamp):Eo (Au B6i L0) 9 104 [Af .stamp a0] 0 []=some (1,Agl a0,0,Agk a0,Zf a0):=by kernel_rfl
theorem Bph (a0:TStamp) (hp:∀p∈Zf a0,p):CallOk Try.prog 104 [Af .stamp a0] 0 [] 1 (Agl a0) 0 (Agk a0):=Ax (Ap Brb Av) (Bk6 a0) hp
def A29:List A→Nat→Objs→Option AV:=A7 [.t .stamp] 0 Agl Agk Zf
theorem Bey:ET Try.prog 104 A29:=Aq (ks:=[.t .stamp]) Bph
noncomputable def B6j:=AU 104 A29 B6i
theorem Brc:CD Try.prog B6j:=Ak Bey Brb
def K7 (a0:Int) (_a1:Int):Int:=min (max a0 (0:Int)) (1099511627776:Int)
def Te (a0:Int) (a1:Int):A:=.v (.int .i64 (K7 a0 a1))
def Td (_a0:Int) (_a1:Int):Objs:=[]
def Q5 (_a0:Int) (_a1:Int):List Prop:=[]
theorem A6q (a0:Int) (a1:Int):Eo (Au B6j L0) 9 153 [Af .i64 a0,Af .i64 a1] 0 []=some (1,Te a0 a1,0,Td a0 a1,Q5 a0 a1):=by kernel_rfl
theorem A9j (a0:Int) (a1:Int) (hp:∀p∈Q5 a0 a1,p):CallOk Try.prog 153 [Af .i64 a0,Af .i64 a1] 0 [] 1 (Te a0 a1) 0 (Td a0 a1):=Ax (Ap Brc Av) (A6q a0 a1) hp
def Aex:List A→Nat→Objs→Option AV:=A7 [.t .i64,.t .i64] 0 Te Td Q5
theorem Ayk:ET Try.prog 153 Aex:=Aq (ks:=[.t .i64,.t .i64]) A9j
noncomputable def B6k:=AU 153 Aex B6j
theorem Brd:CD Try.prog B6k:=Ak Ayk Brc
def Tg (a0:Int) (a1:Int):A:=.v (.int .i64 (max a0 a1))
def Tf (_a0:Int) (_a1:Int):Objs:=[]
def Q6 (_a0:Int) (_a1:Int):List Prop:=[]
theorem A6s (a0:Int) (a1:Int):Eo (Au B6k L0) 9 154 [Af .i64 a0,Af .i64 a1] 0 []=some (1,Tg a0 a1,0,Tf a0 a1,Q6 a0 a1):=by kernel_rfl
theorem A9k (a0:Int) (a1:Int) (hp:∀p∈Q6 a0 a1,p):CallOk Try.prog 154 [Af .i64 a0,Af .i64 a1] 0 [] 1 (Tg a0 a1) 0 (Tf a0 a1):=Ax (Ap Brd Av) (A6s a0 a1) hp
def Aey:List A→Nat→Objs→Option AV:=A7 [.t .i64,.t .i64] 0 Tg Tf Q6
theorem Ayl:ET Try.prog 154 Aey:=Aq (ks:=[.t .i64,.t .i64]) A9k
noncomputable def B6l:=AU 154 Aey B6k
theorem Bre:CD Try.prog B6l:=Ak Ayl Brd
def Ti (a0:Int) (a1:Int):A:=.v (.int .i64 (min a0 a1))
def Th (_a0:Int) (_a1:Int):Objs:=[]
def Q7 (_a0:Int) (_a1:Int):List Prop:=[]
theorem A6t (a0:Int) (a1:Int):Eo (Au B6l L0) 9 156 [Af .i64 a0,Af .i64 a1] 0 []=some (1,Ti a0 a1,0,Th a0 a1,Q7 a0 a1):=by kernel_rfl
theorem A9l (a0:Int) (a1:Int) (hp:∀p∈Q7 a0 a1,p):CallOk Try.prog 156 [Af .i64 a0,Af .i64 a1] 0 [] 1 (Ti a0 a1) 0 (Th a0 a1):=Ax (Ap Bre Av) (A6t a0 a1) hp
def Aez:List A→Nat→Objs→Option AV:=A7 [.t .i64,.t .i64] 0 Ti Th Q7
theorem Aym:ET Try.prog 156 Aez:=Aq (ks:=[.t .i64,.t .i64]) A9l
noncomputable def B6m:=AU 156 Aez B6l
theorem Brf:CD Try.prog B6m:=Ak Aym Bre
noncomputable def B6n:=AU 152 (inl (Au B6m L0) 4 152) B6m
theorem Brg:CD Try.prog B6n:=Ak (Afo (Ap Brf Av) 4 152) Brf
def BV (a0:TVec):Bool:=K7 a0.1 (0:Int)==a0.1&&K7 a0.2 (0:Int)==a0.2
def Aif (a0:TVec):A:=.v (.bool (BV a0))
def Aie (_a0:TVec):Objs:=[]
def Avl (_a0:TVec):List Prop:=[]
theorem Bnj (a0:TVec):Eo (Au B6n L0) 9 103 [Af .vec a0] 0 []=some (1,Aif a0,0,Aie a0,[((0:Int)≤(0:Int)∧(0:Int) <(2:Int)),((0:Nat) <(2:Nat)),((0:Int)≤(0:Int)∧(0:Int) <(2:Int)),((0:Nat) <(2:Nat)),((0:Int)≤(0:Int)∧(0:Int) <(2:Int)),((0:Nat) <(2:Nat)),((0:Int)≤(1:Int)∧(1:Int) <(2:Int)),((1:Nat) <(2:Nat)),((0:Int)≤(1:Int)∧(1:Int) <(2:Int)),((1:Nat) <(2:Nat)),((0:Int)≤(1:Int)∧(1:Int) <(2:Int)),((1:Nat) <(2:Nat))]):=by kernel_rfl
theorem Bq3 (a0:TVec) (_hp:∀p∈Avl a0,p):CallOk Try.prog 103 [Af .vec a0] 0 [] 1 (Aif a0) 0 (Aie a0):=by
 have n0:((0:Int)≤(0:Int)∧(0:Int) <(2:Int)):=by first|rfl|decide+kernel
 have n1:((0:Nat) <(2:Nat)):=by first|rfl|decide+kernel
 have n6:((0:Int)≤(1:Int)∧(1:Int) <(2:Int)):=by first|rfl|decide+kernel
 have n7:((1:Nat) <(2:Nat)):=by first|rfl|decide+kernel
 exact Ax (Ap Brg Av) (Bnj a0) (Aa n0 (Aa n1 (Aa n0 (Aa n1 (Aa n0 (Aa n1 (Aa n6 (Aa n7 (Aa n6 (Aa n7 (Aa n6 (Aa n7 Ad))))))))))))
def A6r:List A→Nat→Objs→Option AV:=A7 [.t .vec] 0 Aif Aie Avl
theorem Bgu:ET Try.prog 103 A6r:=Aq (ks:=[.t .vec]) Bq3
noncomputable def B6o:=AU 103 A6r B6n
theorem Brh:CD Try.prog B6o:=Ak Bgu Brg
def Kt (a0:TVec) (a1:TVec):TVec:=TVec.mk (min a0.1 a1.1) (min a0.2 a1.2)
def Aih (a0:TVec) (a1:TVec):A:=.v (.agg ⟨[.int .i64 ((Kt a0 a1).a),.int .i64 ((Kt a0 a1).b)]⟩)
def Aig (_a0:TVec) (_a1:TVec):Objs:=[]
def Avm (_a0:TVec) (_a1:TVec):List Prop:=[]
theorem Bnk (a0:TVec) (a1:TVec):Eo (Au B6o L0) 9 112 [Af .vec a0,Af .vec a1] 0 []=some (1,Aih a0 a1,0,Aig a0 a1,[((0:Int)≤(0:Int)∧(0:Int) <(2:Int)),((0:Nat) <(2:Nat)),((0:Int)≤(0:Int)∧(0:Int) <(2:Int)),((0:Nat) <(2:Nat)),((0:Int)≤(0:Int)∧(0:Int) <(2:Int)),((0:Nat) <(2:Nat)),((0:Int)≤(1:Int)∧(1:Int) <(2:Int)),((1:Nat) <(2:Nat)),((0:Int)≤(1:Int)∧(1:Int) <(2:Int)),((1:Nat) <(2:Nat)),((0:Int)≤(1:Int)∧(1:Int) <(2:Int)),((1:Nat) <(2:Nat))]):=by kernel_rfl
theorem Bq4 (a0:TVec) (a1:TVec) (_hp:∀p∈Avm a0 a1,p):CallOk Try.prog 112 [Af .vec a0,Af .vec a1] 0 [] 1 (Aih a0 a1) 0 (Aig a0 a1):=by
 have n0:((0:Int)≤(0:Int)∧(0:Int) <(2:Int)):=by first|rfl|decide+kernel
 have n1:((0:Nat) <(2:Nat)):=by first|rfl|decide+kernel
 have n6:((0:Int)≤(1:Int)∧(1:Int) <(2:Int)):=by first|rfl|decide+kernel
 have n7:((1:Nat) <(2:Nat)):=by first|rfl|decide+kernel
 exact Ax (Ap Brh Av) (Bnk a0 a1) (Aa n0 (Aa n1 (Aa n0 (Aa n1 (Aa n0 (Aa n1 (Aa n6 (Aa n7 (Aa n6 (Aa n7 (Aa n6 (Aa n7 Ad))))))))))))
def A6u:List A→Nat→Objs→Option AV:=A7 [.t .vec,.t .vec] 0 Aih Aig Avm
theorem Bgv:ET Try.prog 112 A6u:=Aq (ks:=[.t .vec,.t .vec]) Bq4
noncomputable def B6p:=AU 112 A6u B6o
theorem Bri:CD Try.prog B6p:=Ak Bgv Brh
def KS (a0:TVec) (a1:TVec):Bool:=(Kt a0 a1).1==a1.1&&(Kt a0 a1).2==a1.2
def V0 (a0:TVec) (a1:TVec):A:=.v (.bool (KS a0 a1))
def VZ (_a0:TVec) (_a1:TVec):Objs:=[]
def Tc (_a0:TVec) (_a1:TVec):List Prop:=[]
theorem A9i (a0:TVec) (a1:TVec):Eo (Au B6p L0) 9 53 [Af .vec a0,Af .vec a1] 0 []=some (1,V0 a0 a1,0,VZ a0 a1,Tc a0 a1):=by kernel_rfl
theorem Bgt (a0:TVec) (a1:TVec) (hp:∀p∈Tc a0 a1,p):CallOk Try.prog 53 [Af .vec a0,Af .vec a1] 0 [] 1 (V0 a0 a1) 0 (VZ a0 a1):=Ax (Ap Bri Av) (A9i a0 a1) hp
def Ank:List A→Nat→Objs→Option AV:=A7 [.t .vec,.t .vec] 0 V0 VZ Tc
theorem A6n:ET Try.prog 53 Ank:=Aq (ks:=[.t .vec,.t .vec]) Bgt
noncomputable def Bw0:=AU 53 Ank B6p
theorem Bha:CD Try.prog Bw0:=Ak A6n Bri
def E8 (a0:TVec):Bool:=decide (a0.1≥(0:Int))&&decide (a0.1≤(1099511627776:Int))&&decide (a0.2≥(0:Int))&&decide (a0.2≤(1099511627776:Int))
def Agq (a0:TVec):A:=.v (.bool (E8 a0))
def Agp (_a0:TVec):Objs:=[]
def Zh (_a0:TVec):List Prop:=[]
theorem Bk9 (a0:TVec):Eo (Au Bw0 L0) 9 100 [Af .vec a0] 0 []=some (1,Agq a0,0,Agp a0,Zh a0):=by kernel_rfl
theorem Bpj (a0:TVec) (hp:∀p∈Zh a0,p):CallOk Try.prog 100 [Af .vec a0] 0 [] 1 (Agq a0) 0 (Agp a0):=Ax (Ap Bha Av) (Bk9 a0) hp
def A3c:List A→Nat→Objs→Option AV:=A7 [.t .vec] 0 Agq Agp Zh
theorem Be1:ET Try.prog 100 A3c:=Aq (ks:=[.t .vec]) Bpj
noncomputable def Bw1:=AU 100 A3c Bw0
theorem Bhb:CD Try.prog Bw1:=Ak Be1 Bha
def VA (a0:TVec) (a1:TVec):Bool:=decide (a0.1≥a1.1)&&decide (a0.2≥a1.2)
def VC (a0:TVec) (a1:TVec):A:=.v (.bool (VA a0 a1))
def VB (_a0:TVec) (_a1:TVec):Objs:=[]
def SY (_a0:TVec) (_a1:TVec):List Prop:=[]
theorem A75 (a0:TVec) (a1:TVec):Eo (Au Bw1 L0) 9 107 [Af .vec a0,Af .vec a1] 0 []=some (1,VC a0 a1,0,VB a0 a1,SY a0 a1):=by kernel_rfl
theorem Be0 (a0:TVec) (a1:TVec) (hp:∀p∈SY a0 a1,p):CallOk Try.prog 107 [Af .vec a0,Af .vec a1] 0 [] 1 (VC a0 a1) 0 (VB a0 a1):=Ax (Ap Bhb Av) (A75 a0 a1) hp
def Alo:List A→Nat→Objs→Option AV:=A7 [.t .vec,.t .vec] 0 VC VB SY
theorem A3b:ET Try.prog 107 Alo:=Aq (ks:=[.t .vec,.t .vec]) Be0
noncomputable def B5h:=AU 107 Alo Bw1
theorem Bw2:CD Try.prog B5h:=Ak A3b Bhb
noncomputable def Cb:=B5h
theorem Brj:CD Try.prog Cb:=Bw2
end Go.Proofs.Yteebobbhhgmeiaa
namespace Go.Proofs.Yteebobbhhgmeiaa
open Go.RowKit
def In (s:TStamp):Bool:=bif s.n==0&&s.site==0 then true else decide (1≤s.n)&&decide (s.n≤281474976710656)&&(s.site==1||s.site==2)
def CM (v:TVec):Bool:=decide (0≤v.a)&&decide (v.a≤1099511627776)&&(decide (0≤v.b)&&decide (v.b≤1099511627776))
def HG (v:TVec):Bool:=v.a==0&&v.b==0
def B55 (s:TStamp):Int:=bif s.n==0 then 0 else 2*s.n+s.site - 1
def B7t (n:Int):TStamp:=if n=0 then⟨0,0⟩ else⟨n / 2,1+n % 2⟩
def Bpd (s:TStamp):List UInt8:=bif In s then OF (B55 s) else[]
def A26 (v:TVec):List UInt8:=bif CM v then OF v.a++OF v.b else[]
def Beu (t:ByteArray):List UInt8:=OF (t.size:Int)++t.data.toList
def GA (b:List UInt8):TStamp×Int×Int:=if(Ao b).2.2≠0 then(⟨0,0⟩,0,(Ao b).2.2) else if In (B7t (Ao b).1)=true then(B7t (Ao b).1,(Ao b).2.1,0) else(⟨0,0⟩,0,11)
def Gg (b:List UInt8):TVec×Int×Int:=if(Ao b).2.2≠0 then(⟨0,0⟩,0,(Ao b).2.2) else
 if(Ao (b.drop (Ao b).2.1.toNat)).2.2≠0 then(⟨0,0⟩,0,(Ao (b.drop (Ao b).2.1.toNat)).2.2) else
 if CM ⟨(Ao b).1,(Ao (b.drop (Ao b).2.1.toNat)).1⟩=true then(⟨(Ao b).1,(Ao (b.drop (Ao b).2.1.toNat)).1⟩,(Ao b).2.1+(Ao (b.drop (Ao b).2.1.toNat)).2.1,0) else(⟨0,0⟩,0,11)
def XW (b:List UInt8) (m:Int):ByteArray×Int×Int:=if(Ao b).2.2≠0 then(ByteArray.empty,0,(Ao b).2.2) else if(Ao b).1 >m then(ByteArray.empty,0,3) else
 if(b.length:Int) - (Ao b).2.1 <(Ao b).1 then(ByteArray.empty,0,10) else(⟨((b.drop (Ao b).2.1.toNat).take (Ao b).1.toNat).toArray⟩,(Ao b).2.1+(Ao b).1,0)
structure Rd {α:Type} (get:List UInt8→α×Int×Int) (good:α→Prop) (put:α→List UInt8):Prop where
 back:∀x r,good x→get (put x++r)=(x,((put x).length:Int),0)
 front:∀b x k,get b=(x,k,0)→good x∧k=((put x).length:Int)∧∃r,b=put x++r
theorem Bqx {b p:List UInt8} (h:b.take p.length=p):∃r,b=p++r:=⟨b.drop p.length,by
 conv=>lhs;rw[←List.take_append_drop p.length b,h]⟩
def okN (n:Int):Prop:=0≤n∧n≤4611686018427387903
theorem rdN:Rd Ao okN OF where
 back:=fun x r h=>by rw[B3o h.1 h.2 r,Og]
 front:=fun b x k h=>by
  obtain⟨h1,h2,h3,_,h5⟩:=B4e h
  exact⟨⟨h1,h2⟩,by rw[h3,Og],Bqx (by rw[Og];exact h5)⟩
theorem B3m {b:List UInt8} (h:(Ao b).2.2=0):∃r,okN (Ao b).1∧(Ao b).2.1=((OF (Ao b).1).length:Int)∧b=OF (Ao b).1++r:=by
 obtain⟨h1,h2,r,h3⟩:=rdN.front b (Ao b).1 (Ao b).2.1 (by rw[←h])
 exact⟨r,h1,h2,h3⟩
theorem Bze (b:List UInt8):(Ao b).2.2≠0→(Ao b).1=0∧(Ao b).2.1=0:=fun h=>by
 cases b with
 |nil=>exact⟨rfl,rfl⟩
 | cons x r=>
  rw[Aas] at h⊢
  split
  ·exact⟨rfl,rfl⟩
  ·split
   ·exact⟨rfl,rfl⟩
   ·rename_i h1 h2
    rw[if_neg h1,if_neg h2] at h
    exact absurd rfl h
theorem H3 (b:List UInt8):0≤(Ao b).2.1∧(Ao b).2.1≤(b.length:Int)∧(Ao b).2.1≤8∧0≤(Ao b).1∧(Ao b).1≤4611686018427387903:=by
 by_cases h:(Ao b).2.2=0
 ·obtain⟨r,⟨h1,h1'⟩,h2,h3⟩:=B3m h
  have hl:=congrArg List.length h3
  rw[List.length_append] at hl
  have h8:(OF (Ao b).1).length≤8:=by
   rw[Og]
   have:=(Bt7 h1 h1').1
   unfold szs at this
   omega
  exact⟨by omega,by omega,by omega,h1,h1'⟩
 ·obtain⟨h1,h2⟩:=Bze b h
  rw[h1,h2]
  omega
theorem Buw {s:TStamp}:In s=true↔(s.n=0∧s.site=0)∨(1≤s.n∧s.n≤281474976710656∧(s.site=1∨s.site=2)):=by
 unfold In
 rw[Bool.cond_eq_ite]
 split
 ·rename_i h
  simp only[Bool.and_eq_true,beq_iff_eq] at h
  exact⟨fun _=> .inl h,fun _=>rfl⟩
 ·rename_i h
  simp only[Bool.and_eq_true,beq_iff_eq] at h
  simp only[Bool.and_eq_true,Bool.or_eq_true,beq_iff_eq,decide_eq_true_eq]
  constructor
  ·intro h';exact .inr ⟨h'.1.1,h'.1.2,h'.2⟩
  ·rintro(h'|⟨h1,h2,h3⟩)
   ·exact absurd h' h
   ·exact⟨⟨h1,h2⟩,h3⟩
theorem Bux {v:TVec}:CM v=true↔0≤v.a∧v.a≤1099511627776∧0≤v.b∧v.b≤1099511627776:=by
 unfold CM
 simp only[Bool.and_eq_true,decide_eq_true_eq]
 omega
theorem Bgw {s t:TVec} (h1:s.a=t.a) (h2:s.b=t.b):s=t:=by cases s;cases t;simp_all
theorem Bib (n i:Nat):n &&& 2^i=n / 2^i % 2*2^i:=by
 rw[←Nat.toNat_testBit]
 apply Nat.eq_of_testBit_eq
 intro j
 rw[Nat.testBit_and,Nat.testBit_two_pow]
 cases hb:n.testBit i with
 |true=>
  by_cases hij:i=j
  ·subst hij;simp[hb]
  ·simp[hij]
 |false=>
  by_cases hij:i=j
  ·subst hij;simp[hb]
  ·simp[hij]
theorem Bss {n:Int} (h:okN n) (k:Nat) (m:Int) (hm:m=((2^k:Nat):Int)) (hk:k <60):(BitVec.ofInt 64 n &&& BitVec.ofInt 64 m).toNat=n.toNat / 2^k % 2*2^k:=by
 obtain⟨h0,h1⟩:=h
 have hp:2^k <2^60:=Nat.pow_lt_pow_right (by decide) hk
 have e60:(2:Nat)^60=1152921504606846976:=by decide
 rw[BitVec.toNat_and,BitVec.toNat_ofInt,BitVec.toNat_ofInt]
 have m1:(n % ((2^64:Nat):Int)).toNat=n.toNat:=by omega
 have m2:(m % ((2^64:Nat):Int)).toNat=2^k:=by
  subst hm
  generalize 2^k=q at*
  omega
 rw[m1,m2,Bib]
theorem Aiq {n:Int} (h:okN n) (k:Nat) (m:Int) (hm:m=((2^k:Nat):Int)) (hk:k <60):decide (IntKind.i64.wrap ((BitVec.ofInt 64 n &&& BitVec.ofInt 64 m).toNat:Int) >0)=(n.toNat / 2^k % 2==1):=by
 rw[Bss h k m hm hk]
 have hp:2^k <2^60:=Nat.pow_lt_pow_right (by decide) hk
 have hp0:0 <2^k:=Nat.pow_pos (by decide)
 have e60:(2:Nat)^60=1152921504606846976:=by decide
 generalize n.toNat / 2^k=x
 generalize 2^k=q at*
 rcases Nat.mod_two_eq_zero_or_one x with e|e
 ·rw[e,Nat.zero_mul]
  rfl
 ·rw[e,Nat.one_mul,i64_in (by omega)]
  have:(q:Int) >0:=by omega
  rw[decide_eq_true this]
  rfl
theorem B26 {n:Int} (h:okN n):IntKind.i64.wrap (IntKind.i64.wrap ((BitVec.ofInt 64 n &&& BitVec.ofInt 64 1).toNat:Int)+1)=1+n % 2:=by
 have e:=Bss h 0 1 rfl (by decide)
 rw[e]
 obtain⟨h0,h1⟩:=h
 have e2:n.toNat / 2^0 % 2*2^0=n.toNat % 2:=by rw[Nat.pow_zero,Nat.div_one,Nat.mul_one]
 rw[e2,i64_in (n:=((n.toNat % 2:Nat):Int)) (by omega),i64_in (by omega)]
 omega
end Go.Proofs.Yteebobbhhgmeiaa
namespace Go.Proofs.Yteebobbhhgmeiaa
open Go.RowKit
theorem Bc0 {x y:ByteArray}:(x.toList==y.toList)=true↔x=y:=by
 rw[beq_iff_eq,ByteArray.toList_eq,ByteArray.toList_eq]
 constructor
 ·intro h
  cases x;cases y
  simpa using h
 ·rintro rfl;rfl
theorem Bto {x:ByteArray}:(x.toList==(ByteArray.mk #[]).toList)=true↔x.size=0:=by
 rw[Bc0]
 constructor
 ·rintro rfl;rfl
 ·intro h
  cases x with|mk d=>
  have:d.size=0:=h
  rw[Array.eq_empty_of_size_eq_zero this]
theorem SQ (x:ByteArray):(x.toList==(ByteArray.mk #[]).toList)=(x.size==0):=by
 rw[Bool.eq_iff_iff,Bto,beq_iff_eq]
theorem B9v {x:ByteArray} (h:x.size=0):x=ByteArray.mk #[]:=Bc0.1 (Bto.2 h)
def BY (c:TCell):Bool:=!(c.stamp.n==0&&c.stamp.site==0&&(c.vec.a==0&&c.vec.b==0)&&(!c.gone&&c.value.size==0))
def Bw (p:Int) (c:TCell):Bool:=
 bif p==1&&!HG c.dead||(p==2&&(c.gone||!CM c.dead)||!(p==1||p==2)) then false else
 bif !BY c then true else In c.stamp&&decide (0 <c.stamp.n)&&CM c.vec&&decide ((c.value.size:Int)≤64)&&!(c.gone&&!(c.value.size==0))
def PR (c:TCell):Int:=(bif BY c then 1 else 0)+(bif c.gone then 2 else 0)+(bif HG c.dead then 0 else 4)
def Byl (c:TCell):List UInt8:=(bif BY c then Bpd c.stamp++A26 c.vec++(bif c.gone then[] else Beu c.value) else[])++(bif HG c.dead then[] else A26 c.dead)
def Bk3 (p:Int) (c:TCell):List UInt8:=bif Bw p c then OF (PR c)++Byl c else[]
def zeroC:TCell:=⟨⟨0,0⟩,⟨0,0⟩,false,ByteArray.mk #[],⟨0,0⟩⟩
theorem Bbv {v:TVec}:HG v=true↔v=⟨0,0⟩:=by
 unfold HG
 simp only[Bool.and_eq_true,beq_iff_eq]
 constructor
 ·intro h;exact Bgw h.1 h.2
 ·rintro rfl;exact⟨rfl,rfl⟩
structure B80 (p:Int) (c:TCell):Prop where
 pol:p=1∨p=2
 dead:CM c.dead=true
 last:p=1→HG c.dead=true
 del:p=2→c.gone=false
 st:BY c=true→In c.stamp=true∧0 <c.stamp.n∧CM c.vec=true∧(c.value.size:Int)≤64∧(c.gone=true→c.value.size=0)
theorem Bab {p:Int} {c:TCell}:Bw p c=true↔B80 p c:=by
 unfold Bw
 rw[Bool.cond_eq_ite]
 split
 ·rename_i h
  refine⟨fun h=>(by cases h),fun g=>?_⟩
  exfalso
  simp only[Bool.or_eq_true,Bool.and_eq_true,beq_iff_eq,Bool.not_eq_true'] at h
  rcases h with⟨h1,h2⟩|⟨h1,h2⟩|h1
  ·rw[g.last h1] at h2;cases h2
  ·rcases h2 with h2|h2
   ·rw[g.del h1] at h2;cases h2
   ·rw[g.dead] at h2;cases h2
  ·rcases g.pol with h|h
   ·rw[h] at h1;cases h1
   ·rw[h] at h1;cases h1
 ·rename_i h
  have hh:=Bool.eq_false_iff.2 h
  simp only[Bool.or_eq_false_iff] at hh
  obtain⟨h1,h2,h3⟩:=hh
  have hp:p=1∨p=2:=by
   have:(p==1||p==2)=true:=by
    cases hq:(p==1||p==2) with
    |true=>rfl
    |false=>rw[hq] at h3;cases h3
   simpa using this
  have base:CM c.dead=true∧(p=1→HG c.dead=true)∧(p=2→c.gone=false):=by
   rcases hp with rfl|rfl
   ·have hz:HG c.dead=true:=by
     cases hz:HG c.dead with
     |true=>rfl
     |false=>rw[hz] at h1;cases h1
    refine⟨by rw[Bbv.1 hz];rfl,fun _=>hz,fun h=>by cases h⟩
   ·have:c.gone=false∧CM c.dead=true:=by
     cases hg:c.gone with
     |true=>rw[hg] at h2;cases h2
     |false=>
      cases hv:CM c.dead with
      |true=>exact⟨rfl,rfl⟩
      |false=>rw[hg,hv] at h2;cases h2
    exact⟨this.2,fun h=>(by cases h),fun _=>this.1⟩
  cases hw:BY c with
  |false=>exact⟨fun _=>⟨hp,base.1,base.2.1,base.2.2,fun h=>by rw[hw] at h;cases h⟩,fun _=>rfl⟩
  | true=>
   rw[Bool.not_true,cond_false]
   simp only[Bool.and_eq_true,decide_eq_true_eq,Bool.not_eq_true',Bool.and_eq_false_iff,Bool.not_eq_false',beq_iff_eq]
   constructor
   ·rintro⟨⟨⟨⟨g1,g2⟩,g3⟩,g4⟩,g5⟩
    refine⟨hp,base.1,base.2.1,base.2.2,fun _=>⟨g1,g2,g3,g4,fun hg=>?_⟩⟩
    rcases g5 with g5|g5
    ·rw[g5] at hg;cases hg
    ·exact g5
   ·intro g
    obtain⟨g1,g2,g3,g4,g5⟩:=g.st hw
    refine⟨⟨⟨⟨g1,g2⟩,g3⟩,g4⟩,?_⟩
    cases hg:c.gone with
    |false=>exact .inl rfl
    |true=>exact .inr (g5 hg)
theorem Bjn (c:TCell):okN (PR c)∧PR c≤7∧((PR c).toNat / 2^0 % 2==1)=BY c∧((PR c).toNat / 2^1 % 2==1)=c.gone∧((PR c).toNat / 2^2 % 2==1)=!HG c.dead:=by
 unfold PR okN
 cases BY c<;>cases c.gone<;>cases HG c.dead<;>decide
def GR (n:Int) (k:Nat):Bool:=n.toNat / 2^k % 2==1
def stA (b:List UInt8):Bool×TCell×Int:=
 bif(Ao b).2.2==0&&GR (Ao b).1 0 then
  (bif !GR (Ao b).1 1 then
   ((Ao b).2.2==0&&(GA (b.drop (Ao b).2.1.toNat)).2.2==0&&(Gg (b.drop ((Ao b).2.1+(GA (b.drop (Ao b).2.1.toNat)).2.1).toNat)).2.2==0&&(XW (b.drop ((Ao b).2.1+(GA (b.drop (Ao b).2.1.toNat)).2.1+(Gg (b.drop ((Ao b).2.1+(GA (b.drop (Ao b).2.1.toNat)).2.1).toNat)).2.1).toNat) 64).2.2==0,
    ⟨(GA (b.drop (Ao b).2.1.toNat)).1,(Gg (b.drop ((Ao b).2.1+(GA (b.drop (Ao b).2.1.toNat)).2.1).toNat)).1,GR (Ao b).1 1,(XW (b.drop ((Ao b).2.1+(GA (b.drop (Ao b).2.1.toNat)).2.1+(Gg (b.drop ((Ao b).2.1+(GA (b.drop (Ao b).2.1.toNat)).2.1).toNat)).2.1).toNat) 64).1,⟨0,0⟩⟩,
    (Ao b).2.1+(GA (b.drop (Ao b).2.1.toNat)).2.1+(Gg (b.drop ((Ao b).2.1+(GA (b.drop (Ao b).2.1.toNat)).2.1).toNat)).2.1+(XW (b.drop ((Ao b).2.1+(GA (b.drop (Ao b).2.1.toNat)).2.1+(Gg (b.drop ((Ao b).2.1+(GA (b.drop (Ao b).2.1.toNat)).2.1).toNat)).2.1).toNat) 64).2.1)
  else
   ((Ao b).2.2==0&&(GA (b.drop (Ao b).2.1.toNat)).2.2==0&&(Gg (b.drop ((Ao b).2.1+(GA (b.drop (Ao b).2.1.toNat)).2.1).toNat)).2.2==0,
    ⟨(GA (b.drop (Ao b).2.1.toNat)).1,(Gg (b.drop ((Ao b).2.1+(GA (b.drop (Ao b).2.1.toNat)).2.1).toNat)).1,GR (Ao b).1 1,ByteArray.mk #[],⟨0,0⟩⟩,
    (Ao b).2.1+(GA (b.drop (Ao b).2.1.toNat)).2.1+(Gg (b.drop ((Ao b).2.1+(GA (b.drop (Ao b).2.1.toNat)).2.1).toNat)).2.1))
 else((Ao b).2.2==0,zeroC,(Ao b).2.1)
def stB (b:List UInt8):Bool×TCell×Int:=
 bif(stA b).1&&GR (Ao b).1 2 then((stA b).1&&(Gg (b.drop (stA b).2.2.toNat)).2.2==0,{(stA b).2.1 with dead:=(Gg (b.drop (stA b).2.2.toNat)).1},(stA b).2.2+(Gg (b.drop (stA b).2.2.toNat)).2.1)
 else stA b
def Bf2 (n:Int) (c:TCell):Bool:=decide (n≤7)&&GR n 0==BY c&&GR n 1==c.gone&&GR n 2==!HG c.dead
def Avw (b:List UInt8) (p:Int):TCell×Int×Int:=
 bif !(stB b).1||!Bf2 (Ao b).1 (stB b).2.1||!Bw p (stB b).2.1 then(zeroC,0,80) else((stB b).2.1,(stB b).2.2,0)
end Go.Proofs.Yteebobbhhgmeiaa
namespace Go.Proofs.Yteebobbhhgmeiaa
open Go.RowKit
theorem A6h (n:Int):NS n=(n==1||n==2):=by
 unfold NS Q1
 cases n==1<;>cases n==2<;>rfl
theorem K6 (s:TStamp):Cm s=In s:=by
 unfold Cm In
 rw[A6h]
 rfl
theorem Xe (x:Int):(K7 x 0==x)=(decide (0≤x)&&decide (x≤1099511627776)):=by
 unfold K7
 rw[Bool.eq_iff_iff]
 simp only[beq_iff_eq,Bool.and_eq_true,decide_eq_true_eq]
 omega
theorem LO (v:TVec):BV v=CM v:=by
 unfold BV CM
 rw[Xe,Xe]
theorem Zb (n:Int):(OF n).length≤8:=by
 rw[Og]
 rcases Ani n with h|⟨_,_,h⟩
 ·omega
 ·unfold szs at h;omega
theorem B0v (s:TStamp):(Bpd s).length≤8:=by
 unfold Bpd
 cases In s with
 |true=>exact Zb _
 |false=>exact Nat.zero_le _
theorem Bev (v:TVec):(A26 v).length≤16:=by
 unfold A26
 cases CM v with
 |true=>
  rw[cond_true,List.length_append]
  have h1:=Zb v.a
  have h2:=Zb v.b
  omega
 |false=>exact Nat.zero_le _
theorem Bpe (t:ByteArray):(Beu t).length≤8+t.size:=by
 unfold Beu
 rw[List.length_append]
 have h1:=Zb (t.size:Int)
 have hs:t.data.toList.length=t.size:=Array.length_toList
 omega
def JZ (_a0:Int) (_a1:TStamp) (_a2:TVec) (_a3:Bool) (a4:ByteArray):Bool:=decide ((↑a4.size:Int) >(64:Int))
def Jd (a0:Int) (a1:TStamp) (a2:TVec) (a3:Bool) (a4:ByteArray):Bool:=bif a0 !=(1:Int)&&a0 !=(2:Int) then a0 !=(1:Int)&&a0 !=(2:Int) else bif a1.1==(0:Int)&&a1.2==(0:Int) then a1.1==(0:Int)&&a1.2==(0:Int) else bif !Cm a1 then !Cm a1 else bif !BV a2 then !BV a2 else a3&&!a4.toList==(ByteArray.mk #[]).toList
def Hl (a0:Int) (a1:TStamp) (a2:TVec) (a3:Bool) (a4:ByteArray):Bool:=(Jd a0 a1 a2 a3 a4)||((JZ a0 a1 a2 a3 a4)||a3&&a0==(2:Int))
def MX (a0:Int) (a1:TStamp) (a2:TVec) (a3:Bool) (a4:ByteArray):Int:=bif(Jd a0 a1 a2 a3 a4) then(0:Int) else bif(JZ a0 a1 a2 a3 a4) then(0:Int) else(0:Int)
def Iv (a0:Int) (a1:TStamp) (a2:TVec) (a3:Bool) (a4:ByteArray):TCell:=TCell.mk (TStamp.mk (bif(Hl a0 a1 a2 a3 a4) then(MX a0 a1 a2 a3 a4) else a1.1) (bif(Hl a0 a1 a2 a3 a4) then(MX a0 a1 a2 a3 a4) else a1.2)) (TVec.mk (bif(Hl a0 a1 a2 a3 a4) then(MX a0 a1 a2 a3 a4) else a2.1) (bif(Hl a0 a1 a2 a3 a4) then(MX a0 a1 a2 a3 a4) else a2.2)) (bif(Hl a0 a1 a2 a3 a4) then bif(Jd a0 a1 a2 a3 a4) then false else bif(JZ a0 a1 a2 a3 a4) then false else false else a3) (bif(Hl a0 a1 a2 a3 a4) then bif(Jd a0 a1 a2 a3 a4) then ByteArray.mk #[] else bif(JZ a0 a1 a2 a3 a4) then ByteArray.mk #[] else ByteArray.mk #[] else a4) (TVec.mk (bif(Hl a0 a1 a2 a3 a4) then bif(Jd a0 a1 a2 a3 a4) then(0:Int) else bif(JZ a0 a1 a2 a3 a4) then(0:Int) else a2.1 else(0:Int)) (bif(Hl a0 a1 a2 a3 a4) then bif(Jd a0 a1 a2 a3 a4) then(0:Int) else bif(JZ a0 a1 a2 a3 a4) then(0:Int) else a2.2 else(0:Int)))
def Bul (a0:Int) (a1:TStamp) (a2:TVec) (a3:Bool) (a4:ByteArray):Int:=bif(Hl a0 a1 a2 a3 a4) then bif(Jd a0 a1 a2 a3 a4) then(2:Int) else bif(JZ a0 a1 a2 a3 a4) then(3:Int) else(0:Int) else(0:Int)
def Ant (a0:Int) (a1:TStamp) (a2:TVec) (a3:Bool) (a4:ByteArray):A:=.v (.tuple ⟨[.agg ⟨[.int .i64 ((Iv a0 a1 a2 a3 a4).stamp.n),.int .i64 ((Iv a0 a1 a2 a3 a4).stamp.site),.int .i64 ((Iv a0 a1 a2 a3 a4).vec.a),.int .i64 ((Iv a0 a1 a2 a3 a4).vec.b),.bool ((Iv a0 a1 a2 a3 a4).gone),.string ((Iv a0 a1 a2 a3 a4).value),.int .i64 ((Iv a0 a1 a2 a3 a4).dead.a),.int .i64 ((Iv a0 a1 a2 a3 a4).dead.b)]⟩,.int .i64 (Bul a0 a1 a2 a3 a4)]⟩)
def Ans (_a0:Int) (_a1:TStamp) (_a2:TVec) (_a3:Bool) (_a4:ByteArray):Objs:=[]
def Ae6 (_a0:Int) (_a1:TStamp) (_a2:TVec) (_a3:Bool) (_a4:ByteArray):List Prop:=[]
theorem Bob (a0:Int) (a1:TStamp) (a2:TVec) (a3:Bool) (a4:ByteArray):Eo (Au Cb L0) 9 36 [Af .i64 a0,Af .stamp a1,Af .vec a2,Af .bool a3,Af .str a4] 0 []=some (1,Ant a0 a1 a2 a3 a4,0,Ans a0 a1 a2 a3 a4,Ae6 a0 a1 a2 a3 a4):=by kernel_rfl
theorem Bum (a0:Int) (a1:TStamp) (a2:TVec) (a3:Bool) (a4:ByteArray) (hp:∀p∈Ae6 a0 a1 a2 a3 a4,p):CallOk Try.prog 36 [Af .i64 a0,Af .stamp a1,Af .vec a2,Af .bool a3,Af .str a4] 0 [] 1 (Ant a0 a1 a2 a3 a4) 0 (Ans a0 a1 a2 a3 a4):=Ax (Ap Brj Av) (Bob a0 a1 a2 a3 a4) hp
def Anu:List A→Nat→Objs→Option AV:=A7 [.t .i64,.t .stamp,.t .vec,.t .bool,.t .str] 0 Ant Ans Ae6
theorem Arx:ET Try.prog 36 Anu:=Aq (ks:=[.t .i64,.t .stamp,.t .vec,.t .bool,.t .str]) Bum
noncomputable def B6q:=AU 36 Anu Cb
theorem Brl:CD Try.prog B6q:=Ak Arx Brj
def FH (a0:TCell):Bool:=!(a0.1.1==(0:Int)&&a0.1.2==(0:Int)&&(a0.2.1==(0:Int)&&a0.2.2==(0:Int)&&(a0.3==false&&(a0.4.toList==(ByteArray.mk #[]).toList&&true))))
def PF (a0:TCell):A:=.v (.bool (FH a0))
def PE (_a0:TCell):Objs:=[]
def Oo (_a0:TCell):List Prop:=[]
theorem Avp (a0:TCell):Eo (Au B6q L0) 9 105 [Af .cell a0] 0 []=some (1,PF a0,0,PE a0,Oo a0):=by kernel_rfl
theorem Az1 (a0:TCell) (hp:∀p∈Oo a0,p):CallOk Try.prog 105 [Af .cell a0] 0 [] 1 (PF a0) 0 (PE a0):=Ax (Ap Brl Av) (Avp a0) hp
def XB:List A→Nat→Objs→Option AV:=A7 [.t .cell] 0 PF PE Oo
theorem Anv:ET Try.prog 105 XB:=Aq (ks:=[.t .cell]) Az1
noncomputable def B6r:=AU 105 XB B6q
theorem Brm:CD Try.prog B6r:=Ak Anv Brl
def A1 (a0:Int) (a1:TCell):Bool:=bif bif a0==(1:Int) then !(a1.5.1==(0:Int)&&a1.5.2==(0:Int)) else !a0==(2:Int)||(a1.3||!BV a1.5) then bif a0==(1:Int) then false else bif a0==(2:Int) then false else false else bif !FH a1 then true else decide (a1.1.1 >(0:Int))&&Cm a1.1&&BV a1.2&&decide ((↑a1.4.size:Int)≤(64:Int))&&!(a1.3&&!a1.4.toList==(ByteArray.mk #[]).toList)
def Xy (a0:Int) (a1:TCell):A:=.v (.bool (A1 a0 a1))
def Xx (_a0:Int) (_a1:TCell):Objs:=[]
def UV (_a0:Int) (_a1:TCell):List Prop:=[]
theorem Bcm (a0:Int) (a1:TCell):Eo (Au B6r L0) 9 38 [Af .i64 a0,Af .cell a1] 0 []=some (1,Xy a0 a1,0,Xx a0 a1,UV a0 a1):=by kernel_rfl
theorem Arv (a0:Int) (a1:TCell) (hp:∀p∈UV a0 a1,p):CallOk Try.prog 38 [Af .i64 a0,Af .cell a1] 0 [] 1 (Xy a0 a1) 0 (Xx a0 a1):=Ax (Ap Brm Av) (Bcm a0 a1) hp
def Arw:List A→Nat→Objs→Option AV:=A7 [.t .i64,.t .cell] 0 Xy Xx UV
theorem A6y:ET Try.prog 38 Arw:=Aq (ks:=[.t .i64,.t .cell]) Arv
noncomputable def B6s:=AU 38 Arw B6r
theorem Brn:CD Try.prog B6s:=Ak A6y Brm
def Pe (a0:Int) (a1:TCell):Bool:=!A1 a0 a1||!FH a1||a1.3||!KS a1.2 a1.5
def NV (a0:Int) (a1:TCell):ByteArray:=bif(Pe a0 a1) then ByteArray.mk #[] else a1.4
def HZ (a0:Int) (a1:TCell):Bool:=bif(Pe a0 a1) then false else true
def XA (a0:Int) (a1:TCell):A:=.v (.tuple ⟨[.string (NV a0 a1),.bool (HZ a0 a1)]⟩)
def Xz (_a0:Int) (_a1:TCell):Objs:=[]
def UZ (_a0:Int) (_a1:TCell):List Prop:=[]
theorem Bcp (a0:Int) (a1:TCell):Eo (Au B6s L0) 9 40 [Af .i64 a0,Af .cell a1] 0 []=some (1,XA a0 a1,0,Xz a0 a1,UZ a0 a1):=by kernel_rfl
theorem Biw (a0:Int) (a1:TCell) (hp:∀p∈UZ a0 a1,p):CallOk Try.prog 40 [Af .i64 a0,Af .cell a1] 0 [] 1 (XA a0 a1) 0 (Xz a0 a1):=Ax (Ap Brn Av) (Bcp a0 a1) hp
def Ar2:List A→Nat→Objs→Option AV:=A7 [.t .i64,.t .cell] 0 XA Xz UZ
theorem A60:ET Try.prog 40 Ar2:=Aq (ks:=[.t .i64,.t .cell]) Biw
noncomputable def B6t:=AU 40 Ar2 B6s
theorem Bro:CD Try.prog B6t:=Ak A60 Brn
theorem K9 (c:TCell):FH c=BY c:=by
 unfold FH BY
 have hg:(c.3==false)=!c.gone:=by show(c.gone==false)=!c.gone;cases c.gone<;>rfl
 rw[SQ,Bool.and_true,hg]
 simp only[Bool.and_assoc]
theorem Jc (p:Int) (c:TCell):A1 p c=Bw p c:=by
 unfold A1 Bw HG
 rw[K9,LO,LO,K6,SQ]
 have hw:(bif !BY c then true else decide (c.1.1 >(0:Int))&&In c.1&&CM c.2&&decide (((c.4.size:Nat):Int)≤(64:Int))&&!(c.3&&!c.4.size==0))=bif !BY c then true else In c.stamp&&decide (0 <c.stamp.n)&&CM c.vec&&decide ((c.value.size:Int)≤64)&&!(c.gone&&!(c.value.size==0)):=by
  rw[Bool.and_comm (decide (c.1.1 >(0:Int)))]
 rw[hw]
 generalize (bif !BY c then true else In c.stamp&&decide (0 <c.stamp.n)&&CM c.vec&&decide ((c.value.size:Int)≤64)&&!(c.gone&&!(c.value.size==0)))=X
 by_cases h1:p=1
 ·subst h1
  show(bif !(c.5.1==(0:Int)&&c.5.2==(0:Int)) then false else X)=bif !(c.5.1==(0:Int)&&c.5.2==(0:Int))||false then false else X
  rw[Bool.or_false]
 ·have e1:(p==1)=false:=by simpa using h1
  rw[e1]
  by_cases h2:p=2
  ·subst h2
   show(bif c.3||!CM c.5 then false else X)=bif(c.3||!CM c.5)||false then false else X
   rw[Bool.or_false]
  ·have e2:(p==2)=false:=by simpa using h2
   rw[e2]
   rfl
def Aag (a0:List UInt8) (a1:TStamp):List UInt8:=a0++OF (bif a1.1==(0:Int)&&a1.2==(0:Int) then(0:Int) else bif Cm a1 then IntKind.i64.wrap (IntKind.i64.wrap (IntKind.i64.wrap (a1.1*(2:Int))+a1.2) - (1:Int)) else(-1:Int))
def Avg (_a0:List UInt8) (_a1:TStamp):A:=.sq 0
def Sd (a0:List UInt8) (a1:TStamp):Objs:=[(0,some (.arr 5 1 (.ty .u8 (Aag a0 a1))))]
def Anf (a0:List UInt8) (_a1:TStamp):List Prop:=[(Ag (a0.length+(8:Nat)))]
theorem Bgr (a0:List UInt8) (a1:TStamp):Eo (Au B6t L0) 9 121 [Af .bytes a0,Af .stamp a1] 0 []=some (1,Avg a0 a1,1,Sd a0 a1,Anf a0 a1):=by kernel_rfl
theorem Bnc (a0:List UInt8) (a1:TStamp) (hp:∀p∈Anf a0 a1,p):CallOk Try.prog 121 [Af .bytes a0,Af .stamp a1] 0 [] 1 (Avg a0 a1) 1 (Sd a0 a1):=Ax (Ap Bro Av) (Bgr a0 a1) hp
def Ang (_a0:List UInt8) (_a1:TStamp):A:=.sq 0
def Pt (a0:List UInt8) (a1:TStamp):Objs:=[(0,some (.arr 5 1 (.ty .u8 (a0++Bpd a1))))]
def Aeu (a0:List UInt8) (_a1:TStamp):List Prop:=[Ag (a0.length+8)]
theorem Bgq (a0:List UInt8) (a1:TStamp):Aag a0 a1=a0++Bpd a1:=by
 unfold Aag Bpd B55
 rw[K6]
 congr 1
 cases hg:In a1 with
 | false=>
  have hz:(a1.1==(0:Int)&&a1.2==(0:Int))=false:=by
   rw[Bool.eq_false_iff]
   intro h
   unfold In at hg
   rw[h] at hg
   cases hg
  rw[hz]
  rfl
 | true=>
  have h':=Buw.1 hg
  rw[cond_true,cond_true]
  congr 1
  by_cases h0:a1.n=0
  ·have hz:(a1.1==(0:Int)&&a1.2==(0:Int))=true:=by
    rcases h' with⟨h1,h2⟩|h1
    ·rw[h1,h2];rfl
    ·omega
   have e:(a1.n==0)=true:=by simpa using h0
   rw[hz,e]
   rfl
  ·have hz:(a1.1==(0:Int)&&a1.2==(0:Int))=false:=by
    have:(a1.1==(0:Int))=false:=by simpa using h0
    rw[this];rfl
   have e:(a1.n==0)=false:=by simpa using h0
   rw[hz,e,cond_false,cond_false,i64_in (n:=a1.1*2) (by omega),i64_in (n:=a1.1*2+a1.2) (by omega),i64_in (by omega)]
   omega
theorem Bgp (a0:List UInt8) (a1:TStamp) (hp:∀p∈Aeu a0 a1,p):CallOk Try.prog 121 [Af .bytes a0,Af .stamp a1] 0 [] 1 (Ang a0 a1) 1 (Pt a0 a1):=by
 have h:=Bnc a0 a1 (Aa (hp _ (List.mem_cons_self ..)) Ad)
 have ho:Sd a0 a1=Pt a0 a1:=by unfold Sd Pt;rw[Bgq]
 rw[ho] at h
 exact h
def Avh:List A→Nat→Objs→Option AV:=A7 [.t .bytes,.t .stamp] 1 Ang Pt Aeu
theorem A9f:ET Try.prog 121 Avh:=Aq (ks:=[.t .bytes,.t .stamp]) Bgp
noncomputable def B6u:=AU 121 Avh B6t
theorem Brp:CD Try.prog B6u:=Ak A9f Bro
def V4 (a0:List UInt8) (a1:TVec):List UInt8:=a0++OF a1.1
def Arn (a0:List UInt8) (a1:TVec):List UInt8:=bif !BV a1 then[]++a0 else(V4 a0 a1)++OF a1.2
def Bbs (_a0:List UInt8) (_a1:TVec):A:=.sq 0
def Abc (a0:List UInt8) (a1:TVec):Objs:=[(0,some (.arr 5 1 (.ty .u8 (Arn a0 a1))))]
def A6v (a0:List UInt8) (a1:TVec):List Prop:=[((!BV a1)=true→Ag ((0:Nat)+a0.length)),((!!BV a1)=true→Ag (a0.length+(8:Nat))),((!!BV a1)=true→Ag ((V4 a0 a1).length+(8:Nat)))]
theorem Bq7 (a0:List UInt8) (a1:TVec):Eo (Au B6u L0) 9 120 [Af .bytes a0,Af .vec a1] 0 []=some (1,Bbs a0 a1,1,Abc a0 a1,A6v a0 a1):=by kernel_rfl
theorem Bwi (a0:List UInt8) (a1:TVec) (hp:∀p∈A6v a0 a1,p):CallOk Try.prog 120 [Af .bytes a0,Af .vec a1] 0 [] 1 (Bbs a0 a1) 1 (Abc a0 a1):=Ax (Ap Brp Av) (Bq7 a0 a1) hp
def A6w (_a0:List UInt8) (_a1:TVec):A:=.sq 0
def V5 (a0:List UInt8) (a1:TVec):Objs:=[(0,some (.arr 5 1 (.ty .u8 (a0++A26 a1))))]
def Avn (a0:List UInt8) (_a1:TVec):List Prop:=[Ag (a0.length+16)]
theorem Bq6 (a0:List UInt8) (a1:TVec):Arn a0 a1=a0++A26 a1:=by
 unfold Arn V4 A26
 rw[LO]
 cases CM a1 with
 |false=>exact(List.append_nil a0).symm
 |true=>exact List.append_assoc ..
theorem Bq5 (a0:List UInt8) (a1:TVec) (hp:∀p∈Avn a0 a1,p):CallOk Try.prog 120 [Af .bytes a0,Af .vec a1] 0 [] 1 (A6w a0 a1) 1 (V5 a0 a1):=by
 have hb:Ag (a0.length+16):=hp _ (List.mem_cons_self ..)
 have h:=Bwi a0 a1 (Aa (fun _=>by unfold Ag at*;omega) (Aa (fun _=>by unfold Ag at*;omega) (Aa (fun _=>by
  have:=Zb a1.1
  unfold V4 Ag at*
  rw[List.length_append]
  omega) Ad)))
 have ho:Abc a0 a1=V5 a0 a1:=by unfold Abc V5;rw[Bq6]
 rw[ho] at h
 exact h
def Bbt:List A→Nat→Objs→Option AV:=A7 [.t .bytes,.t .vec] 1 A6w V5 Avn
theorem Bnl:ET Try.prog 120 Bbt:=Aq (ks:=[.t .bytes,.t .vec]) Bq5
noncomputable def B6v:=AU 120 Bbt B6u
theorem Brq:CD Try.prog B6v:=Ak Bnl Brp
def MD (a0:List UInt8) (a1:ByteArray):List UInt8:=a0++OF (↑a1.size:Int)
def Ac9 (a0:List UInt8) (a1:ByteArray):List UInt8:=(MD a0 a1)++a1.data.toList
def Ada (_a0:List UInt8) (_a1:ByteArray):A:=.sq 0
def NA (a0:List UInt8) (a1:ByteArray):Objs:=[(0,some (.arr 5 1 (.ty .u8 (Ac9 a0 a1))))]
def YS (a0:List UInt8) (a1:ByteArray):List Prop:=[(Ag (a0.length+(8:Nat))),(Ag ((MD a0 a1).length+a1.data.toList.length))]
theorem A2l (a0:List UInt8) (a1:ByteArray):Eo (Au B6v L0) 9 122 [Af .bytes a0,Af .str a1] 0 []=some (1,Ada a0 a1,1,NA a0 a1,YS a0 a1):=by kernel_rfl
theorem A70 (a0:List UInt8) (a1:ByteArray) (hp:∀p∈YS a0 a1,p):CallOk Try.prog 122 [Af .bytes a0,Af .str a1] 0 [] 1 (Ada a0 a1) 1 (NA a0 a1):=Ax (Ap Brq Av) (A2l a0 a1) hp
def YT (_a0:List UInt8) (_a1:ByteArray):A:=.sq 0
def ME (a0:List UInt8) (a1:ByteArray):Objs:=[(0,some (.arr 5 1 (.ty .u8 (a0++Beu a1))))]
def Wx (a0:List UInt8) (a1:ByteArray):List Prop:=[Ag (a0.length+8+a1.size)]
theorem YR (a0:List UInt8) (a1:ByteArray) (hp:∀p∈Wx a0 a1,p):CallOk Try.prog 122 [Af .bytes a0,Af .str a1] 0 [] 1 (YT a0 a1) 1 (ME a0 a1):=by
 have hb:Ag (a0.length+8+a1.size):=hp _ (List.mem_cons_self ..)
 have h:=A70 a0 a1 (Aa (by unfold Ag at*;omega) (Aa (by
  have:=Zb (a1.size:Int)
  have hs:a1.data.toList.length=a1.size:=Array.length_toList
  unfold MD Ag at*
  rw[List.length_append,hs]
  omega) Ad))
 have ho:NA a0 a1=ME a0 a1:=by unfold NA ME Ac9 MD Beu;rw[List.append_assoc]
 rw[ho] at h
 exact h
def Adb:List A→Nat→Objs→Option AV:=A7 [.t .bytes,.t .str] 1 YT ME Wx
theorem Awq:ET Try.prog 122 Adb:=Aq (ks:=[.t .bytes,.t .str]) YR
noncomputable def B6w:=AU 122 Adb B6v
theorem Brr:CD Try.prog B6w:=Ak Awq Brq
def D2 (_a0:List UInt8) (_a1:Int) (a2:TCell):Int:=bif a2.3 then IntKind.i64.wrap (↑(BitVec.ofInt (64:Nat) (bif FH a2 then(1:Int) else(0:Int)) ||| BitVec.ofInt (64:Nat) (2:Int)).toNat:Int) else bif FH a2 then(1:Int) else(0:Int)
def J0 (a0:List UInt8) (a1:Int) (a2:TCell):List UInt8:=a0++OF (bif !(a2.5.1==(0:Int)&&a2.5.2==(0:Int)) then IntKind.i64.wrap (↑(BitVec.ofInt (64:Nat) (D2 a0 a1 a2) ||| BitVec.ofInt (64:Nat) (4:Int)).toNat:Int) else(D2 a0 a1 a2))++Bpd a2.1
def GM (a0:List UInt8) (a1:Int) (a2:TCell):Bool:=decide (IntKind.i64.wrap (↑(BitVec.ofInt (64:Nat) (bif !(a2.5.1==(0:Int)&&a2.5.2==(0:Int)) then IntKind.i64.wrap (↑(BitVec.ofInt (64:Nat) (D2 a0 a1 a2) ||| BitVec.ofInt (64:Nat) (4:Int)).toNat:Int) else(D2 a0 a1 a2)) &&& BitVec.ofInt (64:Nat) (1:Int)).toNat:Int) >(0:Int))
def Rh (a0:List UInt8) (a1:Int) (a2:TCell):Bool:=decide (IntKind.i64.wrap (↑(BitVec.ofInt (64:Nat) (bif !(a2.5.1==(0:Int)&&a2.5.2==(0:Int)) then IntKind.i64.wrap (↑(BitVec.ofInt (64:Nat) (D2 a0 a1 a2) ||| BitVec.ofInt (64:Nat) (4:Int)).toNat:Int) else(D2 a0 a1 a2)) &&& BitVec.ofInt (64:Nat) (4:Int)).toNat:Int) >(0:Int))
def LF (a0:List UInt8) (a1:Int) (a2:TCell):List UInt8:=bif(GM a0 a1 a2) then bif !a2.3 then(J0 a0 a1 a2)++A26 a2.2++Beu a2.4 else(J0 a0 a1 a2)++A26 a2.2 else a0++OF (bif !(a2.5.1==(0:Int)&&a2.5.2==(0:Int)) then IntKind.i64.wrap (↑(BitVec.ofInt (64:Nat) (D2 a0 a1 a2) ||| BitVec.ofInt (64:Nat) (4:Int)).toNat:Int) else(D2 a0 a1 a2))
def Ae7 (a0:List UInt8) (a1:Int) (a2:TCell):List UInt8:=bif !A1 a1 a2 then[]++a0 else bif(Rh a0 a1 a2) then(LF a0 a1 a2)++A26 (TVec.mk (bif(GM a0 a1 a2) then bif !a2.3 then a2.5.1 else a2.5.1 else a2.5.1) (bif(GM a0 a1 a2) then bif !a2.3 then a2.5.2 else a2.5.2 else a2.5.2)) else(LF a0 a1 a2)
def Azz (_a0:List UInt8) (_a1:Int) (_a2:TCell):A:=.sq 0
def UY (a0:List UInt8) (a1:Int) (a2:TCell):Objs:=[(0,some (.arr 5 1 (.ty .u8 (Ae7 a0 a1 a2))))]
def Ar0 (a0:List UInt8) (a1:Int) (a2:TCell):List Prop:=[((!A1 a1 a2)=true→Ag ((0:Nat)+a0.length)),((!!A1 a1 a2)=true→Ag (a0.length+(8:Nat))),((!!A1 a1 a2)=true→(GM a0 a1 a2)=true→Ag ((a0++OF (bif !(a2.5.1==(0:Int)&&a2.5.2==(0:Int)) then IntKind.i64.wrap (↑(BitVec.ofInt (64:Nat) (D2 a0 a1 a2) ||| BitVec.ofInt (64:Nat) (4:Int)).toNat:Int) else(D2 a0 a1 a2))).length+(8:Nat))),((!!A1 a1 a2)=true→(GM a0 a1 a2)=true→Ag ((J0 a0 a1 a2).length+(16:Nat))),((!!A1 a1 a2)=true→(GM a0 a1 a2)=true→(!a2.3)=true→Ag (((J0 a0 a1 a2)++A26 a2.2).length+(8:Nat)+a2.4.size)),((!!A1 a1 a2)=true→(Rh a0 a1 a2)=true→Ag ((LF a0 a1 a2).length+(16:Nat)))]
theorem Biv (a0:List UInt8) (a1:Int) (a2:TCell):Eo (Au B6w L0) 9 56 [Af .bytes a0,Af .i64 a1,Af .cell a2] 0 []=some (1,Azz a0 a1 a2,1,UY a0 a1 a2,Ar0 a0 a1 a2):=by kernel_rfl
theorem Boc (a0:List UInt8) (a1:Int) (a2:TCell) (hp:∀p∈Ar0 a0 a1 a2,p):CallOk Try.prog 56 [Af .bytes a0,Af .i64 a1,Af .cell a2] 0 [] 1 (Azz a0 a1 a2) 1 (UY a0 a1 a2):=Ax (Ap Brr Av) (Biv a0 a1 a2) hp
def Ar1 (_a0:List UInt8) (_a1:Int) (_a2:TCell):A:=.sq 0
def Ri (a0:List UInt8) (a1:Int) (a2:TCell):Objs:=[(0,some (.arr 5 1 (.ty .u8 (a0++Bk3 a1 a2))))]
def Aiz (a0:List UInt8) (_a1:Int) (_a2:TCell):List Prop:=[Ag (a0.length+128)]
theorem MY (a0:List UInt8) (a1:Int) (c:TCell):(bif !(c.5.1==(0:Int)&&c.5.2==(0:Int)) then IntKind.i64.wrap (↑(BitVec.ofInt (64:Nat) (D2 a0 a1 c) ||| BitVec.ofInt (64:Nat) (4:Int)).toNat:Int) else(D2 a0 a1 c))=PR c:=by
 unfold D2 PR
 rw[K9]
 show(bif !(HG c.dead) then _ else _)=_
 cases BY c<;>cases c.gone<;>cases HG c.dead<;>rfl
theorem Ary (a0:List UInt8) (a1:Int) (c:TCell):GM a0 a1 c=BY c:=by
 unfold GM
 obtain⟨h1,_,h3,_⟩:=Bjn c
 rw[MY,Aiq h1 0 1 rfl (by decide)]
 exact h3
theorem Bis (a0:List UInt8) (a1:Int) (c:TCell):Rh a0 a1 c=!HG c.dead:=by
 unfold Rh
 obtain⟨h1,_,_,_,h5⟩:=Bjn c
 rw[MY,Aiq h1 2 4 rfl (by decide)]
 exact h5
theorem Biu (a0:List UInt8) (a1:Int) (c:TCell):Ae7 a0 a1 c=a0++Bk3 a1 c:=by
 unfold Ae7 LF J0 Bk3 Byl
 rw[Jc,MY,Ary,Bis]
 have hd:∀w g:Bool,(TVec.mk (bif w then bif !g then c.5.1 else c.5.1 else c.5.1) (bif w then bif !g then c.5.2 else c.5.2 else c.5.2))=c.dead:=by intro w g;cases w<;>cases g<;>rfl
 rw[hd]
 cases Bw a1 c<;>cases BY c<;>cases c.gone<;>cases HG c.dead<;>simp
theorem Arz (a0:List UInt8) (a1:Int) (a2:TCell) (hp:∀p∈Aiz a0 a1 a2,p):CallOk Try.prog 56 [Af .bytes a0,Af .i64 a1,Af .cell a2] 0 [] 1 (Ar1 a0 a1 a2) 1 (Ri a0 a1 a2):=by
 have hb:Ag (a0.length+128):=hp _ (List.mem_cons_self ..)
 unfold Ag at hb
 have n8:=Zb (PR a2)
 have s8:=B0v a2.stamp
 have v16:=Bev a2.vec
 have t8:=Bpe a2.value
 have k3:(J0 a0 a1 a2).length≤a0.length+16:=by
  unfold J0
  rw[MY,List.length_append,List.length_append]
  omega
 have sz:(!!A1 a1 a2)=true→GM a0 a1 a2=true→a2.value.size≤64:=fun h1 h2=>by
  rw[Jc,Bool.not_not] at h1
  rw[Ary] at h2
  have:=((Bab.1 h1).st h2).2.2.2.1
  omega
 have h:=Boc a0 a1 a2 (Aa (fun _=>by unfold Ag;omega) (Aa (fun _=>by unfold Ag;omega) (Aa (fun _ _=>by rw[MY,List.length_append];unfold Ag;omega) (Aa (fun _ _=>by unfold Ag;omega) (Aa (fun h1 h2 _=>by
   have:=sz h1 h2
   rw[List.length_append];unfold Ag;omega) (Aa (fun h1 _=>by
   have:(LF a0 a1 a2).length≤a0.length+112:=by
    unfold LF
    rw[MY]
    cases hw:GM a0 a1 a2 with
    |false=>rw[cond_false,List.length_append];omega
    |true=>
     have:=sz h1 hw
     rw[cond_true]
     cases a2.3 with
     |true=>simp only[Bool.not_true,cond_false,List.length_append];omega
     |false=>simp only[Bool.not_false,cond_true,List.length_append];omega
   unfold Ag;omega) Ad))))))
 have ho:UY a0 a1 a2=Ri a0 a1 a2:=by unfold UY Ri;rw[Biu]
 rw[ho] at h
 exact h
def Az0:List A→Nat→Objs→Option AV:=A7 [.t .bytes,.t .i64,.t .cell] 1 Ar1 Ri Aiz
theorem Bco:ET Try.prog 56 Az0:=Aq (ks:=[.t .bytes,.t .i64,.t .cell]) Arz
noncomputable def B6x:=AU 56 Az0 B6w
theorem Brs:CD Try.prog B6x:=Ak Bco Brr
def MS (a0:List UInt8):Bool:=(Ao a0).fst==(0:Int)
def MR (a0:List UInt8):Bool:=(Ao a0).snd.snd !=(0:Int)
def MQ (a0:List UInt8):Bool:=!Cm (TStamp.mk ((Ao a0).fst.fdiv (2:Int)) (IntKind.i64.wrap (IntKind.i64.wrap (↑(BitVec.ofInt (64:Nat) (Ao a0).fst &&& BitVec.ofInt (64:Nat) (1:Int)).toNat:Int)+(1:Int))))
def Sb (a0:List UInt8):TStamp:=TStamp.mk (bif(MR a0) then(0:Int) else bif(MS a0) then(0:Int) else bif(MQ a0) then(0:Int) else(Ao a0).fst.fdiv (2:Int)) (bif(MR a0) then(0:Int) else bif(MS a0) then(0:Int) else bif(MQ a0) then(0:Int) else IntKind.i64.wrap (IntKind.i64.wrap (↑(BitVec.ofInt (64:Nat) (Ao a0).fst &&& BitVec.ofInt (64:Nat) (1:Int)).toNat:Int)+(1:Int)))
def Aae (a0:List UInt8):Int:=bif(MR a0) then(0:Int) else bif(MS a0) then(Ao a0).snd.fst else bif(MQ a0) then(0:Int) else(Ao a0).snd.fst
def Aaf (a0:List UInt8):Int:=bif(MR a0) then(Ao a0).snd.snd else bif(MS a0) then(0:Int) else bif(MQ a0) then(11:Int) else(0:Int)
def Sc (a0:List UInt8):A:=.v (.tuple ⟨[.agg ⟨[.int .i64 ((Sb a0).n),.int .i64 ((Sb a0).site)]⟩,.int .i64 (Aae a0),.int .i64 (Aaf a0)]⟩)
def Ave (_a0:List UInt8):Objs:=[]
def Anb (_a0:List UInt8):List Prop:=[]
theorem Bgm (a0:List UInt8):Eo (Au B6x L0) 9 115 [Af .bytes a0] 0 []=some (1,Sc a0,0,Ave a0,Anb a0):=by kernel_rfl
theorem Bnb (a0:List UInt8) (hp:∀p∈Anb a0,p):CallOk Try.prog 115 [Af .bytes a0] 0 [] 1 (Sc a0) 0 (Ave a0):=Ax (Ap Brs Av) (Bgm a0) hp
def Ps (a0:List UInt8):A:=.v (.tuple ⟨[.agg ⟨[.int .i64 (GA a0).1.n,.int .i64 (GA a0).1.site]⟩,.int .i64 (GA a0).2.1,.int .i64 (GA a0).2.2]⟩)
def Ana (_a0:List UInt8):Objs:=[]
def Aet (_a0:List UInt8):List Prop:=[]
theorem Bgl (b:List UInt8):(Sb b,Aae b,Aaf b)=GA b:=by
 obtain⟨_,_,_,hn0,hn1⟩:=H3 b
 have hok:okN (Ao b).1:=⟨hn0,hn1⟩
 unfold Sb Aae Aaf MQ MR MS GA B7t
 rw[B26 hok,K6,Int.fdiv_eq_ediv_of_nonneg _ (by decide)]
 by_cases he:(Ao b).2.2=0
 ·have e1:((Ao b).2.2 !=(0:Int))=false:=by rw[he];rfl
  rw[e1,if_neg (by rw[he];simp)]
  by_cases hz:(Ao b).1=0
  ·have e2:((Ao b).1==(0:Int))=true:=by rw[hz];rfl
   rw[e2,if_pos hz]
   rfl
  ·have e2:((Ao b).1==(0:Int))=false:=by simpa using hz
   rw[e2,if_neg hz]
   cases hg:In ⟨(Ao b).1 / 2,1+(Ao b).1 % 2⟩ with
   |true=>rfl
   |false=>rfl
 ·have e1:((Ao b).2.2 !=(0:Int))=true:=by simpa using he
  rw[e1,if_pos he]
  rfl
theorem Bgk (a0:List UInt8) (_hp:∀p∈Aet a0,p):CallOk Try.prog 115 [Af .bytes a0] 0 [] 1 (Ps a0) 0 (Ana a0):=by
 have h:=Bnb a0 Ad
 have hr:Sc a0=Ps a0:=by unfold Sc Ps;rw[←Bgl]
 rw[hr] at h
 exact h
def Avf:List A→Nat→Objs→Option AV:=A7 [.t .bytes] 0 Ps Ana Aet
theorem A9c:ET Try.prog 115 Avf:=Aq (ks:=[.t .bytes]) Bgk
noncomputable def B6y:=AU 115 Avf B6x
theorem Brt:CD Try.prog B6y:=Ak A9c Brs
def EL (a0:List UInt8):Bool:=(Ao (List.take ((↑a0.length:Int).toNat - (0:Nat)) (List.drop (0:Nat) a0))).snd.snd !=(0:Int)
def D1 (a0:List UInt8):Int:=IntKind.i64.wrap ((0:Int)+(Ao (List.take ((↑a0.length:Int).toNat - (0:Nat)) (List.drop (0:Nat) a0))).snd.fst)
def V2 (a0:List UInt8):Int:=bif(EL a0) then(0:Int) else(0:Int)
def LD (a0:List UInt8):Int:=(Ao (List.take ((↑a0.length:Int).toNat - (D1 a0).toNat) (List.drop (D1 a0).toNat a0))).snd.snd
def Q4 (a0:List UInt8):Bool:=!BV (TVec.mk (Ao (List.take ((↑a0.length:Int).toNat - (0:Nat)) (List.drop (0:Nat) a0))).fst (Ao (List.take ((↑a0.length:Int).toNat - (D1 a0).toNat) (List.drop (D1 a0).toNat a0))).fst)
def Q3 (a0:List UInt8):Bool:=(EL a0)||(LD a0) !=(0:Int)
def Aba (a0:List UInt8):TVec:=TVec.mk (bif(Q3 a0) then(V2 a0) else bif(Q4 a0) then(0:Int) else(Ao (List.take ((↑a0.length:Int).toNat - (0:Nat)) (List.drop (0:Nat) a0))).fst) (bif(Q3 a0) then(V2 a0) else bif(Q4 a0) then(0:Int) else(Ao (List.take ((↑a0.length:Int).toNat - (D1 a0).toNat) (List.drop (D1 a0).toNat a0))).fst)
def Arl (a0:List UInt8):Int:=bif(Q3 a0) then(V2 a0) else bif(Q4 a0) then(0:Int) else IntKind.i64.wrap ((D1 a0)+(Ao (List.take ((↑a0.length:Int).toNat - (D1 a0).toNat) (List.drop (D1 a0).toNat a0))).snd.fst)
def Arm (a0:List UInt8):Int:=bif(Q3 a0) then bif(EL a0) then(Ao (List.take ((↑a0.length:Int).toNat - (0:Nat)) (List.drop (0:Nat) a0))).snd.snd else(LD a0) else bif(Q4 a0) then(11:Int) else(0:Int)
def Abb (a0:List UInt8):A:=.v (.tuple ⟨[.agg ⟨[.int .i64 ((Aba a0).a),.int .i64 ((Aba a0).b)]⟩,.int .i64 (Arl a0),.int .i64 (Arm a0)]⟩)
def Bbq (_a0:List UInt8):Objs:=[]
def A6p (a0:List UInt8):List Prop:=[((!(EL a0))=true→(0:Int)≤(D1 a0)∧(D1 a0)≤(↑a0.length:Int)∧(↑a0.length:Int)≤(↑a0.length:Int))]
theorem Bq2 (a0:List UInt8):Eo (Au B6y L0) 9 116 [Af .bytes a0] 0 []=some (1,Abb a0,0,Bbq a0,[((0:Int)≤(0:Int)∧(0:Int)≤(↑a0.length:Int)∧(↑a0.length:Int)≤(↑a0.length:Int)),((!(EL a0))=true→(0:Int)≤(0:Int)∧(0:Int) <(2:Int)),((!(EL a0))=true→(0:Nat) <(2:Nat)),((!(EL a0))=true→(0:Int)≤(D1 a0)∧(D1 a0)≤(↑a0.length:Int)∧(↑a0.length:Int)≤(↑a0.length:Int)),((!(EL a0))=true→(!(LD a0) !=(0:Int))=true→(0:Int)≤(1:Int)∧(1:Int) <(2:Int)),((!(EL a0))=true→(!(LD a0) !=(0:Int))=true→(1:Nat) <(2:Nat))]):=by kernel_rfl
theorem Bwh (a0:List UInt8) (hp:∀p∈A6p a0,p):CallOk Try.prog 116 [Af .bytes a0] 0 [] 1 (Abb a0) 0 (Bbq a0):=by
 have n0:((0:Int)≤(0:Int)∧(0:Int)≤(↑a0.length:Int)∧(↑a0.length:Int)≤(↑a0.length:Int)):=by omega
 have n1:((!(EL a0))=true→(0:Int)≤(0:Int)∧(0:Int) <(2:Int)):=by omega
 have n2:((!(EL a0))=true→(0:Nat) <(2:Nat)):=by omega
 have n3:=N0 hp
 have n4:((!(EL a0))=true→(!(LD a0) !=(0:Int))=true→(0:Int)≤(1:Int)∧(1:Int) <(2:Int)):=by omega
 have n5:((!(EL a0))=true→(!(LD a0) !=(0:Int))=true→(1:Nat) <(2:Nat)):=by omega
 exact Ax (Ap Brt Av) (Bq2 a0) (Aa n0 (Aa n1 (Aa n2 (Aa n3 (Aa n4 (Aa n5 Ad))))))
def V3 (a0:List UInt8):A:=.v (.tuple ⟨[.agg ⟨[.int .i64 (Gg a0).1.a,.int .i64 (Gg a0).1.b]⟩,.int .i64 (Gg a0).2.1,.int .i64 (Gg a0).2.2]⟩)
def A6o (_a0:List UInt8):Objs:=[]
def Avk (_a0:List UInt8):List Prop:=[]
theorem ES {b:List UInt8} {k:Int}:List.take (((b.length:Nat):Int).toNat - k.toNat) (List.drop k.toNat b)=b.drop k.toNat:=by
 rw[Int.toNat_natCast]
 exact List.take_of_length_le (by rw[List.length_drop];exact Nat.le_refl _)
theorem Bq1 (b:List UInt8):(∀p∈A6p b,p)∧(Aba b,Arl b,Arm b)=Gg b:=by
 obtain⟨hk0,hk1,hk2,hn0,hn1⟩:=H3 b
 have e0:List.take (((b.length:Nat):Int).toNat - (0:Nat)) (List.drop (0:Nat) b)=b:=by
  simp
 have k4:D1 b=(Ao b).2.1:=by
  unfold D1
  rw[e0,i64_in (by omega)]
  omega
 refine⟨Aa (fun _=>?_) Ad,?_⟩
 ·rw[k4];omega
 ·unfold Aba Arl Arm Q3 Q4 LD V2 EL Gg
  rw[k4,e0,ES,LO]
  obtain⟨hj0,hj1,hj2,hm0,hm1⟩:=H3 (b.drop (Ao b).2.1.toNat)
  rw[i64_in (n:=(Ao b).2.1+_) (by omega)]
  by_cases he:(Ao b).2.2=0
  ·have e1:((Ao b).2.2 !=(0:Int))=false:=by rw[he];rfl
   rw[e1,if_neg (by rw[he];simp)]
   by_cases he2:(Ao (b.drop (Ao b).2.1.toNat)).2.2=0
   ·have e2:((Ao (b.drop (Ao b).2.1.toNat)).2.2 !=(0:Int))=false:=by rw[he2];rfl
    rw[e2,if_neg (by rw[he2];simp)]
    cases hg:CM ⟨(Ao b).1,(Ao (b.drop (Ao b).2.1.toNat)).1⟩ with
    |true=>rfl
    |false=>rfl
   ·have e2:((Ao (b.drop (Ao b).2.1.toNat)).2.2 !=(0:Int))=true:=by simpa using he2
    rw[e2,if_pos he2]
    rfl
  ·have e1:((Ao b).2.2 !=(0:Int))=true:=by simpa using he
   rw[e1,if_pos he]
   rfl
theorem Bq0 (a0:List UInt8) (_hp:∀p∈Avk a0,p):CallOk Try.prog 116 [Af .bytes a0] 0 [] 1 (V3 a0) 0 (A6o a0):=by
 obtain⟨h1,h2⟩:=Bq1 a0
 have h:=Bwh a0 h1
 have hr:Abb a0=V3 a0:=by unfold Abb V3;rw[←h2]
 rw[hr] at h
 exact h
def Bbr:List A→Nat→Objs→Option AV:=A7 [.t .bytes] 0 V3 A6o Avk
theorem Bni:ET Try.prog 116 Bbr:=Aq (ks:=[.t .bytes]) Bq0
noncomputable def Bw9:=AU 116 Bbr B6y
theorem Bhj:CD Try.prog Bw9:=Ak Bni Brt
def IF (a0:List UInt8) (_a1:Int):Bool:=(Ao a0).snd.snd !=(0:Int)
def IE (a0:List UInt8) (_a1:Int):Int:=IntKind.i64.wrap ((Ao a0).snd.fst+(Ao a0).fst)
def ID (a0:List UInt8) (a1:Int):Bool:=decide ((Ao a0).fst >a1)
def IC (a0:List UInt8) (a1:Int):Bool:=(IF a0 a1)||((ID a0 a1)||decide (IntKind.i64.wrap ((↑a0.length:Int) - (Ao a0).snd.fst) <(Ao a0).fst))
def SR (a0:List UInt8) (a1:Int):ByteArray:=bif(IC a0 a1) then bif(IF a0 a1) then ByteArray.mk #[] else bif(ID a0 a1) then ByteArray.mk #[] else ByteArray.mk #[] else ByteArray.mk (List.take ((IE a0 a1).toNat - (Ao a0).snd.fst.toNat) (List.drop (Ao a0).snd.fst.toNat a0)).toArray
def SS (a0:List UInt8) (a1:Int):Int:=bif(IC a0 a1) then bif(IF a0 a1) then(0:Int) else bif(ID a0 a1) then(0:Int) else(0:Int) else(IE a0 a1)
def ST (a0:List UInt8) (a1:Int):Int:=bif(IC a0 a1) then bif(IF a0 a1) then(Ao a0).snd.snd else bif(ID a0 a1) then(3:Int) else(10:Int) else(0:Int)
def Nz (a0:List UInt8) (a1:Int):A:=.v (.tuple ⟨[.string (SR a0 a1),.int .i64 (SS a0 a1),.int .i64 (ST a0 a1)]⟩)
def Ac7 (_a0:List UInt8) (_a1:Int):Objs:=[]
def Qj (a0:List UInt8) (a1:Int):List Prop:=[((!(IC a0 a1))=true→(0:Int)≤(Ao a0).snd.fst∧(Ao a0).snd.fst≤(IE a0 a1)∧(IE a0 a1)≤(↑a0.length:Int))]
theorem A2f (a0:List UInt8) (a1:Int):Eo (Au Bw9 L0) 9 117 [Af .bytes a0,Af .i64 a1] 0 []=some (1,Nz a0 a1,0,Ac7 a0 a1,Qj a0 a1):=by kernel_rfl
theorem A7x (a0:List UInt8) (a1:Int) (hp:∀p∈Qj a0 a1,p):CallOk Try.prog 117 [Af .bytes a0,Af .i64 a1] 0 [] 1 (Nz a0 a1) 0 (Ac7 a0 a1):=Ax (Ap Bhj Av) (A2f a0 a1) hp
def MB (a0:List UInt8) (a1:Int):A:=.v (.tuple ⟨[.string (XW a0 a1).1,.int .i64 (XW a0 a1).2.1,.int .i64 (XW a0 a1).2.2]⟩)
def YP (_a0:List UInt8) (_a1:Int):Objs:=[]
def Wv (a0:List UInt8) (_a1:Int):List Prop:=[Ag a0.length]
theorem A2e (b:List UInt8) (m:Int) (hb:Ag b.length):(∀p∈Qj b m,p)∧(SR b m,SS b m,ST b m)=XW b m:=by
 obtain⟨hk0,hk1,hk2,hn0,hn1⟩:=H3 b
 unfold Ag at hb
 have k2:IE b m=(Ao b).2.1+(Ao b).1:=by
  unfold IE
  exact i64_in (by omega)
 have k0:IC b m=((Ao b).2.2 !=0||(decide ((Ao b).1 >m)||decide ((b.length:Int) - (Ao b).2.1 <(Ao b).1))):=by
  unfold IC ID IF
  rw[i64_in (by omega)]
 refine⟨Aa (fun h=>?_) Ad,?_⟩
 ·rw[k0] at h
  rw[k2]
  simp only[Bool.not_eq_true',Bool.or_eq_false_iff,decide_eq_false_iff_not] at h
  omega
 ·unfold SR SS ST ID IF XW
  rw[k0,k2]
  by_cases he:(Ao b).2.2=0
  ·have e1:((Ao b).2.2 !=(0:Int))=false:=by rw[he];rfl
   rw[e1,if_neg (by rw[he];simp)]
   by_cases hm:(Ao b).1 >m
   ·rw[decide_eq_true hm,if_pos hm];rfl
   ·rw[decide_eq_false hm,if_neg hm]
    by_cases hc:(b.length:Int) - (Ao b).2.1 <(Ao b).1
    ·rw[decide_eq_true hc,if_pos hc];rfl
    ·rw[decide_eq_false hc,if_neg hc]
     have e3:((Ao b).2.1+(Ao b).1).toNat - (Ao b).2.1.toNat=(Ao b).1.toNat:=by omega
     rw[e3]
     rfl
  ·have e1:((Ao b).2.2 !=(0:Int))=true:=by simpa using he
   rw[e1,if_pos he]
   rfl
theorem A2d (a0:List UInt8) (a1:Int) (hp:∀p∈Wv a0 a1,p):CallOk Try.prog 117 [Af .bytes a0,Af .i64 a1] 0 [] 1 (MB a0 a1) 0 (YP a0 a1):=by
 obtain⟨h1,h2⟩:=A2e a0 a1 (hp _ (List.mem_cons_self ..))
 have h:=A7x a0 a1 h1
 have hr:Nz a0 a1=MB a0 a1:=by unfold Nz MB;rw[←h2]
 rw[hr] at h
 exact h
def Ac8:List A→Nat→Objs→Option AV:=A7 [.t .bytes,.t .i64] 0 MB YP Wv
theorem Awo:ET Try.prog 117 Ac8:=Aq (ks:=[.t .bytes,.t .i64]) A2d
noncomputable def Bxa:=AU 117 Ac8 Bw9
theorem Bhk:CD Try.prog Bxa:=Ak Awo Bhj
noncomputable def Bxb:=AU 113 (inl (Au Bxa L0) 9 113) Bxa
theorem Bhl:CD Try.prog Bxb:=Ak (Afo (Ap Bhk Av) 9 113) Bhk
def AN (a0:List UInt8) (_a1:Int):Int:=IntKind.i64.wrap ((0:Int)+(Ao a0).snd.fst)
def AQ (a0:List UInt8) (a1:Int):Int:=IntKind.i64.wrap ((AN a0 a1)+(GA (List.take ((↑a0.length:Int).toNat - (AN a0 a1).toNat) (List.drop (AN a0 a1).toNat a0))).snd.fst)
def FC (a0:List UInt8) (a1:Int):Int:=bif(Ao a0).snd.snd==(0:Int)&&decide (IntKind.i64.wrap (↑(BitVec.ofInt (64:Nat) (Ao a0).fst &&& BitVec.ofInt (64:Nat) (1:Int)).toNat:Int) >(0:Int)) then bif !decide (IntKind.i64.wrap (↑(BitVec.ofInt (64:Nat) (Ao a0).fst &&& BitVec.ofInt (64:Nat) (2:Int)).toNat:Int) >(0:Int)) then(Gg (List.take ((↑a0.length:Int).toNat - (AQ a0 a1).toNat) (List.drop (AQ a0 a1).toNat a0))).fst.2 else(Gg (List.take ((↑a0.length:Int).toNat - (AQ a0 a1).toNat) (List.drop (AQ a0 a1).toNat a0))).fst.2 else(0:Int)
def GL (a0:List UInt8) (a1:Int):Int:=bif(Ao a0).snd.snd==(0:Int)&&decide (IntKind.i64.wrap (↑(BitVec.ofInt (64:Nat) (Ao a0).fst &&& BitVec.ofInt (64:Nat) (1:Int)).toNat:Int) >(0:Int)) then bif !decide (IntKind.i64.wrap (↑(BitVec.ofInt (64:Nat) (Ao a0).fst &&& BitVec.ofInt (64:Nat) (2:Int)).toNat:Int) >(0:Int)) then(Gg (List.take ((↑a0.length:Int).toNat - (AQ a0 a1).toNat) (List.drop (AQ a0 a1).toNat a0))).fst.1 else(Gg (List.take ((↑a0.length:Int).toNat - (AQ a0 a1).toNat) (List.drop (AQ a0 a1).toNat a0))).fst.1 else(0:Int)
def GK (a0:List UInt8) (a1:Int):Int:=bif(Ao a0).snd.snd==(0:Int)&&decide (IntKind.i64.wrap (↑(BitVec.ofInt (64:Nat) (Ao a0).fst &&& BitVec.ofInt (64:Nat) (1:Int)).toNat:Int) >(0:Int)) then bif !decide (IntKind.i64.wrap (↑(BitVec.ofInt (64:Nat) (Ao a0).fst &&& BitVec.ofInt (64:Nat) (2:Int)).toNat:Int) >(0:Int)) then(GA (List.take ((↑a0.length:Int).toNat - (AN a0 a1).toNat) (List.drop (AN a0 a1).toNat a0))).fst.2 else(GA (List.take ((↑a0.length:Int).toNat - (AN a0 a1).toNat) (List.drop (AN a0 a1).toNat a0))).fst.2 else(0:Int)
def GJ (a0:List UInt8) (a1:Int):Int:=bif(Ao a0).snd.snd==(0:Int)&&decide (IntKind.i64.wrap (↑(BitVec.ofInt (64:Nat) (Ao a0).fst &&& BitVec.ofInt (64:Nat) (1:Int)).toNat:Int) >(0:Int)) then bif !decide (IntKind.i64.wrap (↑(BitVec.ofInt (64:Nat) (Ao a0).fst &&& BitVec.ofInt (64:Nat) (2:Int)).toNat:Int) >(0:Int)) then(GA (List.take ((↑a0.length:Int).toNat - (AN a0 a1).toNat) (List.drop (AN a0 a1).toNat a0))).fst.1 else(GA (List.take ((↑a0.length:Int).toNat - (AN a0 a1).toNat) (List.drop (AN a0 a1).toNat a0))).fst.1 else(0:Int)
def EW (a0:List UInt8) (_a1:Int):Int:=bif(Ao a0).snd.snd==(0:Int)&&decide (IntKind.i64.wrap (↑(BitVec.ofInt (64:Nat) (Ao a0).fst &&& BitVec.ofInt (64:Nat) (1:Int)).toNat:Int) >(0:Int)) then bif !decide (IntKind.i64.wrap (↑(BitVec.ofInt (64:Nat) (Ao a0).fst &&& BitVec.ofInt (64:Nat) (2:Int)).toNat:Int) >(0:Int)) then(0:Int) else(0:Int) else(0:Int)
def BN (a0:List UInt8) (a1:Int):Int:=IntKind.i64.wrap ((AQ a0 a1)+(Gg (List.take ((↑a0.length:Int).toNat - (AQ a0 a1).toNat) (List.drop (AQ a0 a1).toNat a0))).snd.fst)
def EV (a0:List UInt8) (_a1:Int):Bool:=bif(Ao a0).snd.snd==(0:Int)&&decide (IntKind.i64.wrap (↑(BitVec.ofInt (64:Nat) (Ao a0).fst &&& BitVec.ofInt (64:Nat) (1:Int)).toNat:Int) >(0:Int)) then bif !decide (IntKind.i64.wrap (↑(BitVec.ofInt (64:Nat) (Ao a0).fst &&& BitVec.ofInt (64:Nat) (2:Int)).toNat:Int) >(0:Int)) then decide (IntKind.i64.wrap (↑(BitVec.ofInt (64:Nat) (Ao a0).fst &&& BitVec.ofInt (64:Nat) (2:Int)).toNat:Int) >(0:Int)) else decide (IntKind.i64.wrap (↑(BitVec.ofInt (64:Nat) (Ao a0).fst &&& BitVec.ofInt (64:Nat) (2:Int)).toNat:Int) >(0:Int)) else false
def GI (a0:List UInt8) (a1:Int):ByteArray:=bif(Ao a0).snd.snd==(0:Int)&&decide (IntKind.i64.wrap (↑(BitVec.ofInt (64:Nat) (Ao a0).fst &&& BitVec.ofInt (64:Nat) (1:Int)).toNat:Int) >(0:Int)) then bif !decide (IntKind.i64.wrap (↑(BitVec.ofInt (64:Nat) (Ao a0).fst &&& BitVec.ofInt (64:Nat) (2:Int)).toNat:Int) >(0:Int)) then(XW (List.take ((↑a0.length:Int).toNat - (BN a0 a1).toNat) (List.drop (BN a0 a1).toNat a0)) (64:Int)).fst else ByteArray.mk #[] else ByteArray.mk #[]
def AZ (a0:List UInt8) (a1:Int):Int:=bif(Ao a0).snd.snd==(0:Int)&&decide (IntKind.i64.wrap (↑(BitVec.ofInt (64:Nat) (Ao a0).fst &&& BitVec.ofInt (64:Nat) (1:Int)).toNat:Int) >(0:Int)) then bif !decide (IntKind.i64.wrap (↑(BitVec.ofInt (64:Nat) (Ao a0).fst &&& BitVec.ofInt (64:Nat) (2:Int)).toNat:Int) >(0:Int)) then IntKind.i64.wrap ((BN a0 a1)+(XW (List.take ((↑a0.length:Int).toNat - (BN a0 a1).toNat) (List.drop (BN a0 a1).toNat a0)) (64:Int)).snd.fst) else(BN a0 a1) else(AN a0 a1)
def AD (a0:List UInt8) (a1:Int):Bool:=(bif(Ao a0).snd.snd==(0:Int)&&decide (IntKind.i64.wrap (↑(BitVec.ofInt (64:Nat) (Ao a0).fst &&& BitVec.ofInt (64:Nat) (1:Int)).toNat:Int) >(0:Int)) then bif !decide (IntKind.i64.wrap (↑(BitVec.ofInt (64:Nat) (Ao a0).fst &&& BitVec.ofInt (64:Nat) (2:Int)).toNat:Int) >(0:Int)) then(Ao a0).snd.snd==(0:Int)&&(GA (List.take ((↑a0.length:Int).toNat - (AN a0 a1).toNat) (List.drop (AN a0 a1).toNat a0))).snd.snd==(0:Int)&&(Gg (List.take ((↑a0.length:Int).toNat - (AQ a0 a1).toNat) (List.drop (AQ a0 a1).toNat a0))).snd.snd==(0:Int)&&(XW (List.take ((↑a0.length:Int).toNat - (BN a0 a1).toNat) (List.drop (BN a0 a1).toNat a0)) (64:Int)).snd.snd==(0:Int) else(Ao a0).snd.snd==(0:Int)&&(GA (List.take ((↑a0.length:Int).toNat - (AN a0 a1).toNat) (List.drop (AN a0 a1).toNat a0))).snd.snd==(0:Int)&&(Gg (List.take ((↑a0.length:Int).toNat - (AQ a0 a1).toNat) (List.drop (AQ a0 a1).toNat a0))).snd.snd==(0:Int) else(Ao a0).snd.snd==(0:Int))&&decide (IntKind.i64.wrap (↑(BitVec.ofInt (64:Nat) (Ao a0).fst &&& BitVec.ofInt (64:Nat) (4:Int)).toNat:Int) >(0:Int))
def EU (a0:List UInt8) (a1:Int):Bool:=(!bif(AD a0 a1) then(bif(Ao a0).snd.snd==(0:Int)&&decide (IntKind.i64.wrap (↑(BitVec.ofInt (64:Nat) (Ao a0).fst &&& BitVec.ofInt (64:Nat) (1:Int)).toNat:Int) >(0:Int)) then bif !decide (IntKind.i64.wrap (↑(BitVec.ofInt (64:Nat) (Ao a0).fst &&& BitVec.ofInt (64:Nat) (2:Int)).toNat:Int) >(0:Int)) then(Ao a0).snd.snd==(0:Int)&&(GA (List.take ((↑a0.length:Int).toNat - (AN a0 a1).toNat) (List.drop (AN a0 a1).toNat a0))).snd.snd==(0:Int)&&(Gg (List.take ((↑a0.length:Int).toNat - (AQ a0 a1).toNat) (List.drop (AQ a0 a1).toNat a0))).snd.snd==(0:Int)&&(XW (List.take ((↑a0.length:Int).toNat - (BN a0 a1).toNat) (List.drop (BN a0 a1).toNat a0)) (64:Int)).snd.snd==(0:Int) else(Ao a0).snd.snd==(0:Int)&&(GA (List.take ((↑a0.length:Int).toNat - (AN a0 a1).toNat) (List.drop (AN a0 a1).toNat a0))).snd.snd==(0:Int)&&(Gg (List.take ((↑a0.length:Int).toNat - (AQ a0 a1).toNat) (List.drop (AQ a0 a1).toNat a0))).snd.snd==(0:Int) else(Ao a0).snd.snd==(0:Int))&&(Gg (List.take ((↑a0.length:Int).toNat - (AZ a0 a1).toNat) (List.drop (AZ a0 a1).toNat a0))).snd.snd==(0:Int) else bif(Ao a0).snd.snd==(0:Int)&&decide (IntKind.i64.wrap (↑(BitVec.ofInt (64:Nat) (Ao a0).fst &&& BitVec.ofInt (64:Nat) (1:Int)).toNat:Int) >(0:Int)) then bif !decide (IntKind.i64.wrap (↑(BitVec.ofInt (64:Nat) (Ao a0).fst &&& BitVec.ofInt (64:Nat) (2:Int)).toNat:Int) >(0:Int)) then(Ao a0).snd.snd==(0:Int)&&(GA (List.take ((↑a0.length:Int).toNat - (AN a0 a1).toNat) (List.drop (AN a0 a1).toNat a0))).snd.snd==(0:Int)&&(Gg (List.take ((↑a0.length:Int).toNat - (AQ a0 a1).toNat) (List.drop (AQ a0 a1).toNat a0))).snd.snd==(0:Int)&&(XW (List.take ((↑a0.length:Int).toNat - (BN a0 a1).toNat) (List.drop (BN a0 a1).toNat a0)) (64:Int)).snd.snd==(0:Int) else(Ao a0).snd.snd==(0:Int)&&(GA (List.take ((↑a0.length:Int).toNat - (AN a0 a1).toNat) (List.drop (AN a0 a1).toNat a0))).snd.snd==(0:Int)&&(Gg (List.take ((↑a0.length:Int).toNat - (AQ a0 a1).toNat) (List.drop (AQ a0 a1).toNat a0))).snd.snd==(0:Int) else(Ao a0).snd.snd==(0:Int))||!((decide ((Ao a0).fst≤(7:Int))&&decide (IntKind.i64.wrap (↑(BitVec.ofInt (64:Nat) (Ao a0).fst &&& BitVec.ofInt (64:Nat) (1:Int)).toNat:Int) >(0:Int))==FH (TCell.mk (TStamp.mk (bif(AD a0 a1) then(GJ a0 a1) else(GJ a0 a1)) (bif(AD a0 a1) then(GK a0 a1) else(GK a0 a1))) (TVec.mk (bif(AD a0 a1) then(GL a0 a1) else(GL a0 a1)) (bif(AD a0 a1) then(FC a0 a1) else(FC a0 a1))) (bif(AD a0 a1) then(EV a0 a1) else(EV a0 a1)) (bif(AD a0 a1) then(GI a0 a1) else(GI a0 a1)) (TVec.mk (bif(AD a0 a1) then(Gg (List.take ((↑a0.length:Int).toNat - (AZ a0 a1).toNat) (List.drop (AZ a0 a1).toNat a0))).fst.1 else(EW a0 a1)) (bif(AD a0 a1) then(Gg (List.take ((↑a0.length:Int).toNat - (AZ a0 a1).toNat) (List.drop (AZ a0 a1).toNat a0))).fst.2 else(EW a0 a1))))&&decide (IntKind.i64.wrap (↑(BitVec.ofInt (64:Nat) (Ao a0).fst &&& BitVec.ofInt (64:Nat) (2:Int)).toNat:Int) >(0:Int))==bif(AD a0 a1) then(EV a0 a1) else(EV a0 a1))&&decide (IntKind.i64.wrap (↑(BitVec.ofInt (64:Nat) (Ao a0).fst &&& BitVec.ofInt (64:Nat) (4:Int)).toNat:Int) >(0:Int))==!((bif(AD a0 a1) then(Gg (List.take ((↑a0.length:Int).toNat - (AZ a0 a1).toNat) (List.drop (AZ a0 a1).toNat a0))).fst.1 else(EW a0 a1))==(0:Int)&&(bif(AD a0 a1) then(Gg (List.take ((↑a0.length:Int).toNat - (AZ a0 a1).toNat) (List.drop (AZ a0 a1).toNat a0))).fst.2 else(EW a0 a1))==(0:Int)))||!A1 a1 (TCell.mk (TStamp.mk (bif(AD a0 a1) then(GJ a0 a1) else(GJ a0 a1)) (bif(AD a0 a1) then(GK a0 a1) else(GK a0 a1))) (TVec.mk (bif(AD a0 a1) then(GL a0 a1) else(GL a0 a1)) (bif(AD a0 a1) then(FC a0 a1) else(FC a0 a1))) (bif(AD a0 a1) then(EV a0 a1) else(EV a0 a1)) (bif(AD a0 a1) then(GI a0 a1) else(GI a0 a1)) (TVec.mk (bif(AD a0 a1) then(Gg (List.take ((↑a0.length:Int).toNat - (AZ a0 a1).toNat) (List.drop (AZ a0 a1).toNat a0))).fst.1 else(EW a0 a1)) (bif(AD a0 a1) then(Gg (List.take ((↑a0.length:Int).toNat - (AZ a0 a1).toNat) (List.drop (AZ a0 a1).toNat a0))).fst.2 else(EW a0 a1))))
def Ih (a0:List UInt8) (a1:Int):TCell:=TCell.mk (TStamp.mk (bif(EU a0 a1) then(0:Int) else bif(AD a0 a1) then(GJ a0 a1) else(GJ a0 a1)) (bif(EU a0 a1) then(0:Int) else bif(AD a0 a1) then(GK a0 a1) else(GK a0 a1))) (TVec.mk (bif(EU a0 a1) then(0:Int) else bif(AD a0 a1) then(GL a0 a1) else(GL a0 a1)) (bif(EU a0 a1) then(0:Int) else bif(AD a0 a1) then(FC a0 a1) else(FC a0 a1))) (bif(EU a0 a1) then false else bif(AD a0 a1) then(EV a0 a1) else(EV a0 a1)) (bif(EU a0 a1) then ByteArray.mk #[] else bif(AD a0 a1) then(GI a0 a1) else(GI a0 a1)) (TVec.mk (bif(EU a0 a1) then(0:Int) else bif(AD a0 a1) then(Gg (List.take ((↑a0.length:Int).toNat - (AZ a0 a1).toNat) (List.drop (AZ a0 a1).toNat a0))).fst.1 else(EW a0 a1)) (bif(EU a0 a1) then(0:Int) else bif(AD a0 a1) then(Gg (List.take ((↑a0.length:Int).toNat - (AZ a0 a1).toNat) (List.drop (AZ a0 a1).toNat a0))).fst.2 else(EW a0 a1)))
def Ae4 (a0:List UInt8) (a1:Int):Int:=bif(EU a0 a1) then(0:Int) else bif(AD a0 a1) then IntKind.i64.wrap ((AZ a0 a1)+(Gg (List.take ((↑a0.length:Int).toNat - (AZ a0 a1).toNat) (List.drop (AZ a0 a1).toNat a0))).snd.fst) else(AZ a0 a1)
def Ae5 (a0:List UInt8) (a1:Int):Int:=bif(EU a0 a1) then(80:Int) else(0:Int)
def UU (a0:List UInt8) (a1:Int):A:=.v (.tuple ⟨[.agg ⟨[.int .i64 ((Ih a0 a1).stamp.n),.int .i64 ((Ih a0 a1).stamp.site),.int .i64 ((Ih a0 a1).vec.a),.int .i64 ((Ih a0 a1).vec.b),.bool ((Ih a0 a1).gone),.string ((Ih a0 a1).value),.int .i64 ((Ih a0 a1).dead.a),.int .i64 ((Ih a0 a1).dead.b)]⟩,.int .i64 (Ae4 a0 a1),.int .i64 (Ae5 a0 a1)]⟩)
def Azw (_a0:List UInt8) (_a1:Int):Objs:=[]
def Xw (a0:List UInt8) (a1:Int):List Prop:=[(((Ao a0).snd.snd==(0:Int)&&decide (IntKind.i64.wrap (↑(BitVec.ofInt (64:Nat) (Ao a0).fst &&& BitVec.ofInt (64:Nat) (1:Int)).toNat:Int) >(0:Int)))=true→(0:Int)≤(AN a0 a1)∧(AN a0 a1)≤(↑a0.length:Int)∧(↑a0.length:Int)≤(↑a0.length:Int)),(((Ao a0).snd.snd==(0:Int)&&decide (IntKind.i64.wrap (↑(BitVec.ofInt (64:Nat) (Ao a0).fst &&& BitVec.ofInt (64:Nat) (1:Int)).toNat:Int) >(0:Int)))=true→(0:Int)≤(AQ a0 a1)∧(AQ a0 a1)≤(↑a0.length:Int)∧(↑a0.length:Int)≤(↑a0.length:Int)),(((Ao a0).snd.snd==(0:Int)&&decide (IntKind.i64.wrap (↑(BitVec.ofInt (64:Nat) (Ao a0).fst &&& BitVec.ofInt (64:Nat) (1:Int)).toNat:Int) >(0:Int)))=true→(!decide (IntKind.i64.wrap (↑(BitVec.ofInt (64:Nat) (Ao a0).fst &&& BitVec.ofInt (64:Nat) (2:Int)).toNat:Int) >(0:Int)))=true→(0:Int)≤(BN a0 a1)∧(BN a0 a1)≤(↑a0.length:Int)∧(↑a0.length:Int)≤(↑a0.length:Int)),(((Ao a0).snd.snd==(0:Int)&&decide (IntKind.i64.wrap (↑(BitVec.ofInt (64:Nat) (Ao a0).fst &&& BitVec.ofInt (64:Nat) (1:Int)).toNat:Int) >(0:Int)))=true→(!decide (IntKind.i64.wrap (↑(BitVec.ofInt (64:Nat) (Ao a0).fst &&& BitVec.ofInt (64:Nat) (2:Int)).toNat:Int) >(0:Int)))=true→Ag (List.take ((↑a0.length:Int).toNat - (BN a0 a1).toNat) (List.drop (BN a0 a1).toNat a0)).length),((AD a0 a1)=true→(0:Int)≤(AZ a0 a1)∧(AZ a0 a1)≤(↑a0.length:Int)∧(↑a0.length:Int)≤(↑a0.length:Int))]
theorem Bir (a0:List UInt8) (a1:Int):Eo (Au Bxb L0) 9 54 [Af .bytes a0,Af .i64 a1] 0 []=some (1,UU a0 a1,0,Azw a0 a1,Xw a0 a1):=by kernel_rfl
theorem Boa (a0:List UInt8) (a1:Int) (hp:∀p∈Xw a0 a1,p):CallOk Try.prog 54 [Af .bytes a0,Af .i64 a1] 0 [] 1 (UU a0 a1) 0 (Azw a0 a1):=Ax (Ap Bhl Av) (Bir a0 a1) hp
def Rg (a0:List UInt8) (a1:Int):A:=.v (.tuple ⟨[.agg ⟨[.int .i64 (Avw a0 a1).1.stamp.n,.int .i64 (Avw a0 a1).1.stamp.site,.int .i64 (Avw a0 a1).1.vec.a,.int .i64 (Avw a0 a1).1.vec.b,.bool (Avw a0 a1).1.gone,.string (Avw a0 a1).1.value,.int .i64 (Avw a0 a1).1.dead.a,.int .i64 (Avw a0 a1).1.dead.b]⟩,.int .i64 (Avw a0 a1).2.1,.int .i64 (Avw a0 a1).2.2]⟩)
def Aru (_a0:List UInt8) (_a1:Int):Objs:=[]
def Aix (a0:List UInt8) (_a1:Int):List Prop:=[Ag a0.length]
theorem Bjt (b:List UInt8):0≤(GA b).2.1∧(GA b).2.1≤(b.length:Int):=by
 obtain⟨h1,h2,_⟩:=H3 b
 unfold GA
 split
 ·exact⟨Int.le_refl _,by show(0:Int)≤(b.length:Int);omega⟩
 ·split
  ·exact⟨h1,h2⟩
  ·exact⟨Int.le_refl _,by show(0:Int)≤(b.length:Int);omega⟩
theorem Ar7 (b:List UInt8):0≤(Gg b).2.1∧(Gg b).2.1≤(b.length:Int):=by
 obtain⟨h1,h2,_⟩:=H3 b
 obtain⟨h3,h4,_⟩:=H3 (b.drop (Ao b).2.1.toNat)
 rw[List.length_drop] at h4
 unfold Gg
 split
 ·exact⟨Int.le_refl _,by show(0:Int)≤(b.length:Int);omega⟩
 ·split
  ·exact⟨Int.le_refl _,by show(0:Int)≤(b.length:Int);omega⟩
  ·split
   ·exact⟨by show 0≤(Ao b).2.1+_;omega,by show(Ao b).2.1+_≤(b.length:Int);omega⟩
   ·exact⟨Int.le_refl _,by show(0:Int)≤(b.length:Int);omega⟩
theorem Bju (b:List UInt8) (m:Int):0≤(XW b m).2.1∧(XW b m).2.1≤(b.length:Int):=by
 obtain⟨h1,h2,_,h3,_⟩:=H3 b
 unfold XW
 split
 ·exact⟨Int.le_refl _,by show(0:Int)≤(b.length:Int);omega⟩
 ·split
  ·exact⟨Int.le_refl _,by show(0:Int)≤(b.length:Int);omega⟩
  ·split
   ·exact⟨Int.le_refl _,by show(0:Int)≤(b.length:Int);omega⟩
   ·exact⟨by show 0≤(Ao b).2.1+_;omega,by show(Ao b).2.1+_≤(b.length:Int);omega⟩
theorem Biq (b:List UInt8) (p:Int) (hb:Ag b.length):(∀q∈Xw b p,q)∧(Ih b p,Ae4 b p,Ae5 b p)=Avw b p:=by
 unfold Ag at hb
 obtain⟨a1,a2,_,a3,a4⟩:=H3 b
 have hok:okN (Ao b).1:=⟨a3,a4⟩
 have B1:=Aiq hok 0 1 rfl (by decide)
 have B2:=Aiq hok 1 2 rfl (by decide)
 have B4:=Aiq hok 2 4 rfl (by decide)
 have e12:AN b p=(Ao b).2.1:=by
  unfold AN
  rw[i64_in (by omega)];omega
 obtain⟨s1,s2⟩:=Bjt (b.drop (Ao b).2.1.toNat)
 rw[List.length_drop] at s2
 have e11:AQ b p=(Ao b).2.1+(GA (b.drop (Ao b).2.1.toNat)).2.1:=by
  unfold AQ
  rw[e12,ES,i64_in (by omega)]
 obtain⟨v1,v2⟩:=Ar7 (b.drop ((Ao b).2.1+(GA (b.drop (Ao b).2.1.toNat)).2.1).toNat)
 rw[List.length_drop] at v2
 have e5:BN b p=(Ao b).2.1+(GA (b.drop (Ao b).2.1.toNat)).2.1+(Gg (b.drop ((Ao b).2.1+(GA (b.drop (Ao b).2.1.toNat)).2.1).toNat)).2.1:=by
  unfold BN
  rw[e11,ES,i64_in (by omega)]
 obtain⟨t1,t2⟩:=Bju (b.drop ((Ao b).2.1+(GA (b.drop (Ao b).2.1.toNat)).2.1+(Gg (b.drop ((Ao b).2.1+(GA (b.drop (Ao b).2.1.toNat)).2.1).toNat)).2.1).toNat) 64
 rw[List.length_drop] at t2
 have e2:AZ b p=(stA b).2.2∧0≤(stA b).2.2∧(stA b).2.2≤(b.length:Int):=by
  unfold AZ stA
  rw[e5,e12,ES,B1,B2]
  show(bif(Ao b).2.2==0&&GR (Ao b).1 0 then bif !GR (Ao b).1 1 then _ else _ else _)=_∧_
  rw[i64_in (by omega)]
  cases((Ao b).2.2==0&&GR (Ao b).1 0)<;>cases GR (Ao b).1 1<;>refine⟨rfl,?_,?_⟩<;>(first|exact a1|exact a2|(simp only[cond_true,cond_false,Bool.not_true,Bool.not_false];omega))
 obtain⟨e2,e2a,e2b⟩:=e2
 obtain⟨d1,d2⟩:=Ar7 (b.drop (stA b).2.2.toNat)
 rw[List.length_drop] at d2
 have hcell:(stA b).2.1=⟨⟨GJ b p,GK b p⟩,⟨GL b p,FC b p⟩,EV b p,GI b p,⟨0,0⟩⟩:=by
  unfold GJ GK GL FC EV GI stA
  rw[e11,e5,e12,ES,ES,ES,B1,B2]
  show _=TCell.mk (TStamp.mk (bif(Ao b).2.2==0&&GR (Ao b).1 0 then bif !GR (Ao b).1 1 then _ else _ else _) _) _ _ _ _
  show(bif(Ao b).2.2==0&&GR (Ao b).1 0 then bif !GR (Ao b).1 1 then _ else _ else _:Bool×TCell×Int).2.1=TCell.mk (TStamp.mk (bif(Ao b).2.2==0&&GR (Ao b).1 0 then bif !GR (Ao b).1 1 then _ else _ else _) (bif(Ao b).2.2==0&&GR (Ao b).1 0 then bif !GR (Ao b).1 1 then _ else _ else _)) (TVec.mk (bif(Ao b).2.2==0&&GR (Ao b).1 0 then bif !GR (Ao b).1 1 then _ else _ else _) (bif(Ao b).2.2==0&&GR (Ao b).1 0 then bif !GR (Ao b).1 1 then _ else _ else _)) (bif(Ao b).2.2==0&&GR (Ao b).1 0 then bif !GR (Ao b).1 1 then GR (Ao b).1 1 else GR (Ao b).1 1 else _) (bif(Ao b).2.2==0&&GR (Ao b).1 0 then bif !GR (Ao b).1 1 then _ else _ else _) _
  cases((Ao b).2.2==0&&GR (Ao b).1 0)<;>cases GR (Ao b).1 1<;>rfl
 have hok1:(bif(Ao b).2.2==0&&GR (Ao b).1 0 then bif !GR (Ao b).1 1 then(Ao b).2.2==0&&(GA (b.drop (Ao b).2.1.toNat)).2.2==0&&(Gg (b.drop ((Ao b).2.1+(GA (b.drop (Ao b).2.1.toNat)).2.1).toNat)).2.2==0&&(XW (b.drop ((Ao b).2.1+(GA (b.drop (Ao b).2.1.toNat)).2.1+(Gg (b.drop ((Ao b).2.1+(GA (b.drop (Ao b).2.1.toNat)).2.1).toNat)).2.1).toNat) 64).2.2==0
   else(Ao b).2.2==0&&(GA (b.drop (Ao b).2.1.toNat)).2.2==0&&(Gg (b.drop ((Ao b).2.1+(GA (b.drop (Ao b).2.1.toNat)).2.1).toNat)).2.2==0 else(Ao b).2.2==0)=(stA b).1:=by
  unfold stA
  cases((Ao b).2.2==0&&GR (Ao b).1 0)<;>cases GR (Ao b).1 1<;>rfl
 have e1:AD b p=((stA b).1&&GR (Ao b).1 2):=by
  unfold AD
  rw[e11,e5,e12,ES,ES,ES,B1,B2,B4]
  show((bif(Ao b).2.2==0&&GR (Ao b).1 0 then bif !GR (Ao b).1 1 then _ else _ else _)&&GR (Ao b).1 2)=_
  rw[hok1]
 have e6:EW b p=0:=by
  unfold EW
  cases((Ao b).2.2==0&&decide (IntKind.i64.wrap (↑(BitVec.ofInt (64:Nat) (Ao b).1 &&& BitVec.ofInt (64:Nat) (1:Int)).toNat:Int) >(0:Int)))<;>cases decide (IntKind.i64.wrap (↑(BitVec.ofInt (64:Nat) (Ao b).1 &&& BitVec.ofInt (64:Nat) (2:Int)).toNat:Int) >(0:Int))<;>rfl
 refine⟨Aa (fun _=>by rw[e12];omega) (Aa (fun _=>by rw[e11];omega) (Aa (fun _ _=>by rw[e5];omega) (Aa (fun _ _=>by rw[e5,ES,List.length_drop];unfold Ag;omega) (Aa (fun _=>by rw[e2];omega) Ad)))),?_⟩
 have hB1:(stB b).1=bif(stA b).1&&GR (Ao b).1 2 then(stA b).1&&(Gg (b.drop (stA b).2.2.toNat)).2.2==0 else(stA b).1:=by unfold stB;cases((stA b).1&&GR (Ao b).1 2)<;>rfl
 have hB2:(stB b).2.1=TCell.mk (TStamp.mk (bif AD b p then GJ b p else GJ b p) (bif AD b p then GK b p else GK b p)) (TVec.mk (bif AD b p then GL b p else GL b p) (bif AD b p then FC b p else FC b p)) (bif AD b p then EV b p else EV b p) (bif AD b p then GI b p else GI b p) (TVec.mk (bif AD b p then(Gg (b.drop (stA b).2.2.toNat)).1.1 else EW b p) (bif AD b p then(Gg (b.drop (stA b).2.2.toNat)).1.2 else EW b p)):=by
  rw[e1]
  unfold stB
  cases((stA b).1&&GR (Ao b).1 2) with
  |true=>simp only[cond_true];rw[hcell]
  |false=>simp only[cond_false];rw[hcell,e6]
 have hB3:(stB b).2.2=bif AD b p then(stA b).2.2+(Gg (b.drop (stA b).2.2.toNat)).2.1 else(stA b).2.2:=by
  rw[e1]
  unfold stB
  cases((stA b).1&&GR (Ao b).1 2)<;>rfl
 have e0:EU b p=(!(stB b).1||!Bf2 (Ao b).1 (stB b).2.1||!Bw p (stB b).2.1):=by
  unfold EU
  rw[e2,e11,e5,e12,ES,ES,ES,ES,Jc,K9,←hB2]
  rw[B1,B2,B4]
  show((!bif AD b p then(bif(Ao b).2.2==0&&GR (Ao b).1 0 then bif !GR (Ao b).1 1 then _ else _ else _)&&_ else(bif(Ao b).2.2==0&&GR (Ao b).1 0 then bif !GR (Ao b).1 1 then _ else _ else _))||_||_)=_
  rw[hok1,hB1,←e1]
  unfold Bf2
  rw[hB2]
  rfl
 unfold Ih Ae4 Ae5 Avw
 rw[e0]
 cases(!(stB b).1||!Bf2 (Ao b).1 (stB b).2.1||!Bw p (stB b).2.1) with
 |true=>rfl
 |false=>
  simp only[cond_false]
  rw[hB3,e2,ES,hB2,i64_in (by omega)]
theorem Bip (a0:List UInt8) (a1:Int) (hp:∀p∈Aix a0 a1,p):CallOk Try.prog 54 [Af .bytes a0,Af .i64 a1] 0 [] 1 (Rg a0 a1) 0 (Aru a0 a1):=by
 obtain⟨h1,h2⟩:=Biq a0 a1 (hp _ (List.mem_cons_self ..))
 have h:=Boa a0 a1 h1
 have hr:UU a0 a1=Rg a0 a1:=by unfold UU Rg;rw[←h2]
 rw[hr] at h
 exact h
def Azx:List A→Nat→Objs→Option AV:=A7 [.t .bytes,.t .i64] 0 Rg Aru Aix
theorem Bcl:ET Try.prog 54 Azx:=Aq (ks:=[.t .bytes,.t .i64]) Bip
noncomputable def B5k:=AU 54 Azx Bxb
theorem Bxc:CD Try.prog B5k:=Ak Bcl Bhl
noncomputable def Cd:=B5k
theorem B5l:CD Try.prog Cd:=Bxc
end Go.Proofs.Yteebobbhhgmeiaa
namespace Go.Proofs.Yteebobbhhgmeiaa
open Go.RowKit
def Ag1 (a0:TVec):A:=.v (.bool (a0.1==(0:Int)&&a0.2==(0:Int)))
def Ag0 (_a0:TVec):Objs:=[]
def Zq (_a0:TVec):List Prop:=[]
theorem Blm (a0:TVec):Eo (Au Cd L0) 9 108 [Af .vec a0] 0 []=some (1,Ag1 a0,0,Ag0 a0,Zq a0):=by kernel_rfl
theorem Bpr (a0:TVec) (hp:∀p∈Zq a0,p):CallOk Try.prog 108 [Af .vec a0] 0 [] 1 (Ag1 a0) 0 (Ag0 a0):=Ax (Ap B5l Av) (Blm a0) hp
def A3v:List A→Nat→Objs→Option AV:=A7 [.t .vec] 0 Ag1 Ag0 Zq
theorem Be8:ET Try.prog 108 A3v:=Aq (ks:=[.t .vec]) Bpr
noncomputable def B6z:=AU 108 A3v Cd
theorem Bru:CD Try.prog B6z:=Ak Be8 B5l
def K3 (a0:TCell):Bool:=a0.1.1 !=(0:Int)||a0.1.2 !=(0:Int)||a0.2.1 !=(0:Int)||a0.2.2 !=(0:Int)||a0.3||!a0.4.toList==(ByteArray.mk #[]).toList
def S0 (a0:TCell):A:=.v (.bool (K3 a0))
def SZ (_a0:TCell):Objs:=[]
def QB (_a0:TCell):List Prop:=[]
theorem A3u (a0:TCell):Eo (Au B6z L0) 9 106 [Af .cell a0] 0 []=some (1,S0 a0,0,SZ a0,QB a0):=by kernel_rfl
theorem A8a (a0:TCell) (hp:∀p∈QB a0,p):CallOk Try.prog 106 [Af .cell a0] 0 [] 1 (S0 a0) 0 (SZ a0):=Ax (Ap Bru Av) (A3u a0) hp
def Adl:List A→Nat→Objs→Option AV:=A7 [.t .cell] 0 S0 SZ QB
theorem Aw3:ET Try.prog 106 Adl:=Aq (ks:=[.t .cell]) A8a
noncomputable def B60:=AU 106 Adl B6z
theorem Brv:CD Try.prog B60:=Ak Aw3 Bru
def Qz (a0:Int) (a1:TCell):Bool:=bif a0==(1:Int)&&!(a1.5.1==(0:Int)&&a1.5.2==(0:Int))||a0==(2:Int)&&(a1.3||!E8 a1.5)||a0 !=(1:Int)&&a0 !=(2:Int) then false else bif !K3 a1 then true else HD a1.1&&decide (a1.1.1 >(0:Int))&&E8 a1.2&&decide ((↑a1.4.size:Int)≤(64:Int))&&(!a1.3||a1.4.toList==(ByteArray.mk #[]).toList)
def Agv (a0:Int) (a1:TCell):A:=.v (.bool (Qz a0 a1))
def Agu (_a0:Int) (_a1:TCell):Objs:=[]
def Zk (_a0:Int) (_a1:TCell):List Prop:=[]
theorem Blf (a0:Int) (a1:TCell):Eo (Au B60 L0) 9 42 [Af .i64 a0,Af .cell a1] 0 []=some (1,Agv a0 a1,0,Agu a0 a1,Zk a0 a1):=by kernel_rfl
theorem Bpn (a0:Int) (a1:TCell) (hp:∀p∈Zk a0 a1,p):CallOk Try.prog 42 [Af .i64 a0,Af .cell a1] 0 [] 1 (Agv a0 a1) 0 (Agu a0 a1):=Ax (Ap Brv Av) (Blf a0 a1) hp
def A3o:List A→Nat→Objs→Option AV:=A7 [.t .i64,.t .cell] 0 Agv Agu Zk
theorem Be4:ET Try.prog 42 A3o:=Aq (ks:=[.t .i64,.t .cell]) Bpn
noncomputable def B8m:=AU 42 A3o B60
theorem B2k:CD Try.prog B8m:=Ak Be4 Brv
theorem Ze (s:TStamp):HD s=In s:=rfl
theorem RQ (v:TVec):E8 v=CM v:=by
 unfold E8 CM
 rw[Bool.and_assoc]
theorem Zp (c:TCell):K3 c=BY c:=by
 unfold K3 BY bne
 rw[SQ]
 generalize (c.1.1==(0:Int))=a
 generalize (c.1.2==(0:Int))=b
 generalize (c.2.1==(0:Int))=d
 generalize (c.2.2==(0:Int))=e
 show(!a||!b||!d||!e||c.gone||!(c.4.size==0))=!(a&&b&&(d&&e)&&(!c.gone&&c.value.size==0))
 cases a<;>cases b<;>cases d<;>cases e<;>cases c.gone<;>simp
theorem Atj (p:Int) (c:TCell):Qz p c=Bw p c:=by
 unfold Qz Bw bne
 rw[Zp,RQ,RQ,Ze,SQ]
 have h1:(p==(1:Int)&&!(c.5.1==(0:Int)&&c.5.2==(0:Int))||p==(2:Int)&&(c.3||!CM c.5)||!(p==(1:Int))&&!(p==(2:Int)))=(p==1&&!HG c.dead||(p==2&&(c.gone||!CM c.dead)||!(p==1||p==2))):=by
  rw[Bool.or_assoc,Bool.not_or]
  rfl
 have h2:(!c.3||c.4.size==0)=!(c.gone&&!(c.value.size==0)):=by rw[Bool.not_and,Bool.not_not]
 rw[h1,h2]
noncomputable def Cf:=B8m
theorem Bxd:CD Try.prog Cf:=B2k
end Go.Proofs.Yteebobbhhgmeiaa
namespace Go.Proofs.Yteebobbhhgmeiaa
open Go.RowKit
theorem Bbe {X:Type} (mk:Nat→X) (n:Nat) (stop:Nat→Bool) (next:X→X) (goes:X→Cnd) (ps:X→List Prop)
  (hg:∀i,i≤n→(∀j,j <i→stop j=false)→Bo (goes (mk i))=(decide (i <n)&&!stop i)) (hn:∀i,i <n→(∀j,j <i+1→stop j=false)→next (mk i)=mk (i+1)) (hp:∀i,i≤n→(∀j,j <i→stop j=false)→∀p∈ps (mk i),p):
  ∀(f i:Nat),i≤n→n≤i+f→(∀j,j <i→stop j=false)→
  AB next goes ps f (mk i)∧∃k,k≤n∧A5 next goes f (mk i)=mk k∧(∀j,j <k→stop j=false)∧(k <n→stop k=true)
 |0,i,hi,hf,hs=>by
  have hc:=hg i hi hs
  have:i=n:=by omega
  rw[decide_eq_false (by omega),Bool.false_and] at hc
  exact⟨⟨hp i hi hs,hc⟩,i,hi,rfl,hs,fun h=>by omega⟩
 | f +1,i,hi,hf,hs=>by
  have hc:=hg i hi hs
  cases hb:Bo (goes (mk i)) with
  | false=>
   have e:A5 next goes (f+1) (mk i)=mk i:=by
    show(bif Bo (goes (mk i)) then _ else mk i)=mk i
    rw[hb];rfl
   rw[e]
   refine⟨⟨hp i hi hs,fun h=>by rw[hb] at h;cases h⟩,i,hi,rfl,hs,fun h=>?_⟩
   rw[hb,decide_eq_true h,Bool.true_and] at hc
   cases hst:stop i with
   |true=>rfl
   |false=>rw[hst] at hc;cases hc
  | true=>
   rw[hb] at hc
   have h1:i <n:=by
    cases hd:decide (i <n) with
    |true=>exact of_decide_eq_true hd
    |false=>rw[hd] at hc;cases hc
   have h2:stop i=false:=by
    cases hst:stop i with
    |false=>rfl
    |true=>rw[hst,Bool.and_comm] at hc;cases hc
   have hs':∀j,j <i+1→stop j=false:=fun j hj=>by
    by_cases h:j <i
    ·exact hs j h
    ·obtain rfl:j=i:=by omega
     exact h2
   have e:A5 next goes (f+1) (mk i)=A5 next goes f (mk (i+1)):=by
    show(bif Bo (goes (mk i)) then A5 next goes f (next (mk i)) else mk i)=_
    rw[hb,hn i h1 hs'];rfl
   obtain⟨g1,g2⟩:=Bbe mk n stop next goes ps hg hn hp f (i+1) h1 (by omega) hs'
   rw[e]
   exact⟨⟨hp i hi hs,fun _=>by rw[hn i h1 hs'];exact g1⟩,g2⟩
theorem Bvx {X:Type} (mk:Nat→X) (n:Nat) (stop:Nat→Bool) (next:X→X) (goes:X→Cnd) (ps:X→List Prop) (f:Nat) (x:X) (hx:x=mk 0) (hf:n≤f)
  (hg:∀i,i≤n→(∀j,j <i→stop j=false)→Bo (goes (mk i))=(decide (i <n)&&!stop i)) (hn:∀i,i <n→(∀j,j <i+1→stop j=false)→next (mk i)=mk (i+1)) (hp:∀i,i≤n→(∀j,j <i→stop j=false)→∀p∈ps (mk i),p):
  AB next goes ps f x∧∃k,k≤n∧A5 next goes f x=mk k∧(∀j,j <k→stop j=false)∧(k <n→stop k=true):=by
 subst hx
 exact Bbe mk n stop next goes ps hg hn hp f 0 (Nat.zero_le _) (by omega) fun j h=>absurd h (Nat.not_lt_zero _)
theorem DU {i:Nat} (h:i <9223372036854775807):IntKind.i64.wrap ((i:Int)+1)=((i+1:Nat):Int):=by rw[i64_in (by omega)];omega
theorem LY {i n:Nat}:decide ((i:Int) <(n:Int))=decide (i <n):=by
 by_cases h:i <n
 ·rw[decide_eq_true h,decide_eq_true (by omega)]
 ·rw[decide_eq_false h,decide_eq_false (by omega)]
theorem nn (b:Bool):(!!b)=b:=Bool.not_not b
theorem Bh9 {α:Type} (l:List α) (d:α) (p:α→Bool) (k:Nat) (hk:k≤l.length) (h1:∀j,j <k→p (l.getD j d)=true) (h2:k <l.length→p (l.getD k d)=false):l.all p=decide (¬k <l.length):=by
 by_cases h:k <l.length
 ·rw[decide_eq_false (by omega)]
  have:=h2 h
  rw[List.getD_eq_getElem?_getD,List.getElem?_eq_getElem h,Option.getD_some] at this
  cases ha:l.all p with
  |false=>rfl
  |true=>rw[List.all_eq_true.1 ha _ (List.getElem_mem h)] at this;cases this
 ·rw[decide_eq_true (by omega)]
  refine List.all_eq_true.2 fun x hx=>?_
  obtain⟨i,hi,rfl⟩:=List.mem_iff_getElem.1 hx
  have:=h1 i (by omega)
  rw[List.getD_eq_getElem?_getD,List.getElem?_eq_getElem hi,Option.getD_some] at this
  exact this
def Am (n:Nat):Prop:=n≤9223372036854775807
def JX (n:Nat) (p:Nat→Bool):Bool:=(List.range n).all p
theorem JY {n:Nat} {p:Nat→Bool}:JX n p=true↔∀i,i <n→p i=true:=by
 unfold JX
 rw[List.all_eq_true]
 exact⟨fun h i hi=>h i (List.mem_range.2 hi),fun h i hi=>h i (List.mem_range.1 hi)⟩
theorem Hk {n:Nat} {p q:Nat→Bool} (h:∀i,i <n→p i=q i):JX n p=JX n q:=by
 rw[Bool.eq_iff_iff,JY,JY]
 exact⟨fun g i hi=>(h i hi)▸g i hi,fun g i hi=>(h i hi).symm▸g i hi⟩
theorem Io {X:Type} (mk:Nat→X) (n:Nat) (bad:Nat→Bool) (next:X→X) (goes:X→Cnd) (ps:X→List Prop) (f:Nat) (x:X) (hx:x=mk 0) (hf:n≤f)
  (hg:∀i,i≤n→(∀j,j <i→bad j=false)→Bo (goes (mk i))=(decide (i <n)&&!bad i)) (hn:∀i,i <n→(∀j,j <i+1→bad j=false)→next (mk i)=mk (i+1)) (hp:∀i,i≤n→(∀j,j <i→bad j=false)→∀p∈ps (mk i),p):
  AB next goes ps f x∧∃k,k≤n∧A5 next goes f x=mk k∧(∀j,j <k→bad j=false)∧(k <n→bad k=true)∧(decide (k <n)&&bad k)=!JX n (fun i=>!bad i):=by
 obtain⟨h1,k,hk,h2,h3,h4⟩:=Bvx mk n bad next goes ps f x hx hf hg hn hp
 refine⟨h1,k,hk,h2,h3,h4,?_⟩
 by_cases h:k <n
 ·rw[decide_eq_true h,h4 h]
  cases ha:JX n (fun i=>!bad i) with
  |false=>rfl
  |true=>have:=JY.1 ha k h;rw[h4 h] at this;cases this
 ·rw[decide_eq_false h,JY.2 (fun i hi=>by rw[h3 i (by omega)];rfl)]
  rfl
theorem Byh {α:Type} (l:List α) (d:α) (p:α→Bool):l.all p=JX l.length (fun i=>p (l.getD i d)):=by
 rw[Bool.eq_iff_iff,List.all_eq_true,JY]
 constructor
 ·intro h i hi
  rw[List.getD_eq_getElem?_getD,List.getElem?_eq_getElem hi,Option.getD_some]
  exact h _ (List.getElem_mem hi)
 ·intro h x hx
  obtain⟨i,hi,rfl⟩:=List.mem_iff_getElem.1 hx
  have:=h i hi
  rw[List.getD_eq_getElem?_getD,List.getElem?_eq_getElem hi,Option.getD_some] at this
  exact this
theorem B6g {α β:Type} (l:List α) (r:List β) (d:α) (e:β) (p:α→β→Bool) (h:r.length=l.length):(l.zip r).all (fun x=>p x.1 x.2)=JX l.length (fun i=>p (l.getD i d) (r.getD i e)):=by
 rw[Byh (l.zip r) (d,e),List.length_zip,h,Nat.min_self]
 refine Hk fun i hi=>?_
 rw[List.getD_eq_getElem?_getD,List.getD_eq_getElem?_getD,List.getD_eq_getElem?_getD,List.getElem?_eq_getElem (by rw[List.length_zip];omega),List.getElem?_eq_getElem hi,List.getElem?_eq_getElem (by omega),List.getElem_zip]
 rfl
theorem B94 (n:Nat):(n==0)=!decide (1≤n):=by cases n<;>simp
theorem Azp (n:Nat):((n:Int)==0)=(n==0):=by cases n<;>simp;omega
theorem dgt (n k:Nat):decide ((n:Int) >(k:Int))=decide (k <n):=decide_eq_decide.2 (by omega)
instance:LawfulBEq ByteArray where
 rfl:=fun {a}=>by cases a with|mk a=>exact beq_self_eq_true a
 eq_of_beq:=fun {a b} h=>by
  cases a with|mk a=>cases b with|mk b=>exact congrArg ByteArray.mk (eq_of_beq (α:=Array UInt8) h)
theorem A0j:∀(m:List (ByteArray×Int)) (b:ByteArray) (v:Int) (x:ByteArray),KY (Ab5 m b v) x=if x=b then v else KY m x
 | [],b,v,x=>by
  by_cases h:x=b
  ·subst h;simp[Ab5,KY]
  ·simp[Ab5,KY,h,show(x==b)=false from beq_eq_false_iff_ne.2 h]
 | (a,n)::r,b,v,x=>by
  unfold Ab5
  by_cases h:b=a
  ·subst h
   rw[show(b==b)=true from beq_self_eq_true b,cond_true]
   by_cases hx:x=b
   ·subst hx;simp[KY]
   ·simp[KY,hx,show(x==b)=false from beq_eq_false_iff_ne.2 hx]
  ·rw[show(b==a)=false from beq_eq_false_iff_ne.2 h,cond_false]
   by_cases hx:x=a
   ·subst hx
    rw[if_neg (fun e=>h e.symm)]
    simp[KY]
   ·simp only[KY,show(x==a)=false from beq_eq_false_iff_ne.2 hx,cond_false]
    exact A0j r b v x
def Yv (b:UInt8):Bool:=decide (97≤b.toNat)&&decide (b.toNat≤122)
def I3 (s:ByteArray):Bool:=s.data.toList.all Yv&&(decide (1≤s.size)&&decide (s.size≤12))
def Qo (p:Int):Bool:=p==1||p==2
def Sw:List ByteArray→List TGroup→Int
 |_,[]=>0
 |seen,g::r=>bif !(I3 g.name&&Qo g.policy) then 2 else bif seen.any (fun s=>s==g.name) then 70 else Sw (seen++[g.name]) r
def AO (l:List TGroup):Int:=bif l.length==0 then 2 else bif decide (4 <l.length) then 3 else Sw [] l
theorem LM (s:ByteArray):s.data.toList.length=s.size:=by show s.data.toList.length=s.data.size;exact Array.length_toList
theorem Bzf (s:ByteArray) (i:Nat) (h:i <s.size):s.data.toList.getD i 0=s[i]'h:=by
 rw[List.getD_eq_getElem?_getD,List.getElem?_eq_getElem (by rw[LM];exact h)]
 rfl
theorem Bm4 (s:ByteArray) (i:Nat) (h:i <s.size):(decide (((Utf8.decode s i).1:Int) <97)||decide (((Utf8.decode s i).1:Int) >122))=!Yv (s.data.toList.getD i 0)∧(Yv (s.data.toList.getD i 0)=true→(Utf8.decode s i).2=1):=by
 rw[Bzf s i h]
 by_cases hb:(s[i]'h).toNat <128
 ·rw[decode_ascii s i h hb]
  refine⟨?_,fun _=>rfl⟩
  unfold Yv
  rw[Bool.not_and,←decide_not,←decide_not]
  congr 1<;>exact decide_eq_decide.2 (by omega)
 ·have h2:=(decode_high s i h (by omega)).1
  have hl:Yv (s[i]'h)=false:=by unfold Yv;rw[decide_eq_false (p:=(s[i]'h).toNat≤122) (by omega),Bool.and_false]
  rw[hl]
  refine⟨?_,fun h=>by cases h⟩
  rw[decide_eq_true (p:=((Utf8.decode s i).1:Int) >122) (by omega),Bool.or_true]
  rfl
theorem FR {l:List TGroup} (h:AO l=0):1≤l.length∧l.length≤4:=by
 unfold AO at h
 cases h1:l.length==0 with
 |true=>rw[h1] at h;cases h
 | false=>
  rw[h1] at h
  cases h2:decide (4 <l.length) with
  |true=>rw[h2] at h;cases h
  |false=>
   have:=of_decide_eq_false h2
   have h3:l.length≠0:=by simpa using h1
   omega
theorem Bac (l:List TGroup) (k:Nat) (seen:List ByteArray):(∀j,j <k→j <l.length→(I3 (l.getD j (Ab TC.group)).name&&Qo (l.getD j (Ab TC.group)).policy)=true∧(seen++(l.take j).map (·.name)).any (fun s=>s==(l.getD j (Ab TC.group)).name)=false)→
  Sw seen l=Sw (seen++(l.take k).map (·.name)) (l.drop k):=by
 induction l generalizing k seen with
 |nil=>intro _;simp[Sw]
 | cons g r ih=>
  intro h
  cases k with
  |zero=>simp
  | succ k=>
   obtain⟨h1,h2⟩:=h 0 (Nat.succ_pos _) (Nat.succ_pos _)
   have h1':(I3 g.name&&Qo g.policy)=true:=h1
   have h2':seen.any (fun s=>s==g.name)=false:=by simpa using h2
   rw[Sw,h1',h2',Bool.not_true,cond_false,cond_false]
   rw[ih k (seen++[g.name]) (fun j hj hl=>by
    have:=h (j+1) (by omega) (by simpa using hl)
    simpa[List.append_assoc] using this)]
   simp[List.append_assoc]
def T8 (l:List TGroup):Nat→List (ByteArray×Int)
 |0=>[]
 |i+1=>Ab5 (T8 l i) (l.getD i (Ab TC.group)).1 (IntKind.i64.wrap (KY (T8 l i) (l.getD i (Ab TC.group)).1+1))
def Xd (l:List TGroup) (i:Nat):Bool:=!(I3 (l.getD i (Ab TC.group)).1&&Qo (l.getD i (Ab TC.group)).2)||((l.take i).map (·.name)).any (fun s=>s==(l.getD i (Ab TC.group)).1)
theorem Bqw (l:List TGroup) (i:Nat) (h:i <l.length):(l.take (i+1)).map (·.name)=(l.take i).map (·.name)++[(l.getD i (Ab TC.group)).1]:=by
 rw[List.take_add_one,List.getD_eq_getElem?_getD,List.getElem?_eq_getElem h,List.map_append]
 rfl
theorem A0i (l:List TGroup):∀(i:Nat),i≤l.length→(∀j,j <i→Xd l j=false)→∀x,KY (T8 l i) x=bif((l.take i).map (·.name)).any (fun s=>s==x) then 1 else 0
 |0,_,_,x=>by simp[T8,KY]
 | i+1,hi,hs,x=>by
  have ih:=A0i l i (by omega) (fun j hj=>hs j (by omega))
  have h:=hs i (Nat.lt_succ_self i)
  unfold Xd at h
  have h2:=(Bool.or_eq_false_iff.1 h).2
  unfold T8
  rw[A0j,ih,h2,Bqw l i (by omega),List.any_append,ih]
  by_cases hx:x=(l.getD i (Ab TC.group)).1
  ·subst hx
   rw[if_pos rfl]
   simp
   decide
  ·rw[if_neg hx]
   have:([(l.getD i (Ab TC.group)).1].any fun s=>s==x)=false:=by
    simp only[List.any_cons,List.any_nil,Bool.or_false]
    exact beq_eq_false_iff_ne.2 fun e=>hx e.symm
   rw[this,Bool.or_false]
end Go.Proofs.Yteebobbhhgmeiaa
namespace Go.Proofs.Yteebobbhhgmeiaa
open Go.RowKit
abbrev BK:Type:=ByteArray×Nat
def JV (x:BK):St:=⟨36,2,[(26,.own 1 0)],[(1,some (.sit x.1 x.2))]⟩
def Ly:St→Option BK
 |⟨36,2,[(26,.own 1 0)],[(1,some (.sit z0 z1))]⟩=>some (z0,z1)
 |_=>none
theorem Y8:∀s x,Ly s=some x→s=JV x:=fun s x h=>by
 unfold Ly at h
 split at h
 ·cases h;rfl
 ·cases h
def RO:Co:=⟨2,2,[26],[],[(1,1)],[1],[2],[1]⟩
def Alm:CR:=⟨[],[(1,1)],[26],[1]⟩
def FI (a0:ByteArray) (a1:Nat):Bool:=!!decide (a1 <a0.size)
def Da (a0:ByteArray) (a1:Nat):Bool:=(FI a0 a1)&&(decide ((↑(Utf8.decode a0 a1).fst:Int) <(97:Int))||decide ((↑(Utf8.decode a0 a1).fst:Int) >(122:Int)))
def Abv (a0:ByteArray) (a1:Nat):Nat:=bif decide (a1 <a0.size) then a1+(Utf8.decode a0 a1).snd else a1
def Abw (a0:ByteArray) (a1:Nat):Bool:=(FI a0 a1)&&!(Da a0 a1)
def Abx (a0:ByteArray) (a1:Nat):Nat:=bif decide (a1 <a0.size) then a1+(Utf8.decode a0 a1).snd else a1
def Aby (a0:ByteArray) (a1:Nat):Nat:=bif decide (a1 <a0.size) then a1+(Utf8.decode a0 a1).snd else a1
def D6 (x:BK):BK:=(x.1,Abv x.1 x.2)
def D5 (x:BK):Cnd:=some (Abw x.1 x.2)
def Pb (x:BK):List Prop:=[((FI x.1 x.2)=true→decide (x.2 <x.1.size)=true)]
def HA (_x:BK):List Prop:=[]
def Od (x:BK):Bd:=[(some 0,some (!decide (x.2 <x.1.size)),⟨36,2,[(2,.dead)],[(1,some (.sit x.1 (Abx x.1 x.2)))]⟩),(none,some ((Da x.1 x.2)),⟨36,2,[(2,.v (.bool (false)))],[(1,some (.sit x.1 (Aby x.1 x.2)))]⟩)]
def FJ (x:BK):Nat:=x.1.size - x.2
def KV (x:BK):BK:=A5 D6 D5 (FJ x) x
theorem Agh (a0:ByteArray) (a1:Nat):Bk (Au Cf L0) 9 (Ae Try.prog 164 0) RO (JV (a0,a1))=some (Pb (a0,a1),Od (a0,a1),D5 (a0,a1),JV (D6 (a0,a1))):=by kernel_rfl
theorem Agi (a0:ByteArray) (a1:Nat) (_hp:∀p∈HA (a0,a1),p):∀p∈Pb (a0,a1),p:=by
 have n0:((FI a0 a1)=true→decide (a1 <a0.size)=true):=by intro h;exact(Bool.not_not _).symm.trans h
 exact(Aa n0 Ad)
noncomputable def Pc:=GH (Au Cf L0) (Ae Try.prog 164 0) RO Alm Ly FJ D6 D5 HA Od
theorem Abz:∀s b ps outs,Pc s=some (b,ps,outs)→Wf s ⟨ps,outs,none⟩∧Be (Au C0 L0) b s ps outs:=
 A6 (T:=JV) Bxd Av (u:=9) (by kernel_rfl) (by decide) (fun⟨a0,a1⟩=>Agh a0 a1) (fun⟨a0,a1⟩=>Agi a0 a1) Y8 (fun _=>AI (n:=36) rfl) fun _ _=>rfl
noncomputable def RN:=CY 0 Pc L0
theorem Abu:Gf RN:=AP Abz Av
def Gp (a0:TGroup):Bool:=a0.1.toList==(ByteArray.mk #[]).toList||decide ((↑a0.1.size:Int) >(12:Int))||a0.2 !=(1:Int)&&a0.2 !=(2:Int)
def Qu (a0:TGroup):Bool:=bif(Gp a0) then false else bif Da (KV (a0.1,(0:Nat))).fst (KV (a0.1,(0:Nat))).snd then false else true
def Qv (a0:TGroup):A:=.v (.bool (Qu a0))
def Y9 (_a0:TGroup):Objs:=[]
def WC (a0:TGroup):List Prop:=[((!(Gp a0))=true→AB D6 D5 HA (FJ (a0.1,(0:Nat))) (a0.1,(0:Nat)))]
theorem Awu (a0:TGroup):Eo (Au Cf RN) 9 164 [Af .group a0] 0 []=some (1,Qv a0,0,Y9 a0,[((!(Gp a0))=true→Ae Try.prog (164:FuncId) (0:Nat)=Ae Try.prog (164:FuncId) (0:Nat)),((!(Gp a0))=true→AB D6 D5 HA (FJ (a0.1,(0:Nat))) (a0.1,(0:Nat)))]):=by kernel_rfl
theorem A24 (a0:TGroup) (hp:∀p∈WC a0,p):CallOk Try.prog 164 [Af .group a0] 0 [] 1 (Qv a0) 0 (Y9 a0):=by
 have n0:((!(Gp a0))=true→Ae Try.prog (164:FuncId) (0:Nat)=Ae Try.prog (164:FuncId) (0:Nat)):=by intros;rfl
 have n1:=N0 hp
 exact Ax (Ap Bxd Abu) (Awu a0) (Aa n0 (Aa n1 Ad))
def WD (a0:TGroup):A:=.v (.bool (I3 a0.name&&Qo a0.policy))
def WB (_a0:TGroup):Objs:=[]
def Ul (_a0:TGroup):List Prop:=[]
theorem WA (g:TGroup):(∀p∈WC g,p)∧Qu g=(I3 g.name&&Qo g.policy):=by
 have hk0:∀i,Da g.1 i=(decide (i <g.1.size)&&!Yv (g.1.data.toList.getD i 0)):=fun i=>by
  unfold Da FI
  rw[nn]
  by_cases h:i <g.1.size
  ·rw[decide_eq_true h,Bool.true_and,Bool.true_and];exact(Bm4 g.1 i h).1
  ·rw[decide_eq_false h];rfl
 obtain⟨h1,k,hk,hx,hs,hst⟩:=Bvx (fun i=>((g.1,i):ByteArray×Nat)) g.1.size (fun i=>!Yv (g.1.data.toList.getD i 0)) D6 D5 HA (FJ (g.1,0)) (g.1,0) rfl (Nat.le_refl _)
  (fun i _ _=>by
   show((!!decide (i <g.1.size))&&!Da g.1 i)=_
   rw[hk0,nn]
   cases decide (i <g.1.size)<;>rfl)
  (fun i hi hj=>by
   show(g.1,(bif decide (i <g.1.size) then i+(Utf8.decode g.1 i).snd else i))=(g.1,i+1)
   have h2:=hj i (Nat.lt_succ_self i)
   rw[decide_eq_true hi,cond_true,(Bm4 g.1 i hi).2 (by simpa using h2)])
  (fun _ _ _=>Ad)
 refine⟨Aa (fun _=>h1) Ad,?_⟩
 have hr:KV (g.1,0)=(g.1,k):=hx
 have ha:g.1.data.toList.all Yv=decide (¬k <g.1.size):=by
  have:=Bh9 g.1.data.toList 0 Yv k (by rw[LM];exact hk) (fun j hj=>by simpa using hs j hj) (fun h=>by rw[LM] at h;simpa using hst h)
  rw[LM] at this
  exact this
 unfold Qu
 rw[hr]
 show(bif Gp g then false else bif Da g.1 k then false else true)=_
 rw[hk0]
 unfold Gp I3 Qo
 rw[SQ]
 show _=(g.1.data.toList.all Yv&&(decide (1≤g.1.size)&&decide (g.1.size≤12))&&(g.2==1||g.2==2))
 rw[ha]
 have e1:(g.1.size==0)=!decide (1≤g.1.size):=B94 _
 have e2:decide ((g.1.size:Int) >12)=!decide (g.1.size≤12):=by
  rw[←decide_not];exact decide_eq_decide.2 (by generalize g.1.size=m;omega)
 have e3:(g.2 !=1&&g.2 !=2)=!(g.2==1||g.2==2):=by simp[bne]
 rw[e1,e2,e3]
 by_cases h:k <g.1.size
 ·have:=hst h
  rw[this,decide_eq_true h,decide_eq_false (not_not_intro h)]
  simp
 ·rw[decide_eq_false h,decide_eq_true h]
  cases decide (1≤g.1.size)<;>cases decide (g.1.size≤12)<;>cases(g.2==1||g.2==2)<;>rfl
theorem Awt (a0:TGroup) (_hp:∀p∈Ul a0,p):CallOk Try.prog 164 [Af .group a0] 0 [] 1 (WD a0) 0 (WB a0):=by
 have h:=A24 a0 (WA a0).1
 unfold Qv at h
 rw[(WA a0).2] at h
 exact h
def Za:List A→Nat→Objs→Option AV:=A7 [.t .group] 0 WD WB Ul
theorem Apq:ET Try.prog 164 Za:=Aq (ks:=[.t .group]) Awt
noncomputable def Bxe:=AU 164 Za Cf
theorem Bby:CD Try.prog Bxe:=Ak Apq Bxd
abbrev Bp:Type:=(List TGroup)×Int×Int×(List (U .str×U .i64))
def KJ (x:Bp):St:=⟨35,1,[(3,.mp 0),(15,.sl .group x.1),(16,.v (.int .i64 x.2.1)),(17,.v (.int .i64 x.2.2.1))],[(0,some (.map .str .i64 x.2.2.2))]⟩
def MF:St→Option Bp
 |⟨35,1,[(3,.mp 0),(15,.sl .group z0),(16,.v (.int .i64 z1)),(17,.v (.int .i64 z2))],[(0,some (.map .str .i64 z3))]⟩=>some (z0,z1,z2,z3)
 |_=>none
theorem Abt:∀s x,MF s=some x→s=KJ x:=fun s x h=>by
 unfold MF at h
 split at h
 ·cases h;rfl
 ·cases h
def Uk:Co:=⟨1,1,[3,15,16,17],[],[(0,0)],[0],[2],[0]⟩
def App:CR:=⟨[],[(0,0)],[3,15,16,17],[0]⟩
def EQ (a0:List TGroup) (_a1:Int) (a2:Int) (a3:List (U .str×U .i64)):List (ByteArray×Int):=Ab5 a3 (a0.getD a2.toNat (Ab TC.group)).1 (IntKind.i64.wrap (KY a3 (a0.getD a2.toNat (Ab TC.group)).1+(1:Int)))
def Dy (a0:List TGroup) (a1:Int) (a2:Int) (a3:List (U .str×U .i64)):Bool:=!!decide (a2 <a1)&&(!(I3 (a0.getD a2.toNat (Ab TC.group)).1&&Qo (a0.getD a2.toNat (Ab TC.group)).2)||decide (KY (EQ a0 a1 a2 a3) (a0.getD a2.toNat (Ab TC.group)).1 >(1:Int)))
def Age (a0:List TGroup) (a1:Int) (a2:Int) (a3:List (U .str×U .i64)):List (U .str×U .i64):=(EQ a0 a1 a2 a3)
def Agf (a0:List TGroup) (a1:Int) (a2:Int) (a3:List (U .str×U .i64)):Bool:=!!decide (a2 <a1)&&!(Dy a0 a1 a2 a3)
def Jj (a0:List TGroup) (_a1:Int) (a2:Int) (_a3:List (U .str×U .i64)):Int:=bif !(I3 (a0.getD a2.toNat (Ab TC.group)).1&&Qo (a0.getD a2.toNat (Ab TC.group)).2) then(2:Int) else(70:Int)
def Abs (a0:List TGroup) (a1:Int) (a2:Int) (a3:List (U .str×U .i64)):List (U .str×U .i64):=bif !(I3 (a0.getD a2.toNat (Ab TC.group)).1&&Qo (a0.getD a2.toNat (Ab TC.group)).2) then a3 else(EQ a0 a1 a2 a3)
def DA (x:Bp):Bp:=(x.1,x.2.1,IntKind.i64.wrap (x.2.2.1+(1:Int)),Age x.1 x.2.1 x.2.2.1 x.2.2.2)
def Dz (x:Bp):Cnd:=some (Agf x.1 x.2.1 x.2.2.1 x.2.2.2)
def Lx (x:Bp):List Prop:=[((!!decide (x.2.2.1 <x.2.1))=true→(0:Int)≤x.2.2.1∧x.2.2.1 <(↑x.1.length:Int))]
abbrev F4:Bp→List Prop:=Lx
def Pa (x:Bp):Bd:=[(some 1,some (!decide (x.2.2.1 <x.2.1)),⟨35,1,[(2,.dead)],[(0,some (.map .str .i64 x.2.2.2))]⟩),(none,some ((Dy x.1 x.2.1 x.2.2.1 x.2.2.2)),⟨35,2,[(2,.v (.int .i64 (Jj x.1 x.2.1 x.2.2.1 x.2.2.2)))],[(0,some (.map .str .i64 (Abs x.1 x.2.1 x.2.2.1 x.2.2.2)))]⟩)]
def ER (x:Bp):Nat:=(x.2.1 - x.2.2.1).toNat
def Hz (x:Bp):Bp:=A5 DA Dz (ER x) x
theorem Alk (a0:List TGroup) (a1:Int) (a2:Int) (a3:List (U .str×U .i64)):Bk (Au Bxe L0) 9 (Ae Try.prog 131 1) Uk (KJ (a0,a1,a2,a3))=some (Lx (a0,a1,a2,a3),Pa (a0,a1,a2,a3),Dz (a0,a1,a2,a3),KJ (DA (a0,a1,a2,a3))):=by kernel_rfl
theorem All (a0:List TGroup) (a1:Int) (a2:Int) (a3:List (U .str×U .i64)) (hp:∀p∈F4 (a0,a1,a2,a3),p):∀p∈Lx (a0,a1,a2,a3),p:=hp
noncomputable def Qt:=GH (Au Bxe L0) (Ae Try.prog 131 1) Uk App MF ER DA Dz F4 Pa
theorem Agg:∀s b ps outs,Qt s=some (b,ps,outs)→Wf s ⟨ps,outs,none⟩∧Be (Au C0 L0) b s ps outs:=
 A6 (T:=KJ) Bby Av (u:=9) (by kernel_rfl) (by decide) (fun⟨a0,a1,a2,a3⟩=>Alk a0 a1 a2 a3) (fun⟨a0,a1,a2,a3⟩=>All a0 a1 a2 a3) Abt (fun _=>AI (n:=35) rfl) fun _ _=>rfl
noncomputable def Uj:=CY 1 Qt L0
theorem Agd:Gf Uj:=AP Agg Av
def EF (a0:List TGroup):Bool:=(↑a0.length:Int)==(0:Int)||decide ((↑a0.length:Int) >(4:Int))
def Qs (a0:List TGroup):List TGroup:=(Hz (a0,(↑a0.length:Int),(0:Int),[])).fst
def Qr (a0:List TGroup):Int:=(Hz (a0,(↑a0.length:Int),(0:Int),[])).snd.fst
def Qq (a0:List TGroup):List (U TC.str×U TC.i64):=(Hz (a0,(↑a0.length:Int),(0:Int),[])).snd.snd.snd
def Qp (a0:List TGroup):Int:=(Hz (a0,(↑a0.length:Int),(0:Int),[])).snd.snd.fst
def K2 (a0:List TGroup):Int:=bif(EF a0) then bif(↑a0.length:Int)==(0:Int) then(2:Int) else(3:Int) else bif Dy (Qs a0) (Qr a0) (Qp a0) (Qq a0) then Jj (Qs a0) (Qr a0) (Qp a0) (Qq a0) else(0:Int)
def SX (a0:List TGroup):A:=.v (.int .i64 (K2 a0))
def Ade (_a0:List TGroup):Objs:=[]
def Y4 (a0:List TGroup):List Prop:=[((!(EF a0))=true→AB DA Dz F4 (ER (a0,(↑a0.length:Int),(0:Int),[])) (a0,(↑a0.length:Int),(0:Int),[]))]
theorem A23 (a0:List TGroup):Eo (Au Bxe Uj) 9 131 [.sl .group a0] 0 []=some (1,SX a0,0,Ade a0,[((!(EF a0))=true→Ae Try.prog (131:FuncId) (1:Nat)=Ae Try.prog (131:FuncId) (1:Nat)),((!(EF a0))=true→AB DA Dz F4 (ER (a0,(↑a0.length:Int),(0:Int),[])) (a0,(↑a0.length:Int),(0:Int),[]))]):=by kernel_rfl
theorem A73 (a0:List TGroup) (hp:∀p∈Y4 a0,p):CallOk Try.prog 131 [.sl .group a0] 0 [] 1 (SX a0) 0 (Ade a0):=by
 have n0:((!(EF a0))=true→Ae Try.prog (131:FuncId) (1:Nat)=Ae Try.prog (131:FuncId) (1:Nat)):=by intros;rfl
 have n1:=N0 hp
 exact Ax (Ap Bby Agd) (A23 a0) (Aa n0 (Aa n1 Ad))
def Y5 (a0:List TGroup):A:=.v (.int .i64 (AO a0))
def Y3 (_a0:List TGroup):Objs:=[]
def Wz (_a0:List TGroup):List Prop:=[]
theorem Y2 (l:List TGroup):(∀p∈Y4 l,p)∧K2 l=AO l:=by
 have e4:EF l=(l.length==0||decide (4 <l.length)):=by
  unfold EF
  rw[Azp]
  congr 1
  exact dgt l.length 4
 have main:EF l=false→AB DA Dz F4 (ER (l,(l.length:Int),0,[])) (l,(l.length:Int),0,[])∧K2 l=AO l:=fun h4=>by
  have hn4:l.length≤4:=by
   rw[e4] at h4
   have:=of_decide_eq_false (Bool.or_eq_false_iff.1 h4).2
   omega
  have hk0:∀i,i≤l.length→(∀j,j <i→Xd l j=false)→Dy l (l.length:Int) (i:Int) (T8 l i)=(decide (i <l.length)&&Xd l i):=fun i hi hs=>by
   unfold Dy EQ
   rw[Int.toNat_natCast,A0j,if_pos rfl,A0i l i hi hs,nn,LY]
   unfold Xd
   congr 2
   cases((l.take i).map (·.name)).any (fun s=>s==(l.getD i (Ab TC.group)).1)<;>rfl
  obtain⟨h1,k,hk,hx,hs,hst⟩:=Bvx (fun i=>((l,(l.length:Int),(i:Int),T8 l i):Bp)) l.length (Xd l) DA Dz F4 (ER (l,(l.length:Int),0,[])) ((l,(l.length:Int),0,[]):Bp) rfl
   (by show l.length≤((l.length:Int) - 0).toNat;omega)
   (fun i hi hs=>by
    show((!!decide ((i:Int) <(l.length:Int)))&&!Dy l (l.length:Int) (i:Int) (T8 l i))=_
    rw[hk0 i hi hs,nn,LY]
    cases decide (i <l.length)<;>rfl)
   (fun i hi hs=>by
    show(l,(l.length:Int),IntKind.i64.wrap ((i:Int)+1),EQ l (l.length:Int) (i:Int) (T8 l i))=(l,(l.length:Int),((i+1:Nat):Int),T8 l (i+1))
    rw[DU (by omega)]
    unfold EQ
    rw[Int.toNat_natCast]
    rfl)
   (fun i hi hs=>Aa (fun h=>by
    have h':(!!decide ((i:Int) <(l.length:Int)))=true:=h
    rw[nn] at h'
    have:=of_decide_eq_true h'
    show(0:Int)≤(i:Int)∧(i:Int) <(l.length:Int)
    omega) Ad)
  refine⟨h1,?_⟩
  have hr:Hz (l,(l.length:Int),0,[])=(l,(l.length:Int),(k:Int),T8 l k):=hx
  unfold K2 Qs Qr Qq Qp
  rw[hr,h4,cond_false]
  show(bif Dy l (l.length:Int) (k:Int) (T8 l k) then Jj l (l.length:Int) (k:Int) (T8 l k) else 0)=_
  rw[hk0 k hk hs]
  rw[e4] at h4
  obtain⟨h5,h6⟩:=Bool.or_eq_false_iff.1 h4
  unfold AO
  rw[h5,h6,cond_false,cond_false,Bac l k [] (fun j hj hl=>by
   have:=hs j hj
   unfold Xd at this
   obtain⟨q1,q2⟩:=Bool.or_eq_false_iff.1 this
   exact⟨by rw[Bool.not_eq_false'] at q1;exact q1,by simpa using q2⟩),List.nil_append]
  by_cases hkl:k <l.length
  ·have hst':=hst hkl
   rw[hst',decide_eq_true hkl,Bool.and_true,cond_true]
   have hd:l.drop k=l.getD k (Ab TC.group)::l.drop (k+1):=by
    rw[List.getD_eq_getElem?_getD,List.getElem?_eq_getElem hkl,Option.getD_some]
    exact List.drop_eq_getElem_cons hkl
   rw[hd]
   unfold Sw Jj
   rw[Int.toNat_natCast]
   unfold Xd at hst'
   show(bif !(I3 (l.getD k (Ab TC.group)).1&&Qo (l.getD k (Ab TC.group)).2) then(2:Int) else 70)=bif !(I3 (l.getD k (Ab TC.group)).1&&Qo (l.getD k (Ab TC.group)).2) then 2 else _
   cases hq:!(I3 (l.getD k (Ab TC.group)).1&&Qo (l.getD k (Ab TC.group)).2) with
   |true=>rfl
   |false=>
    rw[hq,Bool.false_or] at hst'
    have hst2:((l.take k).map (·.name)).any (fun s=>s==(l.getD k (Ab TC.group)).name)=true:=hst'
    rw[cond_false,cond_false,hst2]
    rfl
  ·rw[decide_eq_false hkl,Bool.false_and,cond_false,List.drop_eq_nil_of_le (by omega)]
   rfl
 cases h4:EF l with
 |false=>
  obtain⟨g1,g2⟩:=main h4
  exact⟨Aa (fun _=>g1) Ad,g2⟩
 | true=>
  refine⟨Aa (fun h=>by rw[h4] at h;cases h) Ad,?_⟩
  unfold K2 AO
  rw[h4,cond_true,Azp]
  rw[e4] at h4
  cases h5:l.length==0 with
  |true=>rfl
  |false=>
   rw[h5,Bool.false_or] at h4
   rw[h4]
   rfl
theorem Y1 (a0:List TGroup) (_hp:∀p∈Wz a0,p):CallOk Try.prog 131 [.sl .group a0] 0 [] 1 (Y5 a0) 0 (Y3 a0):=by
 have h:=A73 a0 (Y2 a0).1
 unfold SX at h
 rw[(Y2 a0).2] at h
 exact h
def Adf:List A→Nat→Objs→Option AV:=A7 [.l .group] 0 Y5 Y3 Wz
theorem Aws:ET Try.prog 131 Adf:=Aq (ks:=[.l .group]) Y1
noncomputable def Bxf:=AU 131 Adf Bxe
theorem Bbz:CD Try.prog Bxf:=Ak Aws Bby
abbrev DM:Type:=ByteArray×Int
def NF (x:DM):St:=⟨28,0,[(0,.v (.string x.1)),(3,.v (.int .i64 x.2))],[]⟩
def Qy:St→Option DM
 |⟨28,0,[(0,.v (.string z0)),(3,.v (.int .i64 z1))],[]⟩=>some (z0,z1)
 |_=>none
theorem Apy:∀s x,Qy s=some x→s=NF x:=fun s x h=>by
 unfold Qy at h
 split at h
 ·cases h;rfl
 ·cases h
def Adk:Co:=⟨0,0,[0,3],[],[],[],[2],[]⟩
def A78:CR:=⟨[],[],[0,3],[]⟩
def II (a0:ByteArray) (a1:Int):Bool:=!!decide (a1 <(↑a0.size:Int))
def Fe (a0:ByteArray) (a1:Int):Bool:=(II a0 a1)&&(decide ((↑(a0.data.toList.getD a1.toNat (0:UInt8)).toNat:Int) <(97:Int))||decide ((↑(a0.data.toList.getD a1.toNat (0:UInt8)).toNat:Int) >(122:Int)))
def Aw1 (a0:ByteArray) (a1:Int):Bool:=(II a0 a1)&&!(Fe a0 a1)
def G3 (x:DM):DM:=(x.1,IntKind.i64.wrap (x.2+(1:Int)))
def G2 (x:DM):Cnd:=some (Aw1 x.1 x.2)
def OI (x:DM):List Prop:=[((II x.1 x.2)=true→(0:Int)≤x.2∧x.2 <(↑x.1.size:Int)),((II x.1 x.2)=true→decide ((↑(x.1.data.toList.getD x.2.toNat (0:UInt8)).toNat:Int) <(97:Int))=false→(0:Int)≤x.2∧x.2 <(↑x.1.size:Int))]
abbrev Ke:DM→List Prop:=OI
def Up (x:DM):Bd:=[(some 0,some (!decide (x.2 <(↑x.1.size:Int))),⟨28,0,[(2,.dead)],[]⟩),(none,some ((Fe x.1 x.2)),⟨28,0,[(2,.v (.bool (false)))],[]⟩)]
def IJ (x:DM):Nat:=((↑x.1.size:Int) - x.2).toNat
def OJ (x:DM):DM:=A5 G3 G2 (IJ x) x
theorem A3k (a0:ByteArray) (a1:Int):Bk (Au Bxf L0) 9 (Ae Try.prog 163 0) Adk (NF (a0,a1))=some (OI (a0,a1),Up (a0,a1),G2 (a0,a1),NF (G3 (a0,a1))):=by kernel_rfl
theorem A3l (a0:ByteArray) (a1:Int) (hp:∀p∈Ke (a0,a1),p):∀p∈OI (a0,a1),p:=hp
noncomputable def WI:=GH (Au Bxf L0) (Ae Try.prog 163 0) Adk A78 Qy IJ G3 G2 Ke Up
theorem Aw2:∀s b ps outs,WI s=some (b,ps,outs)→Wf s ⟨ps,outs,none⟩∧Be (Au C0 L0) b s ps outs:=
 A6 (T:=NF) Bbz Av (u:=9) (by kernel_rfl) (by decide) (fun⟨a0,a1⟩=>A3k a0 a1) (fun⟨a0,a1⟩=>A3l a0 a1) Apy (fun _=>AI (n:=28) rfl) fun _ _=>rfl
noncomputable def Adj:=CY 0 WI L0
theorem Aw0:Gf Adj:=AP Aw2 Av
def Ags (a0:ByteArray):Bool:=bif Fe (OJ (a0,(0:Int))).fst (OJ (a0,(0:Int))).snd then false else decide ((↑a0.size:Int)≥(1:Int))&&decide ((↑a0.size:Int)≤(12:Int))
def Agt (a0:ByteArray):A:=.v (.bool (Ags a0))
def A3m (_a0:ByteArray):Objs:=[]
def Ath (a0:ByteArray):List Prop:=[(AB G3 G2 Ke (IJ (a0,(0:Int))) (a0,(0:Int)))]
theorem Ble (a0:ByteArray):Eo (Au Bxf Adj) 9 163 [Af .str a0] 0 []=some (1,Agt a0,0,A3m a0,[(Ae Try.prog (163:FuncId) (0:Nat)=Ae Try.prog (163:FuncId) (0:Nat)),(AB G3 G2 Ke (IJ (a0,(0:Int))) (a0,(0:Int)))]):=by kernel_rfl
theorem Bpm (a0:ByteArray) (hp:∀p∈Ath a0,p):CallOk Try.prog 163 [Af .str a0] 0 [] 1 (Agt a0) 0 (A3m a0):=by
 have n1:=N0 hp
 exact Ax (Ap Bbz Aw0) (Ble a0) (Aa rfl (Aa n1 Ad))
def Ati (a0:ByteArray):A:=.v (.bool (I3 a0))
def Atg (_a0:ByteArray):Objs:=[]
def Alq (a0:ByteArray):List Prop:=[Am a0.size]
theorem Atf (g:ByteArray) (hb:Am g.size):(∀p∈Ath g,p)∧Ags g=I3 g:=by
 unfold Am at hb
 have hlow:∀i,(decide ((((g.data.toList.getD i 0).toNat:Nat):Int) <97)||decide ((((g.data.toList.getD i 0).toNat:Nat):Int) >122))=!Yv (g.data.toList.getD i 0):=fun i=>by
  unfold Yv
  rw[Bool.not_and,←decide_not,←decide_not]
  congr 1<;>exact decide_eq_decide.2 (by omega)
 have hk0:∀i:Nat,Fe g (i:Int)=(decide (i <g.size)&&!Yv (g.data.toList.getD i 0)):=fun i=>by
  unfold Fe II
  rw[nn,LY,Int.toNat_natCast,hlow]
 obtain⟨h1,k,hk,hx,hs,hst⟩:=Bvx (fun i=>((g,(i:Int)):ByteArray×Int)) g.size (fun i=>!Yv (g.data.toList.getD i 0)) G3 G2 Ke (IJ (g,0)) (g,0) rfl (by show g.size≤((g.size:Int) - 0).toNat;omega)
  (fun i _ _=>by
   show((!!decide ((i:Int) <(g.size:Int)))&&!Fe g i)=_
   rw[hk0,nn,LY]
   cases decide (i <g.size)<;>rfl)
  (fun i hi hj=>by
   show(g,IntKind.i64.wrap ((i:Int)+1))=(g,((i+1:Nat):Int))
   rw[DU (by omega)])
  (fun i _ _=>Aa (fun h=>by
    have h':(!!decide ((i:Int) <(g.size:Int)))=true:=h
    rw[nn] at h'
    have:=of_decide_eq_true h'
    show(0:Int)≤(i:Int)∧(i:Int) <(g.size:Int)
    omega) (Aa (fun h _=>by
    have h':(!!decide ((i:Int) <(g.size:Int)))=true:=h
    rw[nn] at h'
    have:=of_decide_eq_true h'
    show(0:Int)≤(i:Int)∧(i:Int) <(g.size:Int)
    omega) Ad))
 refine⟨Aa h1 Ad,?_⟩
 have hr:OJ (g,0)=(g,(k:Int)):=hx
 have ha:g.data.toList.all Yv=decide (¬k <g.size):=by
  have:=Bh9 g.data.toList 0 Yv k (by rw[LM];exact hk) (fun j hj=>by simpa using hs j hj) (fun h=>by rw[LM] at h;simpa using hst h)
  rw[LM] at this
  exact this
 unfold Ags
 rw[hr]
 show(bif Fe g (k:Int) then false else decide ((g.size:Int)≥1)&&decide ((g.size:Int)≤12))=_
 rw[hk0]
 unfold I3
 rw[ha,show decide ((g.size:Int)≥1)=decide (1≤g.size) from decide_eq_decide.2 (by omega),show decide ((g.size:Int)≤12)=decide (g.size≤12) from decide_eq_decide.2 (by omega)]
 by_cases h:k <g.size
 ·rw[hst h,decide_eq_true h,decide_eq_false (not_not_intro h)]
  rfl
 ·rw[decide_eq_false h,decide_eq_true h]
  rfl
theorem Bld (a0:ByteArray) (hp:∀p∈Alq a0,p):CallOk Try.prog 163 [Af .str a0] 0 [] 1 (Ati a0) 0 (Atg a0):=by
 have hb:Am a0.size:=hp _ (List.mem_cons_self ..)
 have h:=Bpm a0 (Atf a0 hb).1
 unfold Agt at h
 rw[(Atf a0 hb).2] at h
 exact h
def A3n:List A→Nat→Objs→Option AV:=A7 [.t .str] 0 Ati Atg Alq
theorem Be3:ET Try.prog 163 A3n:=Aq (ks:=[.t .str]) Bld
noncomputable def Bnp:=AU 163 A3n Bxf
theorem Ayn:CD Try.prog Bnp:=Ak Be3 Bbz
abbrev Df:Type:=(List TGroup)×Int×Int
def NE (x:Df):St:=⟨56,0,[(0,.sl .group x.1),(3,.v (.int .i64 x.2.1)),(4,.v (.int .i64 x.2.2))],[]⟩
def Qx:St→Option Df
 |⟨56,0,[(0,.sl .group z0),(3,.v (.int .i64 z1)),(4,.v (.int .i64 z2))],[]⟩=>some (z0,z1,z2)
 |_=>none
theorem Apx:∀s x,Qx s=some x→s=NE x:=fun s x h=>by
 unfold Qx at h
 split at h
 ·cases h;rfl
 ·cases h
def Adi:Co:=⟨0,0,[0,3,4],[],[],[],[2],[]⟩
def A77:CR:=⟨[],[],[0,3,4],[]⟩
def D8 (a0:List TGroup) (a1:Int) (a2:Int):Bool:=!!decide (a2 <a1)&&(a0.getD a2.toNat (Ab TC.group)).1.toList==(a0.getD a1.toNat (Ab TC.group)).1.toList
def Awy (a0:List TGroup) (a1:Int) (a2:Int):Bool:=!!decide (a2 <a1)&&!(D8 a0 a1 a2)
def Fd (x:Df):Df:=(x.1,x.2.1,IntKind.i64.wrap (x.2.2+(1:Int)))
def Fc (x:Df):Cnd:=some (Awy x.1 x.2.1 x.2.2)
def OH (x:Df):List Prop:=[((!!decide (x.2.2 <x.2.1))=true→(0:Int)≤x.2.2∧x.2.2 <(↑x.1.length:Int)),((!!decide (x.2.2 <x.2.1))=true→(0:Int)≤x.2.1∧x.2.1 <(↑x.1.length:Int))]
abbrev IH:Df→List Prop:=OH
def Uo (x:Df):Bd:=[(some 2,some (!decide (x.2.2 <x.2.1)),⟨56,0,[(2,.dead)],[]⟩),(none,some ((D8 x.1 x.2.1 x.2.2)),⟨56,0,[(2,.v (.int .i64 ((70:Int))))],[]⟩)]
def G1 (x:Df):Nat:=(x.2.1 - x.2.2).toNat
def Gq (x:Df):Df:=A5 Fd Fc (G1 x) x
theorem A3g (a0:List TGroup) (a1:Int) (a2:Int):Bk (Au Bnp L0) 9 (Ae Try.prog 128 2) Adi (NE (a0,a1,a2))=some (OH (a0,a1,a2),Uo (a0,a1,a2),Fc (a0,a1,a2),NE (Fd (a0,a1,a2))):=by kernel_rfl
theorem A3h (a0:List TGroup) (a1:Int) (a2:Int) (hp:∀p∈IH (a0,a1,a2),p):∀p∈OH (a0,a1,a2),p:=hp
noncomputable def WH:=GH (Au Bnp L0) (Ae Try.prog 128 2) Adi A77 Qx G1 Fd Fc IH Uo
theorem Awz:∀s b ps outs,WH s=some (b,ps,outs)→Wf s ⟨ps,outs,none⟩∧Be (Au C0 L0) b s ps outs:=
 A6 (T:=NE) Ayn Av (u:=9) (by kernel_rfl) (by decide) (fun⟨a0,a1,a2⟩=>A3g a0 a1 a2) (fun⟨a0,a1,a2⟩=>A3h a0 a1 a2) Apx (fun _=>AI (n:=56) rfl) fun _ _=>rfl
noncomputable def ND:=CY 2 WH L0
theorem WG:Gf ND:=AP Awz Av
abbrev CG:Type:=(List TGroup)×Int
def NC (x:CG):St:=⟨56,0,[(0,.sl .group x.1),(3,.v (.int .i64 x.2))],[]⟩
def Qw:St→Option CG
 |⟨56,0,[(0,.sl .group z0),(3,.v (.int .i64 z1))],[]⟩=>some (z0,z1)
 |_=>none
theorem Apw:∀s x,Qw s=some x→s=NC x:=fun s x h=>by
 unfold Qw at h
 split at h
 ·cases h;rfl
 ·cases h
def Adh:Co:=⟨0,0,[0,3],[],[],[],[2],[]⟩
def A76:CR:=⟨[],[],[0,3],[]⟩
def Bb (a0:List TGroup) (a1:Int):Bool:=!!decide (a1 <(↑a0.length:Int))
def D7 (a0:List TGroup) (a1:Int):Bool:=!I3 (a0.getD a1.toNat (Ab TC.group)).1||(a0.getD a1.toNat (Ab TC.group)).2 !=(1:Int)&&(a0.getD a1.toNat (Ab TC.group)).2 !=(2:Int)
def E9 (a0:List TGroup) (a1:Int):Bool:=(Bb a0 a1)&&((D7 a0 a1)||D8 (Gq (a0,a1,(0:Int))).fst (Gq (a0,a1,(0:Int))).snd.fst (Gq (a0,a1,(0:Int))).snd.snd)
def Aww (a0:List TGroup) (a1:Int):Bool:=(Bb a0 a1)&&!(E9 a0 a1)
def KK (a0:List TGroup) (a1:Int):Int:=bif(D7 a0 a1) then(2:Int) else(70:Int)
def Fb (x:CG):CG:=(x.1,IntKind.i64.wrap (x.2+(1:Int)))
def Fa (x:CG):Cnd:=some (Aww x.1 x.2)
def WE (x:CG):List Prop:=[((Bb x.1 x.2)=true→(0:Int)≤x.2∧x.2 <(↑x.1.length:Int)),((Bb x.1 x.2)=true→Am (x.1.getD x.2.toNat (Ab TC.group)).1.size),((Bb x.1 x.2)=true→(!I3 (x.1.getD x.2.toNat (Ab TC.group)).1)=false→(0:Int)≤x.2∧x.2 <(↑x.1.length:Int)),((Bb x.1 x.2)=true→((x.1.getD x.2.toNat (Ab TC.group)).2 !=(1:Int))=true→(!I3 (x.1.getD x.2.toNat (Ab TC.group)).1)=false→(0:Int)≤x.2∧x.2 <(↑x.1.length:Int)),((Bb x.1 x.2)=true→(!(D7 x.1 x.2))=true→Ae Try.prog (128:FuncId) (2:Nat)=Ae Try.prog (128:FuncId) (2:Nat)),((Bb x.1 x.2)=true→(!(D7 x.1 x.2))=true→AB Fd Fc IH (G1 (x.1,x.2,(0:Int))) (x.1,x.2,(0:Int)))]
def IG (x:CG):List Prop:=[((Bb x.1 x.2)=true→(0:Int)≤x.2∧x.2 <(↑x.1.length:Int)),((Bb x.1 x.2)=true→Am (x.1.getD x.2.toNat (Ab TC.group)).1.size),((Bb x.1 x.2)=true→(!I3 (x.1.getD x.2.toNat (Ab TC.group)).1)=false→(0:Int)≤x.2∧x.2 <(↑x.1.length:Int)),((Bb x.1 x.2)=true→((x.1.getD x.2.toNat (Ab TC.group)).2 !=(1:Int))=true→(!I3 (x.1.getD x.2.toNat (Ab TC.group)).1)=false→(0:Int)≤x.2∧x.2 <(↑x.1.length:Int)),((Bb x.1 x.2)=true→(!(D7 x.1 x.2))=true→AB Fd Fc IH (G1 (x.1,x.2,(0:Int))) (x.1,x.2,(0:Int)))]
def Un (x:CG):Bd:=[(some 0,some (!decide (x.2 <(↑x.1.length:Int))),⟨56,0,[(2,.dead)],[]⟩),(none,some ((E9 x.1 x.2)),⟨56,0,[(2,.v (.int .i64 (KK x.1 x.2)))],[]⟩)]
def G0 (x:CG):Nat:=((↑x.1.length:Int) - x.2).toNat
def OG (x:CG):CG:=A5 Fb Fa (G0 x) x
theorem A3e (a0:List TGroup) (a1:Int):Bk (Au Bnp ND) 9 (Ae Try.prog 128 0) Adh (NC (a0,a1))=some (WE (a0,a1),Un (a0,a1),Fa (a0,a1),NC (Fb (a0,a1))):=by kernel_rfl
theorem A3f (a0:List TGroup) (a1:Int) (hp:∀p∈IG (a0,a1),p):∀p∈WE (a0,a1),p:=by
 have n0:=N0 hp
 have n1:=N0 (N1 hp)
 have n2:=N0 (N1 (N1 hp))
 have n3:=N0 (N1 (N1 (N1 hp)))
 have n4:((Bb a0 a1)=true→(!(D7 a0 a1))=true→Ae Try.prog (128:FuncId) (2:Nat)=Ae Try.prog (128:FuncId) (2:Nat)):=by intros;rfl
 have n5:=N0 (N1 (N1 (N1 (N1 hp))))
 exact(Aa n0 (Aa n1 (Aa n2 (Aa n3 (Aa n4 (Aa n5 Ad))))))
noncomputable def WF:=GH (Au Bnp ND) (Ae Try.prog 128 0) Adh A76 Qw G0 Fb Fa IG Un
theorem Awx:∀s b ps outs,WF s=some (b,ps,outs)→Wf s ⟨ps,outs,none⟩∧Be (Au C0 L0) b s ps outs:=
 A6 (T:=NC) Ayn WG (u:=9) (by kernel_rfl) (by decide) (fun⟨a0,a1⟩=>A3e a0 a1) (fun⟨a0,a1⟩=>A3f a0 a1) Apw (fun _=>AI (n:=56) rfl) fun _ _=>rfl
noncomputable def Adg:=CY 0 WF ND
theorem Awv:Gf Adg:=AP Awx WG
def Zj (a0:List TGroup):Int:=(OG (a0,(0:Int))).snd
def Zi (a0:List TGroup):List TGroup:=(OG (a0,(0:Int))).fst
def Ib (a0:List TGroup):Bool:=(↑a0.length:Int)==(0:Int)
def I4 (a0:List TGroup):Bool:=decide ((↑a0.length:Int) >(4:Int))
def Nk (a0:List TGroup):Int:=bif(Ib a0) then(2:Int) else bif(I4 a0) then(3:Int) else bif E9 (Zi a0) (Zj a0) then KK (Zi a0) (Zj a0) else(0:Int)
def Agr (a0:List TGroup):A:=.v (.int .i64 (Nk a0))
def A3i (_a0:List TGroup):Objs:=[]
def Atd (a0:List TGroup):List Prop:=[((!(Ib a0))=true→(!(I4 a0))=true→AB Fb Fa IG (G0 (a0,(0:Int))) (a0,(0:Int)))]
theorem Blc (a0:List TGroup):Eo (Au Bnp Adg) 9 128 [.sl .group a0] 0 []=some (1,Agr a0,0,A3i a0,[((!(Ib a0))=true→(!(I4 a0))=true→Ae Try.prog (128:FuncId) (0:Nat)=Ae Try.prog (128:FuncId) (0:Nat)),((!(Ib a0))=true→(!(I4 a0))=true→AB Fb Fa IG (G0 (a0,(0:Int))) (a0,(0:Int)))]):=by kernel_rfl
theorem Bpl (a0:List TGroup) (hp:∀p∈Atd a0,p):CallOk Try.prog 128 [.sl .group a0] 0 [] 1 (Agr a0) 0 (A3i a0):=by
 have n0:((!(Ib a0))=true→(!(I4 a0))=true→Ae Try.prog (128:FuncId) (0:Nat)=Ae Try.prog (128:FuncId) (0:Nat)):=by intros;rfl
 have n1:=N0 hp
 exact Ax (Ap Ayn Awv) (Blc a0) (Aa n0 (Aa n1 Ad))
def Ate (a0:List TGroup):A:=.v (.int .i64 (AO a0))
def Atc (_a0:List TGroup):Objs:=[]
def Alp (a0:List TGroup):List Prop:=[∀g∈a0,Am g.name.size]
theorem tlb (a b:ByteArray):(a.toList==b.toList)=(a==b):=by
 rw[Bool.eq_iff_iff,Bc0,beq_iff_eq]
theorem Bud (l:List TGroup) (x:ByteArray) (i k:Nat) (hi:i≤l.length) (hk:k≤i) (h1:∀j,j <k→((l.getD j (Ab TC.group)).1==x)=false) (h2:k <i→((l.getD k (Ab TC.group)).1==x)=true):((l.take i).map (·.name)).any (fun s=>s==x)=decide (k <i):=by
 rw[List.any_map]
 by_cases h:k <i
 ·rw[decide_eq_true h]
  refine List.any_eq_true.2 ⟨l.getD k (Ab TC.group),?_,h2 h⟩
  rw[List.getD_eq_getElem?_getD,List.getElem?_eq_getElem (by omega),Option.getD_some]
  exact List.mem_take_iff_getElem.2 ⟨k,by omega,rfl⟩
 ·rw[decide_eq_false h]
  refine Bool.eq_false_iff.2 fun ha=>?_
  obtain⟨g,hg,hx⟩:=List.any_eq_true.1 ha
  obtain⟨j,hj,rfl⟩:=List.mem_take_iff_getElem.1 hg
  have:=h1 j (by omega)
  rw[List.getD_eq_getElem?_getD,List.getElem?_eq_getElem (by omega),Option.getD_some] at this
  have hx':(l[j].1==x)=true:=hx
  rw[this] at hx'
  cases hx'
theorem Baz (l:List TGroup) (hl:l.length≤4) (i:Nat) (hi:i <l.length):
  AB Fd Fc IH (G1 (l,(i:Int),0)) (l,(i:Int),0)∧
  D8 (Gq (l,(i:Int),0)).fst (Gq (l,(i:Int),0)).snd.fst (Gq (l,(i:Int),0)).snd.snd=((l.take i).map (·.name)).any (fun s=>s==(l.getD i (Ab TC.group)).1):=by
 have hk0:∀k:Nat,D8 l (i:Int) (k:Int)=(decide (k <i)&&((l.getD k (Ab TC.group)).1==(l.getD i (Ab TC.group)).1)):=fun k=>by
  unfold D8
  rw[nn,LY,Int.toNat_natCast,Int.toNat_natCast,tlb]
 obtain⟨h1,k,hk,hx,hs,hst⟩:=Bvx (fun k=>((l,(i:Int),(k:Int)):Df)) i (fun k=>(l.getD k (Ab TC.group)).1==(l.getD i (Ab TC.group)).1) Fd Fc IH (G1 (l,(i:Int),0)) (l,(i:Int),0) rfl (by show i≤((i:Int) - 0).toNat;omega)
  (fun k _ _=>by
   show((!!decide ((k:Int) <(i:Int)))&&!D8 l i k)=_
   rw[hk0,nn,LY]
   cases decide (k <i)<;>rfl)
  (fun k hk _=>by
   show(l,(i:Int),IntKind.i64.wrap ((k:Int)+1))=(l,(i:Int),((k+1:Nat):Int))
   rw[DU (by omega)])
  (fun k _ _=>Aa (fun h=>by
    have h':(!!decide ((k:Int) <(i:Int)))=true:=h
    rw[nn] at h'
    have:=of_decide_eq_true h'
    show(0:Int)≤(k:Int)∧(k:Int) <(l.length:Int)
    omega) (Aa (fun _=>by
    show(0:Int)≤(i:Int)∧(i:Int) <(l.length:Int)
    omega) Ad))
 refine⟨h1,?_⟩
 have hr:Gq (l,(i:Int),0)=(l,(i:Int),(k:Int)):=hx
 rw[hr]
 show D8 l (i:Int) (k:Int)=_
 rw[hk0,Bud l _ i k (by omega) hk hs hst]
 by_cases h:k <i
 ·rw[hst h,Bool.and_true]
 ·rw[decide_eq_false h,Bool.false_and]
theorem Atb (l:List TGroup) (hb:∀g∈l,Am g.name.size):(∀p∈Atd l,p)∧Nk l=AO l:=by
 have main:Ib l=false→I4 l=false→AB Fb Fa IG (G0 (l,0)) (l,0)∧Nk l=AO l:=fun h1 h0=>by
  have hn4:l.length≤4:=by have h:=of_decide_eq_false h0;omega
  have hf1:∀i:Nat,D7 l (i:Int)=!(I3 (l.getD i (Ab TC.group)).1&&Qo (l.getD i (Ab TC.group)).2):=fun i=>by
   unfold D7 Qo
   rw[Int.toNat_natCast,Bool.not_and]
   congr 1
   simp[bne]
  have hk0:∀i:Nat,E9 l (i:Int)=(decide (i <l.length)&&Xd l i):=fun i=>by
   unfold E9 Bb
   rw[hf1,nn,LY]
   by_cases hi:i <l.length
   ·rw[(Baz l hn4 i hi).2];rfl
   ·rw[decide_eq_false hi];rfl
  obtain⟨g1,k,hk,hx,hs,hst⟩:=Bvx (fun i=>((l,(i:Int)):CG)) l.length (Xd l) Fb Fa IG (G0 (l,0)) ((l,0):CG) rfl
   (by show l.length≤((l.length:Int) - 0).toNat;omega)
   (fun i hi hs=>by
    show((!!decide ((i:Int) <(l.length:Int)))&&!E9 l (i:Int))=_
    rw[hk0 i,nn,LY]
    cases decide (i <l.length)<;>rfl)
   (fun i hi hs=>by
    show(l,IntKind.i64.wrap ((i:Int)+1))=(l,((i+1:Nat):Int))
    rw[DU (by omega)])
   (fun i hi hs=>by
    have hlt:(!!decide ((i:Int) <(l.length:Int)))=true→i <l.length:=fun h=>by
     rw[nn] at h
     have:=of_decide_eq_true h
     omega
    have hin:(!!decide ((i:Int) <(l.length:Int)))=true→(0:Int)≤(i:Int)∧(i:Int) <(l.length:Int):=fun h=>by
     have:=hlt h
     omega
    exact Aa hin (Aa (fun h=>by
     have:=hlt h
     show Am (l.getD i (Ab TC.group)).1.size
     rw[List.getD_eq_getElem?_getD,List.getElem?_eq_getElem this,Option.getD_some]
     exact hb _ (List.getElem_mem this)) (Aa (fun h _=>hin h) (Aa (fun h _ _=>hin h) (Aa (fun h _=>(Baz l hn4 i (hlt h)).1) Ad)))))
  refine⟨g1,?_⟩
  have hr:OG (l,0)=(l,(k:Int)):=hx
  unfold Nk Zj Zi
  rw[hr,h1,h0,cond_false,cond_false]
  show(bif E9 l (k:Int) then KK l (k:Int) else 0)=_
  rw[hk0 k]
  have e1:(l.length==0)=false:=by rw[←Azp];exact h1
  have e2:decide (4 <l.length)=false:=decide_eq_false (by omega)
  unfold AO
  rw[e1,e2,cond_false,cond_false,Bac l k [] (fun j hj hl=>by
   have:=hs j hj
   unfold Xd at this
   obtain⟨q1,q2⟩:=Bool.or_eq_false_iff.1 this
   exact⟨by rw[Bool.not_eq_false'] at q1;exact q1,by simpa using q2⟩),List.nil_append]
  by_cases hkl:k <l.length
  ·have hst':=hst hkl
   rw[hst',decide_eq_true hkl,Bool.and_true,cond_true]
   have hd:l.drop k=l.getD k (Ab TC.group)::l.drop (k+1):=by
    rw[List.getD_eq_getElem?_getD,List.getElem?_eq_getElem hkl,Option.getD_some]
    exact List.drop_eq_getElem_cons hkl
   rw[hd]
   unfold Sw KK
   rw[hf1]
   unfold Xd at hst'
   show(bif !(I3 (l.getD k (Ab TC.group)).1&&Qo (l.getD k (Ab TC.group)).2) then(2:Int) else 70)=bif !(I3 (l.getD k (Ab TC.group)).1&&Qo (l.getD k (Ab TC.group)).2) then 2 else _
   cases hq:!(I3 (l.getD k (Ab TC.group)).1&&Qo (l.getD k (Ab TC.group)).2) with
   |true=>rfl
   |false=>
    rw[hq,Bool.false_or] at hst'
    have hst2:((l.take k).map (·.name)).any (fun s=>s==(l.getD k (Ab TC.group)).name)=true:=hst'
    rw[cond_false,cond_false,hst2]
    rfl
  ·rw[decide_eq_false hkl,Bool.false_and,cond_false,List.drop_eq_nil_of_le (by omega)]
   rfl
 cases h1:Ib l with
 |true=>
  refine⟨Aa (fun h=>by rw[h1] at h;cases h) Ad,?_⟩
  unfold Nk AO
  rw[h1,cond_true,←Azp]
  unfold Ib at h1
  rw[h1]
  rfl
 | false=>
  cases h0:I4 l with
  |true=>
   refine⟨Aa (fun _ h=>by rw[h0] at h;cases h) Ad,?_⟩
   unfold Nk AO
   rw[h1,h0,cond_false,cond_true,←Azp]
   unfold Ib at h1
   rw[h1,cond_false,←dgt l.length 4]
   unfold I4 at h0
   rw[show(decide ((l.length:Int) >((4:Nat):Int)))=true from h0]
   rfl
  |false=>
   obtain⟨g1,g2⟩:=main h1 h0
   exact⟨Aa (fun _ _=>g1) Ad,g2⟩
theorem Blb (a0:List TGroup) (hp:∀p∈Alp a0,p):CallOk Try.prog 128 [.sl .group a0] 0 [] 1 (Ate a0) 0 (Atc a0):=by
 have hb:∀g∈a0,Am g.name.size:=hp _ (List.mem_cons_self ..)
 have h:=Bpl a0 (Atb a0 hb).1
 unfold Agr at h
 rw[(Atb a0 hb).2] at h
 exact h
def A3j:List A→Nat→Objs→Option AV:=A7 [.l .group] 0 Ate Atc Alp
theorem Be2:ET Try.prog 128 A3j:=Aq (ks:=[.l .group]) Blb
noncomputable def B8n:=AU 128 A3j Bnp
theorem B2l:CD Try.prog B8n:=Ak Be2 Ayn
noncomputable def Ch:=B8n
theorem B8o:CD Try.prog Ch:=B2l
end Go.Proofs.Yteebobbhhgmeiaa
