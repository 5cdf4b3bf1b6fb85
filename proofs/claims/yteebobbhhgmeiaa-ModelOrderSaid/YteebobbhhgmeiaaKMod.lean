/- made by a program (rowgen.py): ModelOrder: for every input the law returns true, and each argument reads behind the call as it read before. -/
import Derived.Test.YteebobbhhgmeiaaKMoc

namespace Go.Proofs.Yteebobbhhgmeiaa
open Go.RowKit
def zc:TC→List Value
 | .u8=>[.int .u8 0]
 | .i64=>[.int .i64 0]
 | .u32=>[.int .u32 0]
 | .bool=>[.bool false]
 | .str=>[.string ByteArray.empty]
 | .bytes=>[.slice none 0 0]
 | .ints=>[.slice none 0 0]
 | .cells=>[.slice none 0 0]
 | .rows=>[.slice none 0 0]
 | .digest=>List.replicate 32 (.int .u8 0)
 |c=>(enc c (Ae c)).map fun x=>match x with
  | .v y=>y
  |_=> .slice none 0 0
theorem B3b (c:TC) (F:Nat→Prop) (N:Nm) (nx:Nat) (R:World):HL F N nx R (enc c (Ae c)) (zc c):=by
 cases c<;>(repeat' (first|exact HL.nil|exact Hv.v _|exact Hv.sl_nil rfl|apply HL.cons))
def GG (P:Program) (t:TypeId):Option (Nat×Option (List Value)):=(P.info? t).map fun i=>(i.size,i.zero.map fun z=>z.cells.toList)
theorem Bvd {P:Program} {t:TypeId} {c:TC} (h:GG P t=some (size c,some (zc c))) (h0:0 <size c):∃i,P.info? t=some i∧i.size=size c∧0 <size c∧∃z,i.zero=some z∧∀(F:Nat→Prop) (N:Nm) (nx:Nat) (R:World),HL F N nx R (enc c (Ae c)) z.cells.toList:=by
 unfold GG at h
 cases hi:P.info? t with
 |none=>rw[hi] at h;cases h
 | some i=>
  rw[hi] at h
  have h':some (i.size,i.zero.map fun z=>z.cells.toList)=some (size c,some (zc c)):=h
  injection h' with h'
  injection h' with h1 h2
  cases hz:i.zero with
  |none=>rw[hz] at h2;cases h2
  |some z=>
   rw[hz] at h2
   injection h2 with h2
   have h3:z.cells.toList=zc c:=h2
   exact⟨i,rfl,h1,h0,z,hz,fun F N nx R=>by rw[h3];exact B3b c F N nx R⟩
theorem Bum (c:TC):0 <size c:=by cases c<;>decide
def Bve (t:TypeId):Option TC:=bif Nat.beq t 2 then some .i64 else bif Nat.beq t 3 then some .i64 else bif Nat.beq t 4 then some .bool else bif Nat.beq t 5 then some .u8 else bif Nat.beq t 9 then some .str else bif Nat.beq t 25 then some .front else bif Nat.beq t 26 then some .i64 else bif Nat.beq t 30 then some .vec else bif Nat.beq t 31 then some .vec else bif Nat.beq t 33 then some .told else bif Nat.beq t 37 then some .front else bif Nat.beq t 51 then some .stamp else bif Nat.beq t 53 then some .ask else bif Nat.beq t 55 then some .cell else bif Nat.beq t 67 then some .rows else bif Nat.beq t 69 then some .cells else bif Nat.beq t 71 then some .row else bif Nat.beq t 79 then some .group else bif Nat.beq t 84 then some .bytes else bif Nat.beq t 94 then some .view else bif Nat.beq t 108 then some .three else bif Nat.beq t 112 then some .two else bif Nat.beq t 133 then some .ints else bif Nat.beq t 136 then some .change else bif Nat.beq t 139 then some .write else bif Nat.beq t 142 then some .field else bif Nat.beq t 226 then some .place else bif Nat.beq t 239 then some .u32 else none
theorem Byg:GG Try.prog 2=some (size .i64,some (zc .i64)):=by kernel_rfl
theorem Byh:GG Try.prog 3=some (size .i64,some (zc .i64)):=by kernel_rfl
theorem Byi:GG Try.prog 4=some (size .bool,some (zc .bool)):=by kernel_rfl
theorem Byj:GG Try.prog 5=some (size .u8,some (zc .u8)):=by kernel_rfl
theorem Byk:GG Try.prog 9=some (size .str,some (zc .str)):=by kernel_rfl
theorem Buy:GG Try.prog 25=some (size .front,some (zc .front)):=by kernel_rfl
theorem Buz:GG Try.prog 26=some (size .i64,some (zc .i64)):=by kernel_rfl
theorem Bu0:GG Try.prog 30=some (size .vec,some (zc .vec)):=by kernel_rfl
theorem Bu1:GG Try.prog 31=some (size .vec,some (zc .vec)):=by kernel_rfl
theorem Bu2:GG Try.prog 33=some (size .told,some (zc .told)):=by kernel_rfl
theorem Bu3:GG Try.prog 37=some (size .front,some (zc .front)):=by kernel_rfl
theorem Bu4:GG Try.prog 51=some (size .stamp,some (zc .stamp)):=by kernel_rfl
theorem Bu5:GG Try.prog 53=some (size .ask,some (zc .ask)):=by kernel_rfl
theorem Bu6:GG Try.prog 55=some (size .cell,some (zc .cell)):=by kernel_rfl
theorem Bu7:GG Try.prog 67=some (size .rows,some (zc .rows)):=by kernel_rfl
theorem Bu8:GG Try.prog 69=some (size .cells,some (zc .cells)):=by kernel_rfl
theorem Bu9:GG Try.prog 71=some (size .row,some (zc .row)):=by kernel_rfl
theorem Bva:GG Try.prog 79=some (size .group,some (zc .group)):=by kernel_rfl
theorem Bvb:GG Try.prog 84=some (size .bytes,some (zc .bytes)):=by kernel_rfl
theorem Bvc:GG Try.prog 94=some (size .view,some (zc .view)):=by kernel_rfl
theorem Bpw:GG Try.prog 108=some (size .three,some (zc .three)):=by kernel_rfl
theorem Bpx:GG Try.prog 112=some (size .two,some (zc .two)):=by kernel_rfl
theorem Bpy:GG Try.prog 133=some (size .ints,some (zc .ints)):=by kernel_rfl
theorem Bpz:GG Try.prog 136=some (size .change,some (zc .change)):=by kernel_rfl
theorem Bp0:GG Try.prog 139=some (size .write,some (zc .write)):=by kernel_rfl
theorem Bp1:GG Try.prog 142=some (size .field,some (zc .field)):=by kernel_rfl
theorem Bp2:GG Try.prog 226=some (size .place,some (zc .place)):=by kernel_rfl
theorem Bp3:GG Try.prog 239=some (size .u32,some (zc .u32)):=by kernel_rfl
theorem EP {P:Program} {t k:TypeId} {c c0:TC} {r:Option TC} (h:(bif Nat.beq t k then some c0 else r)=some c) (hk:GG P k=some (size c0,some (zc c0))):GG P t=some (size c,some (zc c))∨r=some c:=by
 cases hb:Nat.beq t k with
 |true=>rw[hb] at h;cases h;rw[Nat.eq_of_beq_eq_true hb];exact .inl hk
 |false=>rw[hb] at h;exact .inr h
theorem Bvf:B3d Try.prog Bve:=fun t c h=>by
 refine Bvd ?_ (Bum c)
 unfold Bve at h
 rcases EP h Byg with h|h
 ·exact h
 rcases EP h Byh with h|h
 ·exact h
 rcases EP h Byi with h|h
 ·exact h
 rcases EP h Byj with h|h
 ·exact h
 rcases EP h Byk with h|h
 ·exact h
 rcases EP h Buy with h|h
 ·exact h
 rcases EP h Buz with h|h
 ·exact h
 rcases EP h Bu0 with h|h
 ·exact h
 rcases EP h Bu1 with h|h
 ·exact h
 rcases EP h Bu2 with h|h
 ·exact h
 rcases EP h Bu3 with h|h
 ·exact h
 rcases EP h Bu4 with h|h
 ·exact h
 rcases EP h Bu5 with h|h
 ·exact h
 rcases EP h Bu6 with h|h
 ·exact h
 rcases EP h Bu7 with h|h
 ·exact h
 rcases EP h Bu8 with h|h
 ·exact h
 rcases EP h Bu9 with h|h
 ·exact h
 rcases EP h Bva with h|h
 ·exact h
 rcases EP h Bvb with h|h
 ·exact h
 rcases EP h Bvc with h|h
 ·exact h
 rcases EP h Bpw with h|h
 ·exact h
 rcases EP h Bpx with h|h
 ·exact h
 rcases EP h Bpy with h|h
 ·exact h
 rcases EP h Bpz with h|h
 ·exact h
 rcases EP h Bp0 with h|h
 ·exact h
 rcases EP h Bp1 with h|h
 ·exact h
 rcases EP h Bp2 with h|h
 ·exact h
 rcases EP h Bp3 with h|h
 ·exact h
 cases h
end Go.Proofs.Yteebobbhhgmeiaa
namespace Go.Proofs.Yteebobbhhgmeiaa
open Go.RowKit
theorem eqi (d:Nat) (a b:Int) (w:World):(Op.equalIn (d+1) 3 (.int .i64 a) (.int .i64 b)).run Try.prog w=.ok (a==b) w:=run_equalIn_int w d 3 .i64 .i64 a b Try.underlying3
theorem eqb (d:Nat) (a b:Bool) (w:World):(Op.equalIn (d+1) 4 (.bool a) (.bool b)).run Try.prog w=.ok (a==b) w:=run_equalIn_bool' w d 4 a b Try.underlying4
theorem eqs (d:Nat) (a b:ByteArray) (w:World):(Op.equalIn (d+1) 9 (.string a) (.string b)).run Try.prog w=.ok (a.toList==b.toList) w:=run_equalIn_string w d 9 a b Try.underlying9
@[go_sem] theorem eqVec (d:Nat) (a b x y:Int) (w:World):(Op.equalIn (d+2) 31 (.agg #[.int .i64 a,.int .i64 b]) (.agg #[.int .i64 x,.int .i64 y])).run Try.prog w=.ok (a==x&&b==y) w:=by
 have p0:∀a b w,(part 3 #[.int .i64 a,.int .i64 b] 0).run Try.prog w=Result.ok (.int .i64 a) w:=fun a b w=>by kernel_rfl
 have p1:∀a b w,(part 3 #[.int .i64 a,.int .i64 b] 1).run Try.prog w=Result.ok (.int .i64 b) w:=fun a b w=>by kernel_rfl
 unfold Op.equalIn
 cases h:a==x
 ·simp[Sem.run_bind,run_underlying Try.underlying31,List.range',p0,eqi,h]
 ·cases h':b==y<;>simp[Sem.run_bind,run_underlying Try.underlying31,List.range',p0,p1,eqi,h,h']
@[go_sem] theorem eqInt2 (d:Nat) (a b x y:Int) (w:World):(Op.equalIn (d+2) 30 (.agg #[.int .i64 a,.int .i64 b]) (.agg #[.int .i64 x,.int .i64 y])).run Try.prog w=.ok (a==x&&b==y) w:=by
 have p0:∀a b w,(part 3 #[.int .i64 a,.int .i64 b] 0).run Try.prog w=Result.ok (.int .i64 a) w:=fun a b w=>by kernel_rfl
 have p1:∀a b w,(part 3 #[.int .i64 a,.int .i64 b] 1).run Try.prog w=Result.ok (.int .i64 b) w:=fun a b w=>by kernel_rfl
 unfold Op.equalIn
 cases h:a==x
 ·simp[Sem.run_bind,run_underlying Try.underlying30,List.range',p0,eqi,h]
 ·cases h':b==y<;>simp[Sem.run_bind,run_underlying Try.underlying30,List.range',p0,p1,eqi,h,h']
@[go_sem] theorem eqStamp (d:Nat) (a b x y:Int) (w:World):(Op.equalIn (d+2) 51 (.agg #[.int .i64 a,.int .i64 b]) (.agg #[.int .i64 x,.int .i64 y])).run Try.prog w=.ok (a==x&&b==y) w:=by
 rw[run_equalIn_struct w (d+1) 51 _ _ (by kernel_rfl) (by kernel_rfl)]
 have p0:∀a b w,(part 3 #[.int .i64 a,.int .i64 b] 0).run Try.prog w=Result.ok (.int .i64 a) w:=fun a b w=>by kernel_rfl
 have p1:∀a b w,(part 3 #[.int .i64 a,.int .i64 b] 1).run Try.prog w=Result.ok (.int .i64 b) w:=fun a b w=>by kernel_rfl
 cases h:a==x
 ·simp[Program.fieldsOf,Try.underlying51,Op.eqFields,Sem.run_bind,p0,eqi,h]
 ·cases h':b==y<;>simp[Program.fieldsOf,Try.underlying51,Op.eqFields,Sem.run_bind,p0,p1,eqi,h,h']
@[go_sem] theorem eqFront (d:Nat) (a b c e f u v x y z:Int) (w:World):(Op.equalIn (d+2) 25 (.agg #[.int .i64 a,.int .i64 b,.int .i64 c,.int .i64 e,.int .i64 f]) (.agg #[.int .i64 u,.int .i64 v,.int .i64 x,.int .i64 y,.int .i64 z])).run Try.prog w=.ok (a==u&&(b==v&&(c==x&&(e==y&&(f==z))))) w:=by
 rw[run_equalIn_struct w (d+1) 25 _ _ (by kernel_rfl) (by kernel_rfl)]
 have p0:∀a b c e f w,(part 3 #[.int .i64 a,.int .i64 b,.int .i64 c,.int .i64 e,.int .i64 f] 0).run Try.prog w=Result.ok (.int .i64 a) w:=fun a b c e f w=>by kernel_rfl
 have p1:∀a b c e f w,(part 3 #[.int .i64 a,.int .i64 b,.int .i64 c,.int .i64 e,.int .i64 f] 1).run Try.prog w=Result.ok (.int .i64 b) w:=fun a b c e f w=>by kernel_rfl
 have p2:∀a b c e f w,(part 3 #[.int .i64 a,.int .i64 b,.int .i64 c,.int .i64 e,.int .i64 f] 2).run Try.prog w=Result.ok (.int .i64 c) w:=fun a b c e f w=>by kernel_rfl
 have p3:∀a b c e f w,(part 3 #[.int .i64 a,.int .i64 b,.int .i64 c,.int .i64 e,.int .i64 f] 3).run Try.prog w=Result.ok (.int .i64 e) w:=fun a b c e f w=>by kernel_rfl
 have p4:∀a b c e f w,(part 3 #[.int .i64 a,.int .i64 b,.int .i64 c,.int .i64 e,.int .i64 f] 4).run Try.prog w=Result.ok (.int .i64 f) w:=fun a b c e f w=>by kernel_rfl
 cases h0:a==u
 ·simp[Program.fieldsOf,Try.underlying25,Op.eqFields,Sem.run_bind,p0,eqi,h0]
 ·cases h1:b==v
  ·simp[Program.fieldsOf,Try.underlying25,Op.eqFields,Sem.run_bind,p0,p1,eqi,h0,h1]
  ·cases h2:c==x
   ·simp[Program.fieldsOf,Try.underlying25,Op.eqFields,Sem.run_bind,p0,p1,p2,eqi,h0,h1,h2]
   ·cases h3:e==y
    ·simp[Program.fieldsOf,Try.underlying25,Op.eqFields,Sem.run_bind,p0,p1,p2,p3,eqi,h0,h1,h2,h3]
    ·cases h4:f==z
     ·simp[Program.fieldsOf,Try.underlying25,Op.eqFields,Sem.run_bind,p0,p1,p2,p3,p4,eqi,h0,h1,h2,h3,h4]
     ·simp[Program.fieldsOf,Try.underlying25,Op.eqFields,Sem.run_bind,p0,p1,p2,p3,p4,eqi,h0,h1,h2,h3,h4]
@[go_sem] theorem eqRFront (d:Nat) (a b c e f u v x y z:Int) (w:World):(Op.equalIn (d+2) 37 (.agg #[.int .i64 a,.int .i64 b,.int .i64 c,.int .i64 e,.int .i64 f]) (.agg #[.int .i64 u,.int .i64 v,.int .i64 x,.int .i64 y,.int .i64 z])).run Try.prog w=.ok (a==u&&(b==v&&(c==x&&(e==y&&(f==z))))) w:=by
 rw[run_equalIn_struct w (d+1) 37 _ _ (by kernel_rfl) (by kernel_rfl)]
 have p0:∀a b c e f w,(part 3 #[.int .i64 a,.int .i64 b,.int .i64 c,.int .i64 e,.int .i64 f] 0).run Try.prog w=Result.ok (.int .i64 a) w:=fun a b c e f w=>by kernel_rfl
 have p1:∀a b c e f w,(part 3 #[.int .i64 a,.int .i64 b,.int .i64 c,.int .i64 e,.int .i64 f] 1).run Try.prog w=Result.ok (.int .i64 b) w:=fun a b c e f w=>by kernel_rfl
 have p2:∀a b c e f w,(part 3 #[.int .i64 a,.int .i64 b,.int .i64 c,.int .i64 e,.int .i64 f] 2).run Try.prog w=Result.ok (.int .i64 c) w:=fun a b c e f w=>by kernel_rfl
 have p3:∀a b c e f w,(part 3 #[.int .i64 a,.int .i64 b,.int .i64 c,.int .i64 e,.int .i64 f] 3).run Try.prog w=Result.ok (.int .i64 e) w:=fun a b c e f w=>by kernel_rfl
 have p4:∀a b c e f w,(part 3 #[.int .i64 a,.int .i64 b,.int .i64 c,.int .i64 e,.int .i64 f] 4).run Try.prog w=Result.ok (.int .i64 f) w:=fun a b c e f w=>by kernel_rfl
 cases h0:a==u
 ·simp[Program.fieldsOf,Try.underlying37,Op.eqFields,Sem.run_bind,p0,eqi,h0]
 ·cases h1:b==v
  ·simp[Program.fieldsOf,Try.underlying37,Op.eqFields,Sem.run_bind,p0,p1,eqi,h0,h1]
  ·cases h2:c==x
   ·simp[Program.fieldsOf,Try.underlying37,Op.eqFields,Sem.run_bind,p0,p1,p2,eqi,h0,h1,h2]
   ·cases h3:e==y
    ·simp[Program.fieldsOf,Try.underlying37,Op.eqFields,Sem.run_bind,p0,p1,p2,p3,eqi,h0,h1,h2,h3]
    ·cases h4:f==z
     ·simp[Program.fieldsOf,Try.underlying37,Op.eqFields,Sem.run_bind,p0,p1,p2,p3,p4,eqi,h0,h1,h2,h3,h4]
     ·simp[Program.fieldsOf,Try.underlying37,Op.eqFields,Sem.run_bind,p0,p1,p2,p3,p4,eqi,h0,h1,h2,h3,h4]
@[go_sem] theorem eqCell (d:Nat) (a0 a1 a2 a3 a6 a7 b0 b1 b2 b3 b6 b7:Int) (a4 b4:Bool) (a5 b5:ByteArray) (w:World):(Op.equalIn (d+3) 55 (.agg #[.int .i64 a0,.int .i64 a1,.int .i64 a2,.int .i64 a3,.bool a4,.string a5,.int .i64 a6,.int .i64 a7]) (.agg #[.int .i64 b0,.int .i64 b1,.int .i64 b2,.int .i64 b3,.bool b4,.string b5,.int .i64 b6,.int .i64 b7])).run Try.prog w=.ok ((a0==b0&&a1==b1)&&((a2==b2&&a3==b3)&&((a4==b4)&&((a5.toList==b5.toList)&&(a6==b6&&a7==b7))))) w:=by
 rw[run_equalIn_struct w (d+2) 55 _ _ (by kernel_rfl) (by kernel_rfl)]
 have p0:∀(a0 a1 a2 a3 a6 a7:Int) (a4:Bool) (a5:ByteArray) (w:World),(part 51 #[.int .i64 a0,.int .i64 a1,.int .i64 a2,.int .i64 a3,.bool a4,.string a5,.int .i64 a6,.int .i64 a7] 0).run Try.prog w=Result.ok (.agg #[.int .i64 a0,.int .i64 a1]) w:=fun _ _ _ _ _ _ _ _ _=>by kernel_rfl
 have p1:∀(a0 a1 a2 a3 a6 a7:Int) (a4:Bool) (a5:ByteArray) (w:World),(part 31 #[.int .i64 a0,.int .i64 a1,.int .i64 a2,.int .i64 a3,.bool a4,.string a5,.int .i64 a6,.int .i64 a7] 2).run Try.prog w=Result.ok (.agg #[.int .i64 a2,.int .i64 a3]) w:=fun _ _ _ _ _ _ _ _ _=>by kernel_rfl
 have p2:∀(a0 a1 a2 a3 a6 a7:Int) (a4:Bool) (a5:ByteArray) (w:World),(part 4 #[.int .i64 a0,.int .i64 a1,.int .i64 a2,.int .i64 a3,.bool a4,.string a5,.int .i64 a6,.int .i64 a7] 4).run Try.prog w=Result.ok (.bool a4) w:=fun _ _ _ _ _ _ _ _ _=>by kernel_rfl
 have p3:∀(a0 a1 a2 a3 a6 a7:Int) (a4:Bool) (a5:ByteArray) (w:World),(part 9 #[.int .i64 a0,.int .i64 a1,.int .i64 a2,.int .i64 a3,.bool a4,.string a5,.int .i64 a6,.int .i64 a7] 5).run Try.prog w=Result.ok (.string a5) w:=fun _ _ _ _ _ _ _ _ _=>by kernel_rfl
 have p4:∀(a0 a1 a2 a3 a6 a7:Int) (a4:Bool) (a5:ByteArray) (w:World),(part 31 #[.int .i64 a0,.int .i64 a1,.int .i64 a2,.int .i64 a3,.bool a4,.string a5,.int .i64 a6,.int .i64 a7] 6).run Try.prog w=Result.ok (.agg #[.int .i64 a6,.int .i64 a7]) w:=fun _ _ _ _ _ _ _ _ _=>by kernel_rfl
 cases h0:(a0==b0&&a1==b1)
 ·simp only[Program.fieldsOf,Try.underlying55,Op.eqFields,Sem.run_bind,Sem.run_ite,Sem.run_pure,Result.andThen_ok,p0,eqStamp,h0];simp
 ·cases h1:(a2==b2&&a3==b3)
  ·simp only[Program.fieldsOf,Try.underlying55,Op.eqFields,Sem.run_bind,Sem.run_ite,Sem.run_pure,Result.andThen_ok,p0,p1,eqStamp,eqVec,h0,h1];simp
  ·cases h2:(a4==b4)
   ·simp only[Program.fieldsOf,Try.underlying55,Op.eqFields,Sem.run_bind,Sem.run_ite,Sem.run_pure,Result.andThen_ok,p0,p1,p2,eqStamp,eqVec,eqb,h0,h1,h2];simp
   ·cases h3:(a5.toList==b5.toList)
    ·simp only[Program.fieldsOf,Try.underlying55,Op.eqFields,Sem.run_bind,Sem.run_ite,Sem.run_pure,Result.andThen_ok,p0,p1,p2,p3,eqStamp,eqVec,eqb,eqs,h0,h1,h2,h3];simp
    ·cases h4:(a6==b6&&a7==b7)
     ·simp only[Program.fieldsOf,Try.underlying55,Op.eqFields,Sem.run_bind,Sem.run_ite,Sem.run_pure,Result.andThen_ok,p0,p1,p2,p3,p4,eqStamp,eqVec,eqb,eqs,h0,h1,h2,h3,h4];simp
     ·simp only[Program.fieldsOf,Try.underlying55,Op.eqFields,Sem.run_bind,Sem.run_ite,Sem.run_pure,Result.andThen_ok,p0,p1,p2,p3,p4,eqStamp,eqVec,eqb,eqs,h0,h1,h2,h3,h4];simp
theorem Bdj:Try.prog.eqGuardType Try.prog.depth 31=false:=by kernel_rfl
@[go_sem] theorem grdVec (op:BinOp) (x y:Operand) (xs ys:Array Value) (w:World):(eqGuard op 31 x y (.agg xs) (.agg ys)).run Try.prog w=.ok () w:=run_eqGuard_agg w op 31 x y xs ys Bdj
theorem Bor:Try.prog.eqGuardType Try.prog.depth 30=false:=by kernel_rfl
@[go_sem] theorem grdInt2 (op:BinOp) (x y:Operand) (xs ys:Array Value) (w:World):(eqGuard op 30 x y (.agg xs) (.agg ys)).run Try.prog w=.ok () w:=run_eqGuard_agg w op 30 x y xs ys Bor
theorem Awh:Try.prog.eqGuardType Try.prog.depth 51=false:=by kernel_rfl
@[go_sem] theorem grdStamp (op:BinOp) (x y:Operand) (xs ys:Array Value) (w:World):(eqGuard op 51 x y (.agg xs) (.agg ys)).run Try.prog w=.ok () w:=run_eqGuard_agg w op 51 x y xs ys Awh
theorem Bh6:Try.prog.eqGuardType Try.prog.depth 25=false:=by kernel_rfl
@[go_sem] theorem grdFront (op:BinOp) (x y:Operand) (xs ys:Array Value) (w:World):(eqGuard op 25 x y (.agg xs) (.agg ys)).run Try.prog w=.ok () w:=run_eqGuard_agg w op 25 x y xs ys Bh6
theorem Aot:Try.prog.eqGuardType Try.prog.depth 37=false:=by kernel_rfl
@[go_sem] theorem grdRFront (op:BinOp) (x y:Operand) (xs ys:Array Value) (w:World):(eqGuard op 37 x y (.agg xs) (.agg ys)).run Try.prog w=.ok () w:=run_eqGuard_agg w op 37 x y xs ys Aot
theorem A4n:Try.prog.eqGuardType Try.prog.depth 55=false:=by kernel_rfl
@[go_sem] theorem grdCell (op:BinOp) (x y:Operand) (xs ys:Array Value) (w:World):(eqGuard op 55 x y (.agg xs) (.agg ys)).run Try.prog w=.ok () w:=run_eqGuard_agg w op 55 x y xs ys A4n
end Go.Proofs.Yteebobbhhgmeiaa
namespace Go.Proofs.Yteebobbhhgmeiaa
open Go.RowKit
instance (n:Nat):Decidable (ZP n):=.isFalse id
theorem B3a:Try.prog.follows .mixedOrders=true:=by kernel_rfl
theorem Bh5:Try.prog.eqGuardType Try.prog.depth 142=false:=by kernel_rfl
theorem Bwz (d:Nat) (a x:Int) (b y:ByteArray) (w:World):(Op.equalIn (d+2) 142 (.agg #[.int .i64 a,.string b]) (.agg #[.int .i64 x,.string y])).run Try.prog w=.ok (a==x&&b.toList==y.toList) w:=by
 rw[run_equalIn_struct w (d+1) 142 _ _ (by kernel_rfl) (by kernel_rfl)]
 have p0:∀a b w,(part 3 #[.int .i64 a,.string b] 0).run Try.prog w=Result.ok (.int .i64 a) w:=fun a b w=>by kernel_rfl
 have p1:∀a b w,(part 9 #[.int .i64 a,.string b] 1).run Try.prog w=Result.ok (.string b) w:=fun a b w=>by kernel_rfl
 cases h:a==x
 ·simp[Program.fieldsOf,Try.underlying142,Op.eqFields,Sem.run_bind,p0,eqi,h]
 ·cases h':b.toList==y.toList<;>simp[Program.fieldsOf,Try.underlying142,Op.eqFields,Sem.run_bind,p0,p1,eqi,eqs,h,h']
def Bw0:List Value→List Value→Option Bool
 | [.int .i64 a,.int .i64 b],[.int .i64 x,.int .i64 y]=>some (a==x&&b==y)
 |_,_=>none
def B2j:List Value→List Value→Option Bool
 | [.int .i64 a,.string b],[.int .i64 x,.string y]=>some (a==x&&b.toList==y.toList)
 |_,_=>none
def B2k:List Value→List Value→Option Bool
 | [.int .i64 a,.int .i64 b,.int .i64 c,.int .i64 e,.int .i64 f],[.int .i64 u,.int .i64 v,.int .i64 x,.int .i64 y,.int .i64 z]=>some (a==u&&(b==v&&(c==x&&(e==y&&f==z))))
 |_,_=>none
def B2i:List Value→List Value→Option Bool
 | [.int .i64 a0,.int .i64 a1,.int .i64 a2,.int .i64 a3,.bool a4,.string a5,.int .i64 a6,.int .i64 a7],[.int .i64 b0,.int .i64 b1,.int .i64 b2,.int .i64 b3,.bool b4,.string b5,.int .i64 b6,.int .i64 b7]=>
  some ((a0==b0&&a1==b1)&&((a2==b2&&a3==b3)&&((a4==b4)&&((a5.toList==b5.toList)&&(a6==b6&&a7==b7)))))
 |_,_=>none
def Bsh (t:TypeId) (xs ys:List Value):Option Bool:=
 bif Nat.beq t 31 then Bw0 xs ys else bif Nat.beq t 51 then Bw0 xs ys else bif Nat.beq t 55 then B2i xs ys else bif Nat.beq t 142 then B2j xs ys else bif Nat.beq t 37 then B2k xs ys else none
theorem Bsi:B3c Try.prog Bsh:=fun t xs ys b h=>by
 unfold Bsh at h
 cases h1:Nat.beq t 31 with
 |true=>
  rw[h1] at h
  rw[Nat.eq_of_beq_eq_true h1]
  refine⟨Bdj,fun R=>?_⟩
  unfold Bw0 at h
  simp only[cond_true] at h
  split at h<;>first|(cases h;done)|skip
  cases h
  exact eqVec 9998 _ _ _ _ R
 |false=>
 cases h2:Nat.beq t 51 with
 |true=>
  rw[h1,h2] at h
  rw[Nat.eq_of_beq_eq_true h2]
  refine⟨Awh,fun R=>?_⟩
  unfold Bw0 at h
  simp only[cond_true,cond_false] at h
  split at h<;>first|(cases h;done)|skip
  cases h
  exact eqStamp 9998 _ _ _ _ R
 |false=>
 cases h3:Nat.beq t 55 with
 |true=>
  rw[h1,h2,h3] at h
  rw[Nat.eq_of_beq_eq_true h3]
  refine⟨A4n,fun R=>?_⟩
  unfold B2i at h
  simp only[cond_true,cond_false] at h
  split at h<;>first|(cases h;done)|skip
  cases h
  exact eqCell 9997 _ _ _ _ _ _ _ _ _ _ _ _ _ _ _ _ R
 |false=>
 cases h4:Nat.beq t 142 with
 |true=>
  rw[h1,h2,h3,h4] at h
  rw[Nat.eq_of_beq_eq_true h4]
  refine⟨Bh5,fun R=>?_⟩
  unfold B2j at h
  simp only[cond_true,cond_false] at h
  split at h<;>first|(cases h;done)|skip
  cases h
  exact Bwz 9998 _ _ _ _ R
 |false=>
 cases h5:Nat.beq t 37 with
 |true=>
  rw[h1,h2,h3,h4,h5] at h
  rw[Nat.eq_of_beq_eq_true h5]
  refine⟨Aot,fun R=>?_⟩
  unfold B2k at h
  simp only[cond_true,cond_false] at h
  split at h<;>first|(cases h;done)|skip
  cases h
  rw[eqRFront 9998]
 |false=>
  rw[h1,h2,h3,h4,h5] at h
  cases h
noncomputable def AA (C:Tab) (L:A6c):Env:=⟨Try.prog,Bsh,C,false,Bve,L⟩
theorem Bwy {C:Tab} {L:A6c} (hC:Df Try.prog C) (hL:∀l s b ps outs,L l s=some (b,ps,outs)→Wf s ⟨ps,outs,none⟩∧Bs (AA C L) b s ps outs):VV (AA C L) where
 suf f args nx o k x nx' o' ps h:=(hC f args nx o k x nx' o' ps h).2
 wide:=B3a
 eq:=Bsi
 C f args nx o k x nx' o' ps h:=(hC f args nx o k x nx' o' ps h).1
 tc:=Bvf
 loops:=hL
end Go.Proofs.Yteebobbhhgmeiaa
namespace Go.Proofs.Yteebobbhhgmeiaa
open Go.RowKit
def Hs (L:A6c):Prop:=∀l s b ps outs,L l s=some (b,ps,outs)→Wf s ⟨ps,outs,none⟩∧Bs (AA C0 L0) b s ps outs
theorem AG:Hs L0:=fun _ _ _ _ _ h=>by cases h
theorem A3 {l0:Nat} {g:St→Option (Code×List Prop×Bl)} {L:A6c} (hg:∀s b ps outs,g s=some (b,ps,outs)→Wf s ⟨ps,outs,none⟩∧Bs (AA C0 L0) b s ps outs) (hL:Hs L):Hs (DG l0 g L):=fun l s b ps outs h=>by
 unfold DG at h
 cases hb:Nat.beq l l0 with
 |true=>rw[hb] at h;exact hg s b ps outs h
 |false=>rw[hb] at h;exact hL l s b ps outs h
theorem Aw {C:Tab} {L:A6c} (hC:Df Try.prog C) (hL:Hs L):VV (AA C L):=Bwy hC hL
theorem Bi {C:Tab} {L:A6c} (hC:Df Try.prog C) (hL:Hs L) {u:Nat} {b:Code} {S:De} {En:Dy} {X:Type} {T:X→St} {unT:St→Option X} {fuel:X→Nat} {next:X→X} {goes:X→Cnd} {psA ps:X→List Prop} {outs:X→Bl} (hS:okL S.nb S.nx1 S.ren=true) (hnb:S.nb≤S.nx1)
  (hr:∀x,Bx (AA C L) u b S (T x)=some (psA x,outs x,goes x,T (next x))) (hA:∀x,(∀p∈ps x,p)→∀p∈psA x,p) (hu:∀s x,unT s=some x→s=T x)
  (hw:∀x,Om (outs x)∧∀t c y,AU t (outs x)=some (c,y)→y.n=(T x).n) (hTn:∀x y,(T x).n=(T y).n):∀s b0 qs os,HU (AA C L) b S En unT fuel next goes ps outs s=some (b0,qs,os)→Wf s ⟨qs,os,none⟩∧Bs (AA C0 L0) b0 s qs os:=
 fun _ _ _ _ he=>Bx5 (Aw hC hL) hS hnb hr hA hu hw hTn he
def Bip (n:Nat):Bl→Bool
 | []=>true
 |(t,_,s)::r=>Nat.beq s.n n&&((match AU t r with|some _=>false|none=>true)&&Bip n r)
theorem AR {n:Nat}:∀{o:Bl},Bip n o=true→Om o∧∀t c y,AU t o=some (c,y)→y.n=n
 | [],_=>⟨trivial,fun t c y h=>by cases h⟩
 | (k,d,s)::r,h=>by
  unfold Bip at h
  simp only[Bool.and_eq_true] at h
  obtain⟨h1,h2,h3⟩:=h
  obtain⟨g1,g2⟩:=AR h3
  refine⟨⟨?_,g1⟩,fun t c y hy=>?_⟩
  ·cases hg:AU k r with
   |none=>rfl
   |some x=>rw[hg] at h2;cases h2
  ·have hy':(bif FF k t then some (d,s) else AU t r)=some (c,y):=hy
   cases hb:FF k t with
   |true=>rw[hb] at hy';cases hy';exact Nat.eq_of_beq_eq_true h1
   |false=>rw[hb] at hy';exact g2 t c y hy'
theorem Bav (x:Int):0≤IntKind.u8.wrap x∧IntKind.u8.wrap x <256:=by
 simp only[IntKind.wrap,IntKind.bits,IntKind.signed]
 have h1:=Int.emod_nonneg x (show(256:Int)≠0 by decide)
 have h2:=Int.emod_lt_of_pos x (show(0:Int) <256 by decide)
 exact⟨h1,h2⟩
theorem Byt (x:Int):0≤IntKind.u64.wrap x:=by
 simp only[IntKind.wrap,IntKind.bits,IntKind.signed]
 exact Int.emod_nonneg x (by decide)
def B2g (c:TC) (x:A):Option (U c×List Prop):=match Akh x with
 |some cs=>Zq c cs
 |none=>none
def Kp (c:TC):A→Option (List (U c))
 | .sl c' l=>match TC.same c' c with
  |some h=>some (Aoh h.down l)
  |none=>none
 | .nl=>some []
 | .v x=>bif Ed x then some [] else none
 |_=>none
section
variable {F:Nat→Prop} {N:Nm} {nx:Nat} {R:World}
theorem Cx {c:TC} {x:A} {l:List (U c)} {v:Value} (he:Kp c x=some l) (h:Hv F N nx R x v):Hv F N nx R (.sl c l) v:=by
 unfold Kp at he
 split at he<;>first|(cases he;done)|skip
 ·split at he<;>first|(cases he;done)|skip
  rename_i h1 _
  obtain⟨h1⟩:=h1
  subst h1
  cases he
  exact h
 ·cases he
  obtain⟨a,e⟩:=h.nl_inv
  exact Hv.sl_nil e
 ·rename_i x
  cases hb:Ed x with
  |false=>rw[hb] at he;cases he
  |true=>
   rw[hb] at he
   cases he
   exact Hv.sl_nil (by rw[h.v_inv,GI hb])
theorem Bsw {c:TC} {d:U c} {vs:List Value} (h:HL F N nx R (enc c d) vs) (ha:c.isAgg=true):Hv F N nx R (Ak c d) (.agg vs.toArray):=by
 unfold Ak
 rw[ha]
 exact YP h
theorem Bsx {c:TC} {d:U c} {vs:List Value} {v:Value} (h:HL F N nx R (enc c d) vs) (ha:c.isAgg=false) (hv:vs[0]?=some v):Hv F N nx R (Ak c d) v:=by
 unfold Ak
 rw[ha]
 show Hv F N nx R (match enc c d with|x::_=>x| []=> .dead) v
 generalize enc c d=l at h
 cases l with
 |nil=>exact .dead _
 |cons x r=>
  obtain⟨w,ws,rfl,h1,_⟩:=h.inv
  cases hv
  exact h1
def UM (c:TC):A→Bool
 | .v (.agg _)=>c.isAgg
 | .agg _=>c.isAgg
 | .v (.tuple _)=>false
 | .v x=>!c.isAgg&&x.oneCell'
 | .opt _ _ _=>false
 | .tup _=>false
 | .dead=>false
 | .it _ _=>false
 | .sq _=>false
 | .dq _=>false
 | .iv _ _=>false
 | .de _ _ _ _=>false
 | .ie _ _ _ _ _=>false
 |_=>!c.isAgg
def AP (c:TC) (x:A):Option (U c×List Prop):=bif UM c x then B2g c x else none
theorem Am {c:TC} {x:A} {d:U c} {ps:List Prop} {v:Value} (he:AP c x=some (d,ps)) (hp:∀p∈ps,p) (h:Hv F N nx R x v):Hv F N nx R (Ak c d) v:=by
 unfold AP at he
 cases hf:UM c x with
 |false=>rw[hf] at he;cases he
 | true=>
  rw[hf] at he
  simp only[cond_true] at he
  unfold B2g at he
  split at he<;>first|(cases he;done)|skip
  rename_i cs hcs
  have hd:=A6v (F:=F) (N:=N) (nx:=nx) (R:=R) he hp
  have single:∀{y:A},Hv F N nx R y v→cs=[y]→c.isAgg=false→Hv F N nx R (Ak c d) v:=fun {y} hy e hc=>by
   subst e
   exact Bsx (hd [v] (HL.cons hy HL.nil)) hc rfl
  cases x<;>first|(cases hf;done)|skip
  ·rename_i y
   have hv:=h.v_inv
   subst hv
   cases hcs
   have hl:HL F N nx R (toL v.cells.toList) v.cells.toList:=HL.toL _
   cases v with
   |agg xs=>
    have hl':HL F N nx R (toL xs.toList) xs.toList:=hl
    have:=Bsw (hd _ hl') hf
    simpa using this
   |tuple xs=>cases hf
   |_=>
    simp only[UM,Bool.and_eq_true,Bool.not_eq_true'] at hf
    exact Bsx (hd _ hl) hf.1 rfl
  ·cases hcs
   exact single h rfl (by simpa[UM] using hf)
  ·cases hcs
   exact single h rfl (by simpa[UM] using hf)
  ·cases hcs
   exact single h rfl (by simpa[UM] using hf)
  ·cases hcs
   exact single h rfl (by simpa[UM] using hf)
  ·cases hcs
   exact single h rfl (by simpa[UM] using hf)
  ·cases hcs
   exact single h rfl (by simpa[UM] using hf)
  ·cases hcs
   exact single h rfl (by simpa[UM] using hf)
  ·cases hcs
   exact single h rfl (by simpa[UM] using hf)
  ·cases hcs
   exact single h rfl (by simpa[UM] using hf)
  ·cases hcs
   obtain⟨vs,rfl,h2⟩:=h.agg_inv
   exact Bsw (hd _ h2) hf
end
theorem Ao:freeL []=true:=by unfold freeL;rfl
theorem Ac {x:A} {r:List A} (h:x.free=true) (k:freeL r=true):freeL (x::r)=true:=by unfold freeL;rw[h,k];rfl
theorem Af (c:TC) (d:U c):(Ak c d).free=true:=by
 have hfr:∀l:List A,(∀x∈l,x.free=true)→freeL l=true:=fun l=>by
  induction l with
  |nil=>intro _;unfold freeL;rfl
  |cons x r ih=>intro h;unfold freeL;rw[h x (List.mem_cons_self ..),ih fun y hy=>h y (List.mem_cons_of_mem _ hy)];rfl
 have h:=Bc3 c d
 unfold Ak
 cases c.isAgg with
 |true=>
  show(VX (enc c d)).free=true
  unfold VX
  split
  ·unfold A.free;rfl
  ·unfold A.free;exact hfr _ h
 |false=>
  show A.free (match enc c d with|x::_=>x| []=> .dead)=true
  have hl:=Acb c d
  have hs:0 <size c:=by cases c<;>decide
  generalize enc c d=l at h hl
  cases l with
  |nil=>rw[←hl] at hs;cases hs
  |cons x r=>exact h x (List.mem_cons_self ..)
theorem Ah {P:Program} {f:FuncId} {args args':List A} {nx k nx':Nat} {o o':Objs} {x:A} (h:CallOk P f args' nx o k x nx' o') (ha:∀(F:Nat→Prop) (N:Nm) (R:World) (vs:List Value),HL F N nx R args vs→HL F N nx R args' vs):CallOk P f args nx o k x nx' o':=
 fun F N R vs hh hl=>h F N R vs hh (ha F N R vs hl)
end Go.Proofs.Yteebobbhhgmeiaa
namespace Go.Proofs.Yteebobbhhgmeiaa
open Go.RowKit
def I7 (k:IntKind) (n:Int):Prop:=(Lit.int k n).wf=true
def WfS (x:TStamp):Prop:=I7 .i64 x.n∧I7 .i64 x.site
def WfV (x:TVec):Prop:=I7 .i64 x.a∧I7 .i64 x.b
def Abz (x:TCell):Prop:=WfS x.stamp∧WfV x.vec∧True∧x.value.size≤maxLen∧WfV x.dead
def Bl8 (x:TRow):Prop:=x.key.size≤maxLen∧(x.cells.length≤maxLen∧∀y∈x.cells,Abz y)
def Bl9 (x:TWrite):Prop:=x.key.size≤maxLen∧I7 .i64 x.group∧True∧x.value.size≤maxLen
def Bl7 (x:TField):Prop:=I7 .i64 x.group∧x.value.size≤maxLen
def Wfd:(c:TC)→U c→Prop
 | .i64,n=>I7 .i64 n
 | .u32,n=>I7 .u32 n
 | .str,s=>s.size≤maxLen
 | .vec,x=>WfV x
 | .stamp,x=>WfS x
 | .cell,x=>Abz x
 | .group,x=>x.name.size≤maxLen∧I7 .i64 x.policy
 | .write,x=>Bl9 x
 | .row,x=>Bl8 x
 | .change,x=>I7 .i64 x.site∧I7 .i64 x.seq∧WfS x.stamp∧WfV x.vec∧(x.writes.length≤maxLen∧∀y∈x.writes,Bl9 y)
 | .field,x=>Bl7 x
 | .view,x=>x.key.size≤maxLen∧(x.fields.length≤maxLen∧∀y∈x.fields,Bl7 y)
 | .told,x=>I7 .i64 x.ack∧I7 .i64 x.own∧I7 .i64 x.come
 | .act,x=>I7 .i64 x.kind∧Bl8 x.row∧x.til.size≤maxLen∧I7 .i64 x.n
 | .front,x=>I7 .i64 x.site∧I7 .i64 x.acked∧I7 .i64 x.stable∧I7 .i64 x.wait∧I7 .i64 x.til
 | .ask,x=>WfS x.stamp∧WfV x.vec∧True∧x.value.size≤maxLen
 | .two,x=>Bl8 x.row∧I7 .i64 x.group∧Abz x.cell
 | .note,x=>x.name.size≤maxLen∧x.text.size≤maxLen
 | .packet,x=>I7 .i64 x.src∧x.bytes.size≤maxLen
 | .place,x=>x.key.size≤maxLen∧I7 .i64 x.group
 | .bytes,l=>l.length≤maxLen∧∀y∈l,True
 | .ints,l=>l.length≤maxLen∧∀y∈l,I7 .i64 y
 | .cells,l=>l.length≤maxLen∧∀y∈l,Abz y
 | .rows,l=>l.length≤maxLen∧∀y∈l,Bl8 y
 | .three,x=>(x.a.length≤maxLen∧∀y∈x.a,Abz y)∧(x.b.length≤maxLen∧∀y∈x.b,Abz y)∧(x.c.length≤maxLen∧∀y∈x.c,Abz y)
 |_,_=>True
def FB (w:World) (F:Nat→Prop):Prop:=∀b,b <w.heap.size→F b
def B2c (P:Program) (c:TC) (t:TypeId) {H:Type} (en:TypeId×Value→H) (w:World) (base:Nat) (spare:Nat→Bool) (held:Bool):Prop:=
 ∀(m:Nat) (cs:List Value) (y:DataW H×List MemPlace),DataW.trod en P w base spare held m t cs=some y→∃x:U c,Wfd c x∧∀(F:Nat→Prop) (N:Nm) (nx:Nat),FB w F→HL F N nx w (enc c x) cs
def Opn (P:Program) (c:TC) (t:TypeId):Prop:=∀{H:Type} (en:TypeId×Value→H) (w:World) (base:Nat) (spare:Nat→Bool) (held:Bool),B2c P c t en w base spare held
def Au7 (P:Program) (c:TC) (t:TypeId):Prop:=∀{H:Type} (en:TypeId×Value→H) (w:World) (base:Nat) (spare:Nat→Bool) (held:Bool) (m:Nat) (cs:List Value) (y:DataW H×List MemPlace),
 DataW.trod en P w base spare held m t cs=some y→∃l:List (U c),(l.length≤maxLen∧∀x∈l,Wfd c x)∧∀(F:Nat→Prop) (N:Nm) (nx:Nat),FB w F→HL F N nx w [.sl c l] cs
section
variable {P:Program} {t:TypeId}
theorem Bxq (hu:P.underlying t=some (.int .i64)):Opn P .i64 t:=fun en w base spare held m cs y h=>by
 obtain⟨n,rfl,_,hw⟩:=DataW.trod_int hu h
 exact⟨n,hw,fun F N nx _=>HL.cons (Hv.v _) HL.nil⟩
theorem Btv (hu:P.underlying t=some .bool):Opn P .bool t:=fun en w base spare held m cs y h=>by
 obtain⟨n,rfl,_⟩:=DataW.trod_bool hu h
 exact⟨n,trivial,fun F N nx _=>HL.cons (Hv.v _) HL.nil⟩
theorem Bxr (hu:P.underlying t=some .string):Opn P .str t:=fun en w base spare held m cs y h=>by
 obtain⟨n,rfl,_,hw⟩:=DataW.trod_string hu h
 exact⟨n,hw,fun F N nx _=>HL.cons (Hv.v _) HL.nil⟩
theorem Bmx {α:Type} {Q:Nat→α→Prop}:∀(n:Nat),(∀i,i <n→∃x,Q i x)→∃l:List α,l.length=n∧∀(i:Nat) (x:α),l[i]?=some x→Q i x
 |0,_=>⟨[],rfl,fun i x h=>by cases h⟩
 | n+1,h=>by
  obtain⟨l,h1,h2⟩:=Bmx n fun i hi=>h i (by omega)
  obtain⟨x,hx⟩:=h n (by omega)
  refine⟨l++[x],by simp[h1],fun i y hy=>?_⟩
  rcases Nat.lt_trichotomy i n with hi|rfl|hi
  ·rw[List.getElem?_append_left (by omega)] at hy
   exact h2 i y hy
  ·rw[List.getElem?_append_right (by omega)] at hy
   simp[h1] at hy
   subst hy
   exact hx
  ·rw[List.getElem?_eq_none (by simp;omega)] at hy
   cases hy
theorem Akj {w:World} {base:Nat} {a:Addr} {n:Nat} {cs:List Value} (h:w.cells? base a n=some cs):base≤a.block∧cs.length=n∧∀(j:Nat) (v:Value),cs[j]?=some v→w.cell? (a.add j)=some v:=by
 unfold World.cells? at h
 split at h
 ·rename_i hb
  refine⟨hb,by simpa using mapM_some_length h,fun j v hv=>?_⟩
  have hl:cs.length=n:=by simpa using mapM_some_length h
  have hj:j <n:=by
   have:=(List.getElem?_eq_some_iff.1 hv).1
   omega
  have:=mapM_some_get h j j (by simp[hj])
  rw[this,hv]
 ·cases h
theorem Aik {c:TC} {e:TypeId} (hu:P.underlying t=some (.slice e)) (hs:P.cellsOf e=size c) (he:Opn P c e):Au7 P c t:=fun en w base spare held m cs y h=>by
 rcases DataW.trod_slice hu h with⟨rfl,_⟩|⟨a,len,cap,elems,rest,n,_,rfl,_,hb,hlc,hcm,hel,hg,_⟩
 ·exact⟨[],⟨Nat.zero_le _,fun x hx=>by cases hx⟩,fun F N nx _=>HL.cons (Hv.sl_nil (a:=none) rfl) HL.nil⟩
 ·have each:∀i,i <len→∃x:U c,Wfd c x∧∃zs,w.cells? base (a.add (i*size c)) (size c)=some zs∧∀(F:Nat→Prop) (N:Nm) (nx:Nat),FB w F→HL F N nx w (enc c x) zs:=fun i hi=>by
   have:=hg i hi
   rw[hs] at this
   have h2:elems[i]?≠none:=by
    intro h0
    rw[List.getElem?_eq_none_iff] at h0
    omega
   obtain⟨z,hz⟩:=Option.ne_none_iff_exists'.1 h2
   rw[hz] at this
   obtain⟨zs,h3,h4⟩:=Option.bind_eq_some_iff.1 this
   obtain⟨x,h5,h6⟩:=he en w base spare held n zs z h4
   exact⟨x,h5,zs,h3,h6⟩
  obtain⟨l,h1,h2⟩:=Bmx len each
  refine⟨l,⟨by omega,fun x hx=>?_⟩,fun F N nx hF=>HL.cons ?_ HL.nil⟩
  ·obtain⟨i,hi⟩:=List.getElem?_of_mem hx
   exact(h2 i x hi).1
  ·subst h1
   refine Hv.sl a hlc (fun hp=>⟨rfl,?_⟩) (fun i d j x hd hx=>?_) (fun i d j x y hd hx hy=>?_)
   ·obtain⟨_,zs,h3,h4⟩:=h2 0 l[0] (by rw[List.getElem?_eq_getElem hp])
    obtain⟨_,h5,h6⟩:=Akj h3
    have hsz:0 <zs.length:=by rw[h5];cases c<;>decide
    have:=h6 0 zs[0] (by rw[List.getElem?_eq_getElem hsz])
    have:=World.block_lt_of_cell? w _ this
    rw[I8,I8] at this
    exact hF _ this
   ·obtain⟨_,zs,h3,h4⟩:=h2 i d hd
    obtain⟨v,h5,h6⟩:=(h4 F N nx hF).get hx
    refine⟨v,?_⟩
    rw[←Ec]
    exact(Akj h3).2.2 j v h5
   ·obtain⟨_,zs,h3,h4⟩:=h2 i d hd
    obtain⟨v,h5,h6⟩:=(h4 F N nx hF).get hx
    have:=(Akj h3).2.2 j v h5
    rw[Ec,hy] at this
    cases this
    exact h6
end
section
variable {H:Type} {en:TypeId×Value→H} {P:Program} {w:World} {base:Nat} {spare:Nat→Bool} {held:Bool} {F:Nat→Prop} {N:Nm} {nx:Nat}
theorem Aru {fs:Array Field} {cs:List Value} {m i:Nat} {xs:List (DataW H×List MemPlace)} {f:Field} {t:TypeId} {o k:Nat} {c:TC} (ho:Opn P c t) (hf:fs[i]?=some f) (ht:f.type=t) (hof:f.offset=o) (hk:P.cellsOf t=k) (hi:i <xs.length)
  (g:∀(i:Nat) (f:Field),fs[i]?=some f→DataW.trod en P w base spare held m f.type ((cs.drop f.offset).take (P.cellsOf f.type))=xs[i]?):∃x:U c,Wfd c x∧∀(F:Nat→Prop) (N:Nm) (nx:Nat),FB w F→HL F N nx w (enc c x) ((cs.drop o).take k):=by
 subst ht hof hk
 have:=g i f hf
 rw[List.getElem?_eq_getElem hi] at this
 exact ho en w base spare held m _ _ this
theorem B3f {fs:Array Field} {cs:List Value} {m i:Nat} {xs:List (DataW H×List MemPlace)} {f:Field} {t:TypeId} {o k:Nat} {c:TC} (ho:Au7 P c t) (hf:fs[i]?=some f) (ht:f.type=t) (hof:f.offset=o) (hk:P.cellsOf t=k) (hi:i <xs.length)
  (g:∀(i:Nat) (f:Field),fs[i]?=some f→DataW.trod en P w base spare held m f.type ((cs.drop f.offset).take (P.cellsOf f.type))=xs[i]?):∃l:List (U c),(l.length≤maxLen∧∀x∈l,Wfd c x)∧∀(F:Nat→Prop) (N:Nm) (nx:Nat),FB w F→HL F N nx w [.sl c l] ((cs.drop o).take k):=by
 subst ht hof hk
 have:=g i f hf
 rw[List.getElem?_eq_getElem hi] at this
 exact ho en w base spare held m _ _ this
theorem B2h {cs:List Value} {m i n:Nat} {xs:List (DataW H×List MemPlace)} {t:TypeId} {k:Nat} {c:TC} (ho:Opn P c t) (hk:P.cellsOf t=k) (hx:i <xs.length) (hn:i <n)
  (g:∀(i:Nat),i <n→DataW.trod en P w base spare held m t ((cs.drop (i*P.cellsOf t)).take (P.cellsOf t))=xs[i]?):∃x:U c,Wfd c x∧∀(F:Nat→Prop) (N:Nm) (nx:Nat),FB w F→HL F N nx w (enc c x) ((cs.drop (i*k)).take k):=by
 subst hk
 have:=g i hn
 rw[List.getElem?_eq_getElem hx] at this
 exact ho en w base spare held m _ _ this
theorem HLd {o k:Nat} {cs:List Value} {l r:List A} (h:HL F N nx w l ((cs.drop o).take k)) (h':HL F N nx w r (cs.drop (o+k))):HL F N nx w (l++r) (cs.drop o):=by
 have e:cs.drop o=(cs.drop o).take k++cs.drop (o+k):=by
  rw[←List.drop_drop,List.take_append_drop]
 rw[e]
 exact h.append h'
theorem HLe {o:Nat} {cs:List Value} (h:cs.length=o):HL F N nx w [] (cs.drop o):=by
 rw[List.drop_eq_nil_of_le (by omega)]
 exact HL.nil
end
end Go.Proofs.Yteebobbhhgmeiaa
namespace Go.Proofs.Yteebobbhhgmeiaa
open Go.RowKit
theorem Aw8 {X:Type} {next:X→X} {goes:X→Cnd} {ps:X→List Prop} (I:X→Prop) (m:X→Nat) (h:∀x,I x→(∀p∈ps x,p)∧(Bp (goes x)=true→I (next x)∧m (next x) <m x)):
  ∀(n:Nat) (x:X),I x→m x≤n→AL next goes ps n x∧I (A9 next goes n x)∧Bp (goes (A9 next goes n x))=false
 | 0,x,hi,hm=>by
  obtain⟨h1,h2⟩:=h x hi
  have hg:Bp (goes x)=false:=by
   cases hc:Bp (goes x) with
   |false=>rfl
   |true=>have:=(h2 hc).2;omega
  exact⟨⟨h1,hg⟩,hi,hg⟩
 | n+1,x,hi,hm=>by
  obtain⟨h1,h2⟩:=h x hi
  cases hc:Bp (goes x) with
  | false=>
   have e:A9 next goes (n+1) x=x:=by
    show(bif Bp (goes x) then _ else x)=x
    rw[hc];rfl
   rw[e]
   exact⟨⟨h1,fun hh=>by rw[hc] at hh;cases hh⟩,hi,hc⟩
  | true=>
   have e:A9 next goes (n+1) x=A9 next goes n (next x):=by
    show(bif Bp (goes x) then _ else x)=_
    rw[hc];rfl
   obtain⟨h3,h4⟩:=h2 hc
   obtain⟨g1,g2,g3⟩:=Aw8 I m h n (next x) h3 (by omega)
   rw[e]
   exact⟨⟨h1,fun _=>g1⟩,g2,g3⟩
theorem i64_in {n:Int} (h:-9223372036854775808≤n∧n≤9223372036854775807):IntKind.i64.wrap n=n:=IntWalk.i64_in n h
theorem Bkk (n:Int):0≤IntKind.u64.wrap n∧IntKind.u64.wrap n≤18446744073709551615:=by
 have:=wrap_within .u64 n
 simpa[IntKind.min,IntKind.max,IntKind.signed,IntKind.bits] using this
end Go.Proofs.Yteebobbhhgmeiaa
namespace Go.Proofs.Yteebobbhhgmeiaa
open Go.RowKit
def K4 (n:Int):Nat:=if n <0∨n >4611686018427387903 then 0 else if n≥1073741824 then 8 else if n≥16384 then 4 else if n≥64 then 2 else 1
def be:Nat→Nat→List UInt8
 |0,_=>[]
 |k+1,N=>UInt8.ofNat (N / 256^k)::be k N
def Buw (k:Nat):Nat:=if k=2 then 1 else if k=4 then 2 else if k=8 then 3 else 0
def M9 (n:Int):List UInt8:=be (K4 n) (n.toNat+Buw (K4 n)*(64*256^(K4 n - 1)))
def val (acc:Nat) (l:List UInt8):Nat:=l.foldl (fun a y=>a*256+y.toNat) acc
def Ar:List UInt8→Int×Int×Int
 | []=>(0,0,10)
 |x::r=>if r.length+1 <2^(x.toNat / 64) then(0,0,10) else if K4 (val (x.toNat % 64) (r.take (2^(x.toNat / 64) - 1))) <2^(x.toNat / 64) then(0,0,11) else((val (x.toNat % 64) (r.take (2^(x.toNat / 64) - 1)):Int),((2^(x.toNat / 64):Nat):Int),0)
theorem Y0 (x:UInt8) (r:List UInt8):Ar (x::r)=if r.length+1 <2^(x.toNat / 64) then(0,0,10) else if K4 (val (x.toNat % 64) (r.take (2^(x.toNat / 64) - 1))) <2^(x.toNat / 64) then(0,0,11) else((val (x.toNat % 64) (r.take (2^(x.toNat / 64) - 1)):Int),((2^(x.toNat / 64):Nat):Int),0):=rfl
theorem K0:∀(k N:Nat),(be k N).length=k
 |0,_=>rfl
 |k+1,N=>by unfold be;rw[List.length_cons,K0]
theorem Tu (acc:Nat) (x:UInt8) (r:List UInt8):val acc (x::r)=val (acc*256+x.toNat) r:=rfl
theorem Uy:∀(l:List UInt8) (acc:Nat),val acc l=acc*256^l.length+val 0 l
 | [],acc=>by show acc=acc*256^0+0;omega
 |x::r,acc=>by
  rw[Tu,Tu,Uy r,Uy r (0*256+x.toNat),List.length_cons,Nat.pow_succ,Nat.zero_mul,Nat.zero_add,Nat.add_mul,Nat.mul_assoc,Nat.mul_comm 256]
  omega
theorem Bam:∀(l:List UInt8),val 0 l <256^l.length
 | []=>by show 0 <256^0;decide
 |x::r=>by
  rw[Tu,Uy,List.length_cons,Nat.pow_succ,Nat.zero_mul,Nat.zero_add]
  have h1:=Bam r
  have h2:x.toNat+1≤256:=x.toNat_lt
  have:=Nat.mul_le_mul_right (256^r.length) h2
  rw[Nat.add_mul,Nat.one_mul] at this
  rw[Nat.mul_comm (256^r.length)]
  omega
theorem Bhe:∀(k N a:Nat),be k (N+a*256^k)=be k N
 |0,_,_=>rfl
 |k+1,N,a=>by
  unfold be
  have h:N+a*256^(k+1)=N+a*256*256^k:=by rw[Nat.pow_succ,Nat.mul_assoc,Nat.mul_comm (256^k)]
  rw[h,Bhe k N (a*256),Nat.add_mul_div_right _ _ (Nat.pow_pos (by decide))]
  congr 1
  apply UInt8.toNat_inj.1
  rw[UInt8.toNat_ofNat',UInt8.toNat_ofNat']
  omega
theorem Brw:∀(l:List UInt8),be l.length (val 0 l)=l
 | []=>rfl
 | x::r=>by
  rw[List.length_cons]
  have e:val 0 (x::r)=val 0 r+x.toNat*256^r.length:=by
   rw[Tu,Uy,Nat.zero_mul,Nat.zero_add,Nat.add_comm]
  unfold be
  rw[e,Bhe,Brw r,Nat.add_mul_div_right _ _ (Nat.pow_pos (by decide)),Nat.div_eq_of_lt (Bam r),Nat.zero_add]
  congr 1
  exact UInt8.ofNat_toNat
theorem Bvo:∀(k N acc:Nat),val acc (be k N)=acc*256^k+N % 256^k
 |0,N,acc=>by show acc=acc*256^0+N % 256^0;omega
 |k+1,N,acc=>by
  unfold be
  have h8:(UInt8.ofNat (N / 256^k)).toNat=N / 256^k % 256:=by rw[UInt8.toNat_ofNat']
  have hm:=Nat.mod_pow_succ (x:=N) (b:=256) (k:=k)
  rw[Tu,Bvo k,h8,hm,Nat.pow_succ,Nat.add_mul,Nat.mul_assoc,Nat.mul_comm 256 (256^k),Nat.mul_comm (256^k) (N / 256^k % 256)]
  omega
def szs (k:Nat):Prop:=k=1∨k=2∨k=4∨k=8
theorem Bnv {n:Int} (h0:0≤n) (h1:n≤4611686018427387903):szs (K4 n)∧n.toNat <64*256^(K4 n - 1):=by
 unfold K4 szs
 rw[if_neg (by omega)]
 split
 ·exact⟨by decide,by show n.toNat <64*256^7;omega⟩
 ·split
  ·exact⟨by decide,by show n.toNat <64*256^3;omega⟩
  ·split
   ·exact⟨by decide,by show n.toNat <64*256^1;omega⟩
   ·exact⟨by decide,by show n.toNat <64*256^0;omega⟩
theorem B29 {n k:Nat} (hk:szs k) (h:n <64*256^(k - 1)):K4 n≤k∧1≤K4 n∧n≤4611686018427387903:=by
 unfold K4
 rcases hk with rfl|rfl|rfl|rfl
 ·have h':n <64:=h
  rw[if_neg (by omega),if_neg (by omega),if_neg (by omega),if_neg (by omega)];omega
 ·have h':n <64*256:=h
  rw[if_neg (by omega),if_neg (by omega),if_neg (by omega)]
  split<;>omega
 ·have h':n <64*256^3:=h
  have h'':n <1073741824:=by omega
  rw[if_neg (by omega),if_neg (by omega)]
  split
  ·omega
  ·split<;>omega
 ·have h':n <64*256^7:=h
  have h'':n <4611686018427387904:=by omega
  rw[if_neg (by omega)]
  split
  ·omega
  ·split
   ·omega
   ·split<;>omega
theorem B1t {k:Nat} (hk:szs k):Buw k≤3∧2^Buw k=k:=by
 rcases hk with rfl|rfl|rfl|rfl<;>decide
theorem Bux {t:Nat} (h:t≤3):szs (2^t)∧Buw (2^t)=t:=by
 match t,h with
 |0,_=>exact⟨by unfold szs;decide,rfl⟩
 |1,_=>exact⟨by unfold szs;decide,rfl⟩
 |2,_=>exact⟨by unfold szs;decide,rfl⟩
 |3,_=>exact⟨by unfold szs;decide,rfl⟩
 |n+4,h=>omega
theorem Na (n:Int):(M9 n).length=K4 n:=K0 _ _
theorem Bw4 {n:Int} (h0:0≤n) (h1:n≤4611686018427387903) (r:List UInt8):Ar (M9 n++r)=(n,(K4 n:Int),0):=by
 obtain⟨hk,hn⟩:=Bnv h0 h1
 unfold M9
 generalize hkk:K4 n=k at*
 obtain⟨m,rfl⟩:∃m,k=m+1:=⟨k - 1,by unfold szs at hk;omega⟩
 obtain⟨t1,t2⟩:=B1t hk
 generalize Buw (m+1)=t at*
 rw[Nat.add_sub_cancel] at hn⊢
 have hp:0 <256^m:=Nat.pow_pos (by decide)
 have e1:(n.toNat+t*(64*256^m)) / 256^m=n.toNat / 256^m+t*64:=by rw[←Nat.mul_assoc,Nat.add_mul_div_right _ _ hp]
 have e2:n.toNat / 256^m <64:=by rw[Nat.div_lt_iff_lt_mul hp];exact hn
 have e3:(n.toNat+t*(64*256^m)) % 256^m=n.toNat % 256^m:=by rw[←Nat.mul_assoc,Nat.add_mul_mod_self_right]
 unfold be
 rw[e1]
 have aux:∀q:Nat,q <64→(UInt8.ofNat (q+t*64)).toNat=q+t*64∧(q+t*64) / 64=t∧(q+t*64) % 64=q:=fun q hq=>by
  rw[UInt8.toNat_ofNat']
  omega
 obtain⟨hx,ht,hm⟩:=aux _ e2
 show Ar (UInt8.ofNat (n.toNat / 256^m+t*64)::(be m (n.toNat+t*(64*256^m))++r))=_
 rw[Y0,hx,ht,hm,t2,Nat.add_sub_cancel]
 have hl:(be m (n.toNat+t*(64*256^m))++r).take m=be m (n.toNat+t*(64*256^m)):=by
  rw[List.take_append_of_le_length (by rw[K0];exact Nat.le_refl _),List.take_of_length_le (by rw[K0];exact Nat.le_refl _)]
 rw[hl,Bvo,e3]
 have hv:n.toNat / 256^m*256^m+n.toNat % 256^m=n.toNat:=by rw[Nat.mul_comm];exact Nat.div_add_mod _ _
 rw[hv,if_neg (by rw[List.length_append,K0];omega)]
 have hnn:(n.toNat:Int)=n:=Int.toNat_of_nonneg h0
 rw[hnn,hkk,if_neg (by omega)]
theorem Bxx {b:List UInt8} {n k:Int} (h:Ar b=(n,k,0)):0≤n∧n≤4611686018427387903∧k=(K4 n:Int)∧K4 n≤b.length∧b.take (K4 n)=M9 n:=by
 cases b with
 |nil=>cases h
 | cons x r=>
  rw[Y0] at h
  split at h
  ·cases h
  ·rename_i hlen
   split at h
   ·cases h
   ·rename_i hsz
    have hxl:x.toNat <256:=x.toNat_lt
    obtain⟨k1,k2⟩:=Bux (t:=x.toNat / 64) (by omega)
    generalize hK:2^(x.toNat / 64)=K at*
    obtain⟨m,rfl⟩:∃m,K=m+1:=⟨K - 1,by unfold szs at k1;omega⟩
    rw[Nat.add_sub_cancel] at*
    have hrl:(r.take m).length=m:=by rw[List.length_take];omega
    have hv:=Uy (r.take m) (x.toNat % 64)
    have hlt:=Bam (r.take m)
    rw[hrl] at hv hlt
    generalize hN:val (x.toNat % 64) (r.take m)=M at*
    have hM:M <64*256^m:=by
     have:x.toNat % 64+1≤64:=by omega
     have:=Nat.mul_le_mul_right (256^m) this
     rw[Nat.add_mul,Nat.one_mul] at this
     omega
    obtain⟨s1,s2,s3⟩:=B29 k1 (by rw[Nat.add_sub_cancel];exact hM)
    have hs:K4 (M:Int)=m+1:=by omega
    injection h with h1 h
    injection h with h2 h3
    subst h1
    refine⟨by omega,by omega,by rw[hs,←h2],by rw[hs,List.length_cons];omega,?_⟩
    rw[hs]
    unfold M9
    rw[hs,k2,Nat.add_sub_cancel,Int.toNat_natCast]
    have e:M+x.toNat / 64*(64*256^m)=val 0 (x::r.take m):=by
     rw[Tu,Nat.zero_mul,Nat.zero_add,Uy,hrl,hv,←Nat.mul_assoc]
     have hx:=Nat.div_add_mod x.toNat 64
     have:x.toNat*256^m=(x.toNat / 64*64+x.toNat % 64)*256^m:=by congr 1;omega
     rw[this,Nat.add_mul]
     omega
    rw[e]
    have hb:=Brw (x::r.take m)
    rw[List.length_cons,hrl] at hb
    rw[hb]
    rfl
theorem Brv:∀(k N i:Nat),i <k→(be k N)[i]?=some (UInt8.ofNat (N / 256^(k - 1 - i)))
 |0,_,_,h=>by omega
 |k+1,N,0,_=>by unfold be;rfl
 |k+1,N,i+1,h=>by
  unfold be
  rw[List.getElem?_cons_succ,Brv k N i (by omega)]
  have:k - 1 - i=k+1 - 1 - (i+1):=by omega
  rw[this]
theorem Bwk {k N i:Nat} (h:i <k):(be k N).take (i+1)=(be k N).take i++[UInt8.ofNat (N / 256^(k - 1 - i))]:=by
 rw[List.take_add_one,Brv k N i h]
 rfl
theorem Bxu (j:Nat):(2:Int)^(8*j)=((256^j:Nat):Int):=by
 rw[Int.pow_mul]
 norm_cast
theorem Bub {n:Int} {k i:Nat} (hn:0≤n) (hk:k≤8) (hi:i <k):
  UInt8.ofNat (IntKind.u8.wrap (n.fdiv ((2:Int)^min (IntKind.u64.wrap (IntKind.i64.wrap ((8:Int)*IntKind.i64.wrap (IntKind.i64.wrap ((k:Int) - (1:Int)) - (i:Int))))).toNat (64:Nat)))).toNat=UInt8.ofNat (n.toNat / 256^(k - 1 - i)):=by
 have e1:IntKind.u64.wrap (IntKind.i64.wrap ((8:Int)*IntKind.i64.wrap (IntKind.i64.wrap ((k:Int) - (1:Int)) - (i:Int))))=((8*(k - 1 - i):Nat):Int):=by
  rw[i64_in (n:=(k:Int) - 1) (by omega),i64_in (n:=(k:Int) - 1 - (i:Int)) (by omega),i64_in (by omega),IntWalk.u64_in _ (by omega)]
  omega
 rw[e1,Int.toNat_natCast,Nat.min_eq_left (by omega),Bxu]
 have e2:n=(n.toNat:Int):=(Int.toNat_of_nonneg hn).symm
 have e3:n.fdiv ((256^(k - 1 - i):Nat):Int)=((n.toNat / 256^(k - 1 - i):Nat):Int):=by
  rw[Int.fdiv_eq_ediv_of_nonneg _ (Int.natCast_nonneg _)]
  conv=>lhs;rw[e2]
  exact(Int.natCast_ediv _ _).symm
 rw[e3]
 generalize n.toNat / 256^(k - 1 - i)=q
 have e4:IntKind.u8.wrap (q:Int)=((q % 256:Nat):Int):=by
  rw[IntKind.wrap_u8]
  omega
 rw[e4,Int.toNat_natCast]
 apply UInt8.toNat_inj.1
 rw[UInt8.toNat_ofNat',UInt8.toNat_ofNat']
 omega
theorem B1l:∀(t:Fin 4) (q:Fin 64),(BitVec.ofInt 8 (q.val:Int) ||| BitVec.ofInt 8 ((64*t.val:Nat):Int)).toNat=q.val+t.val*64:=by decide+kernel
theorem Bxs {q t:Nat} (hq:q <64) (ht:t <4):UInt8.ofNat (IntKind.u8.wrap ((BitVec.ofInt 8 (((UInt8.ofNat q).toNat:Nat):Int) ||| BitVec.ofInt 8 ((64*t:Nat):Int)).toNat:Int)).toNat=UInt8.ofNat (q+t*64):=by
 have h1:(UInt8.ofNat q).toNat=q:=by rw[UInt8.toNat_ofNat'];omega
 rw[h1,B1l ⟨t,ht⟩ ⟨q,hq⟩,IntWalk.u8_in _ (by show 0≤((q+t*64:Nat):Int)∧((q+t*64:Nat):Int)≤255;omega),Int.toNat_natCast]
theorem A98 {m N t:Nat} (b:List UInt8) (hN:N <64*256^m) (ht:t <4) (d:UInt8):
  (b++be (m+1) N).set b.length (UInt8.ofNat (IntKind.u8.wrap ((BitVec.ofInt 8 ((((b++be (m+1) N).getD b.length d).toNat:Nat):Int) ||| BitVec.ofInt 8 ((64*t:Nat):Int)).toNat:Int)).toNat)=b++be (m+1) (N+t*(64*256^m)):=by
 have hp:0 <256^m:=Nat.pow_pos (by decide)
 have e2:N / 256^m <64:=by rw[Nat.div_lt_iff_lt_mul hp];exact hN
 have e0:be (m+1) N=UInt8.ofNat (N / 256^m)::be m N:=rfl
 have e1:be (m+1) (N+t*(64*256^m))=UInt8.ofNat (N / 256^m+t*64)::be m N:=by
  show UInt8.ofNat ((N+t*(64*256^m)) / 256^m)::be m (N+t*(64*256^m))=_
  rw[←Nat.mul_assoc,Bhe,Nat.add_mul_div_right _ _ hp]
 have hg:(b++be (m+1) N).getD b.length d=UInt8.ofNat (N / 256^m):=by
  rw[e0,List.getD_eq_getElem?_getD,List.getElem?_append_right (Nat.le_refl _),Nat.sub_self]
  rfl
 rw[hg,Bxs e2 ht,e0,e1,List.set_append_right _ _ (Nat.le_refl _),Nat.sub_self]
 rfl
theorem Bxt {a:Nat} (ha:a <64*256^6) {y:UInt8}:IntKind.i64.wrap ((BitVec.ofInt 64 (IntKind.i64.wrap ((a:Int)*256)) ||| BitVec.ofInt 64 (IntKind.i64.wrap ((y.toNat:Nat):Int))).toNat:Int)=((a*256+y.toNat:Nat):Int):=by
 have hy:y.toNat <256:=y.toNat_lt
 have h6:64*256^6=18014398509481984:=by decide
 rw[h6] at ha
 rw[i64_in (n:=(a:Int)*256) (by omega),i64_in (n:=((y.toNat:Nat):Int)) (by omega)]
 have e1:(a:Int)*256=((a*256:Nat):Int):=by omega
 have e2:(BitVec.ofInt 64 ((a*256:Nat):Int) ||| BitVec.ofInt 64 ((y.toNat:Nat):Int)).toNat=a*256+y.toNat:=by
  rw[BitVec.toNat_or,BitVec.toNat_ofInt,BitVec.toNat_ofInt]
  have m1:(((a*256:Nat):Int) % ((2^64:Nat):Int)).toNat=2^8*a:=by omega
  have m2:(((y.toNat:Nat):Int) % ((2^64:Nat):Int)).toNat=y.toNat:=by omega
  rw[m1,m2,←Nat.two_pow_add_eq_or_of_lt hy]
  omega
 rw[e1,e2,i64_in (by omega)]
theorem Bvp (a:Nat) (L:List UInt8) (i:Nat) (h:i <L.length) {d:UInt8}:((val a (L.take i)*256+(L.getD i d).toNat:Nat):Int)=(val a (L.take (i+1)):Int):=by
 have e:L.take (i+1)=L.take i++[L.getD i d]:=by
  rw[List.take_add_one,List.getD_eq_getElem?_getD,List.getElem?_eq_getElem h]
  rfl
 rw[e]
 unfold val
 rw[List.foldl_append]
 rfl
theorem B2t (x:UInt8):IntKind.i64.wrap ((1:Int)*(2:Int)^min ((((x.toNat:Nat):Int)).fdiv (64:Int)).toNat (64:Nat))=((2^(x.toNat / 64):Nat):Int):=by
 have hx:x.toNat <256:=x.toNat_lt
 have e:((((x.toNat:Nat):Int)).fdiv (64:Int)).toNat=x.toNat / 64:=by
  rw[Int.fdiv_eq_ediv_of_nonneg _ (by decide)]
  omega
 rw[e,Nat.min_eq_left (by omega)]
 have:x.toNat / 64≤3:=by omega
 generalize x.toNat / 64=t at*
 match t,this with
 |0,_=>rfl
 |1,_=>rfl
 |2,_=>rfl
 |3,_=>rfl
 |n+4,h=>omega
theorem Bte:∀q:Fin 256,(BitVec.ofInt 8 (q.val:Int) &&& BitVec.ofInt 8 63).toNat=q.val % 64:=by decide+kernel
theorem Bw3 (x:UInt8):IntKind.i64.wrap (IntKind.u8.wrap ((BitVec.ofInt 8 ((x.toNat:Nat):Int) &&& BitVec.ofInt 8 63).toNat:Int))=((x.toNat % 64:Nat):Int):=by
 have hx:x.toNat <256:=x.toNat_lt
 rw[Bte ⟨x.toNat,hx⟩,IntWalk.u8_in _ (by show 0≤((x.toNat % 64:Nat):Int)∧((x.toNat % 64:Nat):Int)≤255;omega),i64_in (by show -9223372036854775808≤((x.toNat % 64:Nat):Int)∧((x.toNat % 64:Nat):Int)≤9223372036854775807;omega)]
end Go.Proofs.Yteebobbhhgmeiaa
namespace Go.Proofs.Yteebobbhhgmeiaa
open Go.RowKit
def Qv (a0:Int):Bool:=!(decide (a0 <(0:Int))||decide (a0 >(4611686018427387903:Int)))&&(!decide (a0≥(1073741824:Int))&&decide (a0≥(16384:Int)))
def Qu (a0:Int):Bool:=!(decide (a0 <(0:Int))||decide (a0 >(4611686018427387903:Int)))&&(!decide (a0≥(1073741824:Int))&&(!decide (a0≥(16384:Int))&&decide (a0≥(64:Int))))
def Xy (a0:Int):Bool:=!(decide (a0 <(0:Int))||decide (a0 >(4611686018427387903:Int)))&&(!(!(decide (a0 <(0:Int))||decide (a0 >(4611686018427387903:Int)))&&decide (a0≥(1073741824:Int)))&&(!(Qv a0)&&!(Qu a0)))
def Bb (a0:Int):Int:=bif !(!(decide (a0 <(0:Int))||decide (a0 >(4611686018427387903:Int)))&&decide (a0≥(1073741824:Int)))&&(!(Qv a0)&&(!(Qu a0)&&!(Xy a0))) then(0:Int) else IntKind.i64.wrap ((bif(Xy a0) then(0:Int) else IntKind.i64.wrap ((bif(Qu a0) then(0:Int) else IntKind.i64.wrap ((bif(Qv a0) then(0:Int) else(4:Int))+(2:Int)))+(1:Int)))+(1:Int))
def Ac4 (a0:Int):A:=.v (.int .i64 (Bb a0))
def Ac3 (_a0:Int):Objs:=[]
def Apd (_a0:Int):List Prop:=[]
set_option maxRecDepth 100000 in
theorem Beh (a0:Int):EU (AA C0 L0) 9 157 [Ak .i64 a0] 0 []=some (1,Ac4 a0,0,Ac3 a0,[]):=by kernel_rfl
set_option maxRecDepth 100000 in
theorem Bio (a0:Int) (_hp:∀p∈Apd a0,p):CallOk Try.prog 157 [Ak .i64 a0] 0 [] 1 (Ac4 a0) 0 (Ac3 a0):=by
 exact AH (Aw Byv AG) (Beh a0) Ab
def Ac5:List A→Nat→Objs→Option A8
 | [y0],nx,o=>match AP .i64 y0 with
  |some (a0,p0)=>some (1,(Ac4 a0).pk (AF nx),nx+0,AE nx (Ac3 a0)++o,p0++(Apd a0))
  |_=>none
 |_,_,_=>none
theorem A8k:Fu Try.prog 157 Ac5:=fun args nx o k x nx' o' ps h=>by
 unfold Ac5 at h
 split at h<;>first|(cases h;done)|skip
 split at h<;>first|(cases h;done)|skip
 rename_i a0 p0 e0
 cases h
 refine⟨fun hp=>?_,_,rfl⟩
 have q0:=fun p hm=>hp p (List.mem_append.2 (.inl hm))
 have r0:=fun p hm=>hp p (List.mem_append.2 (.inr hm))
 refine Ah (Ag (Bio a0 r0) (Nat.le_refl _) (Ac (Af _ _) Ao) nx o) fun F N R vs hl=>?_
 obtain⟨v0,w0,rfl,h0,hl⟩:=hl.inv
 exact HL.cons (Am e0 q0 h0) (hl)
noncomputable def Bqa:=A5 157 Ac5 C0
theorem A5w:Df Try.prog Bqa:=Av A8k Byv
abbrev Ew:Type:=Int×Int×Int×Int×(List UInt8)
def N5 (x:Ew):St:=⟨59,3,[(1,.v (.int .i64 x.1)),(5,.sq 2),(6,.v (.int .i64 x.2.1)),(16,.v (.int .i64 x.2.2.1)),(17,.v (.int .i64 x.2.2.2.1))],[(2,some (.arr 5 1 (.ty .u8 x.2.2.2.2)))]⟩
def RA:St→Option Ew
 |⟨59,3,[(1,.v (.int .i64 z0)),(5,.sq 2),(6,.v (.int .i64 z1)),(16,.v (.int .i64 z2)),(17,.v (.int .i64 z3))],[(2,some (.arr 5 1 (.ty .u8 z4)))]⟩=>some (z0,z1,z2,z3,z4)
 |_=>none
theorem Asr:∀s x,RA s=some x→s=N5 x:=fun s x h=>by
 unfold RA at h
 split at h
 ·cases h;rfl
 ·cases h
def Aij:De:=⟨2,3,[1,5,6,16,17],[],[(4,2)],[4],[5],[2]⟩
def A8j:Dy:=⟨[],[(1,2)],[1,5,6,16,17],[1]⟩
def IZ (a0:Int) (a1:Int) (_a2:Int) (a3:Int) (_a4:List UInt8):Int:=IntKind.u8.wrap (a0.fdiv ((2:Int)^min (IntKind.u64.wrap (IntKind.i64.wrap ((8:Int)*IntKind.i64.wrap (IntKind.i64.wrap (a1 - (1:Int)) - a3)))).toNat (64:Nat)))
def Ax6 (a0:Int) (a1:Int) (a2:Int) (a3:Int) (a4:List UInt8):List UInt8:=a4++[UInt8.ofNat (IZ a0 a1 a2 a3 a4).toNat]
def Gb (x:Ew):Ew:=(x.1,x.2.1,x.2.2.1,IntKind.i64.wrap (x.2.2.2.1+(1:Int)),Ax6 x.1 x.2.1 x.2.2.1 x.2.2.2.1 x.2.2.2.2)
def Ga (x:Ew):Cnd:=some (!!decide (x.2.2.2.1 <x.2.2.1))
def Xw (x:Ew):List Prop:=[((!!decide (x.2.2.2.1 <x.2.2.1))=true→(0:Int)≤IntKind.u64.wrap (IntKind.i64.wrap ((8:Int)*IntKind.i64.wrap (IntKind.i64.wrap (x.2.1 - (1:Int)) - x.2.2.2.1)))),((!!decide (x.2.2.2.1 <x.2.2.1))=true→Ai (x.2.2.2.2.length+(1:Nat))),((!!decide (x.2.2.2.1 <x.2.2.1))=true→(0:Int)≤(IZ x.1 x.2.1 x.2.2.1 x.2.2.2.1 x.2.2.2.2)∧(IZ x.1 x.2.1 x.2.2.1 x.2.2.2.1 x.2.2.2.2) <(256:Int))]
def Jb (x:Ew):List Prop:=[((!!decide (x.2.2.2.1 <x.2.2.1))=true→Ai (x.2.2.2.2.length+(1:Nat)))]
def U3 (x:Ew):Bl:=[(some 0,some (!decide (x.2.2.2.1 <x.2.2.1)),⟨59,3,[(5,.sq 2)],[(2,some (.arr 5 1 (.ty .u8 x.2.2.2.2)))]⟩)]
def HA (x:Ew):Nat:=(x.2.2.1 - x.2.2.2.1).toNat
def O8 (x:Ew):Ew:=A9 Gb Ga (HA x) x
set_option maxRecDepth 100000 in
theorem A2j (a0:Int) (a1:Int) (a2:Int) (a3:Int) (a4:List UInt8):Bx (AA Bqa L0) 9 (Aj Try.prog 119 0) Aij (N5 (a0,a1,a2,a3,a4))=some (Xw (a0,a1,a2,a3,a4),U3 (a0,a1,a2,a3,a4),Ga (a0,a1,a2,a3,a4),N5 (Gb (a0,a1,a2,a3,a4))):=by kernel_rfl
set_option maxRecDepth 100000 in
theorem A2k (a0:Int) (a1:Int) (a2:Int) (a3:Int) (a4:List UInt8) (hp:∀p∈Jb (a0,a1,a2,a3,a4),p):∀p∈Xw (a0,a1,a2,a3,a4),p:=by
 have n0:((!!decide (a3 <a2))=true→(0:Int)≤IntKind.u64.wrap (IntKind.i64.wrap ((8:Int)*IntKind.i64.wrap (IntKind.i64.wrap (a1 - (1:Int)) - a3)))):=by intros;exact Byt _
 have n1:=N0 hp
 have n2:((!!decide (a3 <a2))=true→(0:Int)≤(IZ a0 a1 a2 a3 a4)∧(IZ a0 a1 a2 a3 a4) <(256:Int)):=by intros;exact Bav _
 exact(Aa n0 (Aa n1 (Aa n2 Ab)))
noncomputable def Xx:=HU (AA Bqa L0) (Aj Try.prog 119 0) Aij A8j RA HA Gb Ga Jb U3
theorem Ax7:∀s b ps outs,Xx s=some (b,ps,outs)→Wf s ⟨ps,outs,none⟩∧Bs (AA C0 L0) b s ps outs:=
 Bi (T:=N5) A5w AG (u:=9) (by kernel_rfl) (by decide) (fun⟨a0,a1,a2,a3,a4⟩=>A2j a0 a1 a2 a3 a4) (fun⟨a0,a1,a2,a3,a4⟩=>A2k a0 a1 a2 a3 a4) Asr (fun _=>AR (n:=59) rfl) fun _ _=>rfl
noncomputable def Aii:=DG 0 Xx L0
theorem Ax5:Hs Aii:=A3 Ax7 AG
def Hk (_a0:List UInt8) (a1:Int):Bool:=Bb a1==(8:Int)
def BP (_a0:List UInt8) (a1:Int):Bool:=Bb a1==(4:Int)
def A7 (_a0:List UInt8) (a1:Int):Bool:=Bb a1==(2:Int)
def AO (a0:List UInt8) (_a1:Int):Int:=(↑([]++a0).length:Int)
def A4 (a0:List UInt8) (a1:Int):List UInt8:=(O8 (a1,Bb a1,Bb a1,(0:Int),[]++a0)).snd.snd.snd.snd
def Mr (a0:List UInt8) (a1:Int):Int:=IntKind.u8.wrap (↑(BitVec.ofInt (8:Nat) (↑(UInt8.toNat ((A4 a0 a1).getD (AO a0 a1).toNat (Ae TC.u8))):Int) ||| BitVec.ofInt (8:Nat) (192:Int)).toNat:Int)
def Mq (a0:List UInt8) (a1:Int):Int:=IntKind.u8.wrap (↑(BitVec.ofInt (8:Nat) (↑(UInt8.toNat ((A4 a0 a1).getD (AO a0 a1).toNat (Ae TC.u8))):Int) ||| BitVec.ofInt (8:Nat) (128:Int)).toNat:Int)
def Mp (a0:List UInt8) (a1:Int):Int:=IntKind.u8.wrap (↑(BitVec.ofInt (8:Nat) (↑(UInt8.toNat ((A4 a0 a1).getD (AO a0 a1).toNat (Ae TC.u8))):Int) ||| BitVec.ofInt (8:Nat) (64:Int)).toNat:Int)
def Al9 (a0:List UInt8) (a1:Int):List UInt8:=bif(A7 a0 a1) then(A4 a0 a1).set (AO a0 a1).toNat (UInt8.ofNat (Mp a0 a1).toNat) else bif(BP a0 a1) then(A4 a0 a1).set (AO a0 a1).toNat (UInt8.ofNat (Mq a0 a1).toNat) else bif(Hk a0 a1) then(A4 a0 a1).set (AO a0 a1).toNat (UInt8.ofNat (Mr a0 a1).toNat) else(A4 a0 a1)
def A41 (_a0:List UInt8) (_a1:Int):A:=.sq 0
def Zb (a0:List UInt8) (a1:Int):Objs:=[(0,some (.arr 5 1 (.ty .u8 (Al9 a0 a1))))]
def Ax8 (a0:List UInt8) (a1:Int):List Prop:=[(Ai ((0:Nat)+a0.length)),(AL Gb Ga Jb (HA (a1,Bb a1,Bb a1,(0:Int),[]++a0)) (a1,Bb a1,Bb a1,(0:Int),[]++a0)),((A7 a0 a1)=true→(0:Int)≤(AO a0 a1)∧(AO a0 a1) <(↑(A4 a0 a1).length:Int)),((A7 a0 a1)=false→(BP a0 a1)=true→(0:Int)≤(AO a0 a1)∧(AO a0 a1) <(↑(A4 a0 a1).length:Int)),((A7 a0 a1)=false→(BP a0 a1)=false→(Hk a0 a1)=true→(0:Int)≤(AO a0 a1)∧(AO a0 a1) <(↑(A4 a0 a1).length:Int))]
set_option maxRecDepth 100000 in
theorem Bin (a0:List UInt8) (a1:Int):EU (AA Bqa Aii) 9 119 [Ak .bytes a0,Ak .i64 a1] 0 []=some (1,A41 a0 a1,1,Zb a0 a1,[(Ai ((0:Nat)+a0.length)),(Aj Try.prog (119:FuncId) (0:Nat)=Aj Try.prog (119:FuncId) (0:Nat)),(AL Gb Ga Jb (HA (a1,Bb a1,Bb a1,(0:Int),[]++a0)) (a1,Bb a1,Bb a1,(0:Int),[]++a0)),((A7 a0 a1)=true→(0:Int)≤(AO a0 a1)∧(AO a0 a1) <(↑(A4 a0 a1).length:Int)),((A7 a0 a1)=true→(AO a0 a1).toNat <(A4 a0 a1).length),((A7 a0 a1)=true→(0:Int)≤(AO a0 a1)∧(AO a0 a1) <(↑(A4 a0 a1).length:Int)),((A7 a0 a1)=true→(AO a0 a1).toNat <(A4 a0 a1).length),((A7 a0 a1)=true→(0:Int)≤(Mp a0 a1)∧(Mp a0 a1) <(256:Int)),((A7 a0 a1)=false→(BP a0 a1)=true→(0:Int)≤(AO a0 a1)∧(AO a0 a1) <(↑(A4 a0 a1).length:Int)),((A7 a0 a1)=false→(BP a0 a1)=true→(AO a0 a1).toNat <(A4 a0 a1).length),((A7 a0 a1)=false→(BP a0 a1)=true→(0:Int)≤(AO a0 a1)∧(AO a0 a1) <(↑(A4 a0 a1).length:Int)),((A7 a0 a1)=false→(BP a0 a1)=true→(AO a0 a1).toNat <(A4 a0 a1).length),((A7 a0 a1)=false→(BP a0 a1)=true→(0:Int)≤(Mq a0 a1)∧(Mq a0 a1) <(256:Int)),((A7 a0 a1)=false→(BP a0 a1)=false→(Hk a0 a1)=true→(0:Int)≤(AO a0 a1)∧(AO a0 a1) <(↑(A4 a0 a1).length:Int)),((A7 a0 a1)=false→(BP a0 a1)=false→(Hk a0 a1)=true→(AO a0 a1).toNat <(A4 a0 a1).length),((A7 a0 a1)=false→(BP a0 a1)=false→(Hk a0 a1)=true→(0:Int)≤(AO a0 a1)∧(AO a0 a1) <(↑(A4 a0 a1).length:Int)),((A7 a0 a1)=false→(BP a0 a1)=false→(Hk a0 a1)=true→(AO a0 a1).toNat <(A4 a0 a1).length),((A7 a0 a1)=false→(BP a0 a1)=false→(Hk a0 a1)=true→(0:Int)≤(Mr a0 a1)∧(Mr a0 a1) <(256:Int))]):=by kernel_rfl
set_option maxRecDepth 100000 in
theorem Boy (a0:List UInt8) (a1:Int) (hp:∀p∈Ax8 a0 a1,p):CallOk Try.prog 119 [Ak .bytes a0,Ak .i64 a1] 0 [] 1 (A41 a0 a1) 1 (Zb a0 a1):=by
 have n0:=N0 hp
 have n2:=N0 (N1 hp)
 have n3:((A7 a0 a1)=true→(0:Int)≤(AO a0 a1)∧(AO a0 a1) <(↑(A4 a0 a1).length:Int)):=N0 (N1 (N1 hp))
 have n4:((A7 a0 a1)=true→(AO a0 a1).toNat <(A4 a0 a1).length):=by intro h0;have g:=n3 h0;omega
 have n7:((A7 a0 a1)=true→(0:Int)≤(Mp a0 a1)∧(Mp a0 a1) <(256:Int)):=by intros;exact Bav _
 have n8:((A7 a0 a1)=false→(BP a0 a1)=true→(0:Int)≤(AO a0 a1)∧(AO a0 a1) <(↑(A4 a0 a1).length:Int)):=N0 (N1 (N1 (N1 hp)))
 have n9:((A7 a0 a1)=false→(BP a0 a1)=true→(AO a0 a1).toNat <(A4 a0 a1).length):=by intro h0 h1;have g:=n8 h0 h1;omega
 have n12:((A7 a0 a1)=false→(BP a0 a1)=true→(0:Int)≤(Mq a0 a1)∧(Mq a0 a1) <(256:Int)):=by intros;exact Bav _
 have n13:((A7 a0 a1)=false→(BP a0 a1)=false→(Hk a0 a1)=true→(0:Int)≤(AO a0 a1)∧(AO a0 a1) <(↑(A4 a0 a1).length:Int)):=N0 (N1 (N1 (N1 (N1 hp))))
 have n14:((A7 a0 a1)=false→(BP a0 a1)=false→(Hk a0 a1)=true→(AO a0 a1).toNat <(A4 a0 a1).length):=by intro h0 h1 h2;have g:=n13 h0 h1 h2;omega
 have n17:((A7 a0 a1)=false→(BP a0 a1)=false→(Hk a0 a1)=true→(0:Int)≤(Mr a0 a1)∧(Mr a0 a1) <(256:Int)):=by intros;exact Bav _
 exact AH (Aw A5w Ax5) (Bin a0 a1) (Aa n0 (Aa rfl (Aa n2 (Aa n3 (Aa n4 (Aa n3 (Aa n4 (Aa n7 (Aa n8 (Aa n9 (Aa n8 (Aa n9 (Aa n12 (Aa n13 (Aa n14 (Aa n13 (Aa n14 (Aa n17 Ab))))))))))))))))))
def Ax9 (_a0:List UInt8) (_a1:Int):A:=.sq 0
def Uc (a0:List UInt8) (a1:Int):Objs:=[(0,some (.arr 5 1 (.ty .u8 (a0++M9 a1))))]
def Apc (a0:List UInt8) (_a1:Int):List Prop:=[Ai (a0.length+8)]
theorem A99 (n:Int):Bb n=(K4 n:Int):=by
 unfold Bb Xy Qu Qv K4
 by_cases h0:n <0∨n >4611686018427387903
 ·have e:(decide (n <0)||decide (n >4611686018427387903))=true:=by simpa using h0
  rw[e,if_pos h0];rfl
 ·have e:(decide (n <0)||decide (n >4611686018427387903))=false:=by
   rw[Bool.eq_false_iff]
   intro hh
   exact h0 (by simpa using hh)
  rw[e,if_neg h0]
  by_cases h1:n≥1073741824
  ·rw[if_pos h1,decide_eq_true h1];rfl
  ·rw[if_neg h1,decide_eq_false h1]
   by_cases h2:n≥16384
   ·rw[if_pos h2,decide_eq_true h2];rfl
   ·rw[if_neg h2,decide_eq_false h2]
    by_cases h3:n≥64
    ·rw[if_pos h3,decide_eq_true h3];rfl
    ·rw[if_neg h3,decide_eq_false h3];rfl
theorem Aj3 (n:Int):K4 n=0∨(0≤n∧n≤4611686018427387903∧szs (K4 n)):=by
 by_cases h:n <0∨n >4611686018427387903
 ·left;unfold K4;rw[if_pos h]
 ·right;exact⟨by omega,by omega,(Bnv (by omega) (by omega)).1⟩
theorem Buc (b:List UInt8) (n:Int) (hb:Ai (b.length+8)):
  AL Gb Ga Jb (HA (n,Bb n,Bb n,0,[]++b)) (n,Bb n,Bb n,0,[]++b)∧
  (O8 (n,Bb n,Bb n,0,[]++b)).2.2.2.2=b++be (K4 n) n.toNat:=by
 have hk8:K4 n≤8:=by
  rcases Aj3 n with h|⟨_,_,h⟩
  ·omega
  ·unfold szs at h;omega
 rw[A99]
 obtain⟨h1,⟨i,hi,h2⟩,h3⟩:=Aw8 (next:=Gb) (goes:=Ga) (ps:=Jb)
  (fun x=>∃i:Nat,i≤K4 n∧x=(n,(K4 n:Int),(K4 n:Int),(i:Int),b++(be (K4 n) n.toNat).take i)) HA (by
   rintro x ⟨i,hi,rfl⟩
   refine⟨Aa (fun hp=>?_) Ab,fun hg=>?_⟩
   ·have h':(!!decide ((i:Int) <(K4 n:Int)))=true:=hp
    have hlt:i <K4 n:=by simpa using h'
    show Ai ((b++(be (K4 n) n.toNat).take i).length+1)
    unfold Ai at*
    rw[List.length_append,List.length_take,K0]
    omega
   ·have h':(!!decide ((i:Int) <(K4 n:Int)))=true:=hg
    have hlt:i <K4 n:=by simpa using h'
    have hw:IntKind.i64.wrap ((i:Int)+1)=((i+1:Nat):Int):=by rw[i64_in (by omega)];rfl
    have hn0:0≤n:=by rcases Aj3 n with h|⟨h,_⟩<;>omega
    refine⟨⟨i+1,hlt,?_⟩,?_⟩
    ·show(n,(K4 n:Int),(K4 n:Int),IntKind.i64.wrap ((i:Int)+1),(b++(be (K4 n) n.toNat).take i)++[UInt8.ofNat (IntKind.u8.wrap (n.fdiv ((2:Int)^min (IntKind.u64.wrap (IntKind.i64.wrap ((8:Int)*IntKind.i64.wrap (IntKind.i64.wrap ((K4 n:Int) - (1:Int)) - (i:Int))))).toNat (64:Nat)))).toNat])=_
     rw[hw,Bub hn0 hk8 hlt,List.append_assoc,←Bwk hlt]
    ·show((K4 n:Int) - IntKind.i64.wrap ((i:Int)+1)).toNat <((K4 n:Int) - (i:Int)).toNat
     rw[hw]
     omega) _ (n,(K4 n:Int),(K4 n:Int),0,[]++b) ⟨0,Nat.zero_le _,by simp⟩ (Nat.le_refl _)
 refine⟨h1,?_⟩
 have h4:O8 (n,(K4 n:Int),(K4 n:Int),0,[]++b)=_:=h2
 rw[h2] at h3
 have h3':(!!decide ((i:Int) <(K4 n:Int)))=false:=h3
 have hn:¬((i:Int) <(K4 n:Int)):=by simpa using h3'
 obtain rfl:i=K4 n:=by omega
 rw[h4,List.take_of_length_le (by rw[K0];exact Nat.le_refl _)]
theorem Bim (b:List UInt8) (n:Int) (hb:Ai (b.length+8)):(∀p∈Ax8 b n,p)∧Al9 b n=b++M9 n:=by
 obtain⟨h1,h2⟩:=Buc b n hb
 have h3:A4 b n=b++be (K4 n) n.toNat:=h2
 have h4:(AO b n).toNat=b.length:=rfl
 have hS:=A99 n
 have hlen:(b++be (K4 n) n.toNat).length=b.length+K4 n:=by rw[List.length_append,K0]
 have hpos:K4 n≠0→(0:Int)≤AO b n∧AO b n <((A4 b n).length:Int):=fun h0=>by
  rw[h3,hlen]
  show(0:Int)≤(b.length:Int)∧(b.length:Int) <((b.length+K4 n:Nat):Int)
  omega
 have sz2:∀c:Int,c≠0→(Bb n==c)=true→K4 n≠0:=fun c hc h h0=>by
  rw[hS,h0] at h
  have h':(0:Int)=c:=by simpa using h
  exact hc h'.symm
 refine⟨Aa (by unfold Ai at*;omega) (Aa h1 (Aa (fun h=>hpos (sz2 2 (by decide) h)) (Aa (fun _ h=>hpos (sz2 4 (by decide) h)) (Aa (fun _ _ h=>hpos (sz2 8 (by decide) h)) Ab)))),?_⟩
 unfold Al9
 rw[h3,h4]
 have k7:A7 b n=((K4 n:Int)==2):=by show(Bb n==2)=_;rw[hS]
 have k6:BP b n=((K4 n:Int)==4):=by show(Bb n==4)=_;rw[hS]
 have k5:Hk b n=((K4 n:Int)==8):=by show(Bb n==8)=_;rw[hS]
 have b1:Mp b n=IntKind.u8.wrap ((BitVec.ofInt 8 ((((b++be (K4 n) n.toNat).getD b.length (Ae TC.u8)).toNat:Nat):Int) ||| BitVec.ofInt 8 ((64*1:Nat):Int)).toNat:Int):=by rw[←h3,←h4];rfl
 have b0:Mq b n=IntKind.u8.wrap ((BitVec.ofInt 8 ((((b++be (K4 n) n.toNat).getD b.length (Ae TC.u8)).toNat:Nat):Int) ||| BitVec.ofInt 8 ((64*2:Nat):Int)).toNat:Int):=by rw[←h3,←h4];rfl
 have b2:Mr b n=IntKind.u8.wrap ((BitVec.ofInt 8 ((((b++be (K4 n) n.toNat).getD b.length (Ae TC.u8)).toNat:Nat):Int) ||| BitVec.ofInt 8 ((64*3:Nat):Int)).toNat:Int):=by rw[←h3,←h4];rfl
 rw[k7,k6,k5,b1,b0,b2]
 unfold M9
 rcases Aj3 n with hz|⟨g1,g2,g3⟩
 ·rw[hz];rfl
 ·have hN:=(Bnv g1 g2).2
  generalize hk:K4 n=k at*
  rcases g3 with rfl|rfl|rfl|rfl
  ·show b++be 1 n.toNat=b++be 1 (n.toNat+0*(64*256^0))
   rw[Nat.zero_mul,Nat.add_zero]
  ·exact A98 (m:=1) (t:=1) b hN (by decide) _
  ·exact A98 (m:=3) (t:=2) b hN (by decide) _
  ·exact A98 (m:=7) (t:=3) b hN (by decide) _
theorem Bil (a0:List UInt8) (a1:Int) (hp:∀p∈Apc a0 a1,p):CallOk Try.prog 119 [Ak .bytes a0,Ak .i64 a1] 0 [] 1 (Ax9 a0 a1) 1 (Uc a0 a1):=by
 obtain⟨h1,h2⟩:=Bim a0 a1 (hp _ (List.mem_cons_self ..))
 have h:=Boy a0 a1 h1
 have ho:Zb a0 a1=Uc a0 a1:=by unfold Zb Uc;rw[h2]
 rw[ho] at h
 exact h
def Ama:List A→Nat→Objs→Option A8
 | [y0,y1],nx,o=>match AP .bytes y0,AP .i64 y1 with
  |some (a0,p0),some (a1,p1)=>some (1,(Ax9 a0 a1).pk (AF nx),nx+1,AE nx (Uc a0 a1)++o,p0++(p1++(Apc a0 a1)))
  |_,_=>none
 |_,_,_=>none
theorem Beg:Fu Try.prog 119 Ama:=fun args nx o k x nx' o' ps h=>by
 unfold Ama at h
 split at h<;>first|(cases h;done)|skip
 split at h<;>first|(cases h;done)|skip
 rename_i a0 p0 a1 p1 e0 e1
 cases h
 refine⟨fun hp=>?_,_,rfl⟩
 have q0:=fun p hm=>hp p (List.mem_append.2 (.inl hm))
 have r0:=fun p hm=>hp p (List.mem_append.2 (.inr hm))
 have q1:=fun p hm=>r0 p (List.mem_append.2 (.inl hm))
 have r1:=fun p hm=>r0 p (List.mem_append.2 (.inr hm))
 refine Ah (Ag (Bil a0 a1 r1) (Nat.le_refl _) (Ac (Af _ _) (Ac (Af _ _) Ao)) nx o) fun F N R vs hl=>?_
 obtain⟨v0,w0,rfl,h0,hl⟩:=hl.inv
 obtain⟨v1,w1,rfl,h1,hl⟩:=hl.inv
 exact HL.cons (Am e0 q0 h0) (HL.cons (Am e1 q1 h1) (hl))
noncomputable def Bqb:=A5 119 Ama Bqa
theorem A5x:Df Try.prog Bqb:=Av Beg A5w
abbrev Ev:Type:=Int×(List UInt8)×Int×Int
def N4 (x:Ev):St:=⟨46,0,[(6,.v (.int .i64 x.1)),(28,.sl .u8 x.2.1),(29,.v (.int .i64 x.2.2.1)),(30,.v (.int .i64 x.2.2.2))],[]⟩
def Ry:St→Option Ev
 |⟨46,0,[(6,.v (.int .i64 z0)),(28,.sl .u8 z1),(29,.v (.int .i64 z2)),(30,.v (.int .i64 z3))],[]⟩=>some (z0,z1,z2,z3)
 |_=>none
theorem Asp:∀s x,Ry s=some x→s=N4 x:=fun s x h=>by
 unfold Ry at h
 split at h
 ·cases h;rfl
 ·cases h
def Aih:De:=⟨0,0,[6,28,29,30],[],[],[],[6],[]⟩
def A8i:Dy:=⟨[],[],[6,28,29,30],[]⟩
def Axz (a0:Int) (a1:List UInt8) (_a2:Int) (a3:Int):Int:=IntKind.i64.wrap (↑(BitVec.ofInt (64:Nat) (IntKind.i64.wrap (a0*(256:Int))) ||| BitVec.ofInt (64:Nat) (IntKind.i64.wrap (↑(UInt8.toNat (a1.getD a3.toNat (Ae TC.u8))):Int))).toNat:Int)
def F9 (x:Ev):Ev:=(Axz x.1 x.2.1 x.2.2.1 x.2.2.2,x.2.1,x.2.2.1,IntKind.i64.wrap (x.2.2.2+(1:Int)))
def F8 (x:Ev):Cnd:=some (!!decide (x.2.2.2 <x.2.2.1))
def Xr (x:Ev):List Prop:=[((!!decide (x.2.2.2 <x.2.2.1))=true→(0:Int)≤x.2.2.2∧x.2.2.2 <(↑x.2.1.length:Int))]
def Ja (x:Ev):List Prop:=[((!!decide (x.2.2.2 <x.2.2.1))=true→(0:Int)≤x.2.2.2∧x.2.2.2 <(↑x.2.1.length:Int))]
def U1 (x:Ev):Bl:=[(some 0,some (!decide (x.2.2.2 <x.2.2.1)),⟨46,0,[(6,.v (.int .i64 x.1))],[]⟩)]
def Hz (x:Ev):Nat:=(x.2.2.1 - x.2.2.2).toNat
def LG (x:Ev):Ev:=A9 F9 F8 (Hz x) x
set_option maxRecDepth 100000 in
theorem A2g (a0:Int) (a1:List UInt8) (a2:Int) (a3:Int):Bx (AA Bqb L0) 9 (Aj Try.prog 114 0) Aih (N4 (a0,a1,a2,a3))=some (Xr (a0,a1,a2,a3),U1 (a0,a1,a2,a3),F8 (a0,a1,a2,a3),N4 (F9 (a0,a1,a2,a3))):=by kernel_rfl
set_option maxRecDepth 100000 in
theorem A2h (a0:Int) (a1:List UInt8) (a2:Int) (a3:Int) (hp:∀p∈Ja (a0,a1,a2,a3),p):∀p∈Xr (a0,a1,a2,a3),p:=by
 have n0:=N0 hp
 exact(Aa n0 Ab)
noncomputable def Xs:=HU (AA Bqb L0) (Aj Try.prog 114 0) Aih A8i Ry Hz F9 F8 Ja U1
theorem Ax0:∀s b ps outs,Xs s=some (b,ps,outs)→Wf s ⟨ps,outs,none⟩∧Bs (AA C0 L0) b s ps outs:=
 Bi (T:=N4) A5x AG (u:=9) (by kernel_rfl) (by decide) (fun⟨a0,a1,a2,a3⟩=>A2g a0 a1 a2 a3) (fun⟨a0,a1,a2,a3⟩=>A2h a0 a1 a2 a3) Asp (fun _=>AR (n:=46) rfl) fun _ _=>rfl
noncomputable def Aig:=DG 0 Xs L0
theorem Axy:Hs Aig:=A3 Ax0 AG
def H0 (a0:List UInt8):Int:=(↑(UInt8.toNat (a0.getD (0:Nat) (Ae TC.u8))):Int)
def CZ (a0:List UInt8):Bool:=(↑a0.length:Int)==(0:Int)
def Hj (a0:List UInt8):Int:=IntKind.i64.wrap ((1:Int)*(2:Int)^min ((H0 a0).fdiv (64:Int)).toNat (64:Nat))
def EZ (a0:List UInt8):List UInt8:=List.take ((Hj a0).toNat - (1:Nat)) (List.drop (1:Nat) a0)
def F7 (a0:List UInt8):Bool:=decide ((↑a0.length:Int) <(Hj a0))
def O7 (a0:List UInt8):Bool:=decide (Bb (LG (IntKind.i64.wrap (IntKind.u8.wrap (↑(BitVec.ofInt (8:Nat) (H0 a0) &&& BitVec.ofInt (8:Nat) (63:Int)).toNat:Int)),(EZ a0),(↑(EZ a0).length:Int),(0:Int))).fst <(Hj a0))
def Al5 (a0:List UInt8):Int:=bif(CZ a0) then(0:Int) else bif(F7 a0) then(0:Int) else bif(O7 a0) then(0:Int) else(LG (IntKind.i64.wrap (IntKind.u8.wrap (↑(BitVec.ofInt (8:Nat) (H0 a0) &&& BitVec.ofInt (8:Nat) (63:Int)).toNat:Int)),(EZ a0),(↑(EZ a0).length:Int),(0:Int))).fst
def Al6 (a0:List UInt8):Int:=bif(CZ a0) then(0:Int) else bif(F7 a0) then(0:Int) else bif(O7 a0) then(0:Int) else(Hj a0)
def Al7 (a0:List UInt8):Int:=bif(CZ a0) then(10:Int) else bif(F7 a0) then(10:Int) else bif(O7 a0) then(11:Int) else(0:Int)
def Za (a0:List UInt8):A:=.v (.tuple ⟨[.int .i64 (Al5 a0),.int .i64 (Al6 a0),.int .i64 (Al7 a0)]⟩)
def A40 (_a0:List UInt8):Objs:=[]
def Ax2 (a0:List UInt8):List Prop:=[((!(CZ a0))=true→(0:Int)≤(0:Int)∧(0:Int) <(↑a0.length:Int)),((!(CZ a0))=true→(0:Int)≤(H0 a0).fdiv (64:Int)),((!(CZ a0))=true→(!(F7 a0))=true→(0:Int)≤(0:Int)∧(0:Int) <(↑a0.length:Int)),((!(CZ a0))=true→(!(F7 a0))=true→(0:Int)≤(1:Int)∧(1:Int)≤(Hj a0)∧(Hj a0)≤(↑a0.length:Int)),((!(CZ a0))=true→(!(F7 a0))=true→AL F9 F8 Ja (Hz (IntKind.i64.wrap (IntKind.u8.wrap (↑(BitVec.ofInt (8:Nat) (H0 a0) &&& BitVec.ofInt (8:Nat) (63:Int)).toNat:Int)),(EZ a0),(↑(EZ a0).length:Int),(0:Int))) (IntKind.i64.wrap (IntKind.u8.wrap (↑(BitVec.ofInt (8:Nat) (H0 a0) &&& BitVec.ofInt (8:Nat) (63:Int)).toNat:Int)),(EZ a0),(↑(EZ a0).length:Int),(0:Int)))]
set_option maxRecDepth 100000 in
theorem Bik (a0:List UInt8):EU (AA Bqb Aig) 9 114 [Ak .bytes a0] 0 []=some (1,Za a0,0,A40 a0,[((!(CZ a0))=true→(0:Int)≤(0:Int)∧(0:Int) <(↑a0.length:Int)),((!(CZ a0))=true→(0:Int)≤(H0 a0).fdiv (64:Int)),((!(CZ a0))=true→(!(F7 a0))=true→(0:Int)≤(0:Int)∧(0:Int) <(↑a0.length:Int)),((!(CZ a0))=true→(!(F7 a0))=true→(0:Int)≤(1:Int)∧(1:Int)≤(Hj a0)∧(Hj a0)≤(↑a0.length:Int)),((!(CZ a0))=true→(!(F7 a0))=true→Aj Try.prog (114:FuncId) (0:Nat)=Aj Try.prog (114:FuncId) (0:Nat)),((!(CZ a0))=true→(!(F7 a0))=true→AL F9 F8 Ja (Hz (IntKind.i64.wrap (IntKind.u8.wrap (↑(BitVec.ofInt (8:Nat) (H0 a0) &&& BitVec.ofInt (8:Nat) (63:Int)).toNat:Int)),(EZ a0),(↑(EZ a0).length:Int),(0:Int))) (IntKind.i64.wrap (IntKind.u8.wrap (↑(BitVec.ofInt (8:Nat) (H0 a0) &&& BitVec.ofInt (8:Nat) (63:Int)).toNat:Int)),(EZ a0),(↑(EZ a0).length:Int),(0:Int)))]):=by kernel_rfl
set_option maxRecDepth 100000 in
theorem Box (a0:List UInt8) (hp:∀p∈Ax2 a0,p):CallOk Try.prog 114 [Ak .bytes a0] 0 [] 1 (Za a0) 0 (A40 a0):=by
 have n0:=N0 hp
 have n1:=N0 (N1 hp)
 have n2:=N0 (N1 (N1 hp))
 have n3:=N0 (N1 (N1 (N1 hp)))
 have n4:((!(CZ a0))=true→(!(F7 a0))=true→Aj Try.prog (114:FuncId) (0:Nat)=Aj Try.prog (114:FuncId) (0:Nat)):=by intros;rfl
 have n5:=N0 (N1 (N1 (N1 (N1 hp))))
 exact AH (Aw A5x Axy) (Bik a0) (Aa n0 (Aa n1 (Aa n2 (Aa n3 (Aa n4 (Aa n5 Ab))))))
def Ub (a0:List UInt8):A:=.v (.tuple ⟨[.int .i64 (Ar a0).1,.int .i64 (Ar a0).2.1,.int .i64 (Ar a0).2.2]⟩)
def Ax1 (_a0:List UInt8):Objs:=[]
def Apb (_a0:List UInt8):List Prop:=[]
theorem Bsr (L:List UInt8) (h7:L.length≤7) (a:Nat) (ha:a <64):
  AL F9 F8 Ja (Hz ((a:Int),L,(L.length:Int),0)) ((a:Int),L,(L.length:Int),0)∧
  (LG ((a:Int),L,(L.length:Int),0)).1=(val a L:Int):=by
 obtain⟨h1,⟨i,hi,h2⟩,h3⟩:=Aw8 (next:=F9) (goes:=F8) (ps:=Ja)
  (fun x=>∃i:Nat,i≤L.length∧x=((val a (L.take i):Int),L,(L.length:Int),(i:Int))) Hz (by
   rintro x ⟨i,hi,rfl⟩
   refine⟨Aa (fun hp=>?_) Ab,fun hg=>?_⟩
   ·have h':(!!decide ((i:Int) <(L.length:Int)))=true:=hp
    have hlt:(i:Int) <(L.length:Int):=by simpa using h'
    show(0:Int)≤(i:Int)∧(i:Int) <(L.length:Int)
    exact⟨by omega,hlt⟩
   ·have h':(!!decide ((i:Int) <(L.length:Int)))=true:=hg
    have hlt:i <L.length:=by simpa using h'
    have hw:IntKind.i64.wrap ((i:Int)+1)=((i+1:Nat):Int):=by rw[i64_in (by omega)];rfl
    have hb:val a (L.take i) <64*256^6:=by
     have hv:=Uy (L.take i) a
     have hl:=Bam (L.take i)
     have e:(L.take i).length=i:=by rw[List.length_take];omega
     rw[e] at hv hl
     have hm:256^i≤256^6:=Nat.pow_le_pow_right (by decide) (by omega)
     have hq:=Nat.mul_le_mul_right (256^i) (show a+1≤64 by omega)
     rw[Nat.add_mul,Nat.one_mul] at hq
     have hq2:=Nat.mul_le_mul_left 64 hm
     omega
    refine⟨⟨i+1,hlt,?_⟩,?_⟩
    ·show(IntKind.i64.wrap ((BitVec.ofInt 64 (IntKind.i64.wrap ((val a (L.take i):Int)*256)) ||| BitVec.ofInt 64 (IntKind.i64.wrap (((L.getD (i:Int).toNat (Ae TC.u8)).toNat:Nat):Int))).toNat:Int),L,(L.length:Int),IntKind.i64.wrap ((i:Int)+1))=_
     rw[hw,Bxt hb,Int.toNat_natCast,Bvp _ _ _ hlt]
    ·show((L.length:Int) - IntKind.i64.wrap ((i:Int)+1)).toNat <((L.length:Int) - (i:Int)).toNat
     rw[hw]
     omega) _ ((a:Int),L,(L.length:Int),0) ⟨0,Nat.zero_le _,rfl⟩ (Nat.le_refl _)
 refine⟨h1,?_⟩
 have h4:LG ((a:Int),L,(L.length:Int),0)=_:=h2
 rw[h2] at h3
 have h3':(!!decide ((i:Int) <(L.length:Int)))=false:=h3
 have hn:¬((i:Int) <(L.length:Int)):=by simpa using h3'
 obtain rfl:i=L.length:=by omega
 rw[h4,List.take_length]
theorem Bij (b:List UInt8):(∀p∈Ax2 b,p)∧Al5 b=(Ar b).1∧Al6 b=(Ar b).2.1∧Al7 b=(Ar b).2.2:=by
 cases b with
 |nil=>
  have no:(!(CZ []))=true→False:=by intro h;cases h
  exact⟨Aa (fun h=>(no h).elim) (Aa (fun h=>(no h).elim) (Aa (fun h=>(no h).elim) (Aa (fun h=>(no h).elim) (Aa (fun h=>(no h).elim) Ab)))),rfl,rfl,rfl⟩
 | cons x r=>
  have hx:x.toNat <256:=x.toNat_lt
  have k4:CZ (x::r)=false:=by
   show(((r.length+1:Nat):Int)==0)=false
   rw[Bool.eq_false_iff]
   intro h
   have:((r.length+1:Nat):Int)=0:=by simpa using h
   omega
  have k3:Hj (x::r)=((2^(x.toNat / 64):Nat):Int):=B2t x
  have t3:x.toNat / 64≤3:=by omega
  have hK:=(Bux t3).1
  have k2:EZ (x::r)=r.take (2^(x.toNat / 64) - 1):=by
   show List.take ((Hj (x::r)).toNat - 1) r=_
   rw[k3,Int.toNat_natCast]
  have k1:F7 (x::r)=decide (r.length+1 <2^(x.toNat / 64)):=by
   show decide (((r.length+1:Nat):Int) <Hj (x::r))=_
   rw[k3]
   exact decide_eq_decide.2 Int.ofNat_lt
  have k6:IntKind.i64.wrap (IntKind.u8.wrap ((BitVec.ofInt 8 (H0 (x::r)) &&& BitVec.ofInt 8 63).toNat:Int))=((x.toNat % 64:Nat):Int):=Bw3 x
  generalize hKK:2^(x.toNat / 64)=K at*
  have hlen:(r.take (K - 1)).length≤7:=by rw[List.length_take];unfold szs at hK;omega
  obtain⟨n1,n2⟩:=Bsr (r.take (K - 1)) hlen (x.toNat % 64) (by omega)
  have k0:O7 (x::r)=decide (K4 (val (x.toNat % 64) (r.take (K - 1))) <K):=by
   unfold O7
   rw[k6,k2,n2,A99,k3]
   exact decide_eq_decide.2 Int.ofNat_lt
  refine⟨Aa (fun _=>?_) (Aa (fun _=>?_) (Aa (fun _ _=>(by show(0:Int)≤0∧(0:Int) <((r.length+1:Nat):Int);omega)) (Aa (fun _ h=>?_) (Aa (fun _ _=>?_) Ab)))),?_⟩
  ·show(0:Int)≤0∧(0:Int) <((r.length+1:Nat):Int)
   omega
  ·show(0:Int)≤((x.toNat:Nat):Int).fdiv 64
   rw[Int.fdiv_eq_ediv_of_nonneg _ (by decide)]
   omega
  ·rw[k1] at h
   have h':¬(r.length+1 <K):=by simpa using h
   rw[k3]
   show(0:Int)≤1∧(1:Int)≤(K:Int)∧(K:Int)≤((r.length+1:Nat):Int)
   unfold szs at hK
   omega
  ·rw[k6,k2]
   exact n1
  ·unfold Al5 Al6 Al7
   rw[k4,k1,k0,k6,k2,n2,k3,Y0,hKK]
   by_cases c1:r.length+1 <K
   ·rw[if_pos c1,decide_eq_true c1];exact⟨rfl,rfl,rfl⟩
   ·rw[if_neg c1,decide_eq_false c1]
    by_cases c2:K4 (val (x.toNat % 64) (r.take (K - 1))) <K
    ·rw[if_pos c2,decide_eq_true c2];exact⟨rfl,rfl,rfl⟩
    ·rw[if_neg c2,decide_eq_false c2];exact⟨rfl,rfl,rfl⟩
theorem Bii (a0:List UInt8) (_hp:∀p∈Apb a0,p):CallOk Try.prog 114 [Ak .bytes a0] 0 [] 1 (Ub a0) 0 (Ax1 a0):=by
 obtain⟨h1,h2,h3,h4⟩:=Bij a0
 have h:=Box a0 h1
 have hr:Za a0=Ub a0:=by unfold Za Ub;rw[h2,h3,h4]
 rw[hr] at h
 exact h
def Al8:List A→Nat→Objs→Option A8
 | [y0],nx,o=>match AP .bytes y0 with
  |some (a0,p0)=>some (1,(Ub a0).pk (AF nx),nx+0,AE nx (Ax1 a0)++o,p0++(Apb a0))
  |_=>none
 |_,_,_=>none
theorem Bef:Fu Try.prog 114 Al8:=fun args nx o k x nx' o' ps h=>by
 unfold Al8 at h
 split at h<;>first|(cases h;done)|skip
 split at h<;>first|(cases h;done)|skip
 rename_i a0 p0 e0
 cases h
 refine⟨fun hp=>?_,_,rfl⟩
 have q0:=fun p hm=>hp p (List.mem_append.2 (.inl hm))
 have r0:=fun p hm=>hp p (List.mem_append.2 (.inr hm))
 refine Ah (Ag (Bii a0 r0) (Nat.le_refl _) (Ac (Af _ _) Ao) nx o) fun F N R vs hl=>?_
 obtain⟨v0,w0,rfl,h0,hl⟩:=hl.inv
 exact HL.cons (Am e0 q0 h0) (hl)
noncomputable def B1w:=A5 114 Al8 Bqb
theorem Bvy:Df Try.prog B1w:=Av Bef A5x
noncomputable def Ca:=B1w
theorem Byw:Df Try.prog Ca:=Bvy
end Go.Proofs.Yteebobbhhgmeiaa
namespace Go.Proofs.Yteebobbhhgmeiaa
open Go.RowKit
def PL (a0:Int):Bool:=!a0==(1:Int)
def MT (a0:Int):Bool:=bif !((PL a0)&&!((PL a0)&&a0==(2:Int))) then true else false
def RN (a0:Int):A:=.v (.bool (MT a0))
def RM (_a0:Int):Objs:=[]
def YJ (_a0:Int):List Prop:=[]
set_option maxRecDepth 100000 in
theorem A04 (a0:Int):EU (AA Ca L0) 9 151 [Ak .i64 a0] 0 []=some (1,RN a0,0,RM a0,[]):=by kernel_rfl
set_option maxRecDepth 100000 in
theorem A3t (a0:Int) (_hp:∀p∈YJ a0,p):CallOk Try.prog 151 [Ak .i64 a0] 0 [] 1 (RN a0) 0 (RM a0):=by
 exact AH (Aw Byw AG) (A04 a0) Ab
def RO:List A→Nat→Objs→Option A8
 | [y0],nx,o=>match AP .i64 y0 with
  |some (a0,p0)=>some (1,(RN a0).pk (AF nx),nx+0,AE nx (RM a0)++o,p0++(YJ a0))
  |_=>none
 |_,_,_=>none
theorem Auf:Fu Try.prog 151 RO:=fun args nx o k x nx' o' ps h=>by
 unfold RO at h
 split at h<;>first|(cases h;done)|skip
 split at h<;>first|(cases h;done)|skip
 rename_i a0 p0 e0
 cases h
 refine⟨fun hp=>?_,_,rfl⟩
 have q0:=fun p hm=>hp p (List.mem_append.2 (.inl hm))
 have r0:=fun p hm=>hp p (List.mem_append.2 (.inr hm))
 refine Ah (Ag (A3t a0 r0) (Nat.le_refl _) (Ac (Af _ _) Ao) nx o) fun F N R vs hl=>?_
 obtain⟨v0,w0,rfl,h0,hl⟩:=hl.inv
 exact HL.cons (Am e0 q0 h0) (hl)
noncomputable def Bzp:=A5 151 RO Ca
theorem Bkx:Df Try.prog Bzp:=Av Auf Byw
def Cc (a0:TStamp):Bool:=bif a0.1==(0:Int)&&a0.2==(0:Int) then true else decide (a0.1 >(0:Int))&&decide (a0.1≤(281474976710656:Int))&&MT a0.2
def Ur (a0:TStamp):A:=.v (.bool (Cc a0))
def Uq (_a0:TStamp):Objs:=[]
def Abs (_a0:TStamp):List Prop:=[]
set_option maxRecDepth 100000 in
theorem A3q (a0:TStamp):EU (AA Bzp L0) 9 102 [Ak .stamp a0] 0 []=some (1,Ur a0,0,Uq a0,[]):=by kernel_rfl
set_option maxRecDepth 100000 in
theorem Bag (a0:TStamp) (_hp:∀p∈Abs a0,p):CallOk Try.prog 102 [Ak .stamp a0] 0 [] 1 (Ur a0) 0 (Uq a0):=by
 exact AH (Aw Bkx AG) (A3q a0) Ab
def Us:List A→Nat→Objs→Option A8
 | [y0],nx,o=>match AP .stamp y0 with
  |some (a0,p0)=>some (1,(Ur a0).pk (AF nx),nx+0,AE nx (Uq a0)++o,p0++(Abs a0))
  |_=>none
 |_,_,_=>none
theorem A01:Fu Try.prog 102 Us:=fun args nx o k x nx' o' ps h=>by
 unfold Us at h
 split at h<;>first|(cases h;done)|skip
 split at h<;>first|(cases h;done)|skip
 rename_i a0 p0 e0
 cases h
 refine⟨fun hp=>?_,_,rfl⟩
 have q0:=fun p hm=>hp p (List.mem_append.2 (.inl hm))
 have r0:=fun p hm=>hp p (List.mem_append.2 (.inr hm))
 refine Ah (Ag (Bag a0 r0) (Nat.le_refl _) (Ac (Af _ _) Ao) nx o) fun F N R vs hl=>?_
 obtain⟨v0,w0,rfl,h0,hl⟩:=hl.inv
 exact HL.cons (Am e0 q0 h0) (hl)
noncomputable def Bzq:=A5 102 Us Bzp
theorem Bky:Df Try.prog Bzq:=Av A01 Bkx
def Ho (a0:TStamp):Bool:=bif a0.1==(0:Int)&&a0.2==(0:Int) then true else decide (a0.1≥(1:Int))&&decide (a0.1≤(281474976710656:Int))&&(a0.2==(1:Int)||a0.2==(2:Int))
def Adf (a0:TStamp):A:=.v (.bool (Ho a0))
def Ade (_a0:TStamp):Objs:=[]
def Apl (_a0:TStamp):List Prop:=[]
set_option maxRecDepth 100000 in
theorem Ber (a0:TStamp):EU (AA Bzq L0) 9 104 [Ak .stamp a0] 0 []=some (1,Adf a0,0,Ade a0,[]):=by kernel_rfl
set_option maxRecDepth 100000 in
theorem Biz (a0:TStamp) (_hp:∀p∈Apl a0,p):CallOk Try.prog 104 [Ak .stamp a0] 0 [] 1 (Adf a0) 0 (Ade a0):=by
 exact AH (Aw Bky AG) (Ber a0) Ab
def Adg:List A→Nat→Objs→Option A8
 | [y0],nx,o=>match AP .stamp y0 with
  |some (a0,p0)=>some (1,(Adf a0).pk (AF nx),nx+0,AE nx (Ade a0)++o,p0++(Apl a0))
  |_=>none
 |_,_,_=>none
theorem A8v:Fu Try.prog 104 Adg:=fun args nx o k x nx' o' ps h=>by
 unfold Adg at h
 split at h<;>first|(cases h;done)|skip
 split at h<;>first|(cases h;done)|skip
 rename_i a0 p0 e0
 cases h
 refine⟨fun hp=>?_,_,rfl⟩
 have q0:=fun p hm=>hp p (List.mem_append.2 (.inl hm))
 have r0:=fun p hm=>hp p (List.mem_append.2 (.inr hm))
 refine Ah (Ag (Biz a0 r0) (Nat.le_refl _) (Ac (Af _ _) Ao) nx o) fun F N R vs hl=>?_
 obtain⟨v0,w0,rfl,h0,hl⟩:=hl.inv
 exact HL.cons (Am e0 q0 h0) (hl)
noncomputable def Bzr:=A5 104 Adg Bzq
theorem Bkz:Df Try.prog Bzr:=Av A8v Bky
def Kz (a0:Int) (_a1:Int):Int:=min (max a0 (0:Int)) (1099511627776:Int)
def RQ (a0:Int) (a1:Int):A:=.v (.int .i64 (Kz a0 a1))
def RP (_a0:Int) (_a1:Int):Objs:=[]
def YK (_a0:Int) (_a1:Int):List Prop:=[]
set_option maxRecDepth 100000 in
theorem A1c (a0:Int) (a1:Int):EU (AA Bzr L0) 9 153 [Ak .i64 a0,Ak .i64 a1] 0 []=some (1,RQ a0 a1,0,RP a0 a1,[]):=by kernel_rfl
set_option maxRecDepth 100000 in
theorem A3w (a0:Int) (a1:Int) (_hp:∀p∈YK a0 a1,p):CallOk Try.prog 153 [Ak .i64 a0,Ak .i64 a1] 0 [] 1 (RQ a0 a1) 0 (RP a0 a1):=by
 exact AH (Aw Bkz AG) (A1c a0 a1) Ab
def RR:List A→Nat→Objs→Option A8
 | [y0,y1],nx,o=>match AP .i64 y0,AP .i64 y1 with
  |some (a0,p0),some (a1,p1)=>some (1,(RQ a0 a1).pk (AF nx),nx+0,AE nx (RP a0 a1)++o,p0++(p1++(YK a0 a1)))
  |_,_=>none
 |_,_,_=>none
theorem Aug:Fu Try.prog 153 RR:=fun args nx o k x nx' o' ps h=>by
 unfold RR at h
 split at h<;>first|(cases h;done)|skip
 split at h<;>first|(cases h;done)|skip
 rename_i a0 p0 a1 p1 e0 e1
 cases h
 refine⟨fun hp=>?_,_,rfl⟩
 have q0:=fun p hm=>hp p (List.mem_append.2 (.inl hm))
 have r0:=fun p hm=>hp p (List.mem_append.2 (.inr hm))
 have q1:=fun p hm=>r0 p (List.mem_append.2 (.inl hm))
 have r1:=fun p hm=>r0 p (List.mem_append.2 (.inr hm))
 refine Ah (Ag (A3w a0 a1 r1) (Nat.le_refl _) (Ac (Af _ _) (Ac (Af _ _) Ao)) nx o) fun F N R vs hl=>?_
 obtain⟨v0,w0,rfl,h0,hl⟩:=hl.inv
 obtain⟨v1,w1,rfl,h1,hl⟩:=hl.inv
 exact HL.cons (Am e0 q0 h0) (HL.cons (Am e1 q1 h1) (hl))
noncomputable def Bzs:=A5 153 RR Bzr
theorem Bk0:Df Try.prog Bzs:=Av Aug Bkz
def RT (a0:Int) (a1:Int):A:=.v (.int .i64 (max a0 a1))
def RS (_a0:Int) (_a1:Int):Objs:=[]
def YL (_a0:Int) (_a1:Int):List Prop:=[]
set_option maxRecDepth 100000 in
theorem A1d (a0:Int) (a1:Int):EU (AA Bzs L0) 9 154 [Ak .i64 a0,Ak .i64 a1] 0 []=some (1,RT a0 a1,0,RS a0 a1,[]):=by kernel_rfl
set_option maxRecDepth 100000 in
theorem A3x (a0:Int) (a1:Int) (_hp:∀p∈YL a0 a1,p):CallOk Try.prog 154 [Ak .i64 a0,Ak .i64 a1] 0 [] 1 (RT a0 a1) 0 (RS a0 a1):=by
 exact AH (Aw Bk0 AG) (A1d a0 a1) Ab
def RU:List A→Nat→Objs→Option A8
 | [y0,y1],nx,o=>match AP .i64 y0,AP .i64 y1 with
  |some (a0,p0),some (a1,p1)=>some (1,(RT a0 a1).pk (AF nx),nx+0,AE nx (RS a0 a1)++o,p0++(p1++(YL a0 a1)))
  |_,_=>none
 |_,_,_=>none
theorem Auh:Fu Try.prog 154 RU:=fun args nx o k x nx' o' ps h=>by
 unfold RU at h
 split at h<;>first|(cases h;done)|skip
 split at h<;>first|(cases h;done)|skip
 rename_i a0 p0 a1 p1 e0 e1
 cases h
 refine⟨fun hp=>?_,_,rfl⟩
 have q0:=fun p hm=>hp p (List.mem_append.2 (.inl hm))
 have r0:=fun p hm=>hp p (List.mem_append.2 (.inr hm))
 have q1:=fun p hm=>r0 p (List.mem_append.2 (.inl hm))
 have r1:=fun p hm=>r0 p (List.mem_append.2 (.inr hm))
 refine Ah (Ag (A3x a0 a1 r1) (Nat.le_refl _) (Ac (Af _ _) (Ac (Af _ _) Ao)) nx o) fun F N R vs hl=>?_
 obtain⟨v0,w0,rfl,h0,hl⟩:=hl.inv
 obtain⟨v1,w1,rfl,h1,hl⟩:=hl.inv
 exact HL.cons (Am e0 q0 h0) (HL.cons (Am e1 q1 h1) (hl))
noncomputable def Bzt:=A5 154 RU Bzs
theorem Bk1:Df Try.prog Bzt:=Av Auh Bk0
def RW (a0:Int) (a1:Int):A:=.v (.int .i64 (min a0 a1))
def RV (_a0:Int) (_a1:Int):Objs:=[]
def YM (_a0:Int) (_a1:Int):List Prop:=[]
set_option maxRecDepth 100000 in
theorem A1e (a0:Int) (a1:Int):EU (AA Bzt L0) 9 156 [Ak .i64 a0,Ak .i64 a1] 0 []=some (1,RW a0 a1,0,RV a0 a1,[]):=by kernel_rfl
set_option maxRecDepth 100000 in
theorem A3y (a0:Int) (a1:Int) (_hp:∀p∈YM a0 a1,p):CallOk Try.prog 156 [Ak .i64 a0,Ak .i64 a1] 0 [] 1 (RW a0 a1) 0 (RV a0 a1):=by
 exact AH (Aw Bk1 AG) (A1e a0 a1) Ab
def RX:List A→Nat→Objs→Option A8
 | [y0,y1],nx,o=>match AP .i64 y0,AP .i64 y1 with
  |some (a0,p0),some (a1,p1)=>some (1,(RW a0 a1).pk (AF nx),nx+0,AE nx (RV a0 a1)++o,p0++(p1++(YM a0 a1)))
  |_,_=>none
 |_,_,_=>none
theorem Aui:Fu Try.prog 156 RX:=fun args nx o k x nx' o' ps h=>by
 unfold RX at h
 split at h<;>first|(cases h;done)|skip
 split at h<;>first|(cases h;done)|skip
 rename_i a0 p0 a1 p1 e0 e1
 cases h
 refine⟨fun hp=>?_,_,rfl⟩
 have q0:=fun p hm=>hp p (List.mem_append.2 (.inl hm))
 have r0:=fun p hm=>hp p (List.mem_append.2 (.inr hm))
 have q1:=fun p hm=>r0 p (List.mem_append.2 (.inl hm))
 have r1:=fun p hm=>r0 p (List.mem_append.2 (.inr hm))
 refine Ah (Ag (A3y a0 a1 r1) (Nat.le_refl _) (Ac (Af _ _) (Ac (Af _ _) Ao)) nx o) fun F N R vs hl=>?_
 obtain⟨v0,w0,rfl,h0,hl⟩:=hl.inv
 obtain⟨v1,w1,rfl,h1,hl⟩:=hl.inv
 exact HL.cons (Am e0 q0 h0) (HL.cons (Am e1 q1 h1) (hl))
noncomputable def Bzu:=A5 156 RX Bzt
theorem Bk2:Df Try.prog Bzu:=Av Aui Bk1
noncomputable def Bzv:=A5 152 (inl (AA Bzu L0) 4 152) Bzu
theorem Bk3:Df Try.prog Bzv:=Av (Acm (Aw Bk2 AG) 4 152) Bk2
def Bv (a0:TVec):Bool:=Kz a0.1 (0:Int)==a0.1&&Kz a0.2 (0:Int)==a0.2
def Afn (a0:TVec):A:=.v (.bool (Bv a0))
def Afm (_a0:TVec):Objs:=[]
def Arn (_a0:TVec):List Prop:=[]
set_option maxRecDepth 100000 in
theorem Bg0 (a0:TVec):EU (AA Bzv L0) 9 103 [Ak .vec a0] 0 []=some (1,Afn a0,0,Afm a0,[((0:Int)≤(0:Int)∧(0:Int) <(2:Int)),((0:Nat) <(2:Nat)),((0:Int)≤(0:Int)∧(0:Int) <(2:Int)),((0:Nat) <(2:Nat)),((0:Int)≤(0:Int)∧(0:Int) <(2:Int)),((0:Nat) <(2:Nat)),((0:Int)≤(1:Int)∧(1:Int) <(2:Int)),((1:Nat) <(2:Nat)),((0:Int)≤(1:Int)∧(1:Int) <(2:Int)),((1:Nat) <(2:Nat)),((0:Int)≤(1:Int)∧(1:Int) <(2:Int)),((1:Nat) <(2:Nat))]):=by kernel_rfl
set_option maxRecDepth 100000 in
theorem Bkp (a0:TVec) (_hp:∀p∈Arn a0,p):CallOk Try.prog 103 [Ak .vec a0] 0 [] 1 (Afn a0) 0 (Afm a0):=by
 have n0:((0:Int)≤(0:Int)∧(0:Int) <(2:Int)):=by first|rfl|decide+kernel
 have n1:((0:Nat) <(2:Nat)):=by first|rfl|decide+kernel
 have n6:((0:Int)≤(1:Int)∧(1:Int) <(2:Int)):=by first|rfl|decide+kernel
 have n7:((1:Nat) <(2:Nat)):=by first|rfl|decide+kernel
 exact AH (Aw Bk3 AG) (Bg0 a0) (Aa n0 (Aa n1 (Aa n0 (Aa n1 (Aa n0 (Aa n1 (Aa n6 (Aa n7 (Aa n6 (Aa n7 (Aa n6 (Aa n7 Ab))))))))))))
def Afo:List A→Nat→Objs→Option A8
 | [y0],nx,o=>match AP .vec y0 with
  |some (a0,p0)=>some (1,(Afn a0).pk (AF nx),nx+0,AE nx (Afm a0)++o,p0++(Arn a0))
  |_=>none
 |_,_,_=>none
theorem Bao:Fu Try.prog 103 Afo:=fun args nx o k x nx' o' ps h=>by
 unfold Afo at h
 split at h<;>first|(cases h;done)|skip
 split at h<;>first|(cases h;done)|skip
 rename_i a0 p0 e0
 cases h
 refine⟨fun hp=>?_,_,rfl⟩
 have q0:=fun p hm=>hp p (List.mem_append.2 (.inl hm))
 have r0:=fun p hm=>hp p (List.mem_append.2 (.inr hm))
 refine Ah (Ag (Bkp a0 r0) (Nat.le_refl _) (Ac (Af _ _) Ao) nx o) fun F N R vs hl=>?_
 obtain⟨v0,w0,rfl,h0,hl⟩:=hl.inv
 exact HL.cons (Am e0 q0 h0) (hl)
noncomputable def Bzw:=A5 103 Afo Bzv
theorem Bk4:Df Try.prog Bzw:=Av Bao Bk3
def JY (a0:TVec) (a1:TVec):TVec:=TVec.mk (min a0.1 a1.1) (min a0.2 a1.2)
def Afq (a0:TVec) (a1:TVec):A:=.v (.agg ⟨[.int .i64 ((JY a0 a1).a),.int .i64 ((JY a0 a1).b)]⟩)
def Afp (_a0:TVec) (_a1:TVec):Objs:=[]
def Aro (_a0:TVec) (_a1:TVec):List Prop:=[]
set_option maxRecDepth 100000 in
theorem Bg1 (a0:TVec) (a1:TVec):EU (AA Bzw L0) 9 112 [Ak .vec a0,Ak .vec a1] 0 []=some (1,Afq a0 a1,0,Afp a0 a1,[((0:Int)≤(0:Int)∧(0:Int) <(2:Int)),((0:Nat) <(2:Nat)),((0:Int)≤(0:Int)∧(0:Int) <(2:Int)),((0:Nat) <(2:Nat)),((0:Int)≤(0:Int)∧(0:Int) <(2:Int)),((0:Nat) <(2:Nat)),((0:Int)≤(1:Int)∧(1:Int) <(2:Int)),((1:Nat) <(2:Nat)),((0:Int)≤(1:Int)∧(1:Int) <(2:Int)),((1:Nat) <(2:Nat)),((0:Int)≤(1:Int)∧(1:Int) <(2:Int)),((1:Nat) <(2:Nat))]):=by kernel_rfl
set_option maxRecDepth 100000 in
theorem Bkq (a0:TVec) (a1:TVec) (_hp:∀p∈Aro a0 a1,p):CallOk Try.prog 112 [Ak .vec a0,Ak .vec a1] 0 [] 1 (Afq a0 a1) 0 (Afp a0 a1):=by
 have n0:((0:Int)≤(0:Int)∧(0:Int) <(2:Int)):=by first|rfl|decide+kernel
 have n1:((0:Nat) <(2:Nat)):=by first|rfl|decide+kernel
 have n6:((0:Int)≤(1:Int)∧(1:Int) <(2:Int)):=by first|rfl|decide+kernel
 have n7:((1:Nat) <(2:Nat)):=by first|rfl|decide+kernel
 exact AH (Aw Bk4 AG) (Bg1 a0 a1) (Aa n0 (Aa n1 (Aa n0 (Aa n1 (Aa n0 (Aa n1 (Aa n6 (Aa n7 (Aa n6 (Aa n7 (Aa n6 (Aa n7 Ab))))))))))))
def Afr:List A→Nat→Objs→Option A8
 | [y0,y1],nx,o=>match AP .vec y0,AP .vec y1 with
  |some (a0,p0),some (a1,p1)=>some (1,(Afq a0 a1).pk (AF nx),nx+0,AE nx (Afp a0 a1)++o,p0++(p1++(Aro a0 a1)))
  |_,_=>none
 |_,_,_=>none
theorem Bap:Fu Try.prog 112 Afr:=fun args nx o k x nx' o' ps h=>by
 unfold Afr at h
 split at h<;>first|(cases h;done)|skip
 split at h<;>first|(cases h;done)|skip
 rename_i a0 p0 a1 p1 e0 e1
 cases h
 refine⟨fun hp=>?_,_,rfl⟩
 have q0:=fun p hm=>hp p (List.mem_append.2 (.inl hm))
 have r0:=fun p hm=>hp p (List.mem_append.2 (.inr hm))
 have q1:=fun p hm=>r0 p (List.mem_append.2 (.inl hm))
 have r1:=fun p hm=>r0 p (List.mem_append.2 (.inr hm))
 refine Ah (Ag (Bkq a0 a1 r1) (Nat.le_refl _) (Ac (Af _ _) (Ac (Af _ _) Ao)) nx o) fun F N R vs hl=>?_
 obtain⟨v0,w0,rfl,h0,hl⟩:=hl.inv
 obtain⟨v1,w1,rfl,h1,hl⟩:=hl.inv
 exact HL.cons (Am e0 q0 h0) (HL.cons (Am e1 q1 h1) (hl))
noncomputable def Bzx:=A5 112 Afr Bzw
theorem Bk5:Df Try.prog Bzx:=Av Bap Bk4
def Ki (a0:TVec) (a1:TVec):Bool:=(JY a0 a1).1==a1.1&&(JY a0 a1).2==a1.2
def UA (a0:TVec) (a1:TVec):A:=.v (.bool (Ki a0 a1))
def Uz (_a0:TVec) (_a1:TVec):Objs:=[]
def Abw (_a0:TVec) (_a1:TVec):List Prop:=[]
set_option maxRecDepth 100000 in
theorem A3v (a0:TVec) (a1:TVec):EU (AA Bzx L0) 9 53 [Ak .vec a0,Ak .vec a1] 0 []=some (1,UA a0 a1,0,Uz a0 a1,[]):=by kernel_rfl
set_option maxRecDepth 100000 in
theorem Ban (a0:TVec) (a1:TVec) (_hp:∀p∈Abw a0 a1,p):CallOk Try.prog 53 [Ak .vec a0,Ak .vec a1] 0 [] 1 (UA a0 a1) 0 (Uz a0 a1):=by
 exact AH (Aw Bk5 AG) (A3v a0 a1) Ab
def UB:List A→Nat→Objs→Option A8
 | [y0,y1],nx,o=>match AP .vec y0,AP .vec y1 with
  |some (a0,p0),some (a1,p1)=>some (1,(UA a0 a1).pk (AF nx),nx+0,AE nx (Uz a0 a1)++o,p0++(p1++(Abw a0 a1)))
  |_,_=>none
 |_,_,_=>none
theorem A09:Fu Try.prog 53 UB:=fun args nx o k x nx' o' ps h=>by
 unfold UB at h
 split at h<;>first|(cases h;done)|skip
 split at h<;>first|(cases h;done)|skip
 rename_i a0 p0 a1 p1 e0 e1
 cases h
 refine⟨fun hp=>?_,_,rfl⟩
 have q0:=fun p hm=>hp p (List.mem_append.2 (.inl hm))
 have r0:=fun p hm=>hp p (List.mem_append.2 (.inr hm))
 have q1:=fun p hm=>r0 p (List.mem_append.2 (.inl hm))
 have r1:=fun p hm=>r0 p (List.mem_append.2 (.inr hm))
 refine Ah (Ag (Ban a0 a1 r1) (Nat.le_refl _) (Ac (Af _ _) (Ac (Af _ _) Ao)) nx o) fun F N R vs hl=>?_
 obtain⟨v0,w0,rfl,h0,hl⟩:=hl.inv
 obtain⟨v1,w1,rfl,h1,hl⟩:=hl.inv
 exact HL.cons (Am e0 q0 h0) (HL.cons (Am e1 q1 h1) (hl))
noncomputable def Bql:=A5 53 UB Bzx
theorem Ba4:Df Try.prog Bql:=Av A09 Bk5
def E0 (a0:TVec):Bool:=decide (a0.1≥(0:Int))&&decide (a0.1≤(1099511627776:Int))&&decide (a0.2≥(0:Int))&&decide (a0.2≤(1099511627776:Int))
def Adm (a0:TVec):A:=.v (.bool (E0 a0))
def Adl (_a0:TVec):Objs:=[]
def Apn (_a0:TVec):List Prop:=[]
set_option maxRecDepth 100000 in
theorem Beu (a0:TVec):EU (AA Bql L0) 9 100 [Ak .vec a0] 0 []=some (1,Adm a0,0,Adl a0,[]):=by kernel_rfl
set_option maxRecDepth 100000 in
theorem Bi1 (a0:TVec) (_hp:∀p∈Apn a0,p):CallOk Try.prog 100 [Ak .vec a0] 0 [] 1 (Adm a0) 0 (Adl a0):=by
 exact AH (Aw Ba4 AG) (Beu a0) Ab
def Adn:List A→Nat→Objs→Option A8
 | [y0],nx,o=>match AP .vec y0 with
  |some (a0,p0)=>some (1,(Adm a0).pk (AF nx),nx+0,AE nx (Adl a0)++o,p0++(Apn a0))
  |_=>none
 |_,_,_=>none
theorem A8y:Fu Try.prog 100 Adn:=fun args nx o k x nx' o' ps h=>by
 unfold Adn at h
 split at h<;>first|(cases h;done)|skip
 split at h<;>first|(cases h;done)|skip
 rename_i a0 p0 e0
 cases h
 refine⟨fun hp=>?_,_,rfl⟩
 have q0:=fun p hm=>hp p (List.mem_append.2 (.inl hm))
 have r0:=fun p hm=>hp p (List.mem_append.2 (.inr hm))
 refine Ah (Ag (Bi1 a0 r0) (Nat.le_refl _) (Ac (Af _ _) Ao) nx o) fun F N R vs hl=>?_
 obtain⟨v0,w0,rfl,h0,hl⟩:=hl.inv
 exact HL.cons (Am e0 q0 h0) (hl)
noncomputable def Bqm:=A5 100 Adn Bql
theorem Ba5:Df Try.prog Bqm:=Av A8y Ba4
def Uh (a0:TVec) (a1:TVec):Bool:=decide (a0.1≥a1.1)&&decide (a0.2≥a1.2)
def Uj (a0:TVec) (a1:TVec):A:=.v (.bool (Uh a0 a1))
def Ui (_a0:TVec) (_a1:TVec):Objs:=[]
def Aar (_a0:TVec) (_a1:TVec):List Prop:=[]
set_option maxRecDepth 100000 in
theorem A2n (a0:TVec) (a1:TVec):EU (AA Bqm L0) 9 107 [Ak .vec a0,Ak .vec a1] 0 []=some (1,Uj a0 a1,0,Ui a0 a1,[]):=by kernel_rfl
set_option maxRecDepth 100000 in
theorem A8x (a0:TVec) (a1:TVec) (_hp:∀p∈Aar a0 a1,p):CallOk Try.prog 107 [Ak .vec a0,Ak .vec a1] 0 [] 1 (Uj a0 a1) 0 (Ui a0 a1):=by
 exact AH (Aw Ba5 AG) (A2n a0 a1) Ab
def Uk:List A→Nat→Objs→Option A8
 | [y0,y1],nx,o=>match AP .vec y0,AP .vec y1 with
  |some (a0,p0),some (a1,p1)=>some (1,(Uj a0 a1).pk (AF nx),nx+0,AE nx (Ui a0 a1)++o,p0++(p1++(Aar a0 a1)))
  |_,_=>none
 |_,_,_=>none
theorem Ayr:Fu Try.prog 107 Uk:=fun args nx o k x nx' o' ps h=>by
 unfold Uk at h
 split at h<;>first|(cases h;done)|skip
 split at h<;>first|(cases h;done)|skip
 rename_i a0 p0 a1 p1 e0 e1
 cases h
 refine⟨fun hp=>?_,_,rfl⟩
 have q0:=fun p hm=>hp p (List.mem_append.2 (.inl hm))
 have r0:=fun p hm=>hp p (List.mem_append.2 (.inr hm))
 have q1:=fun p hm=>r0 p (List.mem_append.2 (.inl hm))
 have r1:=fun p hm=>r0 p (List.mem_append.2 (.inr hm))
 refine Ah (Ag (A8x a0 a1 r1) (Nat.le_refl _) (Ac (Af _ _) (Ac (Af _ _) Ao)) nx o) fun F N R vs hl=>?_
 obtain⟨v0,w0,rfl,h0,hl⟩:=hl.inv
 obtain⟨v1,w1,rfl,h1,hl⟩:=hl.inv
 exact HL.cons (Am e0 q0 h0) (HL.cons (Am e1 q1 h1) (hl))
noncomputable def Byy:=A5 107 Uk Bqm
theorem Bqn:Df Try.prog Byy:=Av Ayr Ba5
noncomputable def Cb:=Byy
theorem Bk6:Df Try.prog Cb:=Bqn
end Go.Proofs.Yteebobbhhgmeiaa
namespace Go.Proofs.Yteebobbhhgmeiaa
open Go.RowKit
def H2 (s:TStamp):Bool:=bif s.n==0&&s.site==0 then true else decide (1≤s.n)&&decide (s.n≤281474976710656)&&(s.site==1||s.site==2)
def CL (v:TVec):Bool:=decide (0≤v.a)&&decide (v.a≤1099511627776)&&(decide (0≤v.b)&&decide (v.b≤1099511627776))
def Ht (v:TVec):Bool:=v.a==0&&v.b==0
def Bze (s:TStamp):Int:=bif s.n==0 then 0 else 2*s.n+s.site - 1
def B01 (n:Int):TStamp:=if n=0 then⟨0,0⟩ else⟨n / 2,1+n % 2⟩
def Biu (s:TStamp):List UInt8:=bif H2 s then M9 (Bze s) else[]
def Asv (v:TVec):List UInt8:=bif CL v then M9 v.a++M9 v.b else[]
def A8r (t:ByteArray):List UInt8:=M9 (t.size:Int)++t.data.toList
def Gp (b:List UInt8):TStamp×Int×Int:=if(Ar b).2.2≠0 then(⟨0,0⟩,0,(Ar b).2.2) else if H2 (B01 (Ar b).1)=true then(B01 (Ar b).1,(Ar b).2.1,0) else(⟨0,0⟩,0,11)
def F4 (b:List UInt8):TVec×Int×Int:=if(Ar b).2.2≠0 then(⟨0,0⟩,0,(Ar b).2.2) else
 if(Ar (b.drop (Ar b).2.1.toNat)).2.2≠0 then(⟨0,0⟩,0,(Ar (b.drop (Ar b).2.1.toNat)).2.2) else
 if CL ⟨(Ar b).1,(Ar (b.drop (Ar b).2.1.toNat)).1⟩=true then(⟨(Ar b).1,(Ar (b.drop (Ar b).2.1.toNat)).1⟩,(Ar b).2.1+(Ar (b.drop (Ar b).2.1.toNat)).2.1,0) else(⟨0,0⟩,0,11)
def Wq (b:List UInt8) (m:Int):ByteArray×Int×Int:=if(Ar b).2.2≠0 then(ByteArray.empty,0,(Ar b).2.2) else if(Ar b).1 >m then(ByteArray.empty,0,3) else
 if(b.length:Int) - (Ar b).2.1 <(Ar b).1 then(ByteArray.empty,0,10) else(⟨((b.drop (Ar b).2.1.toNat).take (Ar b).1.toNat).toArray⟩,(Ar b).2.1+(Ar b).1,0)
structure Rd {α:Type} (get:List UInt8→α×Int×Int) (good:α→Prop) (put:α→List UInt8):Prop where
 back:∀x r,good x→get (put x++r)=(x,((put x).length:Int),0)
 front:∀b x k,get b=(x,k,0)→good x∧k=((put x).length:Int)∧∃r,b=put x++r
theorem Bkh {b p:List UInt8} (h:b.take p.length=p):∃r,b=p++r:=⟨b.drop p.length,by
 conv=>lhs;rw[←List.take_append_drop p.length b,h]⟩
def okN (n:Int):Prop:=0≤n∧n≤4611686018427387903
theorem rdN:Rd Ar okN M9 where
 back:=fun x r h=>by rw[Bw4 h.1 h.2 r,Na]
 front:=fun b x k h=>by
  obtain⟨h1,h2,h3,_,h5⟩:=Bxx h
  exact⟨⟨h1,h2⟩,by rw[h3,Na],Bkh (by rw[Na];exact h5)⟩
theorem Bw2 {b:List UInt8} (h:(Ar b).2.2=0):∃r,okN (Ar b).1∧(Ar b).2.1=((M9 (Ar b).1).length:Int)∧b=M9 (Ar b).1++r:=by
 obtain⟨h1,h2,r,h3⟩:=rdN.front b (Ar b).1 (Ar b).2.1 (by rw[←h])
 exact⟨r,h1,h2,h3⟩
theorem Bsp (b:List UInt8):(Ar b).2.2≠0→(Ar b).1=0∧(Ar b).2.1=0:=fun h=>by
 cases b with
 |nil=>exact⟨rfl,rfl⟩
 | cons x r=>
  rw[Y0] at h⊢
  split
  ·exact⟨rfl,rfl⟩
  ·split
   ·exact⟨rfl,rfl⟩
   ·rename_i h1 h2
    rw[if_neg h1,if_neg h2] at h
    exact absurd rfl h
theorem HM (b:List UInt8):0≤(Ar b).2.1∧(Ar b).2.1≤(b.length:Int)∧(Ar b).2.1≤8∧0≤(Ar b).1∧(Ar b).1≤4611686018427387903:=by
 by_cases h:(Ar b).2.2=0
 ·obtain⟨r,⟨h1,h1'⟩,h2,h3⟩:=Bw2 h
  have hl:=congrArg List.length h3
  rw[List.length_append] at hl
  have h8:(M9 (Ar b).1).length≤8:=by
   rw[Na]
   have:=(Bnv h1 h1').1
   unfold szs at this
   omega
  exact⟨by omega,by omega,by omega,h1,h1'⟩
 ·obtain⟨h1,h2⟩:=Bsp b h
  rw[h1,h2]
  omega
theorem Bop {s:TStamp}:H2 s=true↔(s.n=0∧s.site=0)∨(1≤s.n∧s.n≤281474976710656∧(s.site=1∨s.site=2)):=by
 unfold H2
 rw[Bool.cond_eq_ite]
 split
 ·rename_i h
  simp only[Bool.and_eq_true,beq_iff_eq] at h
  exact⟨fun _=> .inl h,fun _=>rfl⟩
 ·rename_i h
  simp only[Bool.and_eq_true,beq_iff_eq] at h
  simp only[Bool.and_eq_true,Bool.or_eq_true,beq_iff_eq,decide_eq_true_eq]
  constructor
  ·intro h';exact .inr ⟨h'.1.1,h'.1.2,h'.2⟩
  ·rintro(h'|⟨h1,h2,h3⟩)
   ·exact absurd h' h
   ·exact⟨⟨h1,h2⟩,h3⟩
theorem Boq {v:TVec}:CL v=true↔0≤v.a∧v.a≤1099511627776∧0≤v.b∧v.b≤1099511627776:=by
 unfold CL
 simp only[Bool.and_eq_true,decide_eq_true_eq]
 omega
theorem Baq {s t:TVec} (h1:s.a=t.a) (h2:s.b=t.b):s=t:=by cases s;cases t;simp_all
theorem Bbz (n i:Nat):n &&& 2^i=n / 2^i % 2*2^i:=by
 rw[←Nat.toNat_testBit]
 apply Nat.eq_of_testBit_eq
 intro j
 rw[Nat.testBit_and,Nat.testBit_two_pow]
 cases hb:n.testBit i with
 |true=>
  by_cases hij:i=j
  ·subst hij;simp[hb]
  ·simp[hij]
 |false=>
  by_cases hij:i=j
  ·subst hij;simp[hb]
  ·simp[hij]
theorem Bmc {n:Int} (h:okN n) (k:Nat) (m:Int) (hm:m=((2^k:Nat):Int)) (hk:k <60):(BitVec.ofInt 64 n &&& BitVec.ofInt 64 m).toNat=n.toNat / 2^k % 2*2^k:=by
 obtain⟨h0,h1⟩:=h
 have hp:2^k <2^60:=Nat.pow_lt_pow_right (by decide) hk
 have e60:(2:Nat)^60=1152921504606846976:=by decide
 rw[BitVec.toNat_and,BitVec.toNat_ofInt,BitVec.toNat_ofInt]
 have m1:(n % ((2^64:Nat):Int)).toNat=n.toNat:=by omega
 have m2:(m % ((2^64:Nat):Int)).toNat=2^k:=by
  subst hm
  generalize 2^k=q at*
  omega
 rw[m1,m2,Bbz]
theorem Afx {n:Int} (h:okN n) (k:Nat) (m:Int) (hm:m=((2^k:Nat):Int)) (hk:k <60):decide (IntKind.i64.wrap ((BitVec.ofInt 64 n &&& BitVec.ofInt 64 m).toNat:Int) >0)=(n.toNat / 2^k % 2==1):=by
 rw[Bmc h k m hm hk]
 have hp:2^k <2^60:=Nat.pow_lt_pow_right (by decide) hk
 have hp0:0 <2^k:=Nat.pow_pos (by decide)
 have e60:(2:Nat)^60=1152921504606846976:=by decide
 generalize n.toNat / 2^k=x
 generalize 2^k=q at*
 rcases Nat.mod_two_eq_zero_or_one x with e|e
 ·rw[e,Nat.zero_mul]
  rfl
 ·rw[e,Nat.one_mul,i64_in (by omega)]
  have:(q:Int) >0:=by omega
  rw[decide_eq_true this]
  rfl
theorem Bwl {n:Int} (h:okN n):IntKind.i64.wrap (IntKind.i64.wrap ((BitVec.ofInt 64 n &&& BitVec.ofInt 64 1).toNat:Int)+1)=1+n % 2:=by
 have e:=Bmc h 0 1 rfl (by decide)
 rw[e]
 obtain⟨h0,h1⟩:=h
 have e2:n.toNat / 2^0 % 2*2^0=n.toNat % 2:=by rw[Nat.pow_zero,Nat.div_one,Nat.mul_one]
 rw[e2,i64_in (n:=((n.toNat % 2:Nat):Int)) (by omega),i64_in (by omega)]
 omega
end Go.Proofs.Yteebobbhhgmeiaa
namespace Go.Proofs.Yteebobbhhgmeiaa
open Go.RowKit
theorem A61 {x y:ByteArray}:(x.toList==y.toList)=true↔x=y:=by
 rw[beq_iff_eq,ByteArray.toList_eq,ByteArray.toList_eq]
 constructor
 ·intro h
  cases x;cases y
  simpa using h
 ·rintro rfl;rfl
theorem Bm9 {x:ByteArray}:(x.toList==(ByteArray.mk #[]).toList)=true↔x.size=0:=by
 rw[A61]
 constructor
 ·rintro rfl;rfl
 ·intro h
  cases x with|mk d=>
  have:d.size=0:=h
  rw[Array.eq_empty_of_size_eq_zero this]
theorem Rt (x:ByteArray):(x.toList==(ByteArray.mk #[]).toList)=(x.size==0):=by
 rw[Bool.eq_iff_iff,Bm9,beq_iff_eq]
theorem B27 {x:ByteArray} (h:x.size=0):x=ByteArray.mk #[]:=A61.1 (Bm9.2 h)
def Cz (c:TCell):Bool:=!(c.stamp.n==0&&c.stamp.site==0&&(c.vec.a==0&&c.vec.b==0)&&(!c.gone&&c.value.size==0))
def Bz (p:Int) (c:TCell):Bool:=
 bif p==1&&!Ht c.dead||(p==2&&(c.gone||!CL c.dead)||!(p==1||p==2)) then false else
 bif !Cz c then true else H2 c.stamp&&decide (0 <c.stamp.n)&&CL c.vec&&decide ((c.value.size:Int)≤64)&&!(c.gone&&!(c.value.size==0))
def OH (c:TCell):Int:=(bif Cz c then 1 else 0)+(bif c.gone then 2 else 0)+(bif Ht c.dead then 0 else 4)
def Brx (c:TCell):List UInt8:=(bif Cz c then Biu c.stamp++Asv c.vec++(bif c.gone then[] else A8r c.value) else[])++(bif Ht c.dead then[] else Asv c.dead)
def Bep (p:Int) (c:TCell):List UInt8:=bif Bz p c then M9 (OH c)++Brx c else[]
def zeroC:TCell:=⟨⟨0,0⟩,⟨0,0⟩,false,ByteArray.mk #[],⟨0,0⟩⟩
theorem A5v {v:TVec}:Ht v=true↔v=⟨0,0⟩:=by
 unfold Ht
 simp only[Bool.and_eq_true,beq_iff_eq]
 constructor
 ·intro h;exact Baq h.1 h.2
 ·rintro rfl;exact⟨rfl,rfl⟩
structure B2b (p:Int) (c:TCell):Prop where
 pol:p=1∨p=2
 dead:CL c.dead=true
 last:p=1→Ht c.dead=true
 del:p=2→c.gone=false
 st:Cz c=true→H2 c.stamp=true∧0 <c.stamp.n∧CL c.vec=true∧(c.value.size:Int)≤64∧(c.gone=true→c.value.size=0)
theorem A4l {p:Int} {c:TCell}:Bz p c=true↔B2b p c:=by
 unfold Bz
 rw[Bool.cond_eq_ite]
 split
 ·rename_i h
  refine⟨fun h=>(by cases h),fun g=>?_⟩
  exfalso
  simp only[Bool.or_eq_true,Bool.and_eq_true,beq_iff_eq,Bool.not_eq_true'] at h
  rcases h with⟨h1,h2⟩|⟨h1,h2⟩|h1
  ·rw[g.last h1] at h2;cases h2
  ·rcases h2 with h2|h2
   ·rw[g.del h1] at h2;cases h2
   ·rw[g.dead] at h2;cases h2
  ·rcases g.pol with h|h
   ·rw[h] at h1;cases h1
   ·rw[h] at h1;cases h1
 ·rename_i h
  have hh:=Bool.eq_false_iff.2 h
  simp only[Bool.or_eq_false_iff] at hh
  obtain⟨h1,h2,h3⟩:=hh
  have hp:p=1∨p=2:=by
   have:(p==1||p==2)=true:=by
    cases hq:(p==1||p==2) with
    |true=>rfl
    |false=>rw[hq] at h3;cases h3
   simpa using this
  have base:CL c.dead=true∧(p=1→Ht c.dead=true)∧(p=2→c.gone=false):=by
   rcases hp with rfl|rfl
   ·have hz:Ht c.dead=true:=by
     cases hz:Ht c.dead with
     |true=>rfl
     |false=>rw[hz] at h1;cases h1
    refine⟨by rw[A5v.1 hz];rfl,fun _=>hz,fun h=>by cases h⟩
   ·have:c.gone=false∧CL c.dead=true:=by
     cases hg:c.gone with
     |true=>rw[hg] at h2;cases h2
     |false=>
      cases hv:CL c.dead with
      |true=>exact⟨rfl,rfl⟩
      |false=>rw[hg,hv] at h2;cases h2
    exact⟨this.2,fun h=>(by cases h),fun _=>this.1⟩
  cases hw:Cz c with
  |false=>exact⟨fun _=>⟨hp,base.1,base.2.1,base.2.2,fun h=>by rw[hw] at h;cases h⟩,fun _=>rfl⟩
  | true=>
   rw[Bool.not_true,cond_false]
   simp only[Bool.and_eq_true,decide_eq_true_eq,Bool.not_eq_true',Bool.and_eq_false_iff,Bool.not_eq_false',beq_iff_eq]
   constructor
   ·rintro⟨⟨⟨⟨g1,g2⟩,g3⟩,g4⟩,g5⟩
    refine⟨hp,base.1,base.2.1,base.2.2,fun _=>⟨g1,g2,g3,g4,fun hg=>?_⟩⟩
    rcases g5 with g5|g5
    ·rw[g5] at hg;cases hg
    ·exact g5
   ·intro g
    obtain⟨g1,g2,g3,g4,g5⟩:=g.st hw
    refine⟨⟨⟨⟨g1,g2⟩,g3⟩,g4⟩,?_⟩
    cases hg:c.gone with
    |false=>exact .inl rfl
    |true=>exact .inr (g5 hg)
theorem Bdb (c:TCell):okN (OH c)∧OH c≤7∧((OH c).toNat / 2^0 % 2==1)=Cz c∧((OH c).toNat / 2^1 % 2==1)=c.gone∧((OH c).toNat / 2^2 % 2==1)=!Ht c.dead:=by
 unfold OH okN
 cases Cz c<;>cases c.gone<;>cases Ht c.dead<;>decide
def GH (n:Int) (k:Nat):Bool:=n.toNat / 2^k % 2==1
def stA (b:List UInt8):Bool×TCell×Int:=
 bif(Ar b).2.2==0&&GH (Ar b).1 0 then
  (bif !GH (Ar b).1 1 then
   ((Ar b).2.2==0&&(Gp (b.drop (Ar b).2.1.toNat)).2.2==0&&(F4 (b.drop ((Ar b).2.1+(Gp (b.drop (Ar b).2.1.toNat)).2.1).toNat)).2.2==0&&(Wq (b.drop ((Ar b).2.1+(Gp (b.drop (Ar b).2.1.toNat)).2.1+(F4 (b.drop ((Ar b).2.1+(Gp (b.drop (Ar b).2.1.toNat)).2.1).toNat)).2.1).toNat) 64).2.2==0,
    ⟨(Gp (b.drop (Ar b).2.1.toNat)).1,(F4 (b.drop ((Ar b).2.1+(Gp (b.drop (Ar b).2.1.toNat)).2.1).toNat)).1,GH (Ar b).1 1,(Wq (b.drop ((Ar b).2.1+(Gp (b.drop (Ar b).2.1.toNat)).2.1+(F4 (b.drop ((Ar b).2.1+(Gp (b.drop (Ar b).2.1.toNat)).2.1).toNat)).2.1).toNat) 64).1,⟨0,0⟩⟩,
    (Ar b).2.1+(Gp (b.drop (Ar b).2.1.toNat)).2.1+(F4 (b.drop ((Ar b).2.1+(Gp (b.drop (Ar b).2.1.toNat)).2.1).toNat)).2.1+(Wq (b.drop ((Ar b).2.1+(Gp (b.drop (Ar b).2.1.toNat)).2.1+(F4 (b.drop ((Ar b).2.1+(Gp (b.drop (Ar b).2.1.toNat)).2.1).toNat)).2.1).toNat) 64).2.1)
  else
   ((Ar b).2.2==0&&(Gp (b.drop (Ar b).2.1.toNat)).2.2==0&&(F4 (b.drop ((Ar b).2.1+(Gp (b.drop (Ar b).2.1.toNat)).2.1).toNat)).2.2==0,
    ⟨(Gp (b.drop (Ar b).2.1.toNat)).1,(F4 (b.drop ((Ar b).2.1+(Gp (b.drop (Ar b).2.1.toNat)).2.1).toNat)).1,GH (Ar b).1 1,ByteArray.mk #[],⟨0,0⟩⟩,
    (Ar b).2.1+(Gp (b.drop (Ar b).2.1.toNat)).2.1+(F4 (b.drop ((Ar b).2.1+(Gp (b.drop (Ar b).2.1.toNat)).2.1).toNat)).2.1))
 else((Ar b).2.2==0,zeroC,(Ar b).2.1)
def stB (b:List UInt8):Bool×TCell×Int:=
 bif(stA b).1&&GH (Ar b).1 2 then((stA b).1&&(F4 (b.drop (stA b).2.2.toNat)).2.2==0,{(stA b).2.1 with dead:=(F4 (b.drop (stA b).2.2.toNat)).1},(stA b).2.2+(F4 (b.drop (stA b).2.2.toNat)).2.1)
 else stA b
def A9s (n:Int) (c:TCell):Bool:=decide (n≤7)&&GH n 0==Cz c&&GH n 1==c.gone&&GH n 2==!Ht c.dead
def Ar1 (b:List UInt8) (p:Int):TCell×Int×Int:=
 bif !(stB b).1||!A9s (Ar b).1 (stB b).2.1||!Bz p (stB b).2.1 then(zeroC,0,80) else((stB b).2.1,(stB b).2.2,0)
end Go.Proofs.Yteebobbhhgmeiaa
namespace Go.Proofs.Yteebobbhhgmeiaa
open Go.RowKit
theorem A03 (n:Int):MT n=(n==1||n==2):=by
 unfold MT PL
 cases n==1<;>cases n==2<;>rfl
theorem Ky (s:TStamp):Cc s=H2 s:=by
 unfold Cc H2
 rw[A03]
 rfl
theorem VK (x:Int):(Kz x 0==x)=(decide (0≤x)&&decide (x≤1099511627776)):=by
 unfold Kz
 rw[Bool.eq_iff_iff]
 simp only[beq_iff_eq,Bool.and_eq_true,decide_eq_true_eq]
 omega
theorem K5 (v:TVec):Bv v=CL v:=by
 unfold Bv CL
 rw[VK,VK]
theorem XN (n:Int):(M9 n).length≤8:=by
 rw[Na]
 rcases Aj3 n with h|⟨_,_,h⟩
 ·omega
 ·unfold szs at h;omega
theorem Bua (s:TStamp):(Biu s).length≤8:=by
 unfold Biu
 cases H2 s with
 |true=>exact XN _
 |false=>exact Nat.zero_le _
theorem A8s (v:TVec):(Asv v).length≤16:=by
 unfold Asv
 cases CL v with
 |true=>
  rw[cond_true,List.length_append]
  have h1:=XN v.a
  have h2:=XN v.b
  omega
 |false=>exact Nat.zero_le _
theorem Biv (t:ByteArray):(A8r t).length≤8+t.size:=by
 unfold A8r
 rw[List.length_append]
 have h1:=XN (t.size:Int)
 have hs:t.data.toList.length=t.size:=Array.length_toList
 omega
def Js (_a0:Int) (_a1:TStamp) (_a2:TVec) (_a3:Bool) (a4:ByteArray):Bool:=decide ((↑a4.size:Int) >(64:Int))
def IM (a0:Int) (a1:TStamp) (a2:TVec) (a3:Bool) (a4:ByteArray):Bool:=bif a0 !=(1:Int)&&a0 !=(2:Int) then a0 !=(1:Int)&&a0 !=(2:Int) else bif a1.1==(0:Int)&&a1.2==(0:Int) then a1.1==(0:Int)&&a1.2==(0:Int) else bif !Cc a1 then !Cc a1 else bif !Bv a2 then !Bv a2 else a3&&!a4.toList==(ByteArray.mk #[]).toList
def G8 (a0:Int) (a1:TStamp) (a2:TVec) (a3:Bool) (a4:ByteArray):Bool:=(IM a0 a1 a2 a3 a4)||((Js a0 a1 a2 a3 a4)||a3&&a0==(2:Int))
def L6 (a0:Int) (a1:TStamp) (a2:TVec) (a3:Bool) (a4:ByteArray):Int:=bif(IM a0 a1 a2 a3 a4) then(0:Int) else bif(Js a0 a1 a2 a3 a4) then(0:Int) else(0:Int)
def H9 (a0:Int) (a1:TStamp) (a2:TVec) (a3:Bool) (a4:ByteArray):TCell:=TCell.mk (TStamp.mk (bif(G8 a0 a1 a2 a3 a4) then(L6 a0 a1 a2 a3 a4) else a1.1) (bif(G8 a0 a1 a2 a3 a4) then(L6 a0 a1 a2 a3 a4) else a1.2)) (TVec.mk (bif(G8 a0 a1 a2 a3 a4) then(L6 a0 a1 a2 a3 a4) else a2.1) (bif(G8 a0 a1 a2 a3 a4) then(L6 a0 a1 a2 a3 a4) else a2.2)) (bif(G8 a0 a1 a2 a3 a4) then bif(IM a0 a1 a2 a3 a4) then false else bif(Js a0 a1 a2 a3 a4) then false else false else a3) (bif(G8 a0 a1 a2 a3 a4) then bif(IM a0 a1 a2 a3 a4) then ByteArray.mk #[] else bif(Js a0 a1 a2 a3 a4) then ByteArray.mk #[] else ByteArray.mk #[] else a4) (TVec.mk (bif(G8 a0 a1 a2 a3 a4) then bif(IM a0 a1 a2 a3 a4) then(0:Int) else bif(Js a0 a1 a2 a3 a4) then(0:Int) else a2.1 else(0:Int)) (bif(G8 a0 a1 a2 a3 a4) then bif(IM a0 a1 a2 a3 a4) then(0:Int) else bif(Js a0 a1 a2 a3 a4) then(0:Int) else a2.2 else(0:Int)))
def Bob (a0:Int) (a1:TStamp) (a2:TVec) (a3:Bool) (a4:ByteArray):Int:=bif(G8 a0 a1 a2 a3 a4) then bif(IM a0 a1 a2 a3 a4) then(2:Int) else bif(Js a0 a1 a2 a3 a4) then(3:Int) else(0:Int) else(0:Int)
def Akf (a0:Int) (a1:TStamp) (a2:TVec) (a3:Bool) (a4:ByteArray):A:=.v (.tuple ⟨[.agg ⟨[.int .i64 ((H9 a0 a1 a2 a3 a4).stamp.n),.int .i64 ((H9 a0 a1 a2 a3 a4).stamp.site),.int .i64 ((H9 a0 a1 a2 a3 a4).vec.a),.int .i64 ((H9 a0 a1 a2 a3 a4).vec.b),.bool ((H9 a0 a1 a2 a3 a4).gone),.string ((H9 a0 a1 a2 a3 a4).value),.int .i64 ((H9 a0 a1 a2 a3 a4).dead.a),.int .i64 ((H9 a0 a1 a2 a3 a4).dead.b)]⟩,.int .i64 (Bob a0 a1 a2 a3 a4)]⟩)
def Ake (_a0:Int) (_a1:TStamp) (_a2:TVec) (_a3:Bool) (_a4:ByteArray):Objs:=[]
def Avn (_a0:Int) (_a1:TStamp) (_a2:TVec) (_a3:Bool) (_a4:ByteArray):List Prop:=[]
set_option maxRecDepth 100000 in
theorem Bhr (a0:Int) (a1:TStamp) (a2:TVec) (a3:Bool) (a4:ByteArray):EU (AA Cb L0) 9 36 [Ak .i64 a0,Ak .stamp a1,Ak .vec a2,Ak .bool a3,Ak .str a4] 0 []=some (1,Akf a0 a1 a2 a3 a4,0,Ake a0 a1 a2 a3 a4,[]):=by kernel_rfl
set_option maxRecDepth 100000 in
theorem Boc (a0:Int) (a1:TStamp) (a2:TVec) (a3:Bool) (a4:ByteArray) (_hp:∀p∈Avn a0 a1 a2 a3 a4,p):CallOk Try.prog 36 [Ak .i64 a0,Ak .stamp a1,Ak .vec a2,Ak .bool a3,Ak .str a4] 0 [] 1 (Akf a0 a1 a2 a3 a4) 0 (Ake a0 a1 a2 a3 a4):=by
 exact AH (Aw Bk6 AG) (Bhr a0 a1 a2 a3 a4) Ab
def YT:List A→Nat→Objs→Option A8
 | [y0,y1,y2,y3,y4],nx,o=>match AP .i64 y0,AP .stamp y1,AP .vec y2,AP .bool y3,AP .str y4 with
  |some (a0,p0),some (a1,p1),some (a2,p2),some (a3,p3),some (a4,p4)=>some (1,(Akf a0 a1 a2 a3 a4).pk (AF nx),nx+0,AE nx (Ake a0 a1 a2 a3 a4)++o,p0++(p1++(p2++(p3++(p4++(Avn a0 a1 a2 a3 a4))))))
  |_,_,_,_,_=>none
 |_,_,_=>none
theorem Aol:Fu Try.prog 36 YT:=fun args nx o k x nx' o' ps h=>by
 unfold YT at h
 split at h<;>first|(cases h;done)|skip
 split at h<;>first|(cases h;done)|skip
 rename_i a0 p0 a1 p1 a2 p2 a3 p3 a4 p4 e0 e1 e2 e3 e4
 cases h
 refine⟨fun hp=>?_,_,rfl⟩
 have q0:=fun p hm=>hp p (List.mem_append.2 (.inl hm))
 have r0:=fun p hm=>hp p (List.mem_append.2 (.inr hm))
 have q1:=fun p hm=>r0 p (List.mem_append.2 (.inl hm))
 have r1:=fun p hm=>r0 p (List.mem_append.2 (.inr hm))
 have q2:=fun p hm=>r1 p (List.mem_append.2 (.inl hm))
 have r2:=fun p hm=>r1 p (List.mem_append.2 (.inr hm))
 have q3:=fun p hm=>r2 p (List.mem_append.2 (.inl hm))
 have r3:=fun p hm=>r2 p (List.mem_append.2 (.inr hm))
 have q4:=fun p hm=>r3 p (List.mem_append.2 (.inl hm))
 have r4:=fun p hm=>r3 p (List.mem_append.2 (.inr hm))
 refine Ah (Ag (Boc a0 a1 a2 a3 a4 r4) (Nat.le_refl _) (Ac (Af _ _) (Ac (Af _ _) (Ac (Af _ _) (Ac (Af _ _) (Ac (Af _ _) Ao))))) nx o) fun F N R vs hl=>?_
 obtain⟨v0,w0,rfl,h0,hl⟩:=hl.inv
 obtain⟨v1,w1,rfl,h1,hl⟩:=hl.inv
 obtain⟨v2,w2,rfl,h2,hl⟩:=hl.inv
 obtain⟨v3,w3,rfl,h3,hl⟩:=hl.inv
 obtain⟨v4,w4,rfl,h4,hl⟩:=hl.inv
 exact HL.cons (Am e0 q0 h0) (HL.cons (Am e1 q1 h1) (HL.cons (Am e2 q2 h2) (HL.cons (Am e3 q3 h3) (HL.cons (Am e4 q4 h4) (hl)))))
noncomputable def Bzy:=A5 36 YT Cb
theorem Bk7:Df Try.prog Bzy:=Av Aol Bk6
def Fx (a0:TCell):Bool:=!(a0.1.1==(0:Int)&&a0.1.2==(0:Int)&&(a0.2.1==(0:Int)&&a0.2.2==(0:Int)&&(a0.3==false&&(a0.4.toList==(ByteArray.mk #[]).toList&&true))))
def Ou (a0:TCell):A:=.v (.bool (Fx a0))
def Ot (_a0:TCell):Objs:=[]
def UI (_a0:TCell):List Prop:=[]
set_option maxRecDepth 100000 in
theorem Arr (a0:TCell):EU (AA Bzy L0) 9 105 [Ak .cell a0] 0 []=some (1,Ou a0,0,Ot a0,[]):=by kernel_rfl
set_option maxRecDepth 100000 in
theorem Avp (a0:TCell) (_hp:∀p∈UI a0,p):CallOk Try.prog 105 [Ak .cell a0] 0 [] 1 (Ou a0) 0 (Ot a0):=by
 exact AH (Aw Bk7 AG) (Arr a0) Ab
def Ov:List A→Nat→Objs→Option A8
 | [y0],nx,o=>match AP .cell y0 with
  |some (a0,p0)=>some (1,(Ou a0).pk (AF nx),nx+0,AE nx (Ot a0)++o,p0++(UI a0))
  |_=>none
 |_,_,_=>none
theorem Akg:Fu Try.prog 105 Ov:=fun args nx o k x nx' o' ps h=>by
 unfold Ov at h
 split at h<;>first|(cases h;done)|skip
 split at h<;>first|(cases h;done)|skip
 rename_i a0 p0 e0
 cases h
 refine⟨fun hp=>?_,_,rfl⟩
 have q0:=fun p hm=>hp p (List.mem_append.2 (.inl hm))
 have r0:=fun p hm=>hp p (List.mem_append.2 (.inr hm))
 refine Ah (Ag (Avp a0 r0) (Nat.le_refl _) (Ac (Af _ _) Ao) nx o) fun F N R vs hl=>?_
 obtain⟨v0,w0,rfl,h0,hl⟩:=hl.inv
 exact HL.cons (Am e0 q0 h0) (hl)
noncomputable def Bzz:=A5 105 Ov Bzy
theorem Bk8:Df Try.prog Bzz:=Av Akg Bk7
def AT (a0:Int) (a1:TCell):Bool:=bif bif a0==(1:Int) then !(a1.5.1==(0:Int)&&a1.5.2==(0:Int)) else !a0==(2:Int)||(a1.3||!Bv a1.5) then bif a0==(1:Int) then false else bif a0==(2:Int) then false else false else bif !Fx a1 then true else decide (a1.1.1 >(0:Int))&&Cc a1.1&&Bv a1.2&&decide ((↑a1.4.size:Int)≤(64:Int))&&!(a1.3&&!a1.4.toList==(ByteArray.mk #[]).toList)
def V0 (a0:Int) (a1:TCell):A:=.v (.bool (AT a0 a1))
def VZ (_a0:Int) (_a1:TCell):Objs:=[]
def Af4 (_a0:Int) (_a1:TCell):List Prop:=[]
set_option maxRecDepth 100000 in
theorem A6m (a0:Int) (a1:TCell):EU (AA Bzz L0) 9 38 [Ak .i64 a0,Ak .cell a1] 0 []=some (1,V0 a0 a1,0,VZ a0 a1,[]):=by kernel_rfl
set_option maxRecDepth 100000 in
theorem Aok (a0:Int) (a1:TCell) (_hp:∀p∈Af4 a0 a1,p):CallOk Try.prog 38 [Ak .i64 a0,Ak .cell a1] 0 [] 1 (V0 a0 a1) 0 (VZ a0 a1):=by
 exact AH (Aw Bk8 AG) (A6m a0 a1) Ab
def V2:List A→Nat→Objs→Option A8
 | [y0,y1],nx,o=>match AP .i64 y0,AP .cell y1 with
  |some (a0,p0),some (a1,p1)=>some (1,(V0 a0 a1).pk (AF nx),nx+0,AE nx (VZ a0 a1)++o,p0++(p1++(Af4 a0 a1)))
  |_,_=>none
 |_,_,_=>none
theorem A1h:Fu Try.prog 38 V2:=fun args nx o k x nx' o' ps h=>by
 unfold V2 at h
 split at h<;>first|(cases h;done)|skip
 split at h<;>first|(cases h;done)|skip
 rename_i a0 p0 a1 p1 e0 e1
 cases h
 refine⟨fun hp=>?_,_,rfl⟩
 have q0:=fun p hm=>hp p (List.mem_append.2 (.inl hm))
 have r0:=fun p hm=>hp p (List.mem_append.2 (.inr hm))
 have q1:=fun p hm=>r0 p (List.mem_append.2 (.inl hm))
 have r1:=fun p hm=>r0 p (List.mem_append.2 (.inr hm))
 refine Ah (Ag (Aok a0 a1 r1) (Nat.le_refl _) (Ac (Af _ _) (Ac (Af _ _) Ao)) nx o) fun F N R vs hl=>?_
 obtain⟨v0,w0,rfl,h0,hl⟩:=hl.inv
 obtain⟨v1,w1,rfl,h1,hl⟩:=hl.inv
 exact HL.cons (Am e0 q0 h0) (HL.cons (Am e1 q1 h1) (hl))
noncomputable def Bz0:=A5 38 V2 Bzz
theorem Bk9:Df Try.prog Bz0:=Av A1h Bk8
def NU (a0:Int) (a1:TCell):Bool:=!AT a0 a1||!Fx a1||a1.3||!Ki a1.2 a1.5
def MX (a0:Int) (a1:TCell):ByteArray:=bif(NU a0 a1) then ByteArray.mk #[] else a1.4
def GB (a0:Int) (a1:TCell):Bool:=bif(NU a0 a1) then false else true
def V4 (a0:Int) (a1:TCell):A:=.v (.tuple ⟨[.string (MX a0 a1),.bool (GB a0 a1)]⟩)
def V3 (_a0:Int) (_a1:TCell):Objs:=[]
def Af7 (_a0:Int) (_a1:TCell):List Prop:=[]
set_option maxRecDepth 100000 in
theorem A6p (a0:Int) (a1:TCell):EU (AA Bz0 L0) 9 40 [Ak .i64 a0,Ak .cell a1] 0 []=some (1,V4 a0 a1,0,V3 a0 a1,[]):=by kernel_rfl
set_option maxRecDepth 100000 in
theorem Bck (a0:Int) (a1:TCell) (_hp:∀p∈Af7 a0 a1,p):CallOk Try.prog 40 [Ak .i64 a0,Ak .cell a1] 0 [] 1 (V4 a0 a1) 0 (V3 a0 a1):=by
 exact AH (Aw Bk9 AG) (A6p a0 a1) Ab
def V5:List A→Nat→Objs→Option A8
 | [y0,y1],nx,o=>match AP .i64 y0,AP .cell y1 with
  |some (a0,p0),some (a1,p1)=>some (1,(V4 a0 a1).pk (AF nx),nx+0,AE nx (V3 a0 a1)++o,p0++(p1++(Af7 a0 a1)))
  |_,_=>none
 |_,_,_=>none
theorem A1j:Fu Try.prog 40 V5:=fun args nx o k x nx' o' ps h=>by
 unfold V5 at h
 split at h<;>first|(cases h;done)|skip
 split at h<;>first|(cases h;done)|skip
 rename_i a0 p0 a1 p1 e0 e1
 cases h
 refine⟨fun hp=>?_,_,rfl⟩
 have q0:=fun p hm=>hp p (List.mem_append.2 (.inl hm))
 have r0:=fun p hm=>hp p (List.mem_append.2 (.inr hm))
 have q1:=fun p hm=>r0 p (List.mem_append.2 (.inl hm))
 have r1:=fun p hm=>r0 p (List.mem_append.2 (.inr hm))
 refine Ah (Ag (Bck a0 a1 r1) (Nat.le_refl _) (Ac (Af _ _) (Ac (Af _ _) Ao)) nx o) fun F N R vs hl=>?_
 obtain⟨v0,w0,rfl,h0,hl⟩:=hl.inv
 obtain⟨v1,w1,rfl,h1,hl⟩:=hl.inv
 exact HL.cons (Am e0 q0 h0) (HL.cons (Am e1 q1 h1) (hl))
noncomputable def Bz1:=A5 40 V5 Bz0
theorem Bla:Df Try.prog Bz1:=Av A1j Bk9
theorem KC (c:TCell):Fx c=Cz c:=by
 unfold Fx Cz
 have hg:(c.3==false)=!c.gone:=by show(c.gone==false)=!c.gone;cases c.gone<;>rfl
 rw[Rt,Bool.and_true,hg]
 simp only[Bool.and_assoc]
theorem IL (p:Int) (c:TCell):AT p c=Bz p c:=by
 unfold AT Bz Ht
 rw[KC,K5,K5,Ky,Rt]
 have hw:(bif !Cz c then true else decide (c.1.1 >(0:Int))&&H2 c.1&&CL c.2&&decide (((c.4.size:Nat):Int)≤(64:Int))&&!(c.3&&!c.4.size==0))=bif !Cz c then true else H2 c.stamp&&decide (0 <c.stamp.n)&&CL c.vec&&decide ((c.value.size:Int)≤64)&&!(c.gone&&!(c.value.size==0)):=by
  rw[Bool.and_comm (decide (c.1.1 >(0:Int)))]
 rw[hw]
 generalize (bif !Cz c then true else H2 c.stamp&&decide (0 <c.stamp.n)&&CL c.vec&&decide ((c.value.size:Int)≤64)&&!(c.gone&&!(c.value.size==0)))=X
 by_cases h1:p=1
 ·subst h1
  show(bif !(c.5.1==(0:Int)&&c.5.2==(0:Int)) then false else X)=bif !(c.5.1==(0:Int)&&c.5.2==(0:Int))||false then false else X
  rw[Bool.or_false]
 ·have e1:(p==1)=false:=by simpa using h1
  rw[e1]
  by_cases h2:p=2
  ·subst h2
   show(bif c.3||!CL c.5 then false else X)=bif(c.3||!CL c.5)||false then false else X
   rw[Bool.or_false]
  ·have e2:(p==2)=false:=by simpa using h2
   rw[e2]
   rfl
def YH (a0:List UInt8) (a1:TStamp):List UInt8:=a0++M9 (bif a1.1==(0:Int)&&a1.2==(0:Int) then(0:Int) else bif Cc a1 then IntKind.i64.wrap (IntKind.i64.wrap (IntKind.i64.wrap (a1.1*(2:Int))+a1.2) - (1:Int)) else(-1:Int))
def Arj (_a0:List UInt8) (_a1:TStamp):A:=.sq 0
def QQ (a0:List UInt8) (a1:TStamp):Objs:=[(0,some (.arr 5 1 (.ty .u8 (YH a0 a1))))]
def Bal (a0:List UInt8) (_a1:TStamp):List Prop:=[(Ai (a0.length+(8:Nat)))]
set_option maxRecDepth 100000 in
theorem Bak (a0:List UInt8) (a1:TStamp):EU (AA Bz1 L0) 9 121 [Ak .bytes a0,Ak .stamp a1] 0 []=some (1,Arj a0 a1,1,QQ a0 a1,[(Ai (a0.length+(8:Nat)))]):=by kernel_rfl
set_option maxRecDepth 100000 in
theorem Bgr (a0:List UInt8) (a1:TStamp) (hp:∀p∈Bal a0 a1,p):CallOk Try.prog 121 [Ak .bytes a0,Ak .stamp a1] 0 [] 1 (Arj a0 a1) 1 (QQ a0 a1):=by
 have n0:=N0 hp
 exact AH (Aw Bla AG) (Bak a0 a1) (Aa n0 Ab)
def Aj1 (_a0:List UInt8) (_a1:TStamp):A:=.sq 0
def Oe (a0:List UInt8) (a1:TStamp):Objs:=[(0,some (.arr 5 1 (.ty .u8 (a0++Biu a1))))]
def Abu (a0:List UInt8) (_a1:TStamp):List Prop:=[Ai (a0.length+8)]
theorem Baj (a0:List UInt8) (a1:TStamp):YH a0 a1=a0++Biu a1:=by
 unfold YH Biu Bze
 rw[Ky]
 congr 1
 cases hg:H2 a1 with
 | false=>
  have hz:(a1.1==(0:Int)&&a1.2==(0:Int))=false:=by
   rw[Bool.eq_false_iff]
   intro h
   unfold H2 at hg
   rw[h] at hg
   cases hg
  rw[hz]
  rfl
 | true=>
  have h':=Bop.1 hg
  rw[cond_true,cond_true]
  congr 1
  by_cases h0:a1.n=0
  ·have hz:(a1.1==(0:Int)&&a1.2==(0:Int))=true:=by
    rcases h' with⟨h1,h2⟩|h1
    ·rw[h1,h2];rfl
    ·omega
   have e:(a1.n==0)=true:=by simpa using h0
   rw[hz,e]
   rfl
  ·have hz:(a1.1==(0:Int)&&a1.2==(0:Int))=false:=by
    have:(a1.1==(0:Int))=false:=by simpa using h0
    rw[this];rfl
   have e:(a1.n==0)=false:=by simpa using h0
   rw[hz,e,cond_false,cond_false,i64_in (n:=a1.1*2) (by omega),i64_in (n:=a1.1*2+a1.2) (by omega),i64_in (by omega)]
   omega
theorem Bai (a0:List UInt8) (a1:TStamp) (hp:∀p∈Abu a0 a1,p):CallOk Try.prog 121 [Ak .bytes a0,Ak .stamp a1] 0 [] 1 (Aj1 a0 a1) 1 (Oe a0 a1):=by
 have h:=Bgr a0 a1 (Aa (hp _ (List.mem_cons_self ..)) Ab)
 have ho:QQ a0 a1=Oe a0 a1:=by unfold QQ Oe;rw[Baj]
 rw[ho] at h
 exact h
def YI:List A→Nat→Objs→Option A8
 | [y0,y1],nx,o=>match AP .bytes y0,AP .stamp y1 with
  |some (a0,p0),some (a1,p1)=>some (1,(Aj1 a0 a1).pk (AF nx),nx+1,AE nx (Oe a0 a1)++o,p0++(p1++(Abu a0 a1)))
  |_,_=>none
 |_,_,_=>none
theorem A3s:Fu Try.prog 121 YI:=fun args nx o k x nx' o' ps h=>by
 unfold YI at h
 split at h<;>first|(cases h;done)|skip
 split at h<;>first|(cases h;done)|skip
 rename_i a0 p0 a1 p1 e0 e1
 cases h
 refine⟨fun hp=>?_,_,rfl⟩
 have q0:=fun p hm=>hp p (List.mem_append.2 (.inl hm))
 have r0:=fun p hm=>hp p (List.mem_append.2 (.inr hm))
 have q1:=fun p hm=>r0 p (List.mem_append.2 (.inl hm))
 have r1:=fun p hm=>r0 p (List.mem_append.2 (.inr hm))
 refine Ah (Ag (Bai a0 a1 r1) (Nat.le_refl _) (Ac (Af _ _) (Ac (Af _ _) Ao)) nx o) fun F N R vs hl=>?_
 obtain⟨v0,w0,rfl,h0,hl⟩:=hl.inv
 obtain⟨v1,w1,rfl,h1,hl⟩:=hl.inv
 exact HL.cons (Am e0 q0 h0) (HL.cons (Am e1 q1 h1) (hl))
noncomputable def Bz2:=A5 121 YI Bz1
theorem Blb:Df Try.prog Bz2:=Av A3s Bla
def PP (a0:List UInt8) (a1:TVec):List UInt8:=a0++M9 a1.1
def Aob (a0:List UInt8) (a1:TVec):List UInt8:=bif !Bv a1 then[]++a0 else(PP a0 a1)++M9 a1.2
def A5t (_a0:List UInt8) (_a1:TVec):A:=.sq 0
def Zm (a0:List UInt8) (a1:TVec):Objs:=[(0,some (.arr 5 1 (.ty .u8 (Aob a0 a1))))]
def Bku (a0:List UInt8) (a1:TVec):List Prop:=[((!Bv a1)=true→Ai ((0:Nat)+a0.length)),((!!Bv a1)=true→Ai (a0.length+(8:Nat))),((!!Bv a1)=true→Ai ((PP a0 a1).length+(8:Nat)))]
set_option maxRecDepth 100000 in
theorem Bkt (a0:List UInt8) (a1:TVec):EU (AA Bz2 L0) 9 120 [Ak .bytes a0,Ak .vec a1] 0 []=some (1,A5t a0 a1,1,Zm a0 a1,[((!Bv a1)=true→Ai ((0:Nat)+a0.length)),((!!Bv a1)=true→Ai (a0.length+(8:Nat))),((!!Bv a1)=true→Ai ((PP a0 a1).length+(8:Nat)))]):=by kernel_rfl
set_option maxRecDepth 100000 in
theorem Bp5 (a0:List UInt8) (a1:TVec) (hp:∀p∈Bku a0 a1,p):CallOk Try.prog 120 [Ak .bytes a0,Ak .vec a1] 0 [] 1 (A5t a0 a1) 1 (Zm a0 a1):=by
 have n0:=N0 hp
 have n1:=N0 (N1 hp)
 have n2:=N0 (N1 (N1 hp))
 exact AH (Aw Blb AG) (Bkt a0 a1) (Aa n0 (Aa n1 (Aa n2 Ab)))
def A1f (_a0:List UInt8) (_a1:TVec):A:=.sq 0
def UE (a0:List UInt8) (a1:TVec):Objs:=[(0,some (.arr 5 1 (.ty .u8 (a0++Asv a1))))]
def Arp (a0:List UInt8) (_a1:TVec):List Prop:=[Ai (a0.length+16)]
theorem Bks (a0:List UInt8) (a1:TVec):Aob a0 a1=a0++Asv a1:=by
 unfold Aob PP Asv
 rw[K5]
 cases CL a1 with
 |false=>exact(List.append_nil a0).symm
 |true=>exact List.append_assoc ..
theorem Bkr (a0:List UInt8) (a1:TVec) (hp:∀p∈Arp a0 a1,p):CallOk Try.prog 120 [Ak .bytes a0,Ak .vec a1] 0 [] 1 (A1f a0 a1) 1 (UE a0 a1):=by
 have hb:Ai (a0.length+16):=hp _ (List.mem_cons_self ..)
 have h:=Bp5 a0 a1 (Aa (fun _=>by unfold Ai at*;omega) (Aa (fun _=>by unfold Ai at*;omega) (Aa (fun _=>by
  have:=XN a1.1
  unfold PP Ai at*
  rw[List.length_append]
  omega) Ab)))
 have ho:Zm a0 a1=UE a0 a1:=by unfold Zm UE;rw[Bks]
 rw[ho] at h
 exact h
def Aoc:List A→Nat→Objs→Option A8
 | [y0,y1],nx,o=>match AP .bytes y0,AP .vec y1 with
  |some (a0,p0),some (a1,p1)=>some (1,(A1f a0 a1).pk (AF nx),nx+1,AE nx (UE a0 a1)++o,p0++(p1++(Arp a0 a1)))
  |_,_=>none
 |_,_,_=>none
theorem Bg2:Fu Try.prog 120 Aoc:=fun args nx o k x nx' o' ps h=>by
 unfold Aoc at h
 split at h<;>first|(cases h;done)|skip
 split at h<;>first|(cases h;done)|skip
 rename_i a0 p0 a1 p1 e0 e1
 cases h
 refine⟨fun hp=>?_,_,rfl⟩
 have q0:=fun p hm=>hp p (List.mem_append.2 (.inl hm))
 have r0:=fun p hm=>hp p (List.mem_append.2 (.inr hm))
 have q1:=fun p hm=>r0 p (List.mem_append.2 (.inl hm))
 have r1:=fun p hm=>r0 p (List.mem_append.2 (.inr hm))
 refine Ah (Ag (Bkr a0 a1 r1) (Nat.le_refl _) (Ac (Af _ _) (Ac (Af _ _) Ao)) nx o) fun F N R vs hl=>?_
 obtain⟨v0,w0,rfl,h0,hl⟩:=hl.inv
 obtain⟨v1,w1,rfl,h1,hl⟩:=hl.inv
 exact HL.cons (Am e0 q0 h0) (HL.cons (Am e1 q1 h1) (hl))
noncomputable def Bz3:=A5 120 Aoc Bz2
theorem Blc:Df Try.prog Bz3:=Av Bg2 Blb
def JI (a0:List UInt8) (a1:ByteArray):List UInt8:=a0++M9 (↑a1.size:Int)
def Aan (a0:List UInt8) (a1:ByteArray):List UInt8:=(JI a0 a1)++a1.data.toList
def Aao (_a0:List UInt8) (_a1:ByteArray):A:=.sq 0
def MD (a0:List UInt8) (a1:ByteArray):Objs:=[(0,some (.arr 5 1 (.ty .u8 (Aan a0 a1))))]
def Ax4 (a0:List UInt8) (a1:ByteArray):List Prop:=[(Ai (a0.length+(8:Nat))),(Ai ((JI a0 a1).length+a1.data.toList.length))]
set_option maxRecDepth 100000 in
theorem Ax3 (a0:List UInt8) (a1:ByteArray):EU (AA Bz3 L0) 9 122 [Ak .bytes a0,Ak .str a1] 0 []=some (1,Aao a0 a1,1,MD a0 a1,[(Ai (a0.length+(8:Nat))),(Ai ((JI a0 a1).length+a1.data.toList.length))]):=by kernel_rfl
set_option maxRecDepth 100000 in
theorem A2i (a0:List UInt8) (a1:ByteArray) (hp:∀p∈Ax4 a0 a1,p):CallOk Try.prog 122 [Ak .bytes a0,Ak .str a1] 0 [] 1 (Aao a0 a1) 1 (MD a0 a1):=by
 have n0:=N0 hp
 have n1:=N0 (N1 hp)
 exact AH (Aw Blc AG) (Ax3 a0 a1) (Aa n0 (Aa n1 Ab))
def Xv (_a0:List UInt8) (_a1:ByteArray):A:=.sq 0
def LH (a0:List UInt8) (a1:ByteArray):Objs:=[(0,some (.arr 5 1 (.ty .u8 (a0++A8r a1))))]
def U2 (a0:List UInt8) (a1:ByteArray):List Prop:=[Ai (a0.length+8+a1.size)]
theorem Xu (a0:List UInt8) (a1:ByteArray) (hp:∀p∈U2 a0 a1,p):CallOk Try.prog 122 [Ak .bytes a0,Ak .str a1] 0 [] 1 (Xv a0 a1) 1 (LH a0 a1):=by
 have hb:Ai (a0.length+8+a1.size):=hp _ (List.mem_cons_self ..)
 have h:=A2i a0 a1 (Aa (by unfold Ai at*;omega) (Aa (by
  have:=XN (a1.size:Int)
  have hs:a1.data.toList.length=a1.size:=Array.length_toList
  unfold JI Ai at*
  rw[List.length_append,hs]
  omega) Ab))
 have ho:MD a0 a1=LH a0 a1:=by unfold MD LH Aan JI A8r;rw[List.append_assoc]
 rw[ho] at h
 exact h
def Rz:List A→Nat→Objs→Option A8
 | [y0,y1],nx,o=>match AP .bytes y0,AP .str y1 with
  |some (a0,p0),some (a1,p1)=>some (1,(Xv a0 a1).pk (AF nx),nx+1,AE nx (LH a0 a1)++o,p0++(p1++(U2 a0 a1)))
  |_,_=>none
 |_,_,_=>none
theorem Asq:Fu Try.prog 122 Rz:=fun args nx o k x nx' o' ps h=>by
 unfold Rz at h
 split at h<;>first|(cases h;done)|skip
 split at h<;>first|(cases h;done)|skip
 rename_i a0 p0 a1 p1 e0 e1
 cases h
 refine⟨fun hp=>?_,_,rfl⟩
 have q0:=fun p hm=>hp p (List.mem_append.2 (.inl hm))
 have r0:=fun p hm=>hp p (List.mem_append.2 (.inr hm))
 have q1:=fun p hm=>r0 p (List.mem_append.2 (.inl hm))
 have r1:=fun p hm=>r0 p (List.mem_append.2 (.inr hm))
 refine Ah (Ag (Xu a0 a1 r1) (Nat.le_refl _) (Ac (Af _ _) (Ac (Af _ _) Ao)) nx o) fun F N R vs hl=>?_
 obtain⟨v0,w0,rfl,h0,hl⟩:=hl.inv
 obtain⟨v1,w1,rfl,h1,hl⟩:=hl.inv
 exact HL.cons (Am e0 q0 h0) (HL.cons (Am e1 q1 h1) (hl))
noncomputable def Bz4:=A5 122 Rz Bz3
theorem Bld:Df Try.prog Bz4:=Av Asq Blc
def CV (_a0:List UInt8) (_a1:Int) (a2:TCell):Int:=bif a2.3 then IntKind.i64.wrap (↑(BitVec.ofInt (64:Nat) (bif Fx a2 then(1:Int) else(0:Int)) ||| BitVec.ofInt (64:Nat) (2:Int)).toNat:Int) else bif Fx a2 then(1:Int) else(0:Int)
def HH (a0:List UInt8) (a1:Int) (a2:TCell):List UInt8:=a0++M9 (bif !(a2.5.1==(0:Int)&&a2.5.2==(0:Int)) then IntKind.i64.wrap (↑(BitVec.ofInt (64:Nat) (CV a0 a1 a2) ||| BitVec.ofInt (64:Nat) (4:Int)).toNat:Int) else(CV a0 a1 a2))++Biu a2.1
def DY (a0:List UInt8) (a1:Int) (a2:TCell):Bool:=decide (IntKind.i64.wrap (↑(BitVec.ofInt (64:Nat) (bif !(a2.5.1==(0:Int)&&a2.5.2==(0:Int)) then IntKind.i64.wrap (↑(BitVec.ofInt (64:Nat) (CV a0 a1 a2) ||| BitVec.ofInt (64:Nat) (4:Int)).toNat:Int) else(CV a0 a1 a2)) &&& BitVec.ofInt (64:Nat) (1:Int)).toNat:Int) >(0:Int))
def MW (a0:List UInt8) (a1:Int) (a2:TCell):Bool:=decide (IntKind.i64.wrap (↑(BitVec.ofInt (64:Nat) (bif !(a2.5.1==(0:Int)&&a2.5.2==(0:Int)) then IntKind.i64.wrap (↑(BitVec.ofInt (64:Nat) (CV a0 a1 a2) ||| BitVec.ofInt (64:Nat) (4:Int)).toNat:Int) else(CV a0 a1 a2)) &&& BitVec.ofInt (64:Nat) (4:Int)).toNat:Int) >(0:Int))
def Jt (a0:List UInt8) (a1:Int) (a2:TCell):List UInt8:=bif(DY a0 a1 a2) then bif !a2.3 then(HH a0 a1 a2)++Asv a2.2++A8r a2.4 else(HH a0 a1 a2)++Asv a2.2 else a0++M9 (bif !(a2.5.1==(0:Int)&&a2.5.2==(0:Int)) then IntKind.i64.wrap (↑(BitVec.ofInt (64:Nat) (CV a0 a1 a2) ||| BitVec.ofInt (64:Nat) (4:Int)).toNat:Int) else(CV a0 a1 a2))
def Ab4 (a0:List UInt8) (a1:Int) (a2:TCell):List UInt8:=bif !AT a1 a2 then[]++a0 else bif(MW a0 a1 a2) then(Jt a0 a1 a2)++Asv (TVec.mk (bif(DY a0 a1 a2) then bif !a2.3 then a2.5.1 else a2.5.1 else a2.5.1) (bif(DY a0 a1 a2) then bif !a2.3 then a2.5.2 else a2.5.2 else a2.5.2)) else(Jt a0 a1 a2)
def Avo (_a0:List UInt8) (_a1:Int) (_a2:TCell):A:=.sq 0
def TI (a0:List UInt8) (a1:Int) (a2:TCell):Objs:=[(0,some (.arr 5 1 (.ty .u8 (Ab4 a0 a1 a2))))]
def Bcj (a0:List UInt8) (a1:Int) (a2:TCell):List Prop:=[((!AT a1 a2)=true→Ai ((0:Nat)+a0.length)),((!!AT a1 a2)=true→Ai (a0.length+(8:Nat))),((!!AT a1 a2)=true→(DY a0 a1 a2)=true→Ai ((a0++M9 (bif !(a2.5.1==(0:Int)&&a2.5.2==(0:Int)) then IntKind.i64.wrap (↑(BitVec.ofInt (64:Nat) (CV a0 a1 a2) ||| BitVec.ofInt (64:Nat) (4:Int)).toNat:Int) else(CV a0 a1 a2))).length+(8:Nat))),((!!AT a1 a2)=true→(DY a0 a1 a2)=true→Ai ((HH a0 a1 a2).length+(16:Nat))),((!!AT a1 a2)=true→(DY a0 a1 a2)=true→(!a2.3)=true→Ai (((HH a0 a1 a2)++Asv a2.2).length+(8:Nat)+a2.4.size)),((!!AT a1 a2)=true→(MW a0 a1 a2)=true→Ai ((Jt a0 a1 a2).length+(16:Nat)))]
set_option maxRecDepth 100000 in
theorem Bci (a0:List UInt8) (a1:Int) (a2:TCell):EU (AA Bz4 L0) 9 56 [Ak .bytes a0,Ak .i64 a1,Ak .cell a2] 0 []=some (1,Avo a0 a1 a2,1,TI a0 a1 a2,[((!AT a1 a2)=true→Ai ((0:Nat)+a0.length)),((!!AT a1 a2)=true→Ai (a0.length+(8:Nat))),((!!AT a1 a2)=true→(DY a0 a1 a2)=true→Ai ((a0++M9 (bif !(a2.5.1==(0:Int)&&a2.5.2==(0:Int)) then IntKind.i64.wrap (↑(BitVec.ofInt (64:Nat) (CV a0 a1 a2) ||| BitVec.ofInt (64:Nat) (4:Int)).toNat:Int) else(CV a0 a1 a2))).length+(8:Nat))),((!!AT a1 a2)=true→(DY a0 a1 a2)=true→Ai ((HH a0 a1 a2).length+(16:Nat))),((!!AT a1 a2)=true→(DY a0 a1 a2)=true→(!a2.3)=true→Ai (((HH a0 a1 a2)++Asv a2.2).length+(8:Nat)+a2.4.size)),((!!AT a1 a2)=true→(MW a0 a1 a2)=true→Ai ((Jt a0 a1 a2).length+(16:Nat)))]):=by kernel_rfl
set_option maxRecDepth 100000 in
theorem Bhs (a0:List UInt8) (a1:Int) (a2:TCell) (hp:∀p∈Bcj a0 a1 a2,p):CallOk Try.prog 56 [Ak .bytes a0,Ak .i64 a1,Ak .cell a2] 0 [] 1 (Avo a0 a1 a2) 1 (TI a0 a1 a2):=by
 have n0:=N0 hp
 have n1:=N0 (N1 hp)
 have n2:=N0 (N1 (N1 hp))
 have n3:=N0 (N1 (N1 (N1 hp)))
 have n4:=N0 (N1 (N1 (N1 (N1 hp))))
 have n5:=N0 (N1 (N1 (N1 (N1 (N1 hp)))))
 exact AH (Aw Bld AG) (Bci a0 a1 a2) (Aa n0 (Aa n1 (Aa n2 (Aa n3 (Aa n4 (Aa n5 Ab))))))
def Aoo (_a0:List UInt8) (_a1:Int) (_a2:TCell):A:=.sq 0
def PZ (a0:List UInt8) (a1:Int) (a2:TCell):Objs:=[(0,some (.arr 5 1 (.ty .u8 (a0++Bep a1 a2))))]
def Af5 (a0:List UInt8) (_a1:Int) (_a2:TCell):List Prop:=[Ai (a0.length+128)]
theorem L7 (a0:List UInt8) (a1:Int) (c:TCell):(bif !(c.5.1==(0:Int)&&c.5.2==(0:Int)) then IntKind.i64.wrap (↑(BitVec.ofInt (64:Nat) (CV a0 a1 c) ||| BitVec.ofInt (64:Nat) (4:Int)).toNat:Int) else(CV a0 a1 c))=OH c:=by
 unfold CV OH
 rw[KC]
 show(bif !(Ht c.dead) then _ else _)=_
 cases Cz c<;>cases c.gone<;>cases Ht c.dead<;>rfl
theorem Aom (a0:List UInt8) (a1:Int) (c:TCell):DY a0 a1 c=Cz c:=by
 unfold DY
 obtain⟨h1,_,h3,_⟩:=Bdb c
 rw[L7,Afx h1 0 1 rfl (by decide)]
 exact h3
theorem Bcg (a0:List UInt8) (a1:Int) (c:TCell):MW a0 a1 c=!Ht c.dead:=by
 unfold MW
 obtain⟨h1,_,_,_,h5⟩:=Bdb c
 rw[L7,Afx h1 2 4 rfl (by decide)]
 exact h5
theorem Bch (a0:List UInt8) (a1:Int) (c:TCell):Ab4 a0 a1 c=a0++Bep a1 c:=by
 unfold Ab4 Jt HH Bep Brx
 rw[IL,L7,Aom,Bcg]
 have hd:∀w g:Bool,(TVec.mk (bif w then bif !g then c.5.1 else c.5.1 else c.5.1) (bif w then bif !g then c.5.2 else c.5.2 else c.5.2))=c.dead:=by intro w g;cases w<;>cases g<;>rfl
 rw[hd]
 cases Bz a1 c<;>cases Cz c<;>cases c.gone<;>cases Ht c.dead<;>simp
theorem Aon (a0:List UInt8) (a1:Int) (a2:TCell) (hp:∀p∈Af5 a0 a1 a2,p):CallOk Try.prog 56 [Ak .bytes a0,Ak .i64 a1,Ak .cell a2] 0 [] 1 (Aoo a0 a1 a2) 1 (PZ a0 a1 a2):=by
 have hb:Ai (a0.length+128):=hp _ (List.mem_cons_self ..)
 unfold Ai at hb
 have n8:=XN (OH a2)
 have s8:=Bua a2.stamp
 have v16:=A8s a2.vec
 have t8:=Biv a2.value
 have k3:(HH a0 a1 a2).length≤a0.length+16:=by
  unfold HH
  rw[L7,List.length_append,List.length_append]
  omega
 have sz:(!!AT a1 a2)=true→DY a0 a1 a2=true→a2.value.size≤64:=fun h1 h2=>by
  rw[IL,Bool.not_not] at h1
  rw[Aom] at h2
  have:=((A4l.1 h1).st h2).2.2.2.1
  omega
 have h:=Bhs a0 a1 a2 (Aa (fun _=>by unfold Ai;omega) (Aa (fun _=>by unfold Ai;omega) (Aa (fun _ _=>by rw[L7,List.length_append];unfold Ai;omega) (Aa (fun _ _=>by unfold Ai;omega) (Aa (fun h1 h2 _=>by
   have:=sz h1 h2
   rw[List.length_append];unfold Ai;omega) (Aa (fun h1 _=>by
   have:(Jt a0 a1 a2).length≤a0.length+112:=by
    unfold Jt
    rw[L7]
    cases hw:DY a0 a1 a2 with
    |false=>rw[cond_false,List.length_append];omega
    |true=>
     have:=sz h1 hw
     rw[cond_true]
     cases a2.3 with
     |true=>simp only[Bool.not_true,cond_false,List.length_append];omega
     |false=>simp only[Bool.not_false,cond_true,List.length_append];omega
   unfold Ai;omega) Ab))))))
 have ho:TI a0 a1 a2=PZ a0 a1 a2:=by unfold TI PZ;rw[Bch]
 rw[ho] at h
 exact h
def Ab5:List A→Nat→Objs→Option A8
 | [y0,y1,y2],nx,o=>match AP .bytes y0,AP .i64 y1,AP .cell y2 with
  |some (a0,p0),some (a1,p1),some (a2,p2)=>some (1,(Aoo a0 a1 a2).pk (AF nx),nx+1,AE nx (PZ a0 a1 a2)++o,p0++(p1++(p2++(Af5 a0 a1 a2))))
  |_,_,_=>none
 |_,_,_=>none
theorem A6o:Fu Try.prog 56 Ab5:=fun args nx o k x nx' o' ps h=>by
 unfold Ab5 at h
 split at h<;>first|(cases h;done)|skip
 split at h<;>first|(cases h;done)|skip
 rename_i a0 p0 a1 p1 a2 p2 e0 e1 e2
 cases h
 refine⟨fun hp=>?_,_,rfl⟩
 have q0:=fun p hm=>hp p (List.mem_append.2 (.inl hm))
 have r0:=fun p hm=>hp p (List.mem_append.2 (.inr hm))
 have q1:=fun p hm=>r0 p (List.mem_append.2 (.inl hm))
 have r1:=fun p hm=>r0 p (List.mem_append.2 (.inr hm))
 have q2:=fun p hm=>r1 p (List.mem_append.2 (.inl hm))
 have r2:=fun p hm=>r1 p (List.mem_append.2 (.inr hm))
 refine Ah (Ag (Aon a0 a1 a2 r2) (Nat.le_refl _) (Ac (Af _ _) (Ac (Af _ _) (Ac (Af _ _) Ao))) nx o) fun F N R vs hl=>?_
 obtain⟨v0,w0,rfl,h0,hl⟩:=hl.inv
 obtain⟨v1,w1,rfl,h1,hl⟩:=hl.inv
 obtain⟨v2,w2,rfl,h2,hl⟩:=hl.inv
 exact HL.cons (Am e0 q0 h0) (HL.cons (Am e1 q1 h1) (HL.cons (Am e2 q2 h2) (hl)))
noncomputable def Bz5:=A5 56 Ab5 Bz4
theorem Ble:Df Try.prog Bz5:=Av A6o Bld
def LU (a0:List UInt8):Bool:=(Ar a0).fst==(0:Int)
def LT (a0:List UInt8):Bool:=(Ar a0).snd.snd !=(0:Int)
def LS (a0:List UInt8):Bool:=!Cc (TStamp.mk ((Ar a0).fst.fdiv (2:Int)) (IntKind.i64.wrap (IntKind.i64.wrap (↑(BitVec.ofInt (64:Nat) (Ar a0).fst &&& BitVec.ofInt (64:Nat) (1:Int)).toNat:Int)+(1:Int))))
def QO (a0:List UInt8):TStamp:=TStamp.mk (bif(LT a0) then(0:Int) else bif(LU a0) then(0:Int) else bif(LS a0) then(0:Int) else(Ar a0).fst.fdiv (2:Int)) (bif(LT a0) then(0:Int) else bif(LU a0) then(0:Int) else bif(LS a0) then(0:Int) else IntKind.i64.wrap (IntKind.i64.wrap (↑(BitVec.ofInt (64:Nat) (Ar a0).fst &&& BitVec.ofInt (64:Nat) (1:Int)).toNat:Int)+(1:Int)))
def YE (a0:List UInt8):Int:=bif(LT a0) then(0:Int) else bif(LU a0) then(Ar a0).snd.fst else bif(LS a0) then(0:Int) else(Ar a0).snd.fst
def YF (a0:List UInt8):Int:=bif(LT a0) then(Ar a0).snd.snd else bif(LU a0) then(0:Int) else bif(LS a0) then(11:Int) else(0:Int)
def QP (a0:List UInt8):A:=.v (.tuple ⟨[.agg ⟨[.int .i64 ((QO a0).n),.int .i64 ((QO a0).site)]⟩,.int .i64 (YE a0),.int .i64 (YF a0)]⟩)
def Ari (_a0:List UInt8):Objs:=[]
def Baf (_a0:List UInt8):List Prop:=[]
set_option maxRecDepth 100000 in
theorem Bae (a0:List UInt8):EU (AA Bz5 L0) 9 115 [Ak .bytes a0] 0 []=some (1,QP a0,0,Ari a0,[]):=by kernel_rfl
set_option maxRecDepth 100000 in
theorem Bgq (a0:List UInt8) (_hp:∀p∈Baf a0,p):CallOk Try.prog 115 [Ak .bytes a0] 0 [] 1 (QP a0) 0 (Ari a0):=by
 exact AH (Aw Ble AG) (Bae a0) Ab
def Od (a0:List UInt8):A:=.v (.tuple ⟨[.agg ⟨[.int .i64 (Gp a0).1.n,.int .i64 (Gp a0).1.site]⟩,.int .i64 (Gp a0).2.1,.int .i64 (Gp a0).2.2]⟩)
def Aj0 (_a0:List UInt8):Objs:=[]
def Abr (_a0:List UInt8):List Prop:=[]
theorem Bad (b:List UInt8):(QO b,YE b,YF b)=Gp b:=by
 obtain⟨_,_,_,hn0,hn1⟩:=HM b
 have hok:okN (Ar b).1:=⟨hn0,hn1⟩
 unfold QO YE YF LS LT LU Gp B01
 rw[Bwl hok,Ky,Int.fdiv_eq_ediv_of_nonneg _ (by decide)]
 by_cases he:(Ar b).2.2=0
 ·have e1:((Ar b).2.2 !=(0:Int))=false:=by rw[he];rfl
  rw[e1,if_neg (by rw[he];simp)]
  by_cases hz:(Ar b).1=0
  ·have e2:((Ar b).1==(0:Int))=true:=by rw[hz];rfl
   rw[e2,if_pos hz]
   rfl
  ·have e2:((Ar b).1==(0:Int))=false:=by simpa using hz
   rw[e2,if_neg hz]
   cases hg:H2 ⟨(Ar b).1 / 2,1+(Ar b).1 % 2⟩ with
   |true=>rfl
   |false=>rfl
 ·have e1:((Ar b).2.2 !=(0:Int))=true:=by simpa using he
  rw[e1,if_pos he]
  rfl
theorem Bac (a0:List UInt8) (_hp:∀p∈Abr a0,p):CallOk Try.prog 115 [Ak .bytes a0] 0 [] 1 (Od a0) 0 (Aj0 a0):=by
 have h:=Bgq a0 Ab
 have hr:QP a0=Od a0:=by unfold QP Od;rw[←Bad]
 rw[hr] at h
 exact h
def YG:List A→Nat→Objs→Option A8
 | [y0],nx,o=>match AP .bytes y0 with
  |some (a0,p0)=>some (1,(Od a0).pk (AF nx),nx+0,AE nx (Aj0 a0)++o,p0++(Abr a0))
  |_=>none
 |_,_,_=>none
theorem A3p:Fu Try.prog 115 YG:=fun args nx o k x nx' o' ps h=>by
 unfold YG at h
 split at h<;>first|(cases h;done)|skip
 split at h<;>first|(cases h;done)|skip
 rename_i a0 p0 e0
 cases h
 refine⟨fun hp=>?_,_,rfl⟩
 have q0:=fun p hm=>hp p (List.mem_append.2 (.inl hm))
 have r0:=fun p hm=>hp p (List.mem_append.2 (.inr hm))
 refine Ah (Ag (Bac a0 r0) (Nat.le_refl _) (Ac (Af _ _) Ao) nx o) fun F N R vs hl=>?_
 obtain⟨v0,w0,rfl,h0,hl⟩:=hl.inv
 exact HL.cons (Am e0 q0 h0) (hl)
noncomputable def Bz6:=A5 115 YG Bz5
theorem Blf:Df Try.prog Bz6:=Av A3p Ble
def Ey (a0:List UInt8):Bool:=(Ar (List.take ((↑a0.length:Int).toNat - (0:Nat)) (List.drop (0:Nat) a0))).snd.snd !=(0:Int)
def DX (a0:List UInt8):Int:=IntKind.i64.wrap ((0:Int)+(Ar (List.take ((↑a0.length:Int).toNat - (0:Nat)) (List.drop (0:Nat) a0))).snd.fst)
def UC (a0:List UInt8):Int:=bif(Ey a0) then(0:Int) else(0:Int)
def KZ (a0:List UInt8):Int:=(Ar (List.take ((↑a0.length:Int).toNat - (DX a0).toNat) (List.drop (DX a0).toNat a0))).snd.snd
def PO (a0:List UInt8):Bool:=!Bv (TVec.mk (Ar (List.take ((↑a0.length:Int).toNat - (0:Nat)) (List.drop (0:Nat) a0))).fst (Ar (List.take ((↑a0.length:Int).toNat - (DX a0).toNat) (List.drop (DX a0).toNat a0))).fst)
def PN (a0:List UInt8):Bool:=(Ey a0)||(KZ a0) !=(0:Int)
def Zk (a0:List UInt8):TVec:=TVec.mk (bif(PN a0) then(UC a0) else bif(PO a0) then(0:Int) else(Ar (List.take ((↑a0.length:Int).toNat - (0:Nat)) (List.drop (0:Nat) a0))).fst) (bif(PN a0) then(UC a0) else bif(PO a0) then(0:Int) else(Ar (List.take ((↑a0.length:Int).toNat - (DX a0).toNat) (List.drop (DX a0).toNat a0))).fst)
def An8 (a0:List UInt8):Int:=bif(PN a0) then(UC a0) else bif(PO a0) then(0:Int) else IntKind.i64.wrap ((DX a0)+(Ar (List.take ((↑a0.length:Int).toNat - (DX a0).toNat) (List.drop (DX a0).toNat a0))).snd.fst)
def An9 (a0:List UInt8):Int:=bif(PN a0) then bif(Ey a0) then(Ar (List.take ((↑a0.length:Int).toNat - (0:Nat)) (List.drop (0:Nat) a0))).snd.snd else(KZ a0) else bif(PO a0) then(11:Int) else(0:Int)
def Zl (a0:List UInt8):A:=.v (.tuple ⟨[.agg ⟨[.int .i64 ((Zk a0).a),.int .i64 ((Zk a0).b)]⟩,.int .i64 (An8 a0),.int .i64 (An9 a0)]⟩)
def A5s (_a0:List UInt8):Objs:=[]
def A1b (a0:List UInt8):List Prop:=[((!(Ey a0))=true→(0:Int)≤(DX a0)∧(DX a0)≤(↑a0.length:Int)∧(↑a0.length:Int)≤(↑a0.length:Int))]
set_option maxRecDepth 100000 in
theorem Bko (a0:List UInt8):EU (AA Bz6 L0) 9 116 [Ak .bytes a0] 0 []=some (1,Zl a0,0,A5s a0,[((0:Int)≤(0:Int)∧(0:Int)≤(↑a0.length:Int)∧(↑a0.length:Int)≤(↑a0.length:Int)),((!(Ey a0))=true→(0:Int)≤(0:Int)∧(0:Int) <(2:Int)),((!(Ey a0))=true→(0:Nat) <(2:Nat)),((!(Ey a0))=true→(0:Int)≤(DX a0)∧(DX a0)≤(↑a0.length:Int)∧(↑a0.length:Int)≤(↑a0.length:Int)),((!(Ey a0))=true→(!(KZ a0) !=(0:Int))=true→(0:Int)≤(1:Int)∧(1:Int) <(2:Int)),((!(Ey a0))=true→(!(KZ a0) !=(0:Int))=true→(1:Nat) <(2:Nat))]):=by kernel_rfl
set_option maxRecDepth 100000 in
theorem Bp4 (a0:List UInt8) (hp:∀p∈A1b a0,p):CallOk Try.prog 116 [Ak .bytes a0] 0 [] 1 (Zl a0) 0 (A5s a0):=by
 have n0:((0:Int)≤(0:Int)∧(0:Int)≤(↑a0.length:Int)∧(↑a0.length:Int)≤(↑a0.length:Int)):=by omega
 have n1:((!(Ey a0))=true→(0:Int)≤(0:Int)∧(0:Int) <(2:Int)):=by omega
 have n2:((!(Ey a0))=true→(0:Nat) <(2:Nat)):=by omega
 have n3:=N0 hp
 have n4:((!(Ey a0))=true→(!(KZ a0) !=(0:Int))=true→(0:Int)≤(1:Int)∧(1:Int) <(2:Int)):=by omega
 have n5:((!(Ey a0))=true→(!(KZ a0) !=(0:Int))=true→(1:Nat) <(2:Nat)):=by omega
 exact AH (Aw Blf AG) (Bko a0) (Aa n0 (Aa n1 (Aa n2 (Aa n3 (Aa n4 (Aa n5 Ab))))))
def UD (a0:List UInt8):A:=.v (.tuple ⟨[.agg ⟨[.int .i64 (F4 a0).1.a,.int .i64 (F4 a0).1.b]⟩,.int .i64 (F4 a0).2.1,.int .i64 (F4 a0).2.2]⟩)
def A1a (_a0:List UInt8):Objs:=[]
def Arm (_a0:List UInt8):List Prop:=[]
theorem EG {b:List UInt8} {k:Int}:List.take (((b.length:Nat):Int).toNat - k.toNat) (List.drop k.toNat b)=b.drop k.toNat:=by
 rw[Int.toNat_natCast]
 exact List.take_of_length_le (by rw[List.length_drop];exact Nat.le_refl _)
theorem Bkn (b:List UInt8):(∀p∈A1b b,p)∧(Zk b,An8 b,An9 b)=F4 b:=by
 obtain⟨hk0,hk1,hk2,hn0,hn1⟩:=HM b
 have e0:List.take (((b.length:Nat):Int).toNat - (0:Nat)) (List.drop (0:Nat) b)=b:=by
  simp
 have k4:DX b=(Ar b).2.1:=by
  unfold DX
  rw[e0,i64_in (by omega)]
  omega
 refine⟨Aa (fun _=>?_) Ab,?_⟩
 ·rw[k4];omega
 ·unfold Zk An8 An9 PN PO KZ UC Ey F4
  rw[k4,e0,EG,K5]
  obtain⟨hj0,hj1,hj2,hm0,hm1⟩:=HM (b.drop (Ar b).2.1.toNat)
  rw[i64_in (n:=(Ar b).2.1+_) (by omega)]
  by_cases he:(Ar b).2.2=0
  ·have e1:((Ar b).2.2 !=(0:Int))=false:=by rw[he];rfl
   rw[e1,if_neg (by rw[he];simp)]
   by_cases he2:(Ar (b.drop (Ar b).2.1.toNat)).2.2=0
   ·have e2:((Ar (b.drop (Ar b).2.1.toNat)).2.2 !=(0:Int))=false:=by rw[he2];rfl
    rw[e2,if_neg (by rw[he2];simp)]
    cases hg:CL ⟨(Ar b).1,(Ar (b.drop (Ar b).2.1.toNat)).1⟩ with
    |true=>rfl
    |false=>rfl
   ·have e2:((Ar (b.drop (Ar b).2.1.toNat)).2.2 !=(0:Int))=true:=by simpa using he2
    rw[e2,if_pos he2]
    rfl
  ·have e1:((Ar b).2.2 !=(0:Int))=true:=by simpa using he
   rw[e1,if_pos he]
   rfl
theorem Bkm (a0:List UInt8) (_hp:∀p∈Arm a0,p):CallOk Try.prog 116 [Ak .bytes a0] 0 [] 1 (UD a0) 0 (A1a a0):=by
 obtain⟨h1,h2⟩:=Bkn a0
 have h:=Bp4 a0 h1
 have hr:Zl a0=UD a0:=by unfold Zl UD;rw[←h2]
 rw[hr] at h
 exact h
def Aoa:List A→Nat→Objs→Option A8
 | [y0],nx,o=>match AP .bytes y0 with
  |some (a0,p0)=>some (1,(UD a0).pk (AF nx),nx+0,AE nx (A1a a0)++o,p0++(Arm a0))
  |_=>none
 |_,_,_=>none
theorem Bgz:Fu Try.prog 116 Aoa:=fun args nx o k x nx' o' ps h=>by
 unfold Aoa at h
 split at h<;>first|(cases h;done)|skip
 split at h<;>first|(cases h;done)|skip
 rename_i a0 p0 e0
 cases h
 refine⟨fun hp=>?_,_,rfl⟩
 have q0:=fun p hm=>hp p (List.mem_append.2 (.inl hm))
 have r0:=fun p hm=>hp p (List.mem_append.2 (.inr hm))
 refine Ah (Ag (Bkm a0 r0) (Nat.le_refl _) (Ac (Af _ _) Ao) nx o) fun F N R vs hl=>?_
 obtain⟨v0,w0,rfl,h0,hl⟩:=hl.inv
 exact HL.cons (Am e0 q0 h0) (hl)
noncomputable def Bqv:=A5 116 Aoa Bz6
theorem Bbc:Df Try.prog Bqv:=Av Bgz Blf
def Ii (a0:List UInt8) (_a1:Int):Bool:=(Ar a0).snd.snd !=(0:Int)
def Fy (a0:List UInt8) (_a1:Int):Int:=IntKind.i64.wrap ((Ar a0).snd.fst+(Ar a0).fst)
def Ih (a0:List UInt8) (a1:Int):Bool:=decide ((Ar a0).fst >a1)
def Hi (a0:List UInt8) (a1:Int):Bool:=(Ii a0 a1)||((Ih a0 a1)||decide (IntKind.i64.wrap ((↑a0.length:Int) - (Ar a0).snd.fst) <(Ar a0).fst))
def Ru (a0:List UInt8) (a1:Int):ByteArray:=bif(Hi a0 a1) then bif(Ii a0 a1) then ByteArray.mk #[] else bif(Ih a0 a1) then ByteArray.mk #[] else ByteArray.mk #[] else ByteArray.mk (List.take ((Fy a0 a1).toNat - (Ar a0).snd.fst.toNat) (List.drop (Ar a0).snd.fst.toNat a0)).toArray
def Rv (a0:List UInt8) (a1:Int):Int:=bif(Hi a0 a1) then bif(Ii a0 a1) then(0:Int) else bif(Ih a0 a1) then(0:Int) else(0:Int) else(Fy a0 a1)
def Rw (a0:List UInt8) (a1:Int):Int:=bif(Hi a0 a1) then bif(Ii a0 a1) then(Ar a0).snd.snd else bif(Ih a0 a1) then(3:Int) else(10:Int) else(0:Int)
def MC (a0:List UInt8) (a1:Int):A:=.v (.tuple ⟨[.string (Ru a0 a1),.int .i64 (Rv a0 a1),.int .i64 (Rw a0 a1)]⟩)
def Aam (_a0:List UInt8) (_a1:Int):Objs:=[]
def Xq (a0:List UInt8) (a1:Int):List Prop:=[((!(Hi a0 a1))=true→(0:Int)≤(Ar a0).snd.fst∧(Ar a0).snd.fst≤(Fy a0 a1)∧(Fy a0 a1)≤(↑a0.length:Int))]
set_option maxRecDepth 100000 in
theorem Axx (a0:List UInt8) (a1:Int):EU (AA Bqv L0) 9 117 [Ak .bytes a0,Ak .i64 a1] 0 []=some (1,MC a0 a1,0,Aam a0 a1,[((!(Hi a0 a1))=true→(0:Int)≤(Ar a0).snd.fst∧(Ar a0).snd.fst≤(Fy a0 a1)∧(Fy a0 a1)≤(↑a0.length:Int))]):=by kernel_rfl
set_option maxRecDepth 100000 in
theorem A2f (a0:List UInt8) (a1:Int) (hp:∀p∈Xq a0 a1,p):CallOk Try.prog 117 [Ak .bytes a0,Ak .i64 a1] 0 [] 1 (MC a0 a1) 0 (Aam a0 a1):=by
 have n0:=N0 hp
 exact AH (Aw Bbc AG) (Axx a0 a1) (Aa n0 Ab)
def LF (a0:List UInt8) (a1:Int):A:=.v (.tuple ⟨[.string (Wq a0 a1).1,.int .i64 (Wq a0 a1).2.1,.int .i64 (Wq a0 a1).2.2]⟩)
def Xp (_a0:List UInt8) (_a1:Int):Objs:=[]
def U0 (a0:List UInt8) (_a1:Int):List Prop:=[Ai a0.length]
theorem Axw (b:List UInt8) (m:Int) (hb:Ai b.length):(∀p∈Xq b m,p)∧(Ru b m,Rv b m,Rw b m)=Wq b m:=by
 obtain⟨hk0,hk1,hk2,hn0,hn1⟩:=HM b
 unfold Ai at hb
 have k2:Fy b m=(Ar b).2.1+(Ar b).1:=by
  unfold Fy
  exact i64_in (by omega)
 have k0:Hi b m=((Ar b).2.2 !=0||(decide ((Ar b).1 >m)||decide ((b.length:Int) - (Ar b).2.1 <(Ar b).1))):=by
  unfold Hi Ih Ii
  rw[i64_in (by omega)]
 refine⟨Aa (fun h=>?_) Ab,?_⟩
 ·rw[k0] at h
  rw[k2]
  simp only[Bool.not_eq_true',Bool.or_eq_false_iff,decide_eq_false_iff_not] at h
  omega
 ·unfold Ru Rv Rw Ih Ii Wq
  rw[k0,k2]
  by_cases he:(Ar b).2.2=0
  ·have e1:((Ar b).2.2 !=(0:Int))=false:=by rw[he];rfl
   rw[e1,if_neg (by rw[he];simp)]
   by_cases hm:(Ar b).1 >m
   ·rw[decide_eq_true hm,if_pos hm];rfl
   ·rw[decide_eq_false hm,if_neg hm]
    by_cases hc:(b.length:Int) - (Ar b).2.1 <(Ar b).1
    ·rw[decide_eq_true hc,if_pos hc];rfl
    ·rw[decide_eq_false hc,if_neg hc]
     have e3:((Ar b).2.1+(Ar b).1).toNat - (Ar b).2.1.toNat=(Ar b).1.toNat:=by omega
     rw[e3]
     rfl
  ·have e1:((Ar b).2.2 !=(0:Int))=true:=by simpa using he
   rw[e1,if_pos he]
   rfl
theorem Axv (a0:List UInt8) (a1:Int) (hp:∀p∈U0 a0 a1,p):CallOk Try.prog 117 [Ak .bytes a0,Ak .i64 a1] 0 [] 1 (LF a0 a1) 0 (Xp a0 a1):=by
 obtain⟨h1,h2⟩:=Axw a0 a1 (hp _ (List.mem_cons_self ..))
 have h:=A2f a0 a1 h1
 have hr:MC a0 a1=LF a0 a1:=by unfold MC LF;rw[←h2]
 rw[hr] at h
 exact h
def Rx:List A→Nat→Objs→Option A8
 | [y0,y1],nx,o=>match AP .bytes y0,AP .i64 y1 with
  |some (a0,p0),some (a1,p1)=>some (1,(LF a0 a1).pk (AF nx),nx+0,AE nx (Xp a0 a1)++o,p0++(p1++(U0 a0 a1)))
  |_,_=>none
 |_,_,_=>none
theorem Aso:Fu Try.prog 117 Rx:=fun args nx o k x nx' o' ps h=>by
 unfold Rx at h
 split at h<;>first|(cases h;done)|skip
 split at h<;>first|(cases h;done)|skip
 rename_i a0 p0 a1 p1 e0 e1
 cases h
 refine⟨fun hp=>?_,_,rfl⟩
 have q0:=fun p hm=>hp p (List.mem_append.2 (.inl hm))
 have r0:=fun p hm=>hp p (List.mem_append.2 (.inr hm))
 have q1:=fun p hm=>r0 p (List.mem_append.2 (.inl hm))
 have r1:=fun p hm=>r0 p (List.mem_append.2 (.inr hm))
 refine Ah (Ag (Axv a0 a1 r1) (Nat.le_refl _) (Ac (Af _ _) (Ac (Af _ _) Ao)) nx o) fun F N R vs hl=>?_
 obtain⟨v0,w0,rfl,h0,hl⟩:=hl.inv
 obtain⟨v1,w1,rfl,h1,hl⟩:=hl.inv
 exact HL.cons (Am e0 q0 h0) (HL.cons (Am e1 q1 h1) (hl))
noncomputable def Bqw:=A5 117 Rx Bqv
theorem Bbd:Df Try.prog Bqw:=Av Aso Bbc
noncomputable def Bqx:=A5 113 (inl (AA Bqw L0) 9 113) Bqw
theorem Bbe:Df Try.prog Bqx:=Av (Acm (Aw Bbd AG) 9 113) Bbd
def AQ (a0:List UInt8) (_a1:Int):Int:=IntKind.i64.wrap ((0:Int)+(Ar a0).snd.fst)
def AS (a0:List UInt8) (a1:Int):Int:=IntKind.i64.wrap ((AQ a0 a1)+(Gp (List.take ((↑a0.length:Int).toNat - (AQ a0 a1).toNat) (List.drop (AQ a0 a1).toNat a0))).snd.fst)
def Fr (a0:List UInt8) (a1:Int):Int:=bif(Ar a0).snd.snd==(0:Int)&&decide (IntKind.i64.wrap (↑(BitVec.ofInt (64:Nat) (Ar a0).fst &&& BitVec.ofInt (64:Nat) (1:Int)).toNat:Int) >(0:Int)) then bif !decide (IntKind.i64.wrap (↑(BitVec.ofInt (64:Nat) (Ar a0).fst &&& BitVec.ofInt (64:Nat) (2:Int)).toNat:Int) >(0:Int)) then(F4 (List.take ((↑a0.length:Int).toNat - (AS a0 a1).toNat) (List.drop (AS a0 a1).toNat a0))).fst.2 else(F4 (List.take ((↑a0.length:Int).toNat - (AS a0 a1).toNat) (List.drop (AS a0 a1).toNat a0))).fst.2 else(0:Int)
def GA (a0:List UInt8) (a1:Int):Int:=bif(Ar a0).snd.snd==(0:Int)&&decide (IntKind.i64.wrap (↑(BitVec.ofInt (64:Nat) (Ar a0).fst &&& BitVec.ofInt (64:Nat) (1:Int)).toNat:Int) >(0:Int)) then bif !decide (IntKind.i64.wrap (↑(BitVec.ofInt (64:Nat) (Ar a0).fst &&& BitVec.ofInt (64:Nat) (2:Int)).toNat:Int) >(0:Int)) then(F4 (List.take ((↑a0.length:Int).toNat - (AS a0 a1).toNat) (List.drop (AS a0 a1).toNat a0))).fst.1 else(F4 (List.take ((↑a0.length:Int).toNat - (AS a0 a1).toNat) (List.drop (AS a0 a1).toNat a0))).fst.1 else(0:Int)
def Gz (a0:List UInt8) (a1:Int):Int:=bif(Ar a0).snd.snd==(0:Int)&&decide (IntKind.i64.wrap (↑(BitVec.ofInt (64:Nat) (Ar a0).fst &&& BitVec.ofInt (64:Nat) (1:Int)).toNat:Int) >(0:Int)) then bif !decide (IntKind.i64.wrap (↑(BitVec.ofInt (64:Nat) (Ar a0).fst &&& BitVec.ofInt (64:Nat) (2:Int)).toNat:Int) >(0:Int)) then(Gp (List.take ((↑a0.length:Int).toNat - (AQ a0 a1).toNat) (List.drop (AQ a0 a1).toNat a0))).fst.2 else(Gp (List.take ((↑a0.length:Int).toNat - (AQ a0 a1).toNat) (List.drop (AQ a0 a1).toNat a0))).fst.2 else(0:Int)
def Gy (a0:List UInt8) (a1:Int):Int:=bif(Ar a0).snd.snd==(0:Int)&&decide (IntKind.i64.wrap (↑(BitVec.ofInt (64:Nat) (Ar a0).fst &&& BitVec.ofInt (64:Nat) (1:Int)).toNat:Int) >(0:Int)) then bif !decide (IntKind.i64.wrap (↑(BitVec.ofInt (64:Nat) (Ar a0).fst &&& BitVec.ofInt (64:Nat) (2:Int)).toNat:Int) >(0:Int)) then(Gp (List.take ((↑a0.length:Int).toNat - (AQ a0 a1).toNat) (List.drop (AQ a0 a1).toNat a0))).fst.1 else(Gp (List.take ((↑a0.length:Int).toNat - (AQ a0 a1).toNat) (List.drop (AQ a0 a1).toNat a0))).fst.1 else(0:Int)
def EJ (a0:List UInt8) (_a1:Int):Int:=bif(Ar a0).snd.snd==(0:Int)&&decide (IntKind.i64.wrap (↑(BitVec.ofInt (64:Nat) (Ar a0).fst &&& BitVec.ofInt (64:Nat) (1:Int)).toNat:Int) >(0:Int)) then bif !decide (IntKind.i64.wrap (↑(BitVec.ofInt (64:Nat) (Ar a0).fst &&& BitVec.ofInt (64:Nat) (2:Int)).toNat:Int) >(0:Int)) then(0:Int) else(0:Int) else(0:Int)
def Bk (a0:List UInt8) (a1:Int):Int:=IntKind.i64.wrap ((AS a0 a1)+(F4 (List.take ((↑a0.length:Int).toNat - (AS a0 a1).toNat) (List.drop (AS a0 a1).toNat a0))).snd.fst)
def EI (a0:List UInt8) (_a1:Int):Bool:=bif(Ar a0).snd.snd==(0:Int)&&decide (IntKind.i64.wrap (↑(BitVec.ofInt (64:Nat) (Ar a0).fst &&& BitVec.ofInt (64:Nat) (1:Int)).toNat:Int) >(0:Int)) then bif !decide (IntKind.i64.wrap (↑(BitVec.ofInt (64:Nat) (Ar a0).fst &&& BitVec.ofInt (64:Nat) (2:Int)).toNat:Int) >(0:Int)) then decide (IntKind.i64.wrap (↑(BitVec.ofInt (64:Nat) (Ar a0).fst &&& BitVec.ofInt (64:Nat) (2:Int)).toNat:Int) >(0:Int)) else decide (IntKind.i64.wrap (↑(BitVec.ofInt (64:Nat) (Ar a0).fst &&& BitVec.ofInt (64:Nat) (2:Int)).toNat:Int) >(0:Int)) else false
def Gx (a0:List UInt8) (a1:Int):ByteArray:=bif(Ar a0).snd.snd==(0:Int)&&decide (IntKind.i64.wrap (↑(BitVec.ofInt (64:Nat) (Ar a0).fst &&& BitVec.ofInt (64:Nat) (1:Int)).toNat:Int) >(0:Int)) then bif !decide (IntKind.i64.wrap (↑(BitVec.ofInt (64:Nat) (Ar a0).fst &&& BitVec.ofInt (64:Nat) (2:Int)).toNat:Int) >(0:Int)) then(Wq (List.take ((↑a0.length:Int).toNat - (Bk a0 a1).toNat) (List.drop (Bk a0 a1).toNat a0)) (64:Int)).fst else ByteArray.mk #[] else ByteArray.mk #[]
def AZ (a0:List UInt8) (a1:Int):Int:=bif(Ar a0).snd.snd==(0:Int)&&decide (IntKind.i64.wrap (↑(BitVec.ofInt (64:Nat) (Ar a0).fst &&& BitVec.ofInt (64:Nat) (1:Int)).toNat:Int) >(0:Int)) then bif !decide (IntKind.i64.wrap (↑(BitVec.ofInt (64:Nat) (Ar a0).fst &&& BitVec.ofInt (64:Nat) (2:Int)).toNat:Int) >(0:Int)) then IntKind.i64.wrap ((Bk a0 a1)+(Wq (List.take ((↑a0.length:Int).toNat - (Bk a0 a1).toNat) (List.drop (Bk a0 a1).toNat a0)) (64:Int)).snd.fst) else(Bk a0 a1) else(AQ a0 a1)
def AJ (a0:List UInt8) (a1:Int):Bool:=(bif(Ar a0).snd.snd==(0:Int)&&decide (IntKind.i64.wrap (↑(BitVec.ofInt (64:Nat) (Ar a0).fst &&& BitVec.ofInt (64:Nat) (1:Int)).toNat:Int) >(0:Int)) then bif !decide (IntKind.i64.wrap (↑(BitVec.ofInt (64:Nat) (Ar a0).fst &&& BitVec.ofInt (64:Nat) (2:Int)).toNat:Int) >(0:Int)) then(Ar a0).snd.snd==(0:Int)&&(Gp (List.take ((↑a0.length:Int).toNat - (AQ a0 a1).toNat) (List.drop (AQ a0 a1).toNat a0))).snd.snd==(0:Int)&&(F4 (List.take ((↑a0.length:Int).toNat - (AS a0 a1).toNat) (List.drop (AS a0 a1).toNat a0))).snd.snd==(0:Int)&&(Wq (List.take ((↑a0.length:Int).toNat - (Bk a0 a1).toNat) (List.drop (Bk a0 a1).toNat a0)) (64:Int)).snd.snd==(0:Int) else(Ar a0).snd.snd==(0:Int)&&(Gp (List.take ((↑a0.length:Int).toNat - (AQ a0 a1).toNat) (List.drop (AQ a0 a1).toNat a0))).snd.snd==(0:Int)&&(F4 (List.take ((↑a0.length:Int).toNat - (AS a0 a1).toNat) (List.drop (AS a0 a1).toNat a0))).snd.snd==(0:Int) else(Ar a0).snd.snd==(0:Int))&&decide (IntKind.i64.wrap (↑(BitVec.ofInt (64:Nat) (Ar a0).fst &&& BitVec.ofInt (64:Nat) (4:Int)).toNat:Int) >(0:Int))
def EH (a0:List UInt8) (a1:Int):Bool:=(!bif(AJ a0 a1) then(bif(Ar a0).snd.snd==(0:Int)&&decide (IntKind.i64.wrap (↑(BitVec.ofInt (64:Nat) (Ar a0).fst &&& BitVec.ofInt (64:Nat) (1:Int)).toNat:Int) >(0:Int)) then bif !decide (IntKind.i64.wrap (↑(BitVec.ofInt (64:Nat) (Ar a0).fst &&& BitVec.ofInt (64:Nat) (2:Int)).toNat:Int) >(0:Int)) then(Ar a0).snd.snd==(0:Int)&&(Gp (List.take ((↑a0.length:Int).toNat - (AQ a0 a1).toNat) (List.drop (AQ a0 a1).toNat a0))).snd.snd==(0:Int)&&(F4 (List.take ((↑a0.length:Int).toNat - (AS a0 a1).toNat) (List.drop (AS a0 a1).toNat a0))).snd.snd==(0:Int)&&(Wq (List.take ((↑a0.length:Int).toNat - (Bk a0 a1).toNat) (List.drop (Bk a0 a1).toNat a0)) (64:Int)).snd.snd==(0:Int) else(Ar a0).snd.snd==(0:Int)&&(Gp (List.take ((↑a0.length:Int).toNat - (AQ a0 a1).toNat) (List.drop (AQ a0 a1).toNat a0))).snd.snd==(0:Int)&&(F4 (List.take ((↑a0.length:Int).toNat - (AS a0 a1).toNat) (List.drop (AS a0 a1).toNat a0))).snd.snd==(0:Int) else(Ar a0).snd.snd==(0:Int))&&(F4 (List.take ((↑a0.length:Int).toNat - (AZ a0 a1).toNat) (List.drop (AZ a0 a1).toNat a0))).snd.snd==(0:Int) else bif(Ar a0).snd.snd==(0:Int)&&decide (IntKind.i64.wrap (↑(BitVec.ofInt (64:Nat) (Ar a0).fst &&& BitVec.ofInt (64:Nat) (1:Int)).toNat:Int) >(0:Int)) then bif !decide (IntKind.i64.wrap (↑(BitVec.ofInt (64:Nat) (Ar a0).fst &&& BitVec.ofInt (64:Nat) (2:Int)).toNat:Int) >(0:Int)) then(Ar a0).snd.snd==(0:Int)&&(Gp (List.take ((↑a0.length:Int).toNat - (AQ a0 a1).toNat) (List.drop (AQ a0 a1).toNat a0))).snd.snd==(0:Int)&&(F4 (List.take ((↑a0.length:Int).toNat - (AS a0 a1).toNat) (List.drop (AS a0 a1).toNat a0))).snd.snd==(0:Int)&&(Wq (List.take ((↑a0.length:Int).toNat - (Bk a0 a1).toNat) (List.drop (Bk a0 a1).toNat a0)) (64:Int)).snd.snd==(0:Int) else(Ar a0).snd.snd==(0:Int)&&(Gp (List.take ((↑a0.length:Int).toNat - (AQ a0 a1).toNat) (List.drop (AQ a0 a1).toNat a0))).snd.snd==(0:Int)&&(F4 (List.take ((↑a0.length:Int).toNat - (AS a0 a1).toNat) (List.drop (AS a0 a1).toNat a0))).snd.snd==(0:Int) else(Ar a0).snd.snd==(0:Int))||!((decide ((Ar a0).fst≤(7:Int))&&decide (IntKind.i64.wrap (↑(BitVec.ofInt (64:Nat) (Ar a0).fst &&& BitVec.ofInt (64:Nat) (1:Int)).toNat:Int) >(0:Int))==Fx (TCell.mk (TStamp.mk (bif(AJ a0 a1) then(Gy a0 a1) else(Gy a0 a1)) (bif(AJ a0 a1) then(Gz a0 a1) else(Gz a0 a1))) (TVec.mk (bif(AJ a0 a1) then(GA a0 a1) else(GA a0 a1)) (bif(AJ a0 a1) then(Fr a0 a1) else(Fr a0 a1))) (bif(AJ a0 a1) then(EI a0 a1) else(EI a0 a1)) (bif(AJ a0 a1) then(Gx a0 a1) else(Gx a0 a1)) (TVec.mk (bif(AJ a0 a1) then(F4 (List.take ((↑a0.length:Int).toNat - (AZ a0 a1).toNat) (List.drop (AZ a0 a1).toNat a0))).fst.1 else(EJ a0 a1)) (bif(AJ a0 a1) then(F4 (List.take ((↑a0.length:Int).toNat - (AZ a0 a1).toNat) (List.drop (AZ a0 a1).toNat a0))).fst.2 else(EJ a0 a1))))&&decide (IntKind.i64.wrap (↑(BitVec.ofInt (64:Nat) (Ar a0).fst &&& BitVec.ofInt (64:Nat) (2:Int)).toNat:Int) >(0:Int))==bif(AJ a0 a1) then(EI a0 a1) else(EI a0 a1))&&decide (IntKind.i64.wrap (↑(BitVec.ofInt (64:Nat) (Ar a0).fst &&& BitVec.ofInt (64:Nat) (4:Int)).toNat:Int) >(0:Int))==!((bif(AJ a0 a1) then(F4 (List.take ((↑a0.length:Int).toNat - (AZ a0 a1).toNat) (List.drop (AZ a0 a1).toNat a0))).fst.1 else(EJ a0 a1))==(0:Int)&&(bif(AJ a0 a1) then(F4 (List.take ((↑a0.length:Int).toNat - (AZ a0 a1).toNat) (List.drop (AZ a0 a1).toNat a0))).fst.2 else(EJ a0 a1))==(0:Int)))||!AT a1 (TCell.mk (TStamp.mk (bif(AJ a0 a1) then(Gy a0 a1) else(Gy a0 a1)) (bif(AJ a0 a1) then(Gz a0 a1) else(Gz a0 a1))) (TVec.mk (bif(AJ a0 a1) then(GA a0 a1) else(GA a0 a1)) (bif(AJ a0 a1) then(Fr a0 a1) else(Fr a0 a1))) (bif(AJ a0 a1) then(EI a0 a1) else(EI a0 a1)) (bif(AJ a0 a1) then(Gx a0 a1) else(Gx a0 a1)) (TVec.mk (bif(AJ a0 a1) then(F4 (List.take ((↑a0.length:Int).toNat - (AZ a0 a1).toNat) (List.drop (AZ a0 a1).toNat a0))).fst.1 else(EJ a0 a1)) (bif(AJ a0 a1) then(F4 (List.take ((↑a0.length:Int).toNat - (AZ a0 a1).toNat) (List.drop (AZ a0 a1).toNat a0))).fst.2 else(EJ a0 a1))))
def HW (a0:List UInt8) (a1:Int):TCell:=TCell.mk (TStamp.mk (bif(EH a0 a1) then(0:Int) else bif(AJ a0 a1) then(Gy a0 a1) else(Gy a0 a1)) (bif(EH a0 a1) then(0:Int) else bif(AJ a0 a1) then(Gz a0 a1) else(Gz a0 a1))) (TVec.mk (bif(EH a0 a1) then(0:Int) else bif(AJ a0 a1) then(GA a0 a1) else(GA a0 a1)) (bif(EH a0 a1) then(0:Int) else bif(AJ a0 a1) then(Fr a0 a1) else(Fr a0 a1))) (bif(EH a0 a1) then false else bif(AJ a0 a1) then(EI a0 a1) else(EI a0 a1)) (bif(EH a0 a1) then ByteArray.mk #[] else bif(AJ a0 a1) then(Gx a0 a1) else(Gx a0 a1)) (TVec.mk (bif(EH a0 a1) then(0:Int) else bif(AJ a0 a1) then(F4 (List.take ((↑a0.length:Int).toNat - (AZ a0 a1).toNat) (List.drop (AZ a0 a1).toNat a0))).fst.1 else(EJ a0 a1)) (bif(EH a0 a1) then(0:Int) else bif(AJ a0 a1) then(F4 (List.take ((↑a0.length:Int).toNat - (AZ a0 a1).toNat) (List.drop (AZ a0 a1).toNat a0))).fst.2 else(EJ a0 a1)))
def Ab1 (a0:List UInt8) (a1:Int):Int:=bif(EH a0 a1) then(0:Int) else bif(AJ a0 a1) then IntKind.i64.wrap ((AZ a0 a1)+(F4 (List.take ((↑a0.length:Int).toNat - (AZ a0 a1).toNat) (List.drop (AZ a0 a1).toNat a0))).snd.fst) else(AZ a0 a1)
def Ab2 (a0:List UInt8) (a1:Int):Int:=bif(EH a0 a1) then(80:Int) else(0:Int)
def TE (a0:List UInt8) (a1:Int):A:=.v (.tuple ⟨[.agg ⟨[.int .i64 ((HW a0 a1).stamp.n),.int .i64 ((HW a0 a1).stamp.site),.int .i64 ((HW a0 a1).vec.a),.int .i64 ((HW a0 a1).vec.b),.bool ((HW a0 a1).gone),.string ((HW a0 a1).value),.int .i64 ((HW a0 a1).dead.a),.int .i64 ((HW a0 a1).dead.b)]⟩,.int .i64 (Ab1 a0 a1),.int .i64 (Ab2 a0 a1)]⟩)
def Avl (_a0:List UInt8) (_a1:Int):Objs:=[]
def Aoj (a0:List UInt8) (a1:Int):List Prop:=[(((Ar a0).snd.snd==(0:Int)&&decide (IntKind.i64.wrap (↑(BitVec.ofInt (64:Nat) (Ar a0).fst &&& BitVec.ofInt (64:Nat) (1:Int)).toNat:Int) >(0:Int)))=true→(0:Int)≤(AQ a0 a1)∧(AQ a0 a1)≤(↑a0.length:Int)∧(↑a0.length:Int)≤(↑a0.length:Int)),(((Ar a0).snd.snd==(0:Int)&&decide (IntKind.i64.wrap (↑(BitVec.ofInt (64:Nat) (Ar a0).fst &&& BitVec.ofInt (64:Nat) (1:Int)).toNat:Int) >(0:Int)))=true→(0:Int)≤(AS a0 a1)∧(AS a0 a1)≤(↑a0.length:Int)∧(↑a0.length:Int)≤(↑a0.length:Int)),(((Ar a0).snd.snd==(0:Int)&&decide (IntKind.i64.wrap (↑(BitVec.ofInt (64:Nat) (Ar a0).fst &&& BitVec.ofInt (64:Nat) (1:Int)).toNat:Int) >(0:Int)))=true→(!decide (IntKind.i64.wrap (↑(BitVec.ofInt (64:Nat) (Ar a0).fst &&& BitVec.ofInt (64:Nat) (2:Int)).toNat:Int) >(0:Int)))=true→(0:Int)≤(Bk a0 a1)∧(Bk a0 a1)≤(↑a0.length:Int)∧(↑a0.length:Int)≤(↑a0.length:Int)),(((Ar a0).snd.snd==(0:Int)&&decide (IntKind.i64.wrap (↑(BitVec.ofInt (64:Nat) (Ar a0).fst &&& BitVec.ofInt (64:Nat) (1:Int)).toNat:Int) >(0:Int)))=true→(!decide (IntKind.i64.wrap (↑(BitVec.ofInt (64:Nat) (Ar a0).fst &&& BitVec.ofInt (64:Nat) (2:Int)).toNat:Int) >(0:Int)))=true→Ai (List.take ((↑a0.length:Int).toNat - (Bk a0 a1).toNat) (List.drop (Bk a0 a1).toNat a0)).length),((AJ a0 a1)=true→(0:Int)≤(AZ a0 a1)∧(AZ a0 a1)≤(↑a0.length:Int)∧(↑a0.length:Int)≤(↑a0.length:Int))]
set_option maxRecDepth 100000 in
theorem Bcf (a0:List UInt8) (a1:Int):EU (AA Bqx L0) 9 54 [Ak .bytes a0,Ak .i64 a1] 0 []=some (1,TE a0 a1,0,Avl a0 a1,[(((Ar a0).snd.snd==(0:Int)&&decide (IntKind.i64.wrap (↑(BitVec.ofInt (64:Nat) (Ar a0).fst &&& BitVec.ofInt (64:Nat) (1:Int)).toNat:Int) >(0:Int)))=true→(0:Int)≤(AQ a0 a1)∧(AQ a0 a1)≤(↑a0.length:Int)∧(↑a0.length:Int)≤(↑a0.length:Int)),(((Ar a0).snd.snd==(0:Int)&&decide (IntKind.i64.wrap (↑(BitVec.ofInt (64:Nat) (Ar a0).fst &&& BitVec.ofInt (64:Nat) (1:Int)).toNat:Int) >(0:Int)))=true→(0:Int)≤(AS a0 a1)∧(AS a0 a1)≤(↑a0.length:Int)∧(↑a0.length:Int)≤(↑a0.length:Int)),(((Ar a0).snd.snd==(0:Int)&&decide (IntKind.i64.wrap (↑(BitVec.ofInt (64:Nat) (Ar a0).fst &&& BitVec.ofInt (64:Nat) (1:Int)).toNat:Int) >(0:Int)))=true→(!decide (IntKind.i64.wrap (↑(BitVec.ofInt (64:Nat) (Ar a0).fst &&& BitVec.ofInt (64:Nat) (2:Int)).toNat:Int) >(0:Int)))=true→(0:Int)≤(Bk a0 a1)∧(Bk a0 a1)≤(↑a0.length:Int)∧(↑a0.length:Int)≤(↑a0.length:Int)),(((Ar a0).snd.snd==(0:Int)&&decide (IntKind.i64.wrap (↑(BitVec.ofInt (64:Nat) (Ar a0).fst &&& BitVec.ofInt (64:Nat) (1:Int)).toNat:Int) >(0:Int)))=true→(!decide (IntKind.i64.wrap (↑(BitVec.ofInt (64:Nat) (Ar a0).fst &&& BitVec.ofInt (64:Nat) (2:Int)).toNat:Int) >(0:Int)))=true→Ai (List.take ((↑a0.length:Int).toNat - (Bk a0 a1).toNat) (List.drop (Bk a0 a1).toNat a0)).length),((AJ a0 a1)=true→(0:Int)≤(AZ a0 a1)∧(AZ a0 a1)≤(↑a0.length:Int)∧(↑a0.length:Int)≤(↑a0.length:Int))]):=by kernel_rfl
set_option maxRecDepth 100000 in
theorem Bhq (a0:List UInt8) (a1:Int) (hp:∀p∈Aoj a0 a1,p):CallOk Try.prog 54 [Ak .bytes a0,Ak .i64 a1] 0 [] 1 (TE a0 a1) 0 (Avl a0 a1):=by
 have n0:=N0 hp
 have n1:=N0 (N1 hp)
 have n2:=N0 (N1 (N1 hp))
 have n3:=N0 (N1 (N1 (N1 hp)))
 have n4:=N0 (N1 (N1 (N1 (N1 hp))))
 exact AH (Aw Bbe AG) (Bcf a0 a1) (Aa n0 (Aa n1 (Aa n2 (Aa n3 (Aa n4 Ab)))))
def PY (a0:List UInt8) (a1:Int):A:=.v (.tuple ⟨[.agg ⟨[.int .i64 (Ar1 a0 a1).1.stamp.n,.int .i64 (Ar1 a0 a1).1.stamp.site,.int .i64 (Ar1 a0 a1).1.vec.a,.int .i64 (Ar1 a0 a1).1.vec.b,.bool (Ar1 a0 a1).1.gone,.string (Ar1 a0 a1).1.value,.int .i64 (Ar1 a0 a1).1.dead.a,.int .i64 (Ar1 a0 a1).1.dead.b]⟩,.int .i64 (Ar1 a0 a1).2.1,.int .i64 (Ar1 a0 a1).2.2]⟩)
def Aoi (_a0:List UInt8) (_a1:Int):Objs:=[]
def Af3 (a0:List UInt8) (_a1:Int):List Prop:=[Ai a0.length]
theorem Bdh (b:List UInt8):0≤(Gp b).2.1∧(Gp b).2.1≤(b.length:Int):=by
 obtain⟨h1,h2,_⟩:=HM b
 unfold Gp
 split
 ·exact⟨Int.le_refl _,by show(0:Int)≤(b.length:Int);omega⟩
 ·split
  ·exact⟨h1,h2⟩
  ·exact⟨Int.le_refl _,by show(0:Int)≤(b.length:Int);omega⟩
theorem Aos (b:List UInt8):0≤(F4 b).2.1∧(F4 b).2.1≤(b.length:Int):=by
 obtain⟨h1,h2,_⟩:=HM b
 obtain⟨h3,h4,_⟩:=HM (b.drop (Ar b).2.1.toNat)
 rw[List.length_drop] at h4
 unfold F4
 split
 ·exact⟨Int.le_refl _,by show(0:Int)≤(b.length:Int);omega⟩
 ·split
  ·exact⟨Int.le_refl _,by show(0:Int)≤(b.length:Int);omega⟩
  ·split
   ·exact⟨by show 0≤(Ar b).2.1+_;omega,by show(Ar b).2.1+_≤(b.length:Int);omega⟩
   ·exact⟨Int.le_refl _,by show(0:Int)≤(b.length:Int);omega⟩
theorem Bdi (b:List UInt8) (m:Int):0≤(Wq b m).2.1∧(Wq b m).2.1≤(b.length:Int):=by
 obtain⟨h1,h2,_,h3,_⟩:=HM b
 unfold Wq
 split
 ·exact⟨Int.le_refl _,by show(0:Int)≤(b.length:Int);omega⟩
 ·split
  ·exact⟨Int.le_refl _,by show(0:Int)≤(b.length:Int);omega⟩
  ·split
   ·exact⟨Int.le_refl _,by show(0:Int)≤(b.length:Int);omega⟩
   ·exact⟨by show 0≤(Ar b).2.1+_;omega,by show(Ar b).2.1+_≤(b.length:Int);omega⟩
theorem Bce (b:List UInt8) (p:Int) (hb:Ai b.length):(∀q∈Aoj b p,q)∧(HW b p,Ab1 b p,Ab2 b p)=Ar1 b p:=by
 unfold Ai at hb
 obtain⟨a1,a2,_,a3,a4⟩:=HM b
 have hok:okN (Ar b).1:=⟨a3,a4⟩
 have B1:=Afx hok 0 1 rfl (by decide)
 have B2:=Afx hok 1 2 rfl (by decide)
 have B4:=Afx hok 2 4 rfl (by decide)
 have e12:AQ b p=(Ar b).2.1:=by
  unfold AQ
  rw[i64_in (by omega)];omega
 obtain⟨s1,s2⟩:=Bdh (b.drop (Ar b).2.1.toNat)
 rw[List.length_drop] at s2
 have e11:AS b p=(Ar b).2.1+(Gp (b.drop (Ar b).2.1.toNat)).2.1:=by
  unfold AS
  rw[e12,EG,i64_in (by omega)]
 obtain⟨v1,v2⟩:=Aos (b.drop ((Ar b).2.1+(Gp (b.drop (Ar b).2.1.toNat)).2.1).toNat)
 rw[List.length_drop] at v2
 have e5:Bk b p=(Ar b).2.1+(Gp (b.drop (Ar b).2.1.toNat)).2.1+(F4 (b.drop ((Ar b).2.1+(Gp (b.drop (Ar b).2.1.toNat)).2.1).toNat)).2.1:=by
  unfold Bk
  rw[e11,EG,i64_in (by omega)]
 obtain⟨t1,t2⟩:=Bdi (b.drop ((Ar b).2.1+(Gp (b.drop (Ar b).2.1.toNat)).2.1+(F4 (b.drop ((Ar b).2.1+(Gp (b.drop (Ar b).2.1.toNat)).2.1).toNat)).2.1).toNat) 64
 rw[List.length_drop] at t2
 have e2:AZ b p=(stA b).2.2∧0≤(stA b).2.2∧(stA b).2.2≤(b.length:Int):=by
  unfold AZ stA
  rw[e5,e12,EG,B1,B2]
  show(bif(Ar b).2.2==0&&GH (Ar b).1 0 then bif !GH (Ar b).1 1 then _ else _ else _)=_∧_
  rw[i64_in (by omega)]
  cases((Ar b).2.2==0&&GH (Ar b).1 0)<;>cases GH (Ar b).1 1<;>refine⟨rfl,?_,?_⟩<;>(first|exact a1|exact a2|(simp only[cond_true,cond_false,Bool.not_true,Bool.not_false];omega))
 obtain⟨e2,e2a,e2b⟩:=e2
 obtain⟨d1,d2⟩:=Aos (b.drop (stA b).2.2.toNat)
 rw[List.length_drop] at d2
 have hcell:(stA b).2.1=⟨⟨Gy b p,Gz b p⟩,⟨GA b p,Fr b p⟩,EI b p,Gx b p,⟨0,0⟩⟩:=by
  unfold Gy Gz GA Fr EI Gx stA
  rw[e11,e5,e12,EG,EG,EG,B1,B2]
  show _=TCell.mk (TStamp.mk (bif(Ar b).2.2==0&&GH (Ar b).1 0 then bif !GH (Ar b).1 1 then _ else _ else _) _) _ _ _ _
  show(bif(Ar b).2.2==0&&GH (Ar b).1 0 then bif !GH (Ar b).1 1 then _ else _ else _:Bool×TCell×Int).2.1=TCell.mk (TStamp.mk (bif(Ar b).2.2==0&&GH (Ar b).1 0 then bif !GH (Ar b).1 1 then _ else _ else _) (bif(Ar b).2.2==0&&GH (Ar b).1 0 then bif !GH (Ar b).1 1 then _ else _ else _)) (TVec.mk (bif(Ar b).2.2==0&&GH (Ar b).1 0 then bif !GH (Ar b).1 1 then _ else _ else _) (bif(Ar b).2.2==0&&GH (Ar b).1 0 then bif !GH (Ar b).1 1 then _ else _ else _)) (bif(Ar b).2.2==0&&GH (Ar b).1 0 then bif !GH (Ar b).1 1 then GH (Ar b).1 1 else GH (Ar b).1 1 else _) (bif(Ar b).2.2==0&&GH (Ar b).1 0 then bif !GH (Ar b).1 1 then _ else _ else _) _
  cases((Ar b).2.2==0&&GH (Ar b).1 0)<;>cases GH (Ar b).1 1<;>rfl
 have hok1:(bif(Ar b).2.2==0&&GH (Ar b).1 0 then bif !GH (Ar b).1 1 then(Ar b).2.2==0&&(Gp (b.drop (Ar b).2.1.toNat)).2.2==0&&(F4 (b.drop ((Ar b).2.1+(Gp (b.drop (Ar b).2.1.toNat)).2.1).toNat)).2.2==0&&(Wq (b.drop ((Ar b).2.1+(Gp (b.drop (Ar b).2.1.toNat)).2.1+(F4 (b.drop ((Ar b).2.1+(Gp (b.drop (Ar b).2.1.toNat)).2.1).toNat)).2.1).toNat) 64).2.2==0
   else(Ar b).2.2==0&&(Gp (b.drop (Ar b).2.1.toNat)).2.2==0&&(F4 (b.drop ((Ar b).2.1+(Gp (b.drop (Ar b).2.1.toNat)).2.1).toNat)).2.2==0 else(Ar b).2.2==0)=(stA b).1:=by
  unfold stA
  cases((Ar b).2.2==0&&GH (Ar b).1 0)<;>cases GH (Ar b).1 1<;>rfl
 have e1:AJ b p=((stA b).1&&GH (Ar b).1 2):=by
  unfold AJ
  rw[e11,e5,e12,EG,EG,EG,B1,B2,B4]
  show((bif(Ar b).2.2==0&&GH (Ar b).1 0 then bif !GH (Ar b).1 1 then _ else _ else _)&&GH (Ar b).1 2)=_
  rw[hok1]
 have e6:EJ b p=0:=by
  unfold EJ
  cases((Ar b).2.2==0&&decide (IntKind.i64.wrap (↑(BitVec.ofInt (64:Nat) (Ar b).1 &&& BitVec.ofInt (64:Nat) (1:Int)).toNat:Int) >(0:Int)))<;>cases decide (IntKind.i64.wrap (↑(BitVec.ofInt (64:Nat) (Ar b).1 &&& BitVec.ofInt (64:Nat) (2:Int)).toNat:Int) >(0:Int))<;>rfl
 refine⟨Aa (fun _=>by rw[e12];omega) (Aa (fun _=>by rw[e11];omega) (Aa (fun _ _=>by rw[e5];omega) (Aa (fun _ _=>by rw[e5,EG,List.length_drop];unfold Ai;omega) (Aa (fun _=>by rw[e2];omega) Ab)))),?_⟩
 have hB1:(stB b).1=bif(stA b).1&&GH (Ar b).1 2 then(stA b).1&&(F4 (b.drop (stA b).2.2.toNat)).2.2==0 else(stA b).1:=by unfold stB;cases((stA b).1&&GH (Ar b).1 2)<;>rfl
 have hB2:(stB b).2.1=TCell.mk (TStamp.mk (bif AJ b p then Gy b p else Gy b p) (bif AJ b p then Gz b p else Gz b p)) (TVec.mk (bif AJ b p then GA b p else GA b p) (bif AJ b p then Fr b p else Fr b p)) (bif AJ b p then EI b p else EI b p) (bif AJ b p then Gx b p else Gx b p) (TVec.mk (bif AJ b p then(F4 (b.drop (stA b).2.2.toNat)).1.1 else EJ b p) (bif AJ b p then(F4 (b.drop (stA b).2.2.toNat)).1.2 else EJ b p)):=by
  rw[e1]
  unfold stB
  cases((stA b).1&&GH (Ar b).1 2) with
  |true=>simp only[cond_true];rw[hcell]
  |false=>simp only[cond_false];rw[hcell,e6]
 have hB3:(stB b).2.2=bif AJ b p then(stA b).2.2+(F4 (b.drop (stA b).2.2.toNat)).2.1 else(stA b).2.2:=by
  rw[e1]
  unfold stB
  cases((stA b).1&&GH (Ar b).1 2)<;>rfl
 have e0:EH b p=(!(stB b).1||!A9s (Ar b).1 (stB b).2.1||!Bz p (stB b).2.1):=by
  unfold EH
  rw[e2,e11,e5,e12,EG,EG,EG,EG,IL,KC,←hB2]
  rw[B1,B2,B4]
  show((!bif AJ b p then(bif(Ar b).2.2==0&&GH (Ar b).1 0 then bif !GH (Ar b).1 1 then _ else _ else _)&&_ else(bif(Ar b).2.2==0&&GH (Ar b).1 0 then bif !GH (Ar b).1 1 then _ else _ else _))||_||_)=_
  rw[hok1,hB1,←e1]
  unfold A9s
  rw[hB2]
  rfl
 unfold HW Ab1 Ab2 Ar1
 rw[e0]
 cases(!(stB b).1||!A9s (Ar b).1 (stB b).2.1||!Bz p (stB b).2.1) with
 |true=>rfl
 |false=>
  simp only[cond_false]
  rw[hB3,e2,EG,hB2,i64_in (by omega)]
theorem Bcd (a0:List UInt8) (a1:Int) (hp:∀p∈Af3 a0 a1,p):CallOk Try.prog 54 [Ak .bytes a0,Ak .i64 a1] 0 [] 1 (PY a0 a1) 0 (Aoi a0 a1):=by
 obtain⟨h1,h2⟩:=Bce a0 a1 (hp _ (List.mem_cons_self ..))
 have h:=Bhq a0 a1 h1
 have hr:TE a0 a1=PY a0 a1:=by unfold TE PY;rw[←h2]
 rw[hr] at h
 exact h
def Ab3:List A→Nat→Objs→Option A8
 | [y0,y1],nx,o=>match AP .bytes y0,AP .i64 y1 with
  |some (a0,p0),some (a1,p1)=>some (1,(PY a0 a1).pk (AF nx),nx+0,AE nx (Aoi a0 a1)++o,p0++(p1++(Af3 a0 a1)))
  |_,_=>none
 |_,_,_=>none
theorem A6l:Fu Try.prog 54 Ab3:=fun args nx o k x nx' o' ps h=>by
 unfold Ab3 at h
 split at h<;>first|(cases h;done)|skip
 split at h<;>first|(cases h;done)|skip
 rename_i a0 p0 a1 p1 e0 e1
 cases h
 refine⟨fun hp=>?_,_,rfl⟩
 have q0:=fun p hm=>hp p (List.mem_append.2 (.inl hm))
 have r0:=fun p hm=>hp p (List.mem_append.2 (.inr hm))
 have q1:=fun p hm=>r0 p (List.mem_append.2 (.inl hm))
 have r1:=fun p hm=>r0 p (List.mem_append.2 (.inr hm))
 refine Ah (Ag (Bcd a0 a1 r1) (Nat.le_refl _) (Ac (Af _ _) (Ac (Af _ _) Ao)) nx o) fun F N R vs hl=>?_
 obtain⟨v0,w0,rfl,h0,hl⟩:=hl.inv
 obtain⟨v1,w1,rfl,h1,hl⟩:=hl.inv
 exact HL.cons (Am e0 q0 h0) (HL.cons (Am e1 q1 h1) (hl))
noncomputable def By1:=A5 54 Ab3 Bqx
theorem Bqy:Df Try.prog By1:=Av A6l Bbe
noncomputable def Cd:=By1
theorem By2:Df Try.prog Cd:=Bqy
end Go.Proofs.Yteebobbhhgmeiaa
namespace Go.Proofs.Yteebobbhhgmeiaa
open Go.RowKit
def Ad3 (a0:TVec):A:=.v (.bool (a0.1==(0:Int)&&a0.2==(0:Int)))
def Ad2 (_a0:TVec):Objs:=[]
def Ap1 (_a0:TVec):List Prop:=[]
set_option maxRecDepth 100000 in
theorem Be7 (a0:TVec):EU (AA Cd L0) 9 108 [Ak .vec a0] 0 []=some (1,Ad3 a0,0,Ad2 a0,[]):=by kernel_rfl
set_option maxRecDepth 100000 in
theorem Bi9 (a0:TVec) (_hp:∀p∈Ap1 a0,p):CallOk Try.prog 108 [Ak .vec a0] 0 [] 1 (Ad3 a0) 0 (Ad2 a0):=by
 exact AH (Aw By2 AG) (Be7 a0) Ab
def Ad4:List A→Nat→Objs→Option A8
 | [y0],nx,o=>match AP .vec y0 with
  |some (a0,p0)=>some (1,(Ad3 a0).pk (AF nx),nx+0,AE nx (Ad2 a0)++o,p0++(Ap1 a0))
  |_=>none
 |_,_,_=>none
theorem A85:Fu Try.prog 108 Ad4:=fun args nx o k x nx' o' ps h=>by
 unfold Ad4 at h
 split at h<;>first|(cases h;done)|skip
 split at h<;>first|(cases h;done)|skip
 rename_i a0 p0 e0
 cases h
 refine⟨fun hp=>?_,_,rfl⟩
 have q0:=fun p hm=>hp p (List.mem_append.2 (.inl hm))
 have r0:=fun p hm=>hp p (List.mem_append.2 (.inr hm))
 refine Ah (Ag (Bi9 a0 r0) (Nat.le_refl _) (Ac (Af _ _) Ao) nx o) fun F N R vs hl=>?_
 obtain⟨v0,w0,rfl,h0,hl⟩:=hl.inv
 exact HL.cons (Am e0 q0 h0) (hl)
noncomputable def Bz7:=A5 108 Ad4 Cd
theorem Blg:Df Try.prog Bz7:=Av A85 By2
def Kv (a0:TCell):Bool:=a0.1.1 !=(0:Int)||a0.1.2 !=(0:Int)||a0.2.1 !=(0:Int)||a0.2.2 !=(0:Int)||a0.3||!a0.4.toList==(ByteArray.mk #[]).toList
def RF (a0:TCell):A:=.v (.bool (Kv a0))
def RE (_a0:TCell):Objs:=[]
def XY (_a0:TCell):List Prop:=[]
set_option maxRecDepth 100000 in
theorem Ay5 (a0:TCell):EU (AA Bz7 L0) 9 106 [Ak .cell a0] 0 []=some (1,RF a0,0,RE a0,[]):=by kernel_rfl
set_option maxRecDepth 100000 in
theorem A2s (a0:TCell) (_hp:∀p∈XY a0,p):CallOk Try.prog 106 [Ak .cell a0] 0 [] 1 (RF a0) 0 (RE a0):=by
 exact AH (Aw Blg AG) (Ay5 a0) Ab
def RG:List A→Nat→Objs→Option A8
 | [y0],nx,o=>match AP .cell y0 with
  |some (a0,p0)=>some (1,(RF a0).pk (AF nx),nx+0,AE nx (RE a0)++o,p0++(XY a0))
  |_=>none
 |_,_,_=>none
theorem As4:Fu Try.prog 106 RG:=fun args nx o k x nx' o' ps h=>by
 unfold RG at h
 split at h<;>first|(cases h;done)|skip
 split at h<;>first|(cases h;done)|skip
 rename_i a0 p0 e0
 cases h
 refine⟨fun hp=>?_,_,rfl⟩
 have q0:=fun p hm=>hp p (List.mem_append.2 (.inl hm))
 have r0:=fun p hm=>hp p (List.mem_append.2 (.inr hm))
 refine Ah (Ag (A2s a0 r0) (Nat.le_refl _) (Ac (Af _ _) Ao) nx o) fun F N R vs hl=>?_
 obtain⟨v0,w0,rfl,h0,hl⟩:=hl.inv
 exact HL.cons (Am e0 q0 h0) (hl)
noncomputable def Bz8:=A5 106 RG Bz7
theorem Blh:Df Try.prog Bz8:=Av As4 Blg
def Po (a0:Int) (a1:TCell):Bool:=bif a0==(1:Int)&&!(a1.5.1==(0:Int)&&a1.5.2==(0:Int))||a0==(2:Int)&&(a1.3||!E0 a1.5)||a0 !=(1:Int)&&a0 !=(2:Int) then false else bif !Kv a1 then true else Ho a1.1&&decide (a1.1.1 >(0:Int))&&E0 a1.2&&decide ((↑a1.4.size:Int)≤(64:Int))&&(!a1.3||a1.4.toList==(ByteArray.mk #[]).toList)
def Adu (a0:Int) (a1:TCell):A:=.v (.bool (Po a0 a1))
def Adt (_a0:Int) (_a1:TCell):Objs:=[]
def Apx (_a0:Int) (_a1:TCell):List Prop:=[]
set_option maxRecDepth 100000 in
theorem Be0 (a0:Int) (a1:TCell):EU (AA Bz8 L0) 9 42 [Ak .i64 a0,Ak .cell a1] 0 []=some (1,Adu a0 a1,0,Adt a0 a1,[]):=by kernel_rfl
set_option maxRecDepth 100000 in
theorem Bi5 (a0:Int) (a1:TCell) (_hp:∀p∈Apx a0 a1,p):CallOk Try.prog 42 [Ak .i64 a0,Ak .cell a1] 0 [] 1 (Adu a0 a1) 0 (Adt a0 a1):=by
 exact AH (Aw Blh AG) (Be0 a0 a1) Ab
def Adv:List A→Nat→Objs→Option A8
 | [y0,y1],nx,o=>match AP .i64 y0,AP .cell y1 with
  |some (a0,p0),some (a1,p1)=>some (1,(Adu a0 a1).pk (AF nx),nx+0,AE nx (Adt a0 a1)++o,p0++(p1++(Apx a0 a1)))
  |_,_=>none
 |_,_,_=>none
theorem A81:Fu Try.prog 42 Adv:=fun args nx o k x nx' o' ps h=>by
 unfold Adv at h
 split at h<;>first|(cases h;done)|skip
 split at h<;>first|(cases h;done)|skip
 rename_i a0 p0 a1 p1 e0 e1
 cases h
 refine⟨fun hp=>?_,_,rfl⟩
 have q0:=fun p hm=>hp p (List.mem_append.2 (.inl hm))
 have r0:=fun p hm=>hp p (List.mem_append.2 (.inr hm))
 have q1:=fun p hm=>r0 p (List.mem_append.2 (.inl hm))
 have r1:=fun p hm=>r0 p (List.mem_append.2 (.inr hm))
 refine Ah (Ag (Bi5 a0 a1 r1) (Nat.le_refl _) (Ac (Af _ _) (Ac (Af _ _) Ao)) nx o) fun F N R vs hl=>?_
 obtain⟨v0,w0,rfl,h0,hl⟩:=hl.inv
 obtain⟨v1,w1,rfl,h1,hl⟩:=hl.inv
 exact HL.cons (Am e0 q0 h0) (HL.cons (Am e1 q1 h1) (hl))
noncomputable def B1x:=A5 42 Adv Bz8
theorem Bvz:Df Try.prog B1x:=Av A81 Blh
theorem XQ (s:TStamp):Ho s=H2 s:=rfl
theorem QB (v:TVec):E0 v=CL v:=by
 unfold E0 CL
 rw[Bool.and_assoc]
theorem XX (c:TCell):Kv c=Cz c:=by
 unfold Kv Cz bne
 rw[Rt]
 generalize (c.1.1==(0:Int))=a
 generalize (c.1.2==(0:Int))=b
 generalize (c.2.1==(0:Int))=d
 generalize (c.2.2==(0:Int))=e
 show(!a||!b||!d||!e||c.gone||!(c.4.size==0))=!(a&&b&&(d&&e)&&(!c.gone&&c.value.size==0))
 cases a<;>cases b<;>cases d<;>cases e<;>cases c.gone<;>simp
theorem Apw (p:Int) (c:TCell):Po p c=Bz p c:=by
 unfold Po Bz bne
 rw[XX,QB,QB,XQ,Rt]
 have h1:(p==(1:Int)&&!(c.5.1==(0:Int)&&c.5.2==(0:Int))||p==(2:Int)&&(c.3||!CL c.5)||!(p==(1:Int))&&!(p==(2:Int)))=(p==1&&!Ht c.dead||(p==2&&(c.gone||!CL c.dead)||!(p==1||p==2))):=by
  rw[Bool.or_assoc,Bool.not_or]
  rfl
 have h2:(!c.3||c.4.size==0)=!(c.gone&&!(c.value.size==0)):=by rw[Bool.not_and,Bool.not_not]
 rw[h1,h2]
noncomputable def Cf:=B1x
theorem Bqz:Df Try.prog Cf:=Bvz
end Go.Proofs.Yteebobbhhgmeiaa
namespace Go.Proofs.Yteebobbhhgmeiaa
open Go.RowKit
theorem A5f {X:Type} (mk:Nat→X) (n:Nat) (stop:Nat→Bool) (next:X→X) (goes:X→Cnd) (ps:X→List Prop)
  (hg:∀i,i≤n→(∀j,j <i→stop j=false)→Bp (goes (mk i))=(decide (i <n)&&!stop i)) (hn:∀i,i <n→(∀j,j <i+1→stop j=false)→next (mk i)=mk (i+1)) (hp:∀i,i≤n→(∀j,j <i→stop j=false)→∀p∈ps (mk i),p):
  ∀(f i:Nat),i≤n→n≤i+f→(∀j,j <i→stop j=false)→
  AL next goes ps f (mk i)∧∃k,k≤n∧A9 next goes f (mk i)=mk k∧(∀j,j <k→stop j=false)∧(k <n→stop k=true)
 |0,i,hi,hf,hs=>by
  have hc:=hg i hi hs
  have:i=n:=by omega
  rw[decide_eq_false (by omega),Bool.false_and] at hc
  exact⟨⟨hp i hi hs,hc⟩,i,hi,rfl,hs,fun h=>by omega⟩
 | f +1,i,hi,hf,hs=>by
  have hc:=hg i hi hs
  cases hb:Bp (goes (mk i)) with
  | false=>
   have e:A9 next goes (f+1) (mk i)=mk i:=by
    show(bif Bp (goes (mk i)) then _ else mk i)=mk i
    rw[hb];rfl
   rw[e]
   refine⟨⟨hp i hi hs,fun h=>by rw[hb] at h;cases h⟩,i,hi,rfl,hs,fun h=>?_⟩
   rw[hb,decide_eq_true h,Bool.true_and] at hc
   cases hst:stop i with
   |true=>rfl
   |false=>rw[hst] at hc;cases hc
  | true=>
   rw[hb] at hc
   have h1:i <n:=by
    cases hd:decide (i <n) with
    |true=>exact of_decide_eq_true hd
    |false=>rw[hd] at hc;cases hc
   have h2:stop i=false:=by
    cases hst:stop i with
    |false=>rfl
    |true=>rw[hst,Bool.and_comm] at hc;cases hc
   have hs':∀j,j <i+1→stop j=false:=fun j hj=>by
    by_cases h:j <i
    ·exact hs j h
    ·obtain rfl:j=i:=by omega
     exact h2
   have e:A9 next goes (f+1) (mk i)=A9 next goes f (mk (i+1)):=by
    show(bif Bp (goes (mk i)) then A9 next goes f (next (mk i)) else mk i)=_
    rw[hb,hn i h1 hs'];rfl
   obtain⟨g1,g2⟩:=A5f mk n stop next goes ps hg hn hp f (i+1) h1 (by omega) hs'
   rw[e]
   exact⟨⟨hp i hi hs,fun _=>by rw[hn i h1 hs'];exact g1⟩,g2⟩
theorem Bpm {X:Type} (mk:Nat→X) (n:Nat) (stop:Nat→Bool) (next:X→X) (goes:X→Cnd) (ps:X→List Prop) (f:Nat) (x:X) (hx:x=mk 0) (hf:n≤f)
  (hg:∀i,i≤n→(∀j,j <i→stop j=false)→Bp (goes (mk i))=(decide (i <n)&&!stop i)) (hn:∀i,i <n→(∀j,j <i+1→stop j=false)→next (mk i)=mk (i+1)) (hp:∀i,i≤n→(∀j,j <i→stop j=false)→∀p∈ps (mk i),p):
  AL next goes ps f x∧∃k,k≤n∧A9 next goes f x=mk k∧(∀j,j <k→stop j=false)∧(k <n→stop k=true):=by
 subst hx
 exact A5f mk n stop next goes ps hg hn hp f 0 (Nat.zero_le _) (by omega) fun j h=>absurd h (Nat.not_lt_zero _)
theorem ES {i:Nat} (h:i <9223372036854775807):IntKind.i64.wrap ((i:Int)+1)=((i+1:Nat):Int):=by rw[i64_in (by omega)];omega
theorem MA {i n:Nat}:decide ((i:Int) <(n:Int))=decide (i <n):=by
 by_cases h:i <n
 ·rw[decide_eq_true h,decide_eq_true (by omega)]
 ·rw[decide_eq_false h,decide_eq_false (by omega)]
theorem nn (b:Bool):(!!b)=b:=Bool.not_not b
theorem Bbx {α:Type} (l:List α) (d:α) (p:α→Bool) (k:Nat) (hk:k≤l.length) (h1:∀j,j <k→p (l.getD j d)=true) (h2:k <l.length→p (l.getD k d)=false):l.all p=decide (¬k <l.length):=by
 by_cases h:k <l.length
 ·rw[decide_eq_false (by omega)]
  have:=h2 h
  rw[List.getD_eq_getElem?_getD,List.getElem?_eq_getElem h,Option.getD_some] at this
  cases ha:l.all p with
  |false=>rfl
  |true=>rw[List.all_eq_true.1 ha _ (List.getElem_mem h)] at this;cases this
 ·rw[decide_eq_true (by omega)]
  refine List.all_eq_true.2 fun x hx=>?_
  obtain⟨i,hi,rfl⟩:=List.mem_iff_getElem.1 hx
  have:=h1 i (by omega)
  rw[List.getD_eq_getElem?_getD,List.getElem?_eq_getElem hi,Option.getD_some] at this
  exact this
def Az (n:Nat):Prop:=n≤9223372036854775807
def Ko (n:Nat) (p:Nat→Bool):Bool:=(List.range n).all p
theorem IU {n:Nat} {p:Nat→Bool}:Ko n p=true↔∀i,i <n→p i=true:=by
 unfold Ko
 rw[List.all_eq_true]
 exact⟨fun h i hi=>h i (List.mem_range.2 hi),fun h i hi=>h i (List.mem_range.1 hi)⟩
theorem IK {n:Nat} {p q:Nat→Bool} (h:∀i,i <n→p i=q i):Ko n p=Ko n q:=by
 rw[Bool.eq_iff_iff,IU,IU]
 exact⟨fun g i hi=>(h i hi)▸g i hi,fun g i hi=>(h i hi).symm▸g i hi⟩
theorem I6 {X:Type} (mk:Nat→X) (n:Nat) (bad:Nat→Bool) (next:X→X) (goes:X→Cnd) (ps:X→List Prop) (f:Nat) (x:X) (hx:x=mk 0) (hf:n≤f)
  (hg:∀i,i≤n→(∀j,j <i→bad j=false)→Bp (goes (mk i))=(decide (i <n)&&!bad i)) (hn:∀i,i <n→(∀j,j <i+1→bad j=false)→next (mk i)=mk (i+1)) (hp:∀i,i≤n→(∀j,j <i→bad j=false)→∀p∈ps (mk i),p):
  AL next goes ps f x∧∃k,k≤n∧A9 next goes f x=mk k∧(∀j,j <k→bad j=false)∧(k <n→bad k=true)∧(decide (k <n)&&bad k)=!Ko n (fun i=>!bad i):=by
 obtain⟨h1,k,hk,h2,h3,h4⟩:=Bpm mk n bad next goes ps f x hx hf hg hn hp
 refine⟨h1,k,hk,h2,h3,h4,?_⟩
 by_cases h:k <n
 ·rw[decide_eq_true h,h4 h]
  cases ha:Ko n (fun i=>!bad i) with
  |false=>rfl
  |true=>have:=IU.1 ha k h;rw[h4 h] at this;cases this
 ·rw[decide_eq_false h,IU.2 (fun i hi=>by rw[h3 i (by omega)];rfl)]
  rfl
theorem Brs {α:Type} (l:List α) (d:α) (p:α→Bool):l.all p=Ko l.length (fun i=>p (l.getD i d)):=by
 rw[Bool.eq_iff_iff,List.all_eq_true,IU]
 constructor
 ·intro h i hi
  rw[List.getD_eq_getElem?_getD,List.getElem?_eq_getElem hi,Option.getD_some]
  exact h _ (List.getElem_mem hi)
 ·intro h x hx
  obtain⟨i,hi,rfl⟩:=List.mem_iff_getElem.1 hx
  have:=h i hi
  rw[List.getD_eq_getElem?_getD,List.getElem?_eq_getElem hi,Option.getD_some] at this
  exact this
theorem Bzo {α β:Type} (l:List α) (r:List β) (d:α) (e:β) (p:α→β→Bool) (h:r.length=l.length):(l.zip r).all (fun x=>p x.1 x.2)=Ko l.length (fun i=>p (l.getD i d) (r.getD i e)):=by
 rw[Brs (l.zip r) (d,e),List.length_zip,h,Nat.min_self]
 refine IK fun i hi=>?_
 rw[List.getD_eq_getElem?_getD,List.getD_eq_getElem?_getD,List.getD_eq_getElem?_getD,List.getElem?_eq_getElem (by rw[List.length_zip];omega),List.getElem?_eq_getElem hi,List.getElem?_eq_getElem (by omega),List.getElem_zip]
 rfl
theorem B3e (n:Nat):(n==0)=!decide (1≤n):=by cases n<;>simp
theorem Ave (n:Nat):((n:Int)==0)=(n==0):=by cases n<;>simp;omega
theorem dgt (n k:Nat):decide ((n:Int) >(k:Int))=decide (k <n):=decide_eq_decide.2 (by omega)
instance:LawfulBEq ByteArray where
 rfl:=fun {a}=>by cases a with|mk a=>exact beq_self_eq_true a
 eq_of_beq:=fun {a b} h=>by
  cases a with|mk a=>cases b with|mk b=>exact congrArg ByteArray.mk (eq_of_beq (α:=Array UInt8) h)
theorem Av8:∀(m:List (ByteArray×Int)) (b:ByteArray) (v:Int) (x:ByteArray),Kq (ZO m b v) x=if x=b then v else Kq m x
 | [],b,v,x=>by
  by_cases h:x=b
  ·subst h;simp[ZO,Kq]
  ·simp[ZO,Kq,h,show(x==b)=false from beq_eq_false_iff_ne.2 h]
 | (a,n)::r,b,v,x=>by
  unfold ZO
  by_cases h:b=a
  ·subst h
   rw[show(b==b)=true from beq_self_eq_true b,cond_true]
   by_cases hx:x=b
   ·subst hx;simp[Kq]
   ·simp[Kq,hx,show(x==b)=false from beq_eq_false_iff_ne.2 hx]
  ·rw[show(b==a)=false from beq_eq_false_iff_ne.2 h,cond_false]
   by_cases hx:x=a
   ·subst hx
    rw[if_neg (fun e=>h e.symm)]
    simp[Kq]
   ·simp only[Kq,show(x==a)=false from beq_eq_false_iff_ne.2 hx,cond_false]
    exact Av8 r b v x
def W6 (b:UInt8):Bool:=decide (97≤b.toNat)&&decide (b.toNat≤122)
def IB (s:ByteArray):Bool:=s.data.toList.all W6&&(decide (1≤s.size)&&decide (s.size≤12))
def Pa (p:Int):Bool:=p==1||p==2
def Q8:List ByteArray→List TGroup→Int
 |_,[]=>0
 |seen,g::r=>bif !(IB g.name&&Pa g.policy) then 2 else bif seen.any (fun s=>s==g.name) then 70 else Q8 (seen++[g.name]) r
def AY (l:List TGroup):Int:=bif l.length==0 then 2 else bif decide (4 <l.length) then 3 else Q8 [] l
theorem K3 (s:ByteArray):s.data.toList.length=s.size:=by show s.data.toList.length=s.data.size;exact Array.length_toList
theorem Bsq (s:ByteArray) (i:Nat) (h:i <s.size):s.data.toList.getD i 0=s[i]'h:=by
 rw[List.getD_eq_getElem?_getD,List.getElem?_eq_getElem (by rw[K3];exact h)]
 rfl
theorem Bgj (s:ByteArray) (i:Nat) (h:i <s.size):(decide (((Utf8.decode s i).1:Int) <97)||decide (((Utf8.decode s i).1:Int) >122))=!W6 (s.data.toList.getD i 0)∧(W6 (s.data.toList.getD i 0)=true→(Utf8.decode s i).2=1):=by
 rw[Bsq s i h]
 by_cases hb:(s[i]'h).toNat <128
 ·rw[decode_ascii s i h hb]
  refine⟨?_,fun _=>rfl⟩
  unfold W6
  rw[Bool.not_and,←decide_not,←decide_not]
  congr 1<;>exact decide_eq_decide.2 (by omega)
 ·have h2:=(decode_high s i h (by omega)).1
  have hl:W6 (s[i]'h)=false:=by unfold W6;rw[decide_eq_false (p:=(s[i]'h).toNat≤122) (by omega),Bool.and_false]
  rw[hl]
  refine⟨?_,fun h=>by cases h⟩
  rw[decide_eq_true (p:=((Utf8.decode s i).1:Int) >122) (by omega),Bool.or_true]
  rfl
theorem Hr {l:List TGroup} (h:AY l=0):1≤l.length∧l.length≤4:=by
 unfold AY at h
 cases h1:l.length==0 with
 |true=>rw[h1] at h;cases h
 | false=>
  rw[h1] at h
  cases h2:decide (4 <l.length) with
  |true=>rw[h2] at h;cases h
  |false=>
   have:=of_decide_eq_false h2
   have h3:l.length≠0:=by simpa using h1
   omega
theorem A4m (l:List TGroup) (k:Nat) (seen:List ByteArray):(∀j,j <k→j <l.length→(IB (l.getD j (Ae TC.group)).name&&Pa (l.getD j (Ae TC.group)).policy)=true∧(seen++(l.take j).map (·.name)).any (fun s=>s==(l.getD j (Ae TC.group)).name)=false)→
  Q8 seen l=Q8 (seen++(l.take k).map (·.name)) (l.drop k):=by
 induction l generalizing k seen with
 |nil=>intro _;simp[Q8]
 | cons g r ih=>
  intro h
  cases k with
  |zero=>simp
  | succ k=>
   obtain⟨h1,h2⟩:=h 0 (Nat.succ_pos _) (Nat.succ_pos _)
   have h1':(IB g.name&&Pa g.policy)=true:=h1
   have h2':seen.any (fun s=>s==g.name)=false:=by simpa using h2
   rw[Q8,h1',h2',Bool.not_true,cond_false,cond_false]
   rw[ih k (seen++[g.name]) (fun j hj hl=>by
    have:=h (j+1) (by omega) (by simpa using hl)
    simpa[List.append_assoc] using this)]
   simp[List.append_assoc]
def SP (l:List TGroup):Nat→List (ByteArray×Int)
 |0=>[]
 |i+1=>ZO (SP l i) (l.getD i (Ae TC.group)).1 (IntKind.i64.wrap (Kq (SP l i) (l.getD i (Ae TC.group)).1+1))
def VJ (l:List TGroup) (i:Nat):Bool:=!(IB (l.getD i (Ae TC.group)).1&&Pa (l.getD i (Ae TC.group)).2)||((l.take i).map (·.name)).any (fun s=>s==(l.getD i (Ae TC.group)).1)
theorem Bkg (l:List TGroup) (i:Nat) (h:i <l.length):(l.take (i+1)).map (·.name)=(l.take i).map (·.name)++[(l.getD i (Ae TC.group)).1]:=by
 rw[List.take_add_one,List.getD_eq_getElem?_getD,List.getElem?_eq_getElem h,List.map_append]
 rfl
theorem Av7 (l:List TGroup):∀(i:Nat),i≤l.length→(∀j,j <i→VJ l j=false)→∀x,Kq (SP l i) x=bif((l.take i).map (·.name)).any (fun s=>s==x) then 1 else 0
 |0,_,_,x=>by simp[SP,Kq]
 | i+1,hi,hs,x=>by
  have ih:=Av7 l i (by omega) (fun j hj=>hs j (by omega))
  have h:=hs i (Nat.lt_succ_self i)
  unfold VJ at h
  have h2:=(Bool.or_eq_false_iff.1 h).2
  unfold SP
  rw[Av8,ih,h2,Bkg l i (by omega),List.any_append,ih]
  by_cases hx:x=(l.getD i (Ae TC.group)).1
  ·subst hx
   rw[if_pos rfl]
   simp
   decide
  ·rw[if_neg hx]
   have:([(l.getD i (Ae TC.group)).1].any fun s=>s==x)=false:=by
    simp only[List.any_cons,List.any_nil,Bool.or_false]
    exact beq_eq_false_iff_ne.2 fun e=>hx e.symm
   rw[this,Bool.or_false]
end Go.Proofs.Yteebobbhhgmeiaa
