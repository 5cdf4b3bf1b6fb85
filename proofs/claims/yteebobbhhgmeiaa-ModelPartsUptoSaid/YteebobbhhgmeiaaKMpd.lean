/- made by a program (rowgen.py): ModelParts: for every input the law returns true, and each argument reads behind the call as it read before. -/
import Derived.Test.YteebobbhhgmeiaaKMpc

set_option maxRecDepth 100000
namespace Go.Proofs.Yteebobbhhgmeiaa
open Go.RowKit
def zc:TC→List Value
 | .u8=>[.int .u8 0]
 | .i64=>[.int .i64 0]
 | .u32=>[.int .u32 0]
 | .bool=>[.bool false]
 | .str=>[.string ByteArray.empty]
 | .bytes=>[.slice none 0 0]
 | .ints=>[.slice none 0 0]
 | .cells=>[.slice none 0 0]
 | .rows=>[.slice none 0 0]
 | .digest=>List.replicate 32 (.int .u8 0)
 |c=>(enc c (Ae c)).map fun x=>match x with
  | .v y=>y
  |_=> .slice none 0 0
theorem B3c (c:TC) (F:Nat→Prop) (N:Nm) (nx:Nat) (R:World):HL F N nx R (enc c (Ae c)) (zc c):=by
 cases c<;>(repeat' (first|exact HL.nil|exact Hv.v _|exact Hv.sl_nil rfl|apply HL.cons))
def GF (P:Program) (t:TypeId):Option (Nat×Option (List Value)):=(P.info? t).map fun i=>(i.size,i.zero.map fun z=>z.cells.toList)
theorem Bve {P:Program} {t:TypeId} {c:TC} (h:GF P t=some (size c,some (zc c))) (h0:0 <size c):∃i,P.info? t=some i∧i.size=size c∧0 <size c∧∃z,i.zero=some z∧∀(F:Nat→Prop) (N:Nm) (nx:Nat) (R:World),HL F N nx R (enc c (Ae c)) z.cells.toList:=by
 unfold GF at h
 cases hi:P.info? t with
 |none=>rw[hi] at h;cases h
 | some i=>
  rw[hi] at h
  have h':some (i.size,i.zero.map fun z=>z.cells.toList)=some (size c,some (zc c)):=h
  injection h' with h'
  injection h' with h1 h2
  cases hz:i.zero with
  |none=>rw[hz] at h2;cases h2
  |some z=>
   rw[hz] at h2
   injection h2 with h2
   have h3:z.cells.toList=zc c:=h2
   exact⟨i,rfl,h1,h0,z,hz,fun F N nx R=>by rw[h3];exact B3c c F N nx R⟩
theorem Bup (c:TC):0 <size c:=by cases c<;>decide
def Bvf (t:TypeId):Option TC:=bif Nat.beq t 2 then some .i64 else bif Nat.beq t 3 then some .i64 else bif Nat.beq t 4 then some .bool else bif Nat.beq t 5 then some .u8 else bif Nat.beq t 9 then some .str else bif Nat.beq t 25 then some .front else bif Nat.beq t 26 then some .i64 else bif Nat.beq t 30 then some .vec else bif Nat.beq t 31 then some .vec else bif Nat.beq t 33 then some .told else bif Nat.beq t 37 then some .front else bif Nat.beq t 51 then some .stamp else bif Nat.beq t 53 then some .ask else bif Nat.beq t 55 then some .cell else bif Nat.beq t 67 then some .rows else bif Nat.beq t 69 then some .cells else bif Nat.beq t 71 then some .row else bif Nat.beq t 79 then some .group else bif Nat.beq t 84 then some .bytes else bif Nat.beq t 94 then some .view else bif Nat.beq t 108 then some .three else bif Nat.beq t 112 then some .two else bif Nat.beq t 133 then some .ints else bif Nat.beq t 136 then some .change else bif Nat.beq t 139 then some .write else bif Nat.beq t 142 then some .field else bif Nat.beq t 226 then some .place else bif Nat.beq t 239 then some .u32 else none
theorem Byg:GF Try.prog 2=some (size .i64,some (zc .i64)):=by kernel_rfl
theorem Byh:GF Try.prog 3=some (size .i64,some (zc .i64)):=by kernel_rfl
theorem Byi:GF Try.prog 4=some (size .bool,some (zc .bool)):=by kernel_rfl
theorem Byj:GF Try.prog 5=some (size .u8,some (zc .u8)):=by kernel_rfl
theorem Byk:GF Try.prog 9=some (size .str,some (zc .str)):=by kernel_rfl
theorem Buz:GF Try.prog 25=some (size .front,some (zc .front)):=by kernel_rfl
theorem Bu0:GF Try.prog 26=some (size .i64,some (zc .i64)):=by kernel_rfl
theorem Bu1:GF Try.prog 30=some (size .vec,some (zc .vec)):=by kernel_rfl
theorem Bu2:GF Try.prog 31=some (size .vec,some (zc .vec)):=by kernel_rfl
theorem Bu3:GF Try.prog 33=some (size .told,some (zc .told)):=by kernel_rfl
theorem Bu4:GF Try.prog 37=some (size .front,some (zc .front)):=by kernel_rfl
theorem Bu5:GF Try.prog 51=some (size .stamp,some (zc .stamp)):=by kernel_rfl
theorem Bu6:GF Try.prog 53=some (size .ask,some (zc .ask)):=by kernel_rfl
theorem Bu7:GF Try.prog 55=some (size .cell,some (zc .cell)):=by kernel_rfl
theorem Bu8:GF Try.prog 67=some (size .rows,some (zc .rows)):=by kernel_rfl
theorem Bu9:GF Try.prog 69=some (size .cells,some (zc .cells)):=by kernel_rfl
theorem Bva:GF Try.prog 71=some (size .row,some (zc .row)):=by kernel_rfl
theorem Bvb:GF Try.prog 79=some (size .group,some (zc .group)):=by kernel_rfl
theorem Bvc:GF Try.prog 84=some (size .bytes,some (zc .bytes)):=by kernel_rfl
theorem Bvd:GF Try.prog 94=some (size .view,some (zc .view)):=by kernel_rfl
theorem Bp0:GF Try.prog 108=some (size .three,some (zc .three)):=by kernel_rfl
theorem Bp1:GF Try.prog 112=some (size .two,some (zc .two)):=by kernel_rfl
theorem Bp2:GF Try.prog 133=some (size .ints,some (zc .ints)):=by kernel_rfl
theorem Bp3:GF Try.prog 136=some (size .change,some (zc .change)):=by kernel_rfl
theorem Bp4:GF Try.prog 139=some (size .write,some (zc .write)):=by kernel_rfl
theorem Bp5:GF Try.prog 142=some (size .field,some (zc .field)):=by kernel_rfl
theorem Bp6:GF Try.prog 226=some (size .place,some (zc .place)):=by kernel_rfl
theorem Bp7:GF Try.prog 239=some (size .u32,some (zc .u32)):=by kernel_rfl
theorem EN {P:Program} {t k:TypeId} {c c0:TC} {r:Option TC} (h:(bif Nat.beq t k then some c0 else r)=some c) (hk:GF P k=some (size c0,some (zc c0))):GF P t=some (size c,some (zc c))∨r=some c:=by
 cases hb:Nat.beq t k with
 |true=>rw[hb] at h;cases h;rw[Nat.eq_of_beq_eq_true hb];exact .inl hk
 |false=>rw[hb] at h;exact .inr h
theorem Bvg:B3e Try.prog Bvf:=fun t c h=>by
 refine Bve ?_ (Bup c)
 unfold Bvf at h
 rcases EN h Byg with h|h
 ·exact h
 rcases EN h Byh with h|h
 ·exact h
 rcases EN h Byi with h|h
 ·exact h
 rcases EN h Byj with h|h
 ·exact h
 rcases EN h Byk with h|h
 ·exact h
 rcases EN h Buz with h|h
 ·exact h
 rcases EN h Bu0 with h|h
 ·exact h
 rcases EN h Bu1 with h|h
 ·exact h
 rcases EN h Bu2 with h|h
 ·exact h
 rcases EN h Bu3 with h|h
 ·exact h
 rcases EN h Bu4 with h|h
 ·exact h
 rcases EN h Bu5 with h|h
 ·exact h
 rcases EN h Bu6 with h|h
 ·exact h
 rcases EN h Bu7 with h|h
 ·exact h
 rcases EN h Bu8 with h|h
 ·exact h
 rcases EN h Bu9 with h|h
 ·exact h
 rcases EN h Bva with h|h
 ·exact h
 rcases EN h Bvb with h|h
 ·exact h
 rcases EN h Bvc with h|h
 ·exact h
 rcases EN h Bvd with h|h
 ·exact h
 rcases EN h Bp0 with h|h
 ·exact h
 rcases EN h Bp1 with h|h
 ·exact h
 rcases EN h Bp2 with h|h
 ·exact h
 rcases EN h Bp3 with h|h
 ·exact h
 rcases EN h Bp4 with h|h
 ·exact h
 rcases EN h Bp5 with h|h
 ·exact h
 rcases EN h Bp6 with h|h
 ·exact h
 rcases EN h Bp7 with h|h
 ·exact h
 cases h
end Go.Proofs.Yteebobbhhgmeiaa
namespace Go.Proofs.Yteebobbhhgmeiaa
open Go.RowKit
theorem eqi (d:Nat) (a b:Int) (w:World):(Op.equalIn (d+1) 3 (.int .i64 a) (.int .i64 b)).run Try.prog w=.ok (a==b) w:=run_equalIn_int w d 3 .i64 .i64 a b Try.underlying3
theorem eqb (d:Nat) (a b:Bool) (w:World):(Op.equalIn (d+1) 4 (.bool a) (.bool b)).run Try.prog w=.ok (a==b) w:=run_equalIn_bool' w d 4 a b Try.underlying4
theorem eqs (d:Nat) (a b:ByteArray) (w:World):(Op.equalIn (d+1) 9 (.string a) (.string b)).run Try.prog w=.ok (a.toList==b.toList) w:=run_equalIn_string w d 9 a b Try.underlying9
@[go_sem] theorem eqVec (d:Nat) (a b x y:Int) (w:World):(Op.equalIn (d+2) 31 (.agg #[.int .i64 a,.int .i64 b]) (.agg #[.int .i64 x,.int .i64 y])).run Try.prog w=.ok (a==x&&b==y) w:=by
 have p0:∀a b w,(part 3 #[.int .i64 a,.int .i64 b] 0).run Try.prog w=Result.ok (.int .i64 a) w:=fun a b w=>by kernel_rfl
 have p1:∀a b w,(part 3 #[.int .i64 a,.int .i64 b] 1).run Try.prog w=Result.ok (.int .i64 b) w:=fun a b w=>by kernel_rfl
 unfold Op.equalIn
 cases h:a==x
 ·simp[Sem.run_bind,run_underlying Try.underlying31,List.range',p0,eqi,h]
 ·cases h':b==y<;>simp[Sem.run_bind,run_underlying Try.underlying31,List.range',p0,p1,eqi,h,h']
@[go_sem] theorem eqInt2 (d:Nat) (a b x y:Int) (w:World):(Op.equalIn (d+2) 30 (.agg #[.int .i64 a,.int .i64 b]) (.agg #[.int .i64 x,.int .i64 y])).run Try.prog w=.ok (a==x&&b==y) w:=by
 have p0:∀a b w,(part 3 #[.int .i64 a,.int .i64 b] 0).run Try.prog w=Result.ok (.int .i64 a) w:=fun a b w=>by kernel_rfl
 have p1:∀a b w,(part 3 #[.int .i64 a,.int .i64 b] 1).run Try.prog w=Result.ok (.int .i64 b) w:=fun a b w=>by kernel_rfl
 unfold Op.equalIn
 cases h:a==x
 ·simp[Sem.run_bind,run_underlying Try.underlying30,List.range',p0,eqi,h]
 ·cases h':b==y<;>simp[Sem.run_bind,run_underlying Try.underlying30,List.range',p0,p1,eqi,h,h']
@[go_sem] theorem eqStamp (d:Nat) (a b x y:Int) (w:World):(Op.equalIn (d+2) 51 (.agg #[.int .i64 a,.int .i64 b]) (.agg #[.int .i64 x,.int .i64 y])).run Try.prog w=.ok (a==x&&b==y) w:=by
 rw[run_equalIn_struct w (d+1) 51 _ _ (by kernel_rfl) (by kernel_rfl)]
 have p0:∀a b w,(part 3 #[.int .i64 a,.int .i64 b] 0).run Try.prog w=Result.ok (.int .i64 a) w:=fun a b w=>by kernel_rfl
 have p1:∀a b w,(part 3 #[.int .i64 a,.int .i64 b] 1).run Try.prog w=Result.ok (.int .i64 b) w:=fun a b w=>by kernel_rfl
 cases h:a==x
 ·simp[Program.fieldsOf,Try.underlying51,Op.eqFields,Sem.run_bind,p0,eqi,h]
 ·cases h':b==y<;>simp[Program.fieldsOf,Try.underlying51,Op.eqFields,Sem.run_bind,p0,p1,eqi,h,h']
@[go_sem] theorem eqFront (d:Nat) (a b c e f u v x y z:Int) (w:World):(Op.equalIn (d+2) 25 (.agg #[.int .i64 a,.int .i64 b,.int .i64 c,.int .i64 e,.int .i64 f]) (.agg #[.int .i64 u,.int .i64 v,.int .i64 x,.int .i64 y,.int .i64 z])).run Try.prog w=.ok (a==u&&(b==v&&(c==x&&(e==y&&(f==z))))) w:=by
 rw[run_equalIn_struct w (d+1) 25 _ _ (by kernel_rfl) (by kernel_rfl)]
 have p0:∀a b c e f w,(part 3 #[.int .i64 a,.int .i64 b,.int .i64 c,.int .i64 e,.int .i64 f] 0).run Try.prog w=Result.ok (.int .i64 a) w:=fun a b c e f w=>by kernel_rfl
 have p1:∀a b c e f w,(part 3 #[.int .i64 a,.int .i64 b,.int .i64 c,.int .i64 e,.int .i64 f] 1).run Try.prog w=Result.ok (.int .i64 b) w:=fun a b c e f w=>by kernel_rfl
 have p2:∀a b c e f w,(part 3 #[.int .i64 a,.int .i64 b,.int .i64 c,.int .i64 e,.int .i64 f] 2).run Try.prog w=Result.ok (.int .i64 c) w:=fun a b c e f w=>by kernel_rfl
 have p3:∀a b c e f w,(part 3 #[.int .i64 a,.int .i64 b,.int .i64 c,.int .i64 e,.int .i64 f] 3).run Try.prog w=Result.ok (.int .i64 e) w:=fun a b c e f w=>by kernel_rfl
 have p4:∀a b c e f w,(part 3 #[.int .i64 a,.int .i64 b,.int .i64 c,.int .i64 e,.int .i64 f] 4).run Try.prog w=Result.ok (.int .i64 f) w:=fun a b c e f w=>by kernel_rfl
 cases h0:a==u
 ·simp[Program.fieldsOf,Try.underlying25,Op.eqFields,Sem.run_bind,p0,eqi,h0]
 ·cases h1:b==v
  ·simp[Program.fieldsOf,Try.underlying25,Op.eqFields,Sem.run_bind,p0,p1,eqi,h0,h1]
  ·cases h2:c==x
   ·simp[Program.fieldsOf,Try.underlying25,Op.eqFields,Sem.run_bind,p0,p1,p2,eqi,h0,h1,h2]
   ·cases h3:e==y
    ·simp[Program.fieldsOf,Try.underlying25,Op.eqFields,Sem.run_bind,p0,p1,p2,p3,eqi,h0,h1,h2,h3]
    ·cases h4:f==z
     ·simp[Program.fieldsOf,Try.underlying25,Op.eqFields,Sem.run_bind,p0,p1,p2,p3,p4,eqi,h0,h1,h2,h3,h4]
     ·simp[Program.fieldsOf,Try.underlying25,Op.eqFields,Sem.run_bind,p0,p1,p2,p3,p4,eqi,h0,h1,h2,h3,h4]
@[go_sem] theorem eqRFront (d:Nat) (a b c e f u v x y z:Int) (w:World):(Op.equalIn (d+2) 37 (.agg #[.int .i64 a,.int .i64 b,.int .i64 c,.int .i64 e,.int .i64 f]) (.agg #[.int .i64 u,.int .i64 v,.int .i64 x,.int .i64 y,.int .i64 z])).run Try.prog w=.ok (a==u&&(b==v&&(c==x&&(e==y&&(f==z))))) w:=by
 rw[run_equalIn_struct w (d+1) 37 _ _ (by kernel_rfl) (by kernel_rfl)]
 have p0:∀a b c e f w,(part 3 #[.int .i64 a,.int .i64 b,.int .i64 c,.int .i64 e,.int .i64 f] 0).run Try.prog w=Result.ok (.int .i64 a) w:=fun a b c e f w=>by kernel_rfl
 have p1:∀a b c e f w,(part 3 #[.int .i64 a,.int .i64 b,.int .i64 c,.int .i64 e,.int .i64 f] 1).run Try.prog w=Result.ok (.int .i64 b) w:=fun a b c e f w=>by kernel_rfl
 have p2:∀a b c e f w,(part 3 #[.int .i64 a,.int .i64 b,.int .i64 c,.int .i64 e,.int .i64 f] 2).run Try.prog w=Result.ok (.int .i64 c) w:=fun a b c e f w=>by kernel_rfl
 have p3:∀a b c e f w,(part 3 #[.int .i64 a,.int .i64 b,.int .i64 c,.int .i64 e,.int .i64 f] 3).run Try.prog w=Result.ok (.int .i64 e) w:=fun a b c e f w=>by kernel_rfl
 have p4:∀a b c e f w,(part 3 #[.int .i64 a,.int .i64 b,.int .i64 c,.int .i64 e,.int .i64 f] 4).run Try.prog w=Result.ok (.int .i64 f) w:=fun a b c e f w=>by kernel_rfl
 cases h0:a==u
 ·simp[Program.fieldsOf,Try.underlying37,Op.eqFields,Sem.run_bind,p0,eqi,h0]
 ·cases h1:b==v
  ·simp[Program.fieldsOf,Try.underlying37,Op.eqFields,Sem.run_bind,p0,p1,eqi,h0,h1]
  ·cases h2:c==x
   ·simp[Program.fieldsOf,Try.underlying37,Op.eqFields,Sem.run_bind,p0,p1,p2,eqi,h0,h1,h2]
   ·cases h3:e==y
    ·simp[Program.fieldsOf,Try.underlying37,Op.eqFields,Sem.run_bind,p0,p1,p2,p3,eqi,h0,h1,h2,h3]
    ·cases h4:f==z
     ·simp[Program.fieldsOf,Try.underlying37,Op.eqFields,Sem.run_bind,p0,p1,p2,p3,p4,eqi,h0,h1,h2,h3,h4]
     ·simp[Program.fieldsOf,Try.underlying37,Op.eqFields,Sem.run_bind,p0,p1,p2,p3,p4,eqi,h0,h1,h2,h3,h4]
@[go_sem] theorem eqCell (d:Nat) (a0 a1 a2 a3 a6 a7 b0 b1 b2 b3 b6 b7:Int) (a4 b4:Bool) (a5 b5:ByteArray) (w:World):(Op.equalIn (d+3) 55 (.agg #[.int .i64 a0,.int .i64 a1,.int .i64 a2,.int .i64 a3,.bool a4,.string a5,.int .i64 a6,.int .i64 a7]) (.agg #[.int .i64 b0,.int .i64 b1,.int .i64 b2,.int .i64 b3,.bool b4,.string b5,.int .i64 b6,.int .i64 b7])).run Try.prog w=.ok ((a0==b0&&a1==b1)&&((a2==b2&&a3==b3)&&((a4==b4)&&((a5.toList==b5.toList)&&(a6==b6&&a7==b7))))) w:=by
 rw[run_equalIn_struct w (d+2) 55 _ _ (by kernel_rfl) (by kernel_rfl)]
 have p0:∀(a0 a1 a2 a3 a6 a7:Int) (a4:Bool) (a5:ByteArray) (w:World),(part 51 #[.int .i64 a0,.int .i64 a1,.int .i64 a2,.int .i64 a3,.bool a4,.string a5,.int .i64 a6,.int .i64 a7] 0).run Try.prog w=Result.ok (.agg #[.int .i64 a0,.int .i64 a1]) w:=fun _ _ _ _ _ _ _ _ _=>by kernel_rfl
 have p1:∀(a0 a1 a2 a3 a6 a7:Int) (a4:Bool) (a5:ByteArray) (w:World),(part 31 #[.int .i64 a0,.int .i64 a1,.int .i64 a2,.int .i64 a3,.bool a4,.string a5,.int .i64 a6,.int .i64 a7] 2).run Try.prog w=Result.ok (.agg #[.int .i64 a2,.int .i64 a3]) w:=fun _ _ _ _ _ _ _ _ _=>by kernel_rfl
 have p2:∀(a0 a1 a2 a3 a6 a7:Int) (a4:Bool) (a5:ByteArray) (w:World),(part 4 #[.int .i64 a0,.int .i64 a1,.int .i64 a2,.int .i64 a3,.bool a4,.string a5,.int .i64 a6,.int .i64 a7] 4).run Try.prog w=Result.ok (.bool a4) w:=fun _ _ _ _ _ _ _ _ _=>by kernel_rfl
 have p3:∀(a0 a1 a2 a3 a6 a7:Int) (a4:Bool) (a5:ByteArray) (w:World),(part 9 #[.int .i64 a0,.int .i64 a1,.int .i64 a2,.int .i64 a3,.bool a4,.string a5,.int .i64 a6,.int .i64 a7] 5).run Try.prog w=Result.ok (.string a5) w:=fun _ _ _ _ _ _ _ _ _=>by kernel_rfl
 have p4:∀(a0 a1 a2 a3 a6 a7:Int) (a4:Bool) (a5:ByteArray) (w:World),(part 31 #[.int .i64 a0,.int .i64 a1,.int .i64 a2,.int .i64 a3,.bool a4,.string a5,.int .i64 a6,.int .i64 a7] 6).run Try.prog w=Result.ok (.agg #[.int .i64 a6,.int .i64 a7]) w:=fun _ _ _ _ _ _ _ _ _=>by kernel_rfl
 cases h0:(a0==b0&&a1==b1)
 ·simp only[Program.fieldsOf,Try.underlying55,Op.eqFields,Sem.run_bind,Sem.run_ite,Sem.run_pure,Result.andThen_ok,p0,eqStamp,h0];simp
 ·cases h1:(a2==b2&&a3==b3)
  ·simp only[Program.fieldsOf,Try.underlying55,Op.eqFields,Sem.run_bind,Sem.run_ite,Sem.run_pure,Result.andThen_ok,p0,p1,eqStamp,eqVec,h0,h1];simp
  ·cases h2:(a4==b4)
   ·simp only[Program.fieldsOf,Try.underlying55,Op.eqFields,Sem.run_bind,Sem.run_ite,Sem.run_pure,Result.andThen_ok,p0,p1,p2,eqStamp,eqVec,eqb,h0,h1,h2];simp
   ·cases h3:(a5.toList==b5.toList)
    ·simp only[Program.fieldsOf,Try.underlying55,Op.eqFields,Sem.run_bind,Sem.run_ite,Sem.run_pure,Result.andThen_ok,p0,p1,p2,p3,eqStamp,eqVec,eqb,eqs,h0,h1,h2,h3];simp
    ·cases h4:(a6==b6&&a7==b7)
     ·simp only[Program.fieldsOf,Try.underlying55,Op.eqFields,Sem.run_bind,Sem.run_ite,Sem.run_pure,Result.andThen_ok,p0,p1,p2,p3,p4,eqStamp,eqVec,eqb,eqs,h0,h1,h2,h3,h4];simp
     ·simp only[Program.fieldsOf,Try.underlying55,Op.eqFields,Sem.run_bind,Sem.run_ite,Sem.run_pure,Result.andThen_ok,p0,p1,p2,p3,p4,eqStamp,eqVec,eqb,eqs,h0,h1,h2,h3,h4];simp
theorem Bds:Try.prog.eqGuardType Try.prog.depth 31=false:=by kernel_rfl
@[go_sem] theorem grdVec (op:BinOp) (x y:Operand) (xs ys:Array Value) (w:World):(eqGuard op 31 x y (.agg xs) (.agg ys)).run Try.prog w=.ok () w:=run_eqGuard_agg w op 31 x y xs ys Bds
theorem Bov:Try.prog.eqGuardType Try.prog.depth 30=false:=by kernel_rfl
@[go_sem] theorem grdInt2 (op:BinOp) (x y:Operand) (xs ys:Array Value) (w:World):(eqGuard op 30 x y (.agg xs) (.agg ys)).run Try.prog w=.ok () w:=run_eqGuard_agg w op 30 x y xs ys Bov
theorem Awd:Try.prog.eqGuardType Try.prog.depth 51=false:=by kernel_rfl
@[go_sem] theorem grdStamp (op:BinOp) (x y:Operand) (xs ys:Array Value) (w:World):(eqGuard op 51 x y (.agg xs) (.agg ys)).run Try.prog w=.ok () w:=run_eqGuard_agg w op 51 x y xs ys Awd
theorem Bie:Try.prog.eqGuardType Try.prog.depth 25=false:=by kernel_rfl
@[go_sem] theorem grdFront (op:BinOp) (x y:Operand) (xs ys:Array Value) (w:World):(eqGuard op 25 x y (.agg xs) (.agg ys)).run Try.prog w=.ok () w:=run_eqGuard_agg w op 25 x y xs ys Bie
theorem Aon:Try.prog.eqGuardType Try.prog.depth 37=false:=by kernel_rfl
@[go_sem] theorem grdRFront (op:BinOp) (x y:Operand) (xs ys:Array Value) (w:World):(eqGuard op 37 x y (.agg xs) (.agg ys)).run Try.prog w=.ok () w:=run_eqGuard_agg w op 37 x y xs ys Aon
theorem A4o:Try.prog.eqGuardType Try.prog.depth 55=false:=by kernel_rfl
@[go_sem] theorem grdCell (op:BinOp) (x y:Operand) (xs ys:Array Value) (w:World):(eqGuard op 55 x y (.agg xs) (.agg ys)).run Try.prog w=.ok () w:=run_eqGuard_agg w op 55 x y xs ys A4o
end Go.Proofs.Yteebobbhhgmeiaa
namespace Go.Proofs.Yteebobbhhgmeiaa
open Go.RowKit
instance (n:Nat):Decidable (ZF n):=.isFalse id
theorem B3b:Try.prog.follows .mixedOrders=true:=by kernel_rfl
theorem Bid:Try.prog.eqGuardType Try.prog.depth 142=false:=by kernel_rfl
theorem Bw0 (d:Nat) (a x:Int) (b y:ByteArray) (w:World):(Op.equalIn (d+2) 142 (.agg #[.int .i64 a,.string b]) (.agg #[.int .i64 x,.string y])).run Try.prog w=.ok (a==x&&b.toList==y.toList) w:=by
 rw[run_equalIn_struct w (d+1) 142 _ _ (by kernel_rfl) (by kernel_rfl)]
 have p0:∀a b w,(part 3 #[.int .i64 a,.string b] 0).run Try.prog w=Result.ok (.int .i64 a) w:=fun a b w=>by kernel_rfl
 have p1:∀a b w,(part 9 #[.int .i64 a,.string b] 1).run Try.prog w=Result.ok (.string b) w:=fun a b w=>by kernel_rfl
 cases h:a==x
 ·simp[Program.fieldsOf,Try.underlying142,Op.eqFields,Sem.run_bind,p0,eqi,h]
 ·cases h':b.toList==y.toList<;>simp[Program.fieldsOf,Try.underlying142,Op.eqFields,Sem.run_bind,p0,p1,eqi,eqs,h,h']
def Bw1:List Value→List Value→Option Bool
 | [.int .i64 a,.int .i64 b],[.int .i64 x,.int .i64 y]=>some (a==x&&b==y)
 |_,_=>none
def B2j:List Value→List Value→Option Bool
 | [.int .i64 a,.string b],[.int .i64 x,.string y]=>some (a==x&&b.toList==y.toList)
 |_,_=>none
def B2k:List Value→List Value→Option Bool
 | [.int .i64 a,.int .i64 b,.int .i64 c,.int .i64 e,.int .i64 f],[.int .i64 u,.int .i64 v,.int .i64 x,.int .i64 y,.int .i64 z]=>some (a==u&&(b==v&&(c==x&&(e==y&&f==z))))
 |_,_=>none
def B2i:List Value→List Value→Option Bool
 | [.int .i64 a0,.int .i64 a1,.int .i64 a2,.int .i64 a3,.bool a4,.string a5,.int .i64 a6,.int .i64 a7],[.int .i64 b0,.int .i64 b1,.int .i64 b2,.int .i64 b3,.bool b4,.string b5,.int .i64 b6,.int .i64 b7]=>
  some ((a0==b0&&a1==b1)&&((a2==b2&&a3==b3)&&((a4==b4)&&((a5.toList==b5.toList)&&(a6==b6&&a7==b7)))))
 |_,_=>none
def Bsl (t:TypeId) (xs ys:List Value):Option Bool:=
 bif Nat.beq t 31 then Bw1 xs ys else bif Nat.beq t 51 then Bw1 xs ys else bif Nat.beq t 55 then B2i xs ys else bif Nat.beq t 142 then B2j xs ys else bif Nat.beq t 37 then B2k xs ys else none
theorem Bsm:B3d Try.prog Bsl:=fun t xs ys b h=>by
 unfold Bsl at h
 cases h1:Nat.beq t 31 with
 |true=>
  rw[h1] at h
  rw[Nat.eq_of_beq_eq_true h1]
  refine⟨Bds,fun R=>?_⟩
  unfold Bw1 at h
  simp only[cond_true] at h
  split at h<;>first|(cases h;done)|skip
  cases h
  exact eqVec 9998 _ _ _ _ R
 |false=>
 cases h2:Nat.beq t 51 with
 |true=>
  rw[h1,h2] at h
  rw[Nat.eq_of_beq_eq_true h2]
  refine⟨Awd,fun R=>?_⟩
  unfold Bw1 at h
  simp only[cond_true,cond_false] at h
  split at h<;>first|(cases h;done)|skip
  cases h
  exact eqStamp 9998 _ _ _ _ R
 |false=>
 cases h3:Nat.beq t 55 with
 |true=>
  rw[h1,h2,h3] at h
  rw[Nat.eq_of_beq_eq_true h3]
  refine⟨A4o,fun R=>?_⟩
  unfold B2i at h
  simp only[cond_true,cond_false] at h
  split at h<;>first|(cases h;done)|skip
  cases h
  exact eqCell 9997 _ _ _ _ _ _ _ _ _ _ _ _ _ _ _ _ R
 |false=>
 cases h4:Nat.beq t 142 with
 |true=>
  rw[h1,h2,h3,h4] at h
  rw[Nat.eq_of_beq_eq_true h4]
  refine⟨Bid,fun R=>?_⟩
  unfold B2j at h
  simp only[cond_true,cond_false] at h
  split at h<;>first|(cases h;done)|skip
  cases h
  exact Bw0 9998 _ _ _ _ R
 |false=>
 cases h5:Nat.beq t 37 with
 |true=>
  rw[h1,h2,h3,h4,h5] at h
  rw[Nat.eq_of_beq_eq_true h5]
  refine⟨Aon,fun R=>?_⟩
  unfold B2k at h
  simp only[cond_true,cond_false] at h
  split at h<;>first|(cases h;done)|skip
  cases h
  rw[eqRFront 9998]
 |false=>
  rw[h1,h2,h3,h4,h5] at h
  cases h
noncomputable def AA (C:Tab) (L:A6e):Env:=⟨Try.prog,Bsl,C,false,Bvf,L⟩
theorem Bwz {C:Tab} {L:A6e} (hC:Dd Try.prog C) (hL:∀l s b ps outs,L l s=some (b,ps,outs)→Wf s ⟨ps,outs,none⟩∧Bx (AA C L) b s ps outs):VO (AA C L) where
 suf f args nx o k x nx' o' ps h:=(hC f args nx o k x nx' o' ps h).2
 wide:=B3b
 eq:=Bsm
 C f args nx o k x nx' o' ps h:=(hC f args nx o k x nx' o' ps h).1
 tc:=Bvg
 loops:=hL
end Go.Proofs.Yteebobbhhgmeiaa
namespace Go.Proofs.Yteebobbhhgmeiaa
open Go.RowKit
def Hr (L:A6e):Prop:=∀l s b ps outs,L l s=some (b,ps,outs)→Wf s ⟨ps,outs,none⟩∧Bx (AA C0 L0) b s ps outs
theorem AH:Hr L0:=fun _ _ _ _ _ h=>by cases h
theorem A6 {l0:Nat} {g:St→Option (Code×List Prop×Bo)} {L:A6e} (hg:∀s b ps outs,g s=some (b,ps,outs)→Wf s ⟨ps,outs,none⟩∧Bx (AA C0 L0) b s ps outs) (hL:Hr L):Hr (DP l0 g L):=fun l s b ps outs h=>by
 unfold DP at h
 cases hb:Nat.beq l l0 with
 |true=>rw[hb] at h;exact hg s b ps outs h
 |false=>rw[hb] at h;exact hL l s b ps outs h
theorem Aw {C:Tab} {L:A6e} (hC:Dd Try.prog C) (hL:Hr L):VO (AA C L):=Bwz hC hL
theorem Bm {C:Tab} {L:A6e} (hC:Dd Try.prog C) (hL:Hr L) {u:Nat} {b:Code} {S:Dj} {En:DB} {X:Type} {T:X→St} {unT:St→Option X} {fuel:X→Nat} {next:X→X} {goes:X→Cnd} {psA ps:X→List Prop} {outs:X→Bo} (hS:okL S.nb S.nx1 S.ren=true) (hnb:S.nb≤S.nx1)
  (hr:∀x,Bz (AA C L) u b S (T x)=some (psA x,outs x,goes x,T (next x))) (hA:∀x,(∀p∈ps x,p)→∀p∈psA x,p) (hu:∀s x,unT s=some x→s=T x)
  (hw:∀x,Oe (outs x)∧∀t c y,AX t (outs x)=some (c,y)→y.n=(T x).n) (hTn:∀x y,(T x).n=(T y).n):∀s b0 qs os,H1 (AA C L) b S En unT fuel next goes ps outs s=some (b0,qs,os)→Wf s ⟨qs,os,none⟩∧Bx (AA C0 L0) b0 s qs os:=
 fun _ _ _ _ he=>Bx7 (Aw hC hL) hS hnb hr hA hu hw hTn he
def Biz (n:Nat):Bo→Bool
 | []=>true
 |(t,_,s)::r=>Nat.beq s.n n&&((match AX t r with|some _=>false|none=>true)&&Biz n r)
theorem AW {n:Nat}:∀{o:Bo},Biz n o=true→Oe o∧∀t c y,AX t o=some (c,y)→y.n=n
 | [],_=>⟨trivial,fun t c y h=>by cases h⟩
 | (k,d,s)::r,h=>by
  unfold Biz at h
  simp only[Bool.and_eq_true] at h
  obtain⟨h1,h2,h3⟩:=h
  obtain⟨g1,g2⟩:=AW h3
  refine⟨⟨?_,g1⟩,fun t c y hy=>?_⟩
  ·cases hg:AX k r with
   |none=>rfl
   |some x=>rw[hg] at h2;cases h2
  ·have hy':(bif FE k t then some (d,s) else AX t r)=some (c,y):=hy
   cases hb:FE k t with
   |true=>rw[hb] at hy';cases hy';exact Nat.eq_of_beq_eq_true h1
   |false=>rw[hb] at hy';exact g2 t c y hy'
theorem Ba0 (x:Int):0≤IntKind.u8.wrap x∧IntKind.u8.wrap x <256:=by
 simp only[IntKind.wrap,IntKind.bits,IntKind.signed]
 have h1:=Int.emod_nonneg x (show(256:Int)≠0 by decide)
 have h2:=Int.emod_lt_of_pos x (show(0:Int) <256 by decide)
 exact⟨h1,h2⟩
theorem Byt (x:Int):0≤IntKind.u64.wrap x:=by
 simp only[IntKind.wrap,IntKind.bits,IntKind.signed]
 exact Int.emod_nonneg x (by decide)
def B2g (c:TC) (x:A):Option (U c×List Prop):=match Akb x with
 |some cs=>Ze c cs
 |none=>none
def Kh (c:TC):A→Option (List (U c))
 | .sl c' l=>match TC.same c' c with
  |some h=>some (Aob h.down l)
  |none=>none
 | .nl=>some []
 | .v x=>bif Ea x then some [] else none
 |_=>none
section
variable {F:Nat→Prop} {N:Nm} {nx:Nat} {R:World}
theorem BX {c:TC} {x:A} {l:List (U c)} {v:Value} (he:Kh c x=some l) (h:Hv F N nx R x v):Hv F N nx R (.sl c l) v:=by
 unfold Kh at he
 split at he<;>first|(cases he;done)|skip
 ·split at he<;>first|(cases he;done)|skip
  rename_i h1 _
  obtain⟨h1⟩:=h1
  subst h1
  cases he
  exact h
 ·cases he
  obtain⟨a,e⟩:=h.nl_inv
  exact Hv.sl_nil e
 ·rename_i x
  cases hb:Ea x with
  |false=>rw[hb] at he;cases he
  |true=>
   rw[hb] at he
   cases he
   exact Hv.sl_nil (by rw[h.v_inv,GH hb])
theorem Bs0 {c:TC} {d:U c} {vs:List Value} (h:HL F N nx R (enc c d) vs) (ha:c.isAgg=true):Hv F N nx R (Ak c d) (.agg vs.toArray):=by
 unfold Ak
 rw[ha]
 exact YG h
theorem Bs1 {c:TC} {d:U c} {vs:List Value} {v:Value} (h:HL F N nx R (enc c d) vs) (ha:c.isAgg=false) (hv:vs[0]?=some v):Hv F N nx R (Ak c d) v:=by
 unfold Ak
 rw[ha]
 show Hv F N nx R (match enc c d with|x::_=>x| []=> .dead) v
 generalize enc c d=l at h
 cases l with
 |nil=>exact .dead _
 |cons x r=>
  obtain⟨w,ws,rfl,h1,_⟩:=h.inv
  cases hv
  exact h1
def UF (c:TC):A→Bool
 | .v (.agg _)=>c.isAgg
 | .agg _=>c.isAgg
 | .v (.tuple _)=>false
 | .v x=>!c.isAgg&&x.oneCell'
 | .opt _ _ _=>false
 | .tup _=>false
 | .dead=>false
 | .it _ _=>false
 | .sq _=>false
 | .dq _=>false
 | .iv _ _=>false
 | .de _ _ _ _=>false
 | .ie _ _ _ _ _=>false
 |_=>!c.isAgg
def AQ (c:TC) (x:A):Option (U c×List Prop):=bif UF c x then B2g c x else none
theorem Am {c:TC} {x:A} {d:U c} {ps:List Prop} {v:Value} (he:AQ c x=some (d,ps)) (hp:∀p∈ps,p) (h:Hv F N nx R x v):Hv F N nx R (Ak c d) v:=by
 unfold AQ at he
 cases hf:UF c x with
 |false=>rw[hf] at he;cases he
 | true=>
  rw[hf] at he
  simp only[cond_true] at he
  unfold B2g at he
  split at he<;>first|(cases he;done)|skip
  rename_i cs hcs
  have hd:=A6x (F:=F) (N:=N) (nx:=nx) (R:=R) he hp
  have single:∀{y:A},Hv F N nx R y v→cs=[y]→c.isAgg=false→Hv F N nx R (Ak c d) v:=fun {y} hy e hc=>by
   subst e
   exact Bs1 (hd [v] (HL.cons hy HL.nil)) hc rfl
  cases x<;>first|(cases hf;done)|skip
  ·rename_i y
   have hv:=h.v_inv
   subst hv
   cases hcs
   have hl:HL F N nx R (toL v.cells.toList) v.cells.toList:=HL.toL _
   cases v with
   |agg xs=>
    have hl':HL F N nx R (toL xs.toList) xs.toList:=hl
    have:=Bs0 (hd _ hl') hf
    simpa using this
   |tuple xs=>cases hf
   |_=>
    simp only[UF,Bool.and_eq_true,Bool.not_eq_true'] at hf
    exact Bs1 (hd _ hl) hf.1 rfl
  ·cases hcs
   exact single h rfl (by simpa[UF] using hf)
  ·cases hcs
   exact single h rfl (by simpa[UF] using hf)
  ·cases hcs
   exact single h rfl (by simpa[UF] using hf)
  ·cases hcs
   exact single h rfl (by simpa[UF] using hf)
  ·cases hcs
   exact single h rfl (by simpa[UF] using hf)
  ·cases hcs
   exact single h rfl (by simpa[UF] using hf)
  ·cases hcs
   exact single h rfl (by simpa[UF] using hf)
  ·cases hcs
   exact single h rfl (by simpa[UF] using hf)
  ·cases hcs
   exact single h rfl (by simpa[UF] using hf)
  ·cases hcs
   obtain⟨vs,rfl,h2⟩:=h.agg_inv
   exact Bs0 (hd _ h2) hf
end
theorem Ao:freeL []=true:=by unfold freeL;rfl
theorem Ac {x:A} {r:List A} (h:x.free=true) (k:freeL r=true):freeL (x::r)=true:=by unfold freeL;rw[h,k];rfl
theorem Af (c:TC) (d:U c):(Ak c d).free=true:=by
 have hfr:∀l:List A,(∀x∈l,x.free=true)→freeL l=true:=fun l=>by
  induction l with
  |nil=>intro _;unfold freeL;rfl
  |cons x r ih=>intro h;unfold freeL;rw[h x (List.mem_cons_self ..),ih fun y hy=>h y (List.mem_cons_of_mem _ hy)];rfl
 have h:=Bdb c d
 unfold Ak
 cases c.isAgg with
 |true=>
  show(VQ (enc c d)).free=true
  unfold VQ
  split
  ·unfold A.free;rfl
  ·unfold A.free;exact hfr _ h
 |false=>
  show A.free (match enc c d with|x::_=>x| []=> .dead)=true
  have hl:=Ab2 c d
  have hs:0 <size c:=by cases c<;>decide
  generalize enc c d=l at h hl
  cases l with
  |nil=>rw[←hl] at hs;cases hs
  |cons x r=>exact h x (List.mem_cons_self ..)
theorem Ah {P:Program} {f:FuncId} {args args':List A} {nx k nx':Nat} {o o':Objs} {x:A} (h:CallOk P f args' nx o k x nx' o') (ha:∀(F:Nat→Prop) (N:Nm) (R:World) (vs:List Value),HL F N nx R args vs→HL F N nx R args' vs):CallOk P f args nx o k x nx' o':=
 fun F N R vs hh hl=>h F N R vs hh (ha F N R vs hl)
inductive Kd where
 |l (c:TC)
 |t (c:TC)
def Fn (X:Type):List Kd→Type
 | []=>X
 | .l c::r=>List (U c)→Fn X r
 | .t c::r=>U c→Fn X r
end Go.Proofs.Yteebobbhhgmeiaa
namespace Go.Proofs.Yteebobbhhgmeiaa
open Go.RowKit
def I4 (k:IntKind) (n:Int):Prop:=(Lit.int k n).wf=true
def WfS (x:TStamp):Prop:=I4 .i64 x.n∧I4 .i64 x.site
def WfV (x:TVec):Prop:=I4 .i64 x.a∧I4 .i64 x.b
def Abp (x:TCell):Prop:=WfS x.stamp∧WfV x.vec∧True∧x.value.size≤maxLen∧WfV x.dead
def Bmg (x:TRow):Prop:=x.key.size≤maxLen∧(x.cells.length≤maxLen∧∀y∈x.cells,Abp y)
def Bmh (x:TWrite):Prop:=x.key.size≤maxLen∧I4 .i64 x.group∧True∧x.value.size≤maxLen
def Bmf (x:TField):Prop:=I4 .i64 x.group∧x.value.size≤maxLen
def Wfd:(c:TC)→U c→Prop
 | .i64,n=>I4 .i64 n
 | .u32,n=>I4 .u32 n
 | .str,s=>s.size≤maxLen
 | .vec,x=>WfV x
 | .stamp,x=>WfS x
 | .cell,x=>Abp x
 | .group,x=>x.name.size≤maxLen∧I4 .i64 x.policy
 | .write,x=>Bmh x
 | .row,x=>Bmg x
 | .change,x=>I4 .i64 x.site∧I4 .i64 x.seq∧WfS x.stamp∧WfV x.vec∧(x.writes.length≤maxLen∧∀y∈x.writes,Bmh y)
 | .field,x=>Bmf x
 | .view,x=>x.key.size≤maxLen∧(x.fields.length≤maxLen∧∀y∈x.fields,Bmf y)
 | .told,x=>I4 .i64 x.ack∧I4 .i64 x.own∧I4 .i64 x.come
 | .act,x=>I4 .i64 x.kind∧Bmg x.row∧x.til.size≤maxLen∧I4 .i64 x.n
 | .front,x=>I4 .i64 x.site∧I4 .i64 x.acked∧I4 .i64 x.stable∧I4 .i64 x.wait∧I4 .i64 x.til
 | .ask,x=>WfS x.stamp∧WfV x.vec∧True∧x.value.size≤maxLen
 | .two,x=>Bmg x.row∧I4 .i64 x.group∧Abp x.cell
 | .note,x=>x.name.size≤maxLen∧x.text.size≤maxLen
 | .packet,x=>I4 .i64 x.src∧x.bytes.size≤maxLen
 | .place,x=>x.key.size≤maxLen∧I4 .i64 x.group
 | .bytes,l=>l.length≤maxLen∧∀y∈l,True
 | .ints,l=>l.length≤maxLen∧∀y∈l,I4 .i64 y
 | .cells,l=>l.length≤maxLen∧∀y∈l,Abp y
 | .rows,l=>l.length≤maxLen∧∀y∈l,Bmg y
 | .three,x=>(x.a.length≤maxLen∧∀y∈x.a,Abp y)∧(x.b.length≤maxLen∧∀y∈x.b,Abp y)∧(x.c.length≤maxLen∧∀y∈x.c,Abp y)
 |_,_=>True
def FB (w:World) (F:Nat→Prop):Prop:=∀b,b <w.heap.size→F b
def B2c (P:Program) (c:TC) (t:TypeId) {H:Type} (en:TypeId×Value→H) (w:World) (base:Nat) (spare:Nat→Bool) (held:Bool):Prop:=
 ∀(m:Nat) (cs:List Value) (y:DataW H×List MemPlace),DataW.trod en P w base spare held m t cs=some y→∃x:U c,Wfd c x∧∀(F:Nat→Prop) (N:Nm) (nx:Nat),FB w F→HL F N nx w (enc c x) cs
def Opn (P:Program) (c:TC) (t:TypeId):Prop:=∀{H:Type} (en:TypeId×Value→H) (w:World) (base:Nat) (spare:Nat→Bool) (held:Bool),B2c P c t en w base spare held
def A32 (P:Program) (c:TC) (t:TypeId):Prop:=∀{H:Type} (en:TypeId×Value→H) (w:World) (base:Nat) (spare:Nat→Bool) (held:Bool) (m:Nat) (cs:List Value) (y:DataW H×List MemPlace),
 DataW.trod en P w base spare held m t cs=some y→∃l:List (U c),(l.length≤maxLen∧∀x∈l,Wfd c x)∧∀(F:Nat→Prop) (N:Nm) (nx:Nat),FB w F→HL F N nx w [.sl c l] cs
section
variable {P:Program} {t:TypeId}
theorem Bxs (hu:P.underlying t=some (.int .i64)):Opn P .i64 t:=fun en w base spare held m cs y h=>by
 obtain⟨n,rfl,_,hw⟩:=DataW.trod_int hu h
 exact⟨n,hw,fun F N nx _=>HL.cons (Hv.v _) HL.nil⟩
theorem Btz (hu:P.underlying t=some .bool):Opn P .bool t:=fun en w base spare held m cs y h=>by
 obtain⟨n,rfl,_⟩:=DataW.trod_bool hu h
 exact⟨n,trivial,fun F N nx _=>HL.cons (Hv.v _) HL.nil⟩
theorem Bxt (hu:P.underlying t=some .string):Opn P .str t:=fun en w base spare held m cs y h=>by
 obtain⟨n,rfl,_,hw⟩:=DataW.trod_string hu h
 exact⟨n,hw,fun F N nx _=>HL.cons (Hv.v _) HL.nil⟩
theorem Bm3 {α:Type} {Q:Nat→α→Prop}:∀(n:Nat),(∀i,i <n→∃x,Q i x)→∃l:List α,l.length=n∧∀(i:Nat) (x:α),l[i]?=some x→Q i x
 |0,_=>⟨[],rfl,fun i x h=>by cases h⟩
 | n+1,h=>by
  obtain⟨l,h1,h2⟩:=Bm3 n fun i hi=>h i (by omega)
  obtain⟨x,hx⟩:=h n (by omega)
  refine⟨l++[x],by simp[h1],fun i y hy=>?_⟩
  rcases Nat.lt_trichotomy i n with hi|rfl|hi
  ·rw[List.getElem?_append_left (by omega)] at hy
   exact h2 i y hy
  ·rw[List.getElem?_append_right (by omega)] at hy
   simp[h1] at hy
   subst hy
   exact hx
  ·rw[List.getElem?_eq_none (by simp;omega)] at hy
   cases hy
theorem Akd {w:World} {base:Nat} {a:Addr} {n:Nat} {cs:List Value} (h:w.cells? base a n=some cs):base≤a.block∧cs.length=n∧∀(j:Nat) (v:Value),cs[j]?=some v→w.cell? (a.add j)=some v:=by
 unfold World.cells? at h
 split at h
 ·rename_i hb
  refine⟨hb,by simpa using mapM_some_length h,fun j v hv=>?_⟩
  have hl:cs.length=n:=by simpa using mapM_some_length h
  have hj:j <n:=by
   have:=(List.getElem?_eq_some_iff.1 hv).1
   omega
  have:=mapM_some_get h j j (by simp[hj])
  rw[this,hv]
 ·cases h
theorem Aye {c:TC} {e:TypeId} (hu:P.underlying t=some (.slice e)) (hs:P.cellsOf e=size c) (he:Opn P c e):A32 P c t:=fun en w base spare held m cs y h=>by
 rcases DataW.trod_slice hu h with⟨rfl,_⟩|⟨a,len,cap,elems,rest,n,_,rfl,_,hb,hlc,hcm,hel,hg,_⟩
 ·exact⟨[],⟨Nat.zero_le _,fun x hx=>by cases hx⟩,fun F N nx _=>HL.cons (Hv.sl_nil (a:=none) rfl) HL.nil⟩
 ·have each:∀i,i <len→∃x:U c,Wfd c x∧∃zs,w.cells? base (a.add (i*size c)) (size c)=some zs∧∀(F:Nat→Prop) (N:Nm) (nx:Nat),FB w F→HL F N nx w (enc c x) zs:=fun i hi=>by
   have:=hg i hi
   rw[hs] at this
   have h2:elems[i]?≠none:=by
    intro h0
    rw[List.getElem?_eq_none_iff] at h0
    omega
   obtain⟨z,hz⟩:=Option.ne_none_iff_exists'.1 h2
   rw[hz] at this
   obtain⟨zs,h3,h4⟩:=Option.bind_eq_some_iff.1 this
   obtain⟨x,h5,h6⟩:=he en w base spare held n zs z h4
   exact⟨x,h5,zs,h3,h6⟩
  obtain⟨l,h1,h2⟩:=Bm3 len each
  refine⟨l,⟨by omega,fun x hx=>?_⟩,fun F N nx hF=>HL.cons ?_ HL.nil⟩
  ·obtain⟨i,hi⟩:=List.getElem?_of_mem hx
   exact(h2 i x hi).1
  ·subst h1
   refine Hv.sl a hlc (fun hp=>⟨rfl,?_⟩) (fun i d j x hd hx=>?_) (fun i d j x y hd hx hy=>?_)
   ·obtain⟨_,zs,h3,h4⟩:=h2 0 l[0] (by rw[List.getElem?_eq_getElem hp])
    obtain⟨_,h5,h6⟩:=Akd h3
    have hsz:0 <zs.length:=by rw[h5];cases c<;>decide
    have:=h6 0 zs[0] (by rw[List.getElem?_eq_getElem hsz])
    have:=World.block_lt_of_cell? w _ this
    rw[I5,I5] at this
    exact hF _ this
   ·obtain⟨_,zs,h3,h4⟩:=h2 i d hd
    obtain⟨v,h5,h6⟩:=(h4 F N nx hF).get hx
    refine⟨v,?_⟩
    rw[←D9]
    exact(Akd h3).2.2 j v h5
   ·obtain⟨_,zs,h3,h4⟩:=h2 i d hd
    obtain⟨v,h5,h6⟩:=(h4 F N nx hF).get hx
    have:=(Akd h3).2.2 j v h5
    rw[D9,hy] at this
    cases this
    exact h6
end
section
variable {H:Type} {en:TypeId×Value→H} {P:Program} {w:World} {base:Nat} {spare:Nat→Bool} {held:Bool} {F:Nat→Prop} {N:Nm} {nx:Nat}
theorem Aro {fs:Array Field} {cs:List Value} {m i:Nat} {xs:List (DataW H×List MemPlace)} {f:Field} {t:TypeId} {o k:Nat} {c:TC} (ho:Opn P c t) (hf:fs[i]?=some f) (ht:f.type=t) (hof:f.offset=o) (hk:P.cellsOf t=k) (hi:i <xs.length)
  (g:∀(i:Nat) (f:Field),fs[i]?=some f→DataW.trod en P w base spare held m f.type ((cs.drop f.offset).take (P.cellsOf f.type))=xs[i]?):∃x:U c,Wfd c x∧∀(F:Nat→Prop) (N:Nm) (nx:Nat),FB w F→HL F N nx w (enc c x) ((cs.drop o).take k):=by
 subst ht hof hk
 have:=g i f hf
 rw[List.getElem?_eq_getElem hi] at this
 exact ho en w base spare held m _ _ this
theorem B3g {fs:Array Field} {cs:List Value} {m i:Nat} {xs:List (DataW H×List MemPlace)} {f:Field} {t:TypeId} {o k:Nat} {c:TC} (ho:A32 P c t) (hf:fs[i]?=some f) (ht:f.type=t) (hof:f.offset=o) (hk:P.cellsOf t=k) (hi:i <xs.length)
  (g:∀(i:Nat) (f:Field),fs[i]?=some f→DataW.trod en P w base spare held m f.type ((cs.drop f.offset).take (P.cellsOf f.type))=xs[i]?):∃l:List (U c),(l.length≤maxLen∧∀x∈l,Wfd c x)∧∀(F:Nat→Prop) (N:Nm) (nx:Nat),FB w F→HL F N nx w [.sl c l] ((cs.drop o).take k):=by
 subst ht hof hk
 have:=g i f hf
 rw[List.getElem?_eq_getElem hi] at this
 exact ho en w base spare held m _ _ this
theorem B2h {cs:List Value} {m i n:Nat} {xs:List (DataW H×List MemPlace)} {t:TypeId} {k:Nat} {c:TC} (ho:Opn P c t) (hk:P.cellsOf t=k) (hx:i <xs.length) (hn:i <n)
  (g:∀(i:Nat),i <n→DataW.trod en P w base spare held m t ((cs.drop (i*P.cellsOf t)).take (P.cellsOf t))=xs[i]?):∃x:U c,Wfd c x∧∀(F:Nat→Prop) (N:Nm) (nx:Nat),FB w F→HL F N nx w (enc c x) ((cs.drop (i*k)).take k):=by
 subst hk
 have:=g i hn
 rw[List.getElem?_eq_getElem hx] at this
 exact ho en w base spare held m _ _ this
theorem HLd {o k:Nat} {cs:List Value} {l r:List A} (h:HL F N nx w l ((cs.drop o).take k)) (h':HL F N nx w r (cs.drop (o+k))):HL F N nx w (l++r) (cs.drop o):=by
 have e:cs.drop o=(cs.drop o).take k++cs.drop (o+k):=by
  rw[←List.drop_drop,List.take_append_drop]
 rw[e]
 exact h.append h'
theorem HLe {o:Nat} {cs:List Value} (h:cs.length=o):HL F N nx w [] (cs.drop o):=by
 rw[List.drop_eq_nil_of_le (by omega)]
 exact HL.nil
end
end Go.Proofs.Yteebobbhhgmeiaa
namespace Go.Proofs.Yteebobbhhgmeiaa
open Go.RowKit
theorem Aw4 {X:Type} {next:X→X} {goes:X→Cnd} {ps:X→List Prop} (I:X→Prop) (m:X→Nat) (h:∀x,I x→(∀p∈ps x,p)∧(Bq (goes x)=true→I (next x)∧m (next x) <m x)):
  ∀(n:Nat) (x:X),I x→m x≤n→AL next goes ps n x∧I (Bg next goes n x)∧Bq (goes (Bg next goes n x))=false
 | 0,x,hi,hm=>by
  obtain⟨h1,h2⟩:=h x hi
  have hg:Bq (goes x)=false:=by
   cases hc:Bq (goes x) with
   |false=>rfl
   |true=>have:=(h2 hc).2;omega
  exact⟨⟨h1,hg⟩,hi,hg⟩
 | n+1,x,hi,hm=>by
  obtain⟨h1,h2⟩:=h x hi
  cases hc:Bq (goes x) with
  | false=>
   have e:Bg next goes (n+1) x=x:=by
    show(bif Bq (goes x) then _ else x)=x
    rw[hc];rfl
   rw[e]
   exact⟨⟨h1,fun hh=>by rw[hc] at hh;cases hh⟩,hi,hc⟩
  | true=>
   have e:Bg next goes (n+1) x=Bg next goes n (next x):=by
    show(bif Bq (goes x) then _ else x)=_
    rw[hc];rfl
   obtain⟨h3,h4⟩:=h2 hc
   obtain⟨g1,g2,g3⟩:=Aw4 I m h n (next x) h3 (by omega)
   rw[e]
   exact⟨⟨h1,fun _=>g1⟩,g2,g3⟩
theorem i64_in {n:Int} (h:-9223372036854775808≤n∧n≤9223372036854775807):IntKind.i64.wrap n=n:=IntWalk.i64_in n h
end Go.Proofs.Yteebobbhhgmeiaa
namespace Go.Proofs.Yteebobbhhgmeiaa
open Go.RowKit
def K0 (n:Int):Nat:=if n <0∨n >4611686018427387903 then 0 else if n≥1073741824 then 8 else if n≥16384 then 4 else if n≥64 then 2 else 1
def be:Nat→Nat→List UInt8
 |0,_=>[]
 |k+1,N=>UInt8.ofNat (N / 256^k)::be k N
def Bux (k:Nat):Nat:=if k=2 then 1 else if k=4 then 2 else if k=8 then 3 else 0
def M3 (n:Int):List UInt8:=be (K0 n) (n.toNat+Bux (K0 n)*(64*256^(K0 n - 1)))
def val (acc:Nat) (l:List UInt8):Nat:=l.foldl (fun a y=>a*256+y.toNat) acc
def Ar:List UInt8→Int×Int×Int
 | []=>(0,0,10)
 |x::r=>if r.length+1 <2^(x.toNat / 64) then(0,0,10) else if K0 (val (x.toNat % 64) (r.take (2^(x.toNat / 64) - 1))) <2^(x.toNat / 64) then(0,0,11) else((val (x.toNat % 64) (r.take (2^(x.toNat / 64) - 1)):Int),((2^(x.toNat / 64):Nat):Int),0)
theorem YR (x:UInt8) (r:List UInt8):Ar (x::r)=if r.length+1 <2^(x.toNat / 64) then(0,0,10) else if K0 (val (x.toNat % 64) (r.take (2^(x.toNat / 64) - 1))) <2^(x.toNat / 64) then(0,0,11) else((val (x.toNat % 64) (r.take (2^(x.toNat / 64) - 1)):Int),((2^(x.toNat / 64):Nat):Int),0):=rfl
theorem KW:∀(k N:Nat),(be k N).length=k
 |0,_=>rfl
 |k+1,N=>by unfold be;rw[List.length_cons,KW]
theorem Tr (acc:Nat) (x:UInt8) (r:List UInt8):val acc (x::r)=val (acc*256+x.toNat) r:=rfl
theorem Us:∀(l:List UInt8) (acc:Nat),val acc l=acc*256^l.length+val 0 l
 | [],acc=>by show acc=acc*256^0+0;omega
 |x::r,acc=>by
  rw[Tr,Tr,Us r,Us r (0*256+x.toNat),List.length_cons,Nat.pow_succ,Nat.zero_mul,Nat.zero_add,Nat.add_mul,Nat.mul_assoc,Nat.mul_comm 256]
  omega
theorem Baq:∀(l:List UInt8),val 0 l <256^l.length
 | []=>by show 0 <256^0;decide
 |x::r=>by
  rw[Tr,Us,List.length_cons,Nat.pow_succ,Nat.zero_mul,Nat.zero_add]
  have h1:=Baq r
  have h2:x.toNat+1≤256:=x.toNat_lt
  have:=Nat.mul_le_mul_right (256^r.length) h2
  rw[Nat.add_mul,Nat.one_mul] at this
  rw[Nat.mul_comm (256^r.length)]
  omega
theorem Bhm:∀(k N a:Nat),be k (N+a*256^k)=be k N
 |0,_,_=>rfl
 |k+1,N,a=>by
  unfold be
  have h:N+a*256^(k+1)=N+a*256*256^k:=by rw[Nat.pow_succ,Nat.mul_assoc,Nat.mul_comm (256^k)]
  rw[h,Bhm k N (a*256),Nat.add_mul_div_right _ _ (Nat.pow_pos (by decide))]
  congr 1
  apply UInt8.toNat_inj.1
  rw[UInt8.toNat_ofNat',UInt8.toNat_ofNat']
  omega
theorem Br1:∀(l:List UInt8),be l.length (val 0 l)=l
 | []=>rfl
 | x::r=>by
  rw[List.length_cons]
  have e:val 0 (x::r)=val 0 r+x.toNat*256^r.length:=by
   rw[Tr,Us,Nat.zero_mul,Nat.zero_add,Nat.add_comm]
  unfold be
  rw[e,Bhm,Br1 r,Nat.add_mul_div_right _ _ (Nat.pow_pos (by decide)),Nat.div_eq_of_lt (Baq r),Nat.zero_add]
  congr 1
  exact UInt8.ofNat_toNat
theorem Bvp:∀(k N acc:Nat),val acc (be k N)=acc*256^k+N % 256^k
 |0,N,acc=>by show acc=acc*256^0+N % 256^0;omega
 |k+1,N,acc=>by
  unfold be
  have h8:(UInt8.ofNat (N / 256^k)).toNat=N / 256^k % 256:=by rw[UInt8.toNat_ofNat']
  have hm:=Nat.mod_pow_succ (x:=N) (b:=256) (k:=k)
  rw[Tr,Bvp k,h8,hm,Nat.pow_succ,Nat.add_mul,Nat.mul_assoc,Nat.mul_comm 256 (256^k),Nat.mul_comm (256^k) (N / 256^k % 256)]
  omega
def szs (k:Nat):Prop:=k=1∨k=2∨k=4∨k=8
theorem Bn1 {n:Int} (h0:0≤n) (h1:n≤4611686018427387903):szs (K0 n)∧n.toNat <64*256^(K0 n - 1):=by
 unfold K0 szs
 rw[if_neg (by omega)]
 split
 ·exact⟨by decide,by show n.toNat <64*256^7;omega⟩
 ·split
  ·exact⟨by decide,by show n.toNat <64*256^3;omega⟩
  ·split
   ·exact⟨by decide,by show n.toNat <64*256^1;omega⟩
   ·exact⟨by decide,by show n.toNat <64*256^0;omega⟩
theorem B29 {n k:Nat} (hk:szs k) (h:n <64*256^(k - 1)):K0 n≤k∧1≤K0 n∧n≤4611686018427387903:=by
 unfold K0
 rcases hk with rfl|rfl|rfl|rfl
 ·have h':n <64:=h
  rw[if_neg (by omega),if_neg (by omega),if_neg (by omega),if_neg (by omega)];omega
 ·have h':n <64*256:=h
  rw[if_neg (by omega),if_neg (by omega),if_neg (by omega)]
  split<;>omega
 ·have h':n <64*256^3:=h
  have h'':n <1073741824:=by omega
  rw[if_neg (by omega),if_neg (by omega)]
  split
  ·omega
  ·split<;>omega
 ·have h':n <64*256^7:=h
  have h'':n <4611686018427387904:=by omega
  rw[if_neg (by omega)]
  split
  ·omega
  ·split
   ·omega
   ·split<;>omega
theorem B1t {k:Nat} (hk:szs k):Bux k≤3∧2^Bux k=k:=by
 rcases hk with rfl|rfl|rfl|rfl<;>decide
theorem Buy {t:Nat} (h:t≤3):szs (2^t)∧Bux (2^t)=t:=by
 match t,h with
 |0,_=>exact⟨by unfold szs;decide,rfl⟩
 |1,_=>exact⟨by unfold szs;decide,rfl⟩
 |2,_=>exact⟨by unfold szs;decide,rfl⟩
 |3,_=>exact⟨by unfold szs;decide,rfl⟩
 |n+4,h=>omega
theorem M4 (n:Int):(M3 n).length=K0 n:=KW _ _
theorem Bw5 {n:Int} (h0:0≤n) (h1:n≤4611686018427387903) (r:List UInt8):Ar (M3 n++r)=(n,(K0 n:Int),0):=by
 obtain⟨hk,hn⟩:=Bn1 h0 h1
 unfold M3
 generalize hkk:K0 n=k at*
 obtain⟨m,rfl⟩:∃m,k=m+1:=⟨k - 1,by unfold szs at hk;omega⟩
 obtain⟨t1,t2⟩:=B1t hk
 generalize Bux (m+1)=t at*
 rw[Nat.add_sub_cancel] at hn⊢
 have hp:0 <256^m:=Nat.pow_pos (by decide)
 have e1:(n.toNat+t*(64*256^m)) / 256^m=n.toNat / 256^m+t*64:=by rw[←Nat.mul_assoc,Nat.add_mul_div_right _ _ hp]
 have e2:n.toNat / 256^m <64:=by rw[Nat.div_lt_iff_lt_mul hp];exact hn
 have e3:(n.toNat+t*(64*256^m)) % 256^m=n.toNat % 256^m:=by rw[←Nat.mul_assoc,Nat.add_mul_mod_self_right]
 unfold be
 rw[e1]
 have aux:∀q:Nat,q <64→(UInt8.ofNat (q+t*64)).toNat=q+t*64∧(q+t*64) / 64=t∧(q+t*64) % 64=q:=fun q hq=>by
  rw[UInt8.toNat_ofNat']
  omega
 obtain⟨hx,ht,hm⟩:=aux _ e2
 show Ar (UInt8.ofNat (n.toNat / 256^m+t*64)::(be m (n.toNat+t*(64*256^m))++r))=_
 rw[YR,hx,ht,hm,t2,Nat.add_sub_cancel]
 have hl:(be m (n.toNat+t*(64*256^m))++r).take m=be m (n.toNat+t*(64*256^m)):=by
  rw[List.take_append_of_le_length (by rw[KW];exact Nat.le_refl _),List.take_of_length_le (by rw[KW];exact Nat.le_refl _)]
 rw[hl,Bvp,e3]
 have hv:n.toNat / 256^m*256^m+n.toNat % 256^m=n.toNat:=by rw[Nat.mul_comm];exact Nat.div_add_mod _ _
 rw[hv,if_neg (by rw[List.length_append,KW];omega)]
 have hnn:(n.toNat:Int)=n:=Int.toNat_of_nonneg h0
 rw[hnn,hkk,if_neg (by omega)]
theorem Bxz {b:List UInt8} {n k:Int} (h:Ar b=(n,k,0)):0≤n∧n≤4611686018427387903∧k=(K0 n:Int)∧K0 n≤b.length∧b.take (K0 n)=M3 n:=by
 cases b with
 |nil=>cases h
 | cons x r=>
  rw[YR] at h
  split at h
  ·cases h
  ·rename_i hlen
   split at h
   ·cases h
   ·rename_i hsz
    have hxl:x.toNat <256:=x.toNat_lt
    obtain⟨k1,k2⟩:=Buy (t:=x.toNat / 64) (by omega)
    generalize hK:2^(x.toNat / 64)=K at*
    obtain⟨m,rfl⟩:∃m,K=m+1:=⟨K - 1,by unfold szs at k1;omega⟩
    rw[Nat.add_sub_cancel] at*
    have hrl:(r.take m).length=m:=by rw[List.length_take];omega
    have hv:=Us (r.take m) (x.toNat % 64)
    have hlt:=Baq (r.take m)
    rw[hrl] at hv hlt
    generalize hN:val (x.toNat % 64) (r.take m)=M at*
    have hM:M <64*256^m:=by
     have:x.toNat % 64+1≤64:=by omega
     have:=Nat.mul_le_mul_right (256^m) this
     rw[Nat.add_mul,Nat.one_mul] at this
     omega
    obtain⟨s1,s2,s3⟩:=B29 k1 (by rw[Nat.add_sub_cancel];exact hM)
    have hs:K0 (M:Int)=m+1:=by omega
    injection h with h1 h
    injection h with h2 h3
    subst h1
    refine⟨by omega,by omega,by rw[hs,←h2],by rw[hs,List.length_cons];omega,?_⟩
    rw[hs]
    unfold M3
    rw[hs,k2,Nat.add_sub_cancel,Int.toNat_natCast]
    have e:M+x.toNat / 64*(64*256^m)=val 0 (x::r.take m):=by
     rw[Tr,Nat.zero_mul,Nat.zero_add,Us,hrl,hv,←Nat.mul_assoc]
     have hx:=Nat.div_add_mod x.toNat 64
     have:x.toNat*256^m=(x.toNat / 64*64+x.toNat % 64)*256^m:=by congr 1;omega
     rw[this,Nat.add_mul]
     omega
    rw[e]
    have hb:=Br1 (x::r.take m)
    rw[List.length_cons,hrl] at hb
    rw[hb]
    rfl
theorem Br0:∀(k N i:Nat),i <k→(be k N)[i]?=some (UInt8.ofNat (N / 256^(k - 1 - i)))
 |0,_,_,h=>by omega
 |k+1,N,0,_=>by unfold be;rfl
 |k+1,N,i+1,h=>by
  unfold be
  rw[List.getElem?_cons_succ,Br0 k N i (by omega)]
  have:k - 1 - i=k+1 - 1 - (i+1):=by omega
  rw[this]
theorem Bwk {k N i:Nat} (h:i <k):(be k N).take (i+1)=(be k N).take i++[UInt8.ofNat (N / 256^(k - 1 - i))]:=by
 rw[List.take_add_one,Br0 k N i h]
 rfl
theorem Bxw (j:Nat):(2:Int)^(8*j)=((256^j:Nat):Int):=by
 rw[Int.pow_mul]
 norm_cast
theorem Bue {n:Int} {k i:Nat} (hn:0≤n) (hk:k≤8) (hi:i <k):
  UInt8.ofNat (IntKind.u8.wrap (n.fdiv ((2:Int)^min (IntKind.u64.wrap (IntKind.i64.wrap ((8:Int)*IntKind.i64.wrap (IntKind.i64.wrap ((k:Int) - (1:Int)) - (i:Int))))).toNat (64:Nat)))).toNat=UInt8.ofNat (n.toNat / 256^(k - 1 - i)):=by
 have e1:IntKind.u64.wrap (IntKind.i64.wrap ((8:Int)*IntKind.i64.wrap (IntKind.i64.wrap ((k:Int) - (1:Int)) - (i:Int))))=((8*(k - 1 - i):Nat):Int):=by
  rw[i64_in (n:=(k:Int) - 1) (by omega),i64_in (n:=(k:Int) - 1 - (i:Int)) (by omega),i64_in (by omega),IntWalk.u64_in _ (by omega)]
  omega
 rw[e1,Int.toNat_natCast,Nat.min_eq_left (by omega),Bxw]
 have e2:n=(n.toNat:Int):=(Int.toNat_of_nonneg hn).symm
 have e3:n.fdiv ((256^(k - 1 - i):Nat):Int)=((n.toNat / 256^(k - 1 - i):Nat):Int):=by
  rw[Int.fdiv_eq_ediv_of_nonneg _ (Int.natCast_nonneg _)]
  conv=>lhs;rw[e2]
  exact(Int.natCast_ediv _ _).symm
 rw[e3]
 generalize n.toNat / 256^(k - 1 - i)=q
 have e4:IntKind.u8.wrap (q:Int)=((q % 256:Nat):Int):=by
  rw[IntKind.wrap_u8]
  omega
 rw[e4,Int.toNat_natCast]
 apply UInt8.toNat_inj.1
 rw[UInt8.toNat_ofNat',UInt8.toNat_ofNat']
 omega
theorem B1l:∀(t:Fin 4) (q:Fin 64),(BitVec.ofInt 8 (q.val:Int) ||| BitVec.ofInt 8 ((64*t.val:Nat):Int)).toNat=q.val+t.val*64:=by decide+kernel
theorem Bxu {q t:Nat} (hq:q <64) (ht:t <4):UInt8.ofNat (IntKind.u8.wrap ((BitVec.ofInt 8 (((UInt8.ofNat q).toNat:Nat):Int) ||| BitVec.ofInt 8 ((64*t:Nat):Int)).toNat:Int)).toNat=UInt8.ofNat (q+t*64):=by
 have h1:(UInt8.ofNat q).toNat=q:=by rw[UInt8.toNat_ofNat'];omega
 rw[h1,B1l ⟨t,ht⟩ ⟨q,hq⟩,IntWalk.u8_in _ (by show 0≤((q+t*64:Nat):Int)∧((q+t*64:Nat):Int)≤255;omega),Int.toNat_natCast]
theorem Bab {m N t:Nat} (b:List UInt8) (hN:N <64*256^m) (ht:t <4) (d:UInt8):
  (b++be (m+1) N).set b.length (UInt8.ofNat (IntKind.u8.wrap ((BitVec.ofInt 8 ((((b++be (m+1) N).getD b.length d).toNat:Nat):Int) ||| BitVec.ofInt 8 ((64*t:Nat):Int)).toNat:Int)).toNat)=b++be (m+1) (N+t*(64*256^m)):=by
 have hp:0 <256^m:=Nat.pow_pos (by decide)
 have e2:N / 256^m <64:=by rw[Nat.div_lt_iff_lt_mul hp];exact hN
 have e0:be (m+1) N=UInt8.ofNat (N / 256^m)::be m N:=rfl
 have e1:be (m+1) (N+t*(64*256^m))=UInt8.ofNat (N / 256^m+t*64)::be m N:=by
  show UInt8.ofNat ((N+t*(64*256^m)) / 256^m)::be m (N+t*(64*256^m))=_
  rw[←Nat.mul_assoc,Bhm,Nat.add_mul_div_right _ _ hp]
 have hg:(b++be (m+1) N).getD b.length d=UInt8.ofNat (N / 256^m):=by
  rw[e0,List.getD_eq_getElem?_getD,List.getElem?_append_right (Nat.le_refl _),Nat.sub_self]
  rfl
 rw[hg,Bxu e2 ht,e0,e1,List.set_append_right _ _ (Nat.le_refl _),Nat.sub_self]
 rfl
theorem Bxv {a:Nat} (ha:a <64*256^6) {y:UInt8}:IntKind.i64.wrap ((BitVec.ofInt 64 (IntKind.i64.wrap ((a:Int)*256)) ||| BitVec.ofInt 64 (IntKind.i64.wrap ((y.toNat:Nat):Int))).toNat:Int)=((a*256+y.toNat:Nat):Int):=by
 have hy:y.toNat <256:=y.toNat_lt
 have h6:64*256^6=18014398509481984:=by decide
 rw[h6] at ha
 rw[i64_in (n:=(a:Int)*256) (by omega),i64_in (n:=((y.toNat:Nat):Int)) (by omega)]
 have e1:(a:Int)*256=((a*256:Nat):Int):=by omega
 have e2:(BitVec.ofInt 64 ((a*256:Nat):Int) ||| BitVec.ofInt 64 ((y.toNat:Nat):Int)).toNat=a*256+y.toNat:=by
  rw[BitVec.toNat_or,BitVec.toNat_ofInt,BitVec.toNat_ofInt]
  have m1:(((a*256:Nat):Int) % ((2^64:Nat):Int)).toNat=2^8*a:=by omega
  have m2:(((y.toNat:Nat):Int) % ((2^64:Nat):Int)).toNat=y.toNat:=by omega
  rw[m1,m2,←Nat.two_pow_add_eq_or_of_lt hy]
  omega
 rw[e1,e2,i64_in (by omega)]
theorem Bvq (a:Nat) (L:List UInt8) (i:Nat) (h:i <L.length) {d:UInt8}:((val a (L.take i)*256+(L.getD i d).toNat:Nat):Int)=(val a (L.take (i+1)):Int):=by
 have e:L.take (i+1)=L.take i++[L.getD i d]:=by
  rw[List.take_add_one,List.getD_eq_getElem?_getD,List.getElem?_eq_getElem h]
  rfl
 rw[e]
 unfold val
 rw[List.foldl_append]
 rfl
theorem B2t (x:UInt8):IntKind.i64.wrap ((1:Int)*(2:Int)^min ((((x.toNat:Nat):Int)).fdiv (64:Int)).toNat (64:Nat))=((2^(x.toNat / 64):Nat):Int):=by
 have hx:x.toNat <256:=x.toNat_lt
 have e:((((x.toNat:Nat):Int)).fdiv (64:Int)).toNat=x.toNat / 64:=by
  rw[Int.fdiv_eq_ediv_of_nonneg _ (by decide)]
  omega
 rw[e,Nat.min_eq_left (by omega)]
 have:x.toNat / 64≤3:=by omega
 generalize x.toNat / 64=t at*
 match t,this with
 |0,_=>rfl
 |1,_=>rfl
 |2,_=>rfl
 |3,_=>rfl
 |n+4,h=>omega
theorem Bti:∀q:Fin 256,(BitVec.ofInt 8 (q.val:Int) &&& BitVec.ofInt 8 63).toNat=q.val % 64:=by decide+kernel
theorem Bw4 (x:UInt8):IntKind.i64.wrap (IntKind.u8.wrap ((BitVec.ofInt 8 ((x.toNat:Nat):Int) &&& BitVec.ofInt 8 63).toNat:Int))=((x.toNat % 64:Nat):Int):=by
 have hx:x.toNat <256:=x.toNat_lt
 rw[Bti ⟨x.toNat,hx⟩,IntWalk.u8_in _ (by show 0≤((x.toNat % 64:Nat):Int)∧((x.toNat % 64:Nat):Int)≤255;omega),i64_in (by show -9223372036854775808≤((x.toNat % 64:Nat):Int)∧((x.toNat % 64:Nat):Int)≤9223372036854775807;omega)]
end Go.Proofs.Yteebobbhhgmeiaa
namespace Go.Proofs.Yteebobbhhgmeiaa
open Go.RowKit
def Qs (a0:Int):Bool:=!(decide (a0 <(0:Int))||decide (a0 >(4611686018427387903:Int)))&&(!decide (a0≥(1073741824:Int))&&decide (a0≥(16384:Int)))
def Qr (a0:Int):Bool:=!(decide (a0 <(0:Int))||decide (a0 >(4611686018427387903:Int)))&&(!decide (a0≥(1073741824:Int))&&(!decide (a0≥(16384:Int))&&decide (a0≥(64:Int))))
def Xo (a0:Int):Bool:=!(decide (a0 <(0:Int))||decide (a0 >(4611686018427387903:Int)))&&(!(!(decide (a0 <(0:Int))||decide (a0 >(4611686018427387903:Int)))&&decide (a0≥(1073741824:Int)))&&(!(Qs a0)&&!(Qr a0)))
def Bd (a0:Int):Int:=bif !(!(decide (a0 <(0:Int))||decide (a0 >(4611686018427387903:Int)))&&decide (a0≥(1073741824:Int)))&&(!(Qs a0)&&(!(Qr a0)&&!(Xo a0))) then(0:Int) else IntKind.i64.wrap ((bif(Xo a0) then(0:Int) else IntKind.i64.wrap ((bif(Qr a0) then(0:Int) else IntKind.i64.wrap ((bif(Qs a0) then(0:Int) else(4:Int))+(2:Int)))+(1:Int)))+(1:Int))
def Acw (a0:Int):A:=.v (.int .i64 (Bd a0))
def Acv (_a0:Int):Objs:=[]
def Ao7 (_a0:Int):List Prop:=[]
theorem Beq (a0:Int):EQ (AA C0 L0) 9 157 [Ak .i64 a0] 0 []=some (1,Acw a0,0,Acv a0,[]):=by kernel_rfl
theorem Biy (a0:Int) (_hp:∀p∈Ao7 a0,p):CallOk Try.prog 157 [Ak .i64 a0] 0 [] 1 (Acw a0) 0 (Acv a0):=by
 exact AI (Aw Byv AH) (Beq a0) Ab
def Acx:List A→Nat→Objs→Option Bb
 | [y0],nx,o=>match AQ .i64 y0 with
  |some (a0,p0)=>some (1,(Acw a0).pk (AF nx),nx+0,AE nx (Acv a0)++o,p0++(Ao7 a0))
  |_=>none
 |_,_,_=>none
theorem A8n:Ft Try.prog 157 Acx:=fun args nx o k x nx' o' ps h=>by
 unfold Acx at h
 split at h<;>first|(cases h;done)|skip
 split at h<;>first|(cases h;done)|skip
 rename_i a0 p0 e0
 cases h
 refine⟨fun hp=>?_,_,rfl⟩
 have q0:=fun p hm=>hp p (List.mem_append.2 (.inl hm))
 have r0:=fun p hm=>hp p (List.mem_append.2 (.inr hm))
 refine Ah (Ag (Biy a0 r0) (Nat.le_refl _) (Ac (Af _ _) Ao) nx o) fun F N R vs hl=>?_
 obtain⟨v0,w0,rfl,h0,hl⟩:=hl.inv
 exact HL.cons (Am e0 q0 h0) (hl)
noncomputable def Bqe:=A7 157 Acx C0
theorem A5y:Dd Try.prog Bqe:=Av A8n Byv
abbrev Et:Type:=Int×Int×Int×Int×(List UInt8)
def NU (x:Et):St:=⟨59,3,[(1,.v (.int .i64 x.1)),(5,.sq 2),(6,.v (.int .i64 x.2.1)),(16,.v (.int .i64 x.2.2.1)),(17,.v (.int .i64 x.2.2.2.1))],[(2,some (.arr 5 1 (.ty .u8 x.2.2.2.2)))]⟩
def Rx:St→Option Et
 |⟨59,3,[(1,.v (.int .i64 z0)),(5,.sq 2),(6,.v (.int .i64 z1)),(16,.v (.int .i64 z2)),(17,.v (.int .i64 z3))],[(2,some (.arr 5 1 (.ty .u8 z4)))]⟩=>some (z0,z1,z2,z3,z4)
 |_=>none
theorem Asn:∀s x,Rx s=some x→s=NU x:=fun s x h=>by
 unfold Rx at h
 split at h
 ·cases h;rfl
 ·cases h
def Aic:Dj:=⟨2,3,[1,5,6,16,17],[],[(4,2)],[4],[5],[2]⟩
def A8m:DB:=⟨[],[(1,2)],[1,5,6,16,17],[1]⟩
def IX (a0:Int) (a1:Int) (_a2:Int) (a3:Int) (_a4:List UInt8):Int:=IntKind.u8.wrap (a0.fdiv ((2:Int)^min (IntKind.u64.wrap (IntKind.i64.wrap ((8:Int)*IntKind.i64.wrap (IntKind.i64.wrap (a1 - (1:Int)) - a3)))).toNat (64:Nat)))
def Ax3 (a0:Int) (a1:Int) (a2:Int) (a3:Int) (a4:List UInt8):List UInt8:=a4++[UInt8.ofNat (IX a0 a1 a2 a3 a4).toNat]
def Ga (x:Et):Et:=(x.1,x.2.1,x.2.2.1,IntKind.i64.wrap (x.2.2.2.1+(1:Int)),Ax3 x.1 x.2.1 x.2.2.1 x.2.2.2.1 x.2.2.2.2)
def F9 (x:Et):Cnd:=some (!!decide (x.2.2.2.1 <x.2.2.1))
def Xm (x:Et):List Prop:=[((!!decide (x.2.2.2.1 <x.2.2.1))=true→(0:Int)≤IntKind.u64.wrap (IntKind.i64.wrap ((8:Int)*IntKind.i64.wrap (IntKind.i64.wrap (x.2.1 - (1:Int)) - x.2.2.2.1)))),((!!decide (x.2.2.2.1 <x.2.2.1))=true→Ai (x.2.2.2.2.length+(1:Nat))),((!!decide (x.2.2.2.1 <x.2.2.1))=true→(0:Int)≤(IX x.1 x.2.1 x.2.2.1 x.2.2.2.1 x.2.2.2.2)∧(IX x.1 x.2.1 x.2.2.1 x.2.2.2.1 x.2.2.2.2) <(256:Int))]
def I8 (x:Et):List Prop:=[((!!decide (x.2.2.2.1 <x.2.2.1))=true→Ai (x.2.2.2.2.length+(1:Nat)))]
def UZ (x:Et):Bo:=[(some 0,some (!decide (x.2.2.2.1 <x.2.2.1)),⟨59,3,[(5,.sq 2)],[(2,some (.arr 5 1 (.ty .u8 x.2.2.2.2)))]⟩)]
def Hy (x:Et):Nat:=(x.2.2.1 - x.2.2.2.1).toNat
def O4 (x:Et):Et:=Bg Ga F9 (Hy x) x
theorem A2k (a0:Int) (a1:Int) (a2:Int) (a3:Int) (a4:List UInt8):Bz (AA Bqe L0) 9 (Aj Try.prog 119 0) Aic (NU (a0,a1,a2,a3,a4))=some (Xm (a0,a1,a2,a3,a4),UZ (a0,a1,a2,a3,a4),F9 (a0,a1,a2,a3,a4),NU (Ga (a0,a1,a2,a3,a4))):=by kernel_rfl
theorem A2l (a0:Int) (a1:Int) (a2:Int) (a3:Int) (a4:List UInt8) (hp:∀p∈I8 (a0,a1,a2,a3,a4),p):∀p∈Xm (a0,a1,a2,a3,a4),p:=by
 have n0:((!!decide (a3 <a2))=true→(0:Int)≤IntKind.u64.wrap (IntKind.i64.wrap ((8:Int)*IntKind.i64.wrap (IntKind.i64.wrap (a1 - (1:Int)) - a3)))):=by intros;exact Byt _
 have n1:=N0 hp
 have n2:((!!decide (a3 <a2))=true→(0:Int)≤(IX a0 a1 a2 a3 a4)∧(IX a0 a1 a2 a3 a4) <(256:Int)):=by intros;exact Ba0 _
 exact(Aa n0 (Aa n1 (Aa n2 Ab)))
noncomputable def Xn:=H1 (AA Bqe L0) (Aj Try.prog 119 0) Aic A8m Rx Hy Ga F9 I8 UZ
theorem Ax4:∀s b ps outs,Xn s=some (b,ps,outs)→Wf s ⟨ps,outs,none⟩∧Bx (AA C0 L0) b s ps outs:=
 Bm (T:=NU) A5y AH (u:=9) (by kernel_rfl) (by decide) (fun⟨a0,a1,a2,a3,a4⟩=>A2k a0 a1 a2 a3 a4) (fun⟨a0,a1,a2,a3,a4⟩=>A2l a0 a1 a2 a3 a4) Asn (fun _=>AW (n:=59) rfl) fun _ _=>rfl
noncomputable def Aib:=DP 0 Xn L0
theorem Ax2:Hr Aib:=A6 Ax4 AH
def Hj (_a0:List UInt8) (a1:Int):Bool:=Bd a1==(8:Int)
def BR (_a0:List UInt8) (a1:Int):Bool:=Bd a1==(4:Int)
def Ba (_a0:List UInt8) (a1:Int):Bool:=Bd a1==(2:Int)
def AP (a0:List UInt8) (_a1:Int):Int:=(↑([]++a0).length:Int)
def A5 (a0:List UInt8) (a1:Int):List UInt8:=(O4 (a1,Bd a1,Bd a1,(0:Int),[]++a0)).snd.snd.snd.snd
def Mg (a0:List UInt8) (a1:Int):Int:=IntKind.u8.wrap (↑(BitVec.ofInt (8:Nat) (↑(UInt8.toNat ((A5 a0 a1).getD (AP a0 a1).toNat (Ae TC.u8))):Int) ||| BitVec.ofInt (8:Nat) (192:Int)).toNat:Int)
def Mf (a0:List UInt8) (a1:Int):Int:=IntKind.u8.wrap (↑(BitVec.ofInt (8:Nat) (↑(UInt8.toNat ((A5 a0 a1).getD (AP a0 a1).toNat (Ae TC.u8))):Int) ||| BitVec.ofInt (8:Nat) (128:Int)).toNat:Int)
def Me (a0:List UInt8) (a1:Int):Int:=IntKind.u8.wrap (↑(BitVec.ofInt (8:Nat) (↑(UInt8.toNat ((A5 a0 a1).getD (AP a0 a1).toNat (Ae TC.u8))):Int) ||| BitVec.ofInt (8:Nat) (64:Int)).toNat:Int)
def Al2 (a0:List UInt8) (a1:Int):List UInt8:=bif(Ba a0 a1) then(A5 a0 a1).set (AP a0 a1).toNat (UInt8.ofNat (Me a0 a1).toNat) else bif(BR a0 a1) then(A5 a0 a1).set (AP a0 a1).toNat (UInt8.ofNat (Mf a0 a1).toNat) else bif(Hj a0 a1) then(A5 a0 a1).set (AP a0 a1).toNat (UInt8.ofNat (Mg a0 a1).toNat) else(A5 a0 a1)
def A42 (_a0:List UInt8) (_a1:Int):A:=.sq 0
def Y1 (a0:List UInt8) (a1:Int):Objs:=[(0,some (.arr 5 1 (.ty .u8 (Al2 a0 a1))))]
def Ax5 (a0:List UInt8) (a1:Int):List Prop:=[(Ai ((0:Nat)+a0.length)),(AL Ga F9 I8 (Hy (a1,Bd a1,Bd a1,(0:Int),[]++a0)) (a1,Bd a1,Bd a1,(0:Int),[]++a0)),((Ba a0 a1)=true→(0:Int)≤(AP a0 a1)∧(AP a0 a1) <(↑(A5 a0 a1).length:Int)),((Ba a0 a1)=false→(BR a0 a1)=true→(0:Int)≤(AP a0 a1)∧(AP a0 a1) <(↑(A5 a0 a1).length:Int)),((Ba a0 a1)=false→(BR a0 a1)=false→(Hj a0 a1)=true→(0:Int)≤(AP a0 a1)∧(AP a0 a1) <(↑(A5 a0 a1).length:Int))]
theorem Bix (a0:List UInt8) (a1:Int):EQ (AA Bqe Aib) 9 119 [Ak .bytes a0,Ak .i64 a1] 0 []=some (1,A42 a0 a1,1,Y1 a0 a1,[(Ai ((0:Nat)+a0.length)),(Aj Try.prog (119:FuncId) (0:Nat)=Aj Try.prog (119:FuncId) (0:Nat)),(AL Ga F9 I8 (Hy (a1,Bd a1,Bd a1,(0:Int),[]++a0)) (a1,Bd a1,Bd a1,(0:Int),[]++a0)),((Ba a0 a1)=true→(0:Int)≤(AP a0 a1)∧(AP a0 a1) <(↑(A5 a0 a1).length:Int)),((Ba a0 a1)=true→(AP a0 a1).toNat <(A5 a0 a1).length),((Ba a0 a1)=true→(0:Int)≤(AP a0 a1)∧(AP a0 a1) <(↑(A5 a0 a1).length:Int)),((Ba a0 a1)=true→(AP a0 a1).toNat <(A5 a0 a1).length),((Ba a0 a1)=true→(0:Int)≤(Me a0 a1)∧(Me a0 a1) <(256:Int)),((Ba a0 a1)=false→(BR a0 a1)=true→(0:Int)≤(AP a0 a1)∧(AP a0 a1) <(↑(A5 a0 a1).length:Int)),((Ba a0 a1)=false→(BR a0 a1)=true→(AP a0 a1).toNat <(A5 a0 a1).length),((Ba a0 a1)=false→(BR a0 a1)=true→(0:Int)≤(AP a0 a1)∧(AP a0 a1) <(↑(A5 a0 a1).length:Int)),((Ba a0 a1)=false→(BR a0 a1)=true→(AP a0 a1).toNat <(A5 a0 a1).length),((Ba a0 a1)=false→(BR a0 a1)=true→(0:Int)≤(Mf a0 a1)∧(Mf a0 a1) <(256:Int)),((Ba a0 a1)=false→(BR a0 a1)=false→(Hj a0 a1)=true→(0:Int)≤(AP a0 a1)∧(AP a0 a1) <(↑(A5 a0 a1).length:Int)),((Ba a0 a1)=false→(BR a0 a1)=false→(Hj a0 a1)=true→(AP a0 a1).toNat <(A5 a0 a1).length),((Ba a0 a1)=false→(BR a0 a1)=false→(Hj a0 a1)=true→(0:Int)≤(AP a0 a1)∧(AP a0 a1) <(↑(A5 a0 a1).length:Int)),((Ba a0 a1)=false→(BR a0 a1)=false→(Hj a0 a1)=true→(AP a0 a1).toNat <(A5 a0 a1).length),((Ba a0 a1)=false→(BR a0 a1)=false→(Hj a0 a1)=true→(0:Int)≤(Mg a0 a1)∧(Mg a0 a1) <(256:Int))]):=by kernel_rfl
theorem Bo2 (a0:List UInt8) (a1:Int) (hp:∀p∈Ax5 a0 a1,p):CallOk Try.prog 119 [Ak .bytes a0,Ak .i64 a1] 0 [] 1 (A42 a0 a1) 1 (Y1 a0 a1):=by
 have n0:=N0 hp
 have n2:=N0 (N1 hp)
 have n3:((Ba a0 a1)=true→(0:Int)≤(AP a0 a1)∧(AP a0 a1) <(↑(A5 a0 a1).length:Int)):=N0 (N1 (N1 hp))
 have n4:((Ba a0 a1)=true→(AP a0 a1).toNat <(A5 a0 a1).length):=by intro h0;have g:=n3 h0;omega
 have n7:((Ba a0 a1)=true→(0:Int)≤(Me a0 a1)∧(Me a0 a1) <(256:Int)):=by intros;exact Ba0 _
 have n8:((Ba a0 a1)=false→(BR a0 a1)=true→(0:Int)≤(AP a0 a1)∧(AP a0 a1) <(↑(A5 a0 a1).length:Int)):=N0 (N1 (N1 (N1 hp)))
 have n9:((Ba a0 a1)=false→(BR a0 a1)=true→(AP a0 a1).toNat <(A5 a0 a1).length):=by intro h0 h1;have g:=n8 h0 h1;omega
 have n12:((Ba a0 a1)=false→(BR a0 a1)=true→(0:Int)≤(Mf a0 a1)∧(Mf a0 a1) <(256:Int)):=by intros;exact Ba0 _
 have n13:((Ba a0 a1)=false→(BR a0 a1)=false→(Hj a0 a1)=true→(0:Int)≤(AP a0 a1)∧(AP a0 a1) <(↑(A5 a0 a1).length:Int)):=N0 (N1 (N1 (N1 (N1 hp))))
 have n14:((Ba a0 a1)=false→(BR a0 a1)=false→(Hj a0 a1)=true→(AP a0 a1).toNat <(A5 a0 a1).length):=by intro h0 h1 h2;have g:=n13 h0 h1 h2;omega
 have n17:((Ba a0 a1)=false→(BR a0 a1)=false→(Hj a0 a1)=true→(0:Int)≤(Mg a0 a1)∧(Mg a0 a1) <(256:Int)):=by intros;exact Ba0 _
 exact AI (Aw A5y Ax2) (Bix a0 a1) (Aa n0 (Aa rfl (Aa n2 (Aa n3 (Aa n4 (Aa n3 (Aa n4 (Aa n7 (Aa n8 (Aa n9 (Aa n8 (Aa n9 (Aa n12 (Aa n13 (Aa n14 (Aa n13 (Aa n14 (Aa n17 Ab))))))))))))))))))
def Ax6 (_a0:List UInt8) (_a1:Int):A:=.sq 0
def T6 (a0:List UInt8) (a1:Int):Objs:=[(0,some (.arr 5 1 (.ty .u8 (a0++M3 a1))))]
def Ao6 (a0:List UInt8) (_a1:Int):List Prop:=[Ai (a0.length+8)]
theorem Bac (n:Int):Bd n=(K0 n:Int):=by
 unfold Bd Xo Qr Qs K0
 by_cases h0:n <0∨n >4611686018427387903
 ·have e:(decide (n <0)||decide (n >4611686018427387903))=true:=by simpa using h0
  rw[e,if_pos h0];rfl
 ·have e:(decide (n <0)||decide (n >4611686018427387903))=false:=by
   rw[Bool.eq_false_iff]
   intro hh
   exact h0 (by simpa using hh)
  rw[e,if_neg h0]
  by_cases h1:n≥1073741824
  ·rw[if_pos h1,decide_eq_true h1];rfl
  ·rw[if_neg h1,decide_eq_false h1]
   by_cases h2:n≥16384
   ·rw[if_pos h2,decide_eq_true h2];rfl
   ·rw[if_neg h2,decide_eq_false h2]
    by_cases h3:n≥64
    ·rw[if_pos h3,decide_eq_true h3];rfl
    ·rw[if_neg h3,decide_eq_false h3];rfl
theorem Ajx (n:Int):K0 n=0∨(0≤n∧n≤4611686018427387903∧szs (K0 n)):=by
 by_cases h:n <0∨n >4611686018427387903
 ·left;unfold K0;rw[if_pos h]
 ·right;exact⟨by omega,by omega,(Bn1 (by omega) (by omega)).1⟩
theorem Buf (b:List UInt8) (n:Int) (hb:Ai (b.length+8)):
  AL Ga F9 I8 (Hy (n,Bd n,Bd n,0,[]++b)) (n,Bd n,Bd n,0,[]++b)∧
  (O4 (n,Bd n,Bd n,0,[]++b)).2.2.2.2=b++be (K0 n) n.toNat:=by
 have hk8:K0 n≤8:=by
  rcases Ajx n with h|⟨_,_,h⟩
  ·omega
  ·unfold szs at h;omega
 rw[Bac]
 obtain⟨h1,⟨i,hi,h2⟩,h3⟩:=Aw4 (next:=Ga) (goes:=F9) (ps:=I8)
  (fun x=>∃i:Nat,i≤K0 n∧x=(n,(K0 n:Int),(K0 n:Int),(i:Int),b++(be (K0 n) n.toNat).take i)) Hy (by
   rintro x ⟨i,hi,rfl⟩
   refine⟨Aa (fun hp=>?_) Ab,fun hg=>?_⟩
   ·have h':(!!decide ((i:Int) <(K0 n:Int)))=true:=hp
    have hlt:i <K0 n:=by simpa using h'
    show Ai ((b++(be (K0 n) n.toNat).take i).length+1)
    unfold Ai at*
    rw[List.length_append,List.length_take,KW]
    omega
   ·have h':(!!decide ((i:Int) <(K0 n:Int)))=true:=hg
    have hlt:i <K0 n:=by simpa using h'
    have hw:IntKind.i64.wrap ((i:Int)+1)=((i+1:Nat):Int):=by rw[i64_in (by omega)];rfl
    have hn0:0≤n:=by rcases Ajx n with h|⟨h,_⟩<;>omega
    refine⟨⟨i+1,hlt,?_⟩,?_⟩
    ·show(n,(K0 n:Int),(K0 n:Int),IntKind.i64.wrap ((i:Int)+1),(b++(be (K0 n) n.toNat).take i)++[UInt8.ofNat (IntKind.u8.wrap (n.fdiv ((2:Int)^min (IntKind.u64.wrap (IntKind.i64.wrap ((8:Int)*IntKind.i64.wrap (IntKind.i64.wrap ((K0 n:Int) - (1:Int)) - (i:Int))))).toNat (64:Nat)))).toNat])=_
     rw[hw,Bue hn0 hk8 hlt,List.append_assoc,←Bwk hlt]
    ·show((K0 n:Int) - IntKind.i64.wrap ((i:Int)+1)).toNat <((K0 n:Int) - (i:Int)).toNat
     rw[hw]
     omega) _ (n,(K0 n:Int),(K0 n:Int),0,[]++b) ⟨0,Nat.zero_le _,by simp⟩ (Nat.le_refl _)
 refine⟨h1,?_⟩
 have h4:O4 (n,(K0 n:Int),(K0 n:Int),0,[]++b)=_:=h2
 rw[h2] at h3
 have h3':(!!decide ((i:Int) <(K0 n:Int)))=false:=h3
 have hn:¬((i:Int) <(K0 n:Int)):=by simpa using h3'
 obtain rfl:i=K0 n:=by omega
 rw[h4,List.take_of_length_le (by rw[KW];exact Nat.le_refl _)]
theorem Biw (b:List UInt8) (n:Int) (hb:Ai (b.length+8)):(∀p∈Ax5 b n,p)∧Al2 b n=b++M3 n:=by
 obtain⟨h1,h2⟩:=Buf b n hb
 have h3:A5 b n=b++be (K0 n) n.toNat:=h2
 have h4:(AP b n).toNat=b.length:=rfl
 have hS:=Bac n
 have hlen:(b++be (K0 n) n.toNat).length=b.length+K0 n:=by rw[List.length_append,KW]
 have hpos:K0 n≠0→(0:Int)≤AP b n∧AP b n <((A5 b n).length:Int):=fun h0=>by
  rw[h3,hlen]
  show(0:Int)≤(b.length:Int)∧(b.length:Int) <((b.length+K0 n:Nat):Int)
  omega
 have sz2:∀c:Int,c≠0→(Bd n==c)=true→K0 n≠0:=fun c hc h h0=>by
  rw[hS,h0] at h
  have h':(0:Int)=c:=by simpa using h
  exact hc h'.symm
 refine⟨Aa (by unfold Ai at*;omega) (Aa h1 (Aa (fun h=>hpos (sz2 2 (by decide) h)) (Aa (fun _ h=>hpos (sz2 4 (by decide) h)) (Aa (fun _ _ h=>hpos (sz2 8 (by decide) h)) Ab)))),?_⟩
 unfold Al2
 rw[h3,h4]
 have k7:Ba b n=((K0 n:Int)==2):=by show(Bd n==2)=_;rw[hS]
 have k6:BR b n=((K0 n:Int)==4):=by show(Bd n==4)=_;rw[hS]
 have k5:Hj b n=((K0 n:Int)==8):=by show(Bd n==8)=_;rw[hS]
 have b1:Me b n=IntKind.u8.wrap ((BitVec.ofInt 8 ((((b++be (K0 n) n.toNat).getD b.length (Ae TC.u8)).toNat:Nat):Int) ||| BitVec.ofInt 8 ((64*1:Nat):Int)).toNat:Int):=by rw[←h3,←h4];rfl
 have b0:Mf b n=IntKind.u8.wrap ((BitVec.ofInt 8 ((((b++be (K0 n) n.toNat).getD b.length (Ae TC.u8)).toNat:Nat):Int) ||| BitVec.ofInt 8 ((64*2:Nat):Int)).toNat:Int):=by rw[←h3,←h4];rfl
 have b2:Mg b n=IntKind.u8.wrap ((BitVec.ofInt 8 ((((b++be (K0 n) n.toNat).getD b.length (Ae TC.u8)).toNat:Nat):Int) ||| BitVec.ofInt 8 ((64*3:Nat):Int)).toNat:Int):=by rw[←h3,←h4];rfl
 rw[k7,k6,k5,b1,b0,b2]
 unfold M3
 rcases Ajx n with hz|⟨g1,g2,g3⟩
 ·rw[hz];rfl
 ·have hN:=(Bn1 g1 g2).2
  generalize hk:K0 n=k at*
  rcases g3 with rfl|rfl|rfl|rfl
  ·show b++be 1 n.toNat=b++be 1 (n.toNat+0*(64*256^0))
   rw[Nat.zero_mul,Nat.add_zero]
  ·exact Bab (m:=1) (t:=1) b hN (by decide) _
  ·exact Bab (m:=3) (t:=2) b hN (by decide) _
  ·exact Bab (m:=7) (t:=3) b hN (by decide) _
theorem Biv (a0:List UInt8) (a1:Int) (hp:∀p∈Ao6 a0 a1,p):CallOk Try.prog 119 [Ak .bytes a0,Ak .i64 a1] 0 [] 1 (Ax6 a0 a1) 1 (T6 a0 a1):=by
 obtain⟨h1,h2⟩:=Biw a0 a1 (hp _ (List.mem_cons_self ..))
 have h:=Bo2 a0 a1 h1
 have ho:Y1 a0 a1=T6 a0 a1:=by unfold Y1 T6;rw[h2]
 rw[ho] at h
 exact h
def Al3:List A→Nat→Objs→Option Bb
 | [y0,y1],nx,o=>match AQ .bytes y0,AQ .i64 y1 with
  |some (a0,p0),some (a1,p1)=>some (1,(Ax6 a0 a1).pk (AF nx),nx+1,AE nx (T6 a0 a1)++o,p0++(p1++(Ao6 a0 a1)))
  |_,_=>none
 |_,_,_=>none
theorem Bep:Ft Try.prog 119 Al3:=fun args nx o k x nx' o' ps h=>by
 unfold Al3 at h
 split at h<;>first|(cases h;done)|skip
 split at h<;>first|(cases h;done)|skip
 rename_i a0 p0 a1 p1 e0 e1
 cases h
 refine⟨fun hp=>?_,_,rfl⟩
 have q0:=fun p hm=>hp p (List.mem_append.2 (.inl hm))
 have r0:=fun p hm=>hp p (List.mem_append.2 (.inr hm))
 have q1:=fun p hm=>r0 p (List.mem_append.2 (.inl hm))
 have r1:=fun p hm=>r0 p (List.mem_append.2 (.inr hm))
 refine Ah (Ag (Biv a0 a1 r1) (Nat.le_refl _) (Ac (Af _ _) (Ac (Af _ _) Ao)) nx o) fun F N R vs hl=>?_
 obtain⟨v0,w0,rfl,h0,hl⟩:=hl.inv
 obtain⟨v1,w1,rfl,h1,hl⟩:=hl.inv
 exact HL.cons (Am e0 q0 h0) (HL.cons (Am e1 q1 h1) (hl))
noncomputable def Bqf:=A7 119 Al3 Bqe
theorem A5z:Dd Try.prog Bqf:=Av Bep A5y
abbrev Es:Type:=Int×(List UInt8)×Int×Int
def NT (x:Es):St:=⟨46,0,[(6,.v (.int .i64 x.1)),(28,.sl .u8 x.2.1),(29,.v (.int .i64 x.2.2.1)),(30,.v (.int .i64 x.2.2.2))],[]⟩
def Rv:St→Option Es
 |⟨46,0,[(6,.v (.int .i64 z0)),(28,.sl .u8 z1),(29,.v (.int .i64 z2)),(30,.v (.int .i64 z3))],[]⟩=>some (z0,z1,z2,z3)
 |_=>none
theorem Asl:∀s x,Rv s=some x→s=NT x:=fun s x h=>by
 unfold Rv at h
 split at h
 ·cases h;rfl
 ·cases h
def Aia:Dj:=⟨0,0,[6,28,29,30],[],[],[],[6],[]⟩
def A8l:DB:=⟨[],[],[6,28,29,30],[]⟩
def Axw (a0:Int) (a1:List UInt8) (_a2:Int) (a3:Int):Int:=IntKind.i64.wrap (↑(BitVec.ofInt (64:Nat) (IntKind.i64.wrap (a0*(256:Int))) ||| BitVec.ofInt (64:Nat) (IntKind.i64.wrap (↑(UInt8.toNat (a1.getD a3.toNat (Ae TC.u8))):Int))).toNat:Int)
def F8 (x:Es):Es:=(Axw x.1 x.2.1 x.2.2.1 x.2.2.2,x.2.1,x.2.2.1,IntKind.i64.wrap (x.2.2.2+(1:Int)))
def F7 (x:Es):Cnd:=some (!!decide (x.2.2.2 <x.2.2.1))
def Xi (x:Es):List Prop:=[((!!decide (x.2.2.2 <x.2.2.1))=true→(0:Int)≤x.2.2.2∧x.2.2.2 <(↑x.2.1.length:Int))]
def I7 (x:Es):List Prop:=[((!!decide (x.2.2.2 <x.2.2.1))=true→(0:Int)≤x.2.2.2∧x.2.2.2 <(↑x.2.1.length:Int))]
def UX (x:Es):Bo:=[(some 0,some (!decide (x.2.2.2 <x.2.2.1)),⟨46,0,[(6,.v (.int .i64 x.1))],[]⟩)]
def Hx (x:Es):Nat:=(x.2.2.1 - x.2.2.2).toNat
def LB (x:Es):Es:=Bg F8 F7 (Hx x) x
theorem A2h (a0:Int) (a1:List UInt8) (a2:Int) (a3:Int):Bz (AA Bqf L0) 9 (Aj Try.prog 114 0) Aia (NT (a0,a1,a2,a3))=some (Xi (a0,a1,a2,a3),UX (a0,a1,a2,a3),F7 (a0,a1,a2,a3),NT (F8 (a0,a1,a2,a3))):=by kernel_rfl
theorem A2i (a0:Int) (a1:List UInt8) (a2:Int) (a3:Int) (hp:∀p∈I7 (a0,a1,a2,a3),p):∀p∈Xi (a0,a1,a2,a3),p:=by
 have n0:=N0 hp
 exact(Aa n0 Ab)
noncomputable def Xj:=H1 (AA Bqf L0) (Aj Try.prog 114 0) Aia A8l Rv Hx F8 F7 I7 UX
theorem Axx:∀s b ps outs,Xj s=some (b,ps,outs)→Wf s ⟨ps,outs,none⟩∧Bx (AA C0 L0) b s ps outs:=
 Bm (T:=NT) A5z AH (u:=9) (by kernel_rfl) (by decide) (fun⟨a0,a1,a2,a3⟩=>A2h a0 a1 a2 a3) (fun⟨a0,a1,a2,a3⟩=>A2i a0 a1 a2 a3) Asl (fun _=>AW (n:=46) rfl) fun _ _=>rfl
noncomputable def Ah9:=DP 0 Xj L0
theorem Axv:Hr Ah9:=A6 Axx AH
def H0 (a0:List UInt8):Int:=(↑(UInt8.toNat (a0.getD (0:Nat) (Ae TC.u8))):Int)
def CY (a0:List UInt8):Bool:=(↑a0.length:Int)==(0:Int)
def Hi (a0:List UInt8):Int:=IntKind.i64.wrap ((1:Int)*(2:Int)^min ((H0 a0).fdiv (64:Int)).toNat (64:Nat))
def EX (a0:List UInt8):List UInt8:=List.take ((Hi a0).toNat - (1:Nat)) (List.drop (1:Nat) a0)
def F6 (a0:List UInt8):Bool:=decide ((↑a0.length:Int) <(Hi a0))
def O3 (a0:List UInt8):Bool:=decide (Bd (LB (IntKind.i64.wrap (IntKind.u8.wrap (↑(BitVec.ofInt (8:Nat) (H0 a0) &&& BitVec.ofInt (8:Nat) (63:Int)).toNat:Int)),(EX a0),(↑(EX a0).length:Int),(0:Int))).fst <(Hi a0))
def Aly (a0:List UInt8):Int:=bif(CY a0) then(0:Int) else bif(F6 a0) then(0:Int) else bif(O3 a0) then(0:Int) else(LB (IntKind.i64.wrap (IntKind.u8.wrap (↑(BitVec.ofInt (8:Nat) (H0 a0) &&& BitVec.ofInt (8:Nat) (63:Int)).toNat:Int)),(EX a0),(↑(EX a0).length:Int),(0:Int))).fst
def Alz (a0:List UInt8):Int:=bif(CY a0) then(0:Int) else bif(F6 a0) then(0:Int) else bif(O3 a0) then(0:Int) else(Hi a0)
def Al0 (a0:List UInt8):Int:=bif(CY a0) then(10:Int) else bif(F6 a0) then(10:Int) else bif(O3 a0) then(11:Int) else(0:Int)
def Y0 (a0:List UInt8):A:=.v (.tuple ⟨[.int .i64 (Aly a0),.int .i64 (Alz a0),.int .i64 (Al0 a0)]⟩)
def A41 (_a0:List UInt8):Objs:=[]
def Axz (a0:List UInt8):List Prop:=[((!(CY a0))=true→(0:Int)≤(0:Int)∧(0:Int) <(↑a0.length:Int)),((!(CY a0))=true→(0:Int)≤(H0 a0).fdiv (64:Int)),((!(CY a0))=true→(!(F6 a0))=true→(0:Int)≤(0:Int)∧(0:Int) <(↑a0.length:Int)),((!(CY a0))=true→(!(F6 a0))=true→(0:Int)≤(1:Int)∧(1:Int)≤(Hi a0)∧(Hi a0)≤(↑a0.length:Int)),((!(CY a0))=true→(!(F6 a0))=true→AL F8 F7 I7 (Hx (IntKind.i64.wrap (IntKind.u8.wrap (↑(BitVec.ofInt (8:Nat) (H0 a0) &&& BitVec.ofInt (8:Nat) (63:Int)).toNat:Int)),(EX a0),(↑(EX a0).length:Int),(0:Int))) (IntKind.i64.wrap (IntKind.u8.wrap (↑(BitVec.ofInt (8:Nat) (H0 a0) &&& BitVec.ofInt (8:Nat) (63:Int)).toNat:Int)),(EX a0),(↑(EX a0).length:Int),(0:Int)))]
theorem Biu (a0:List UInt8):EQ (AA Bqf Ah9) 9 114 [Ak .bytes a0] 0 []=some (1,Y0 a0,0,A41 a0,[((!(CY a0))=true→(0:Int)≤(0:Int)∧(0:Int) <(↑a0.length:Int)),((!(CY a0))=true→(0:Int)≤(H0 a0).fdiv (64:Int)),((!(CY a0))=true→(!(F6 a0))=true→(0:Int)≤(0:Int)∧(0:Int) <(↑a0.length:Int)),((!(CY a0))=true→(!(F6 a0))=true→(0:Int)≤(1:Int)∧(1:Int)≤(Hi a0)∧(Hi a0)≤(↑a0.length:Int)),((!(CY a0))=true→(!(F6 a0))=true→Aj Try.prog (114:FuncId) (0:Nat)=Aj Try.prog (114:FuncId) (0:Nat)),((!(CY a0))=true→(!(F6 a0))=true→AL F8 F7 I7 (Hx (IntKind.i64.wrap (IntKind.u8.wrap (↑(BitVec.ofInt (8:Nat) (H0 a0) &&& BitVec.ofInt (8:Nat) (63:Int)).toNat:Int)),(EX a0),(↑(EX a0).length:Int),(0:Int))) (IntKind.i64.wrap (IntKind.u8.wrap (↑(BitVec.ofInt (8:Nat) (H0 a0) &&& BitVec.ofInt (8:Nat) (63:Int)).toNat:Int)),(EX a0),(↑(EX a0).length:Int),(0:Int)))]):=by kernel_rfl
theorem Bo1 (a0:List UInt8) (hp:∀p∈Axz a0,p):CallOk Try.prog 114 [Ak .bytes a0] 0 [] 1 (Y0 a0) 0 (A41 a0):=by
 have n0:=N0 hp
 have n1:=N0 (N1 hp)
 have n2:=N0 (N1 (N1 hp))
 have n3:=N0 (N1 (N1 (N1 hp)))
 have n4:((!(CY a0))=true→(!(F6 a0))=true→Aj Try.prog (114:FuncId) (0:Nat)=Aj Try.prog (114:FuncId) (0:Nat)):=by intros;rfl
 have n5:=N0 (N1 (N1 (N1 (N1 hp))))
 exact AI (Aw A5z Axv) (Biu a0) (Aa n0 (Aa n1 (Aa n2 (Aa n3 (Aa n4 (Aa n5 Ab))))))
def T5 (a0:List UInt8):A:=.v (.tuple ⟨[.int .i64 (Ar a0).1,.int .i64 (Ar a0).2.1,.int .i64 (Ar a0).2.2]⟩)
def Axy (_a0:List UInt8):Objs:=[]
def Ao5 (_a0:List UInt8):List Prop:=[]
theorem Bsv (L:List UInt8) (h7:L.length≤7) (a:Nat) (ha:a <64):
  AL F8 F7 I7 (Hx ((a:Int),L,(L.length:Int),0)) ((a:Int),L,(L.length:Int),0)∧
  (LB ((a:Int),L,(L.length:Int),0)).1=(val a L:Int):=by
 obtain⟨h1,⟨i,hi,h2⟩,h3⟩:=Aw4 (next:=F8) (goes:=F7) (ps:=I7)
  (fun x=>∃i:Nat,i≤L.length∧x=((val a (L.take i):Int),L,(L.length:Int),(i:Int))) Hx (by
   rintro x ⟨i,hi,rfl⟩
   refine⟨Aa (fun hp=>?_) Ab,fun hg=>?_⟩
   ·have h':(!!decide ((i:Int) <(L.length:Int)))=true:=hp
    have hlt:(i:Int) <(L.length:Int):=by simpa using h'
    show(0:Int)≤(i:Int)∧(i:Int) <(L.length:Int)
    exact⟨by omega,hlt⟩
   ·have h':(!!decide ((i:Int) <(L.length:Int)))=true:=hg
    have hlt:i <L.length:=by simpa using h'
    have hw:IntKind.i64.wrap ((i:Int)+1)=((i+1:Nat):Int):=by rw[i64_in (by omega)];rfl
    have hb:val a (L.take i) <64*256^6:=by
     have hv:=Us (L.take i) a
     have hl:=Baq (L.take i)
     have e:(L.take i).length=i:=by rw[List.length_take];omega
     rw[e] at hv hl
     have hm:256^i≤256^6:=Nat.pow_le_pow_right (by decide) (by omega)
     have hq:=Nat.mul_le_mul_right (256^i) (show a+1≤64 by omega)
     rw[Nat.add_mul,Nat.one_mul] at hq
     have hq2:=Nat.mul_le_mul_left 64 hm
     omega
    refine⟨⟨i+1,hlt,?_⟩,?_⟩
    ·show(IntKind.i64.wrap ((BitVec.ofInt 64 (IntKind.i64.wrap ((val a (L.take i):Int)*256)) ||| BitVec.ofInt 64 (IntKind.i64.wrap (((L.getD (i:Int).toNat (Ae TC.u8)).toNat:Nat):Int))).toNat:Int),L,(L.length:Int),IntKind.i64.wrap ((i:Int)+1))=_
     rw[hw,Bxv hb,Int.toNat_natCast,Bvq _ _ _ hlt]
    ·show((L.length:Int) - IntKind.i64.wrap ((i:Int)+1)).toNat <((L.length:Int) - (i:Int)).toNat
     rw[hw]
     omega) _ ((a:Int),L,(L.length:Int),0) ⟨0,Nat.zero_le _,rfl⟩ (Nat.le_refl _)
 refine⟨h1,?_⟩
 have h4:LB ((a:Int),L,(L.length:Int),0)=_:=h2
 rw[h2] at h3
 have h3':(!!decide ((i:Int) <(L.length:Int)))=false:=h3
 have hn:¬((i:Int) <(L.length:Int)):=by simpa using h3'
 obtain rfl:i=L.length:=by omega
 rw[h4,List.take_length]
theorem Bis (b:List UInt8):(∀p∈Axz b,p)∧Aly b=(Ar b).1∧Alz b=(Ar b).2.1∧Al0 b=(Ar b).2.2:=by
 cases b with
 |nil=>
  have no:(!(CY []))=true→False:=by intro h;cases h
  exact⟨Aa (fun h=>(no h).elim) (Aa (fun h=>(no h).elim) (Aa (fun h=>(no h).elim) (Aa (fun h=>(no h).elim) (Aa (fun h=>(no h).elim) Ab)))),rfl,rfl,rfl⟩
 | cons x r=>
  have hx:x.toNat <256:=x.toNat_lt
  have k4:CY (x::r)=false:=by
   show(((r.length+1:Nat):Int)==0)=false
   rw[Bool.eq_false_iff]
   intro h
   have:((r.length+1:Nat):Int)=0:=by simpa using h
   omega
  have k3:Hi (x::r)=((2^(x.toNat / 64):Nat):Int):=B2t x
  have t3:x.toNat / 64≤3:=by omega
  have hK:=(Buy t3).1
  have k2:EX (x::r)=r.take (2^(x.toNat / 64) - 1):=by
   show List.take ((Hi (x::r)).toNat - 1) r=_
   rw[k3,Int.toNat_natCast]
  have k1:F6 (x::r)=decide (r.length+1 <2^(x.toNat / 64)):=by
   show decide (((r.length+1:Nat):Int) <Hi (x::r))=_
   rw[k3]
   exact decide_eq_decide.2 Int.ofNat_lt
  have k6:IntKind.i64.wrap (IntKind.u8.wrap ((BitVec.ofInt 8 (H0 (x::r)) &&& BitVec.ofInt 8 63).toNat:Int))=((x.toNat % 64:Nat):Int):=Bw4 x
  generalize hKK:2^(x.toNat / 64)=K at*
  have hlen:(r.take (K - 1)).length≤7:=by rw[List.length_take];unfold szs at hK;omega
  obtain⟨n1,n2⟩:=Bsv (r.take (K - 1)) hlen (x.toNat % 64) (by omega)
  have k0:O3 (x::r)=decide (K0 (val (x.toNat % 64) (r.take (K - 1))) <K):=by
   unfold O3
   rw[k6,k2,n2,Bac,k3]
   exact decide_eq_decide.2 Int.ofNat_lt
  refine⟨Aa (fun _=>?_) (Aa (fun _=>?_) (Aa (fun _ _=>(by show(0:Int)≤0∧(0:Int) <((r.length+1:Nat):Int);omega)) (Aa (fun _ h=>?_) (Aa (fun _ _=>?_) Ab)))),?_⟩
  ·show(0:Int)≤0∧(0:Int) <((r.length+1:Nat):Int)
   omega
  ·show(0:Int)≤((x.toNat:Nat):Int).fdiv 64
   rw[Int.fdiv_eq_ediv_of_nonneg _ (by decide)]
   omega
  ·rw[k1] at h
   have h':¬(r.length+1 <K):=by simpa using h
   rw[k3]
   show(0:Int)≤1∧(1:Int)≤(K:Int)∧(K:Int)≤((r.length+1:Nat):Int)
   unfold szs at hK
   omega
  ·rw[k6,k2]
   exact n1
  ·unfold Aly Alz Al0
   rw[k4,k1,k0,k6,k2,n2,k3,YR,hKK]
   by_cases c1:r.length+1 <K
   ·rw[if_pos c1,decide_eq_true c1];exact⟨rfl,rfl,rfl⟩
   ·rw[if_neg c1,decide_eq_false c1]
    by_cases c2:K0 (val (x.toNat % 64) (r.take (K - 1))) <K
    ·rw[if_pos c2,decide_eq_true c2];exact⟨rfl,rfl,rfl⟩
    ·rw[if_neg c2,decide_eq_false c2];exact⟨rfl,rfl,rfl⟩
theorem Bir (a0:List UInt8) (_hp:∀p∈Ao5 a0,p):CallOk Try.prog 114 [Ak .bytes a0] 0 [] 1 (T5 a0) 0 (Axy a0):=by
 obtain⟨h1,h2,h3,h4⟩:=Bis a0
 have h:=Bo1 a0 h1
 have hr:Y0 a0=T5 a0:=by unfold Y0 T5;rw[h2,h3,h4]
 rw[hr] at h
 exact h
def Al1:List A→Nat→Objs→Option Bb
 | [y0],nx,o=>match AQ .bytes y0 with
  |some (a0,p0)=>some (1,(T5 a0).pk (AF nx),nx+0,AE nx (Axy a0)++o,p0++(Ao5 a0))
  |_=>none
 |_,_,_=>none
theorem Beo:Ft Try.prog 114 Al1:=fun args nx o k x nx' o' ps h=>by
 unfold Al1 at h
 split at h<;>first|(cases h;done)|skip
 split at h<;>first|(cases h;done)|skip
 rename_i a0 p0 e0
 cases h
 refine⟨fun hp=>?_,_,rfl⟩
 have q0:=fun p hm=>hp p (List.mem_append.2 (.inl hm))
 have r0:=fun p hm=>hp p (List.mem_append.2 (.inr hm))
 refine Ah (Ag (Bir a0 r0) (Nat.le_refl _) (Ac (Af _ _) Ao) nx o) fun F N R vs hl=>?_
 obtain⟨v0,w0,rfl,h0,hl⟩:=hl.inv
 exact HL.cons (Am e0 q0 h0) (hl)
noncomputable def B1w:=A7 114 Al1 Bqf
theorem Bvy:Dd Try.prog B1w:=Av Beo A5z
noncomputable def Ca:=B1w
theorem Byw:Dd Try.prog Ca:=Bvy
end Go.Proofs.Yteebobbhhgmeiaa
namespace Go.Proofs.Yteebobbhhgmeiaa
open Go.RowKit
def PH (a0:Int):Bool:=!a0==(1:Int)
def MJ (a0:Int):Bool:=bif !((PH a0)&&!((PH a0)&&a0==(2:Int))) then true else false
def RK (a0:Int):A:=.v (.bool (MJ a0))
def RJ (_a0:Int):Objs:=[]
def YA (_a0:Int):List Prop:=[]
theorem A04 (a0:Int):EQ (AA Ca L0) 9 151 [Ak .i64 a0] 0 []=some (1,RK a0,0,RJ a0,[]):=by kernel_rfl
theorem A3u (a0:Int) (_hp:∀p∈YA a0,p):CallOk Try.prog 151 [Ak .i64 a0] 0 [] 1 (RK a0) 0 (RJ a0):=by
 exact AI (Aw Byw AH) (A04 a0) Ab
def RL:List A→Nat→Objs→Option Bb
 | [y0],nx,o=>match AQ .i64 y0 with
  |some (a0,p0)=>some (1,(RK a0).pk (AF nx),nx+0,AE nx (RJ a0)++o,p0++(YA a0))
  |_=>none
 |_,_,_=>none
theorem Aub:Ft Try.prog 151 RL:=fun args nx o k x nx' o' ps h=>by
 unfold RL at h
 split at h<;>first|(cases h;done)|skip
 split at h<;>first|(cases h;done)|skip
 rename_i a0 p0 e0
 cases h
 refine⟨fun hp=>?_,_,rfl⟩
 have q0:=fun p hm=>hp p (List.mem_append.2 (.inl hm))
 have r0:=fun p hm=>hp p (List.mem_append.2 (.inr hm))
 refine Ah (Ag (A3u a0 r0) (Nat.le_refl _) (Ac (Af _ _) Ao) nx o) fun F N R vs hl=>?_
 obtain⟨v0,w0,rfl,h0,hl⟩:=hl.inv
 exact HL.cons (Am e0 q0 h0) (hl)
noncomputable def Bzr:=A7 151 RL Ca
theorem Bk5:Dd Try.prog Bzr:=Av Aub Byw
def B9 (a0:TStamp):Bool:=bif a0.1==(0:Int)&&a0.2==(0:Int) then true else decide (a0.1 >(0:Int))&&decide (a0.1≤(281474976710656:Int))&&MJ a0.2
def Ul (a0:TStamp):A:=.v (.bool (B9 a0))
def Uk (_a0:TStamp):Objs:=[]
def Abi (_a0:TStamp):List Prop:=[]
theorem A3r (a0:TStamp):EQ (AA Bzr L0) 9 102 [Ak .stamp a0] 0 []=some (1,Ul a0,0,Uk a0,[]):=by kernel_rfl
theorem Bak (a0:TStamp) (_hp:∀p∈Abi a0,p):CallOk Try.prog 102 [Ak .stamp a0] 0 [] 1 (Ul a0) 0 (Uk a0):=by
 exact AI (Aw Bk5 AH) (A3r a0) Ab
def Um:List A→Nat→Objs→Option Bb
 | [y0],nx,o=>match AQ .stamp y0 with
  |some (a0,p0)=>some (1,(Ul a0).pk (AF nx),nx+0,AE nx (Uk a0)++o,p0++(Abi a0))
  |_=>none
 |_,_,_=>none
theorem A01:Ft Try.prog 102 Um:=fun args nx o k x nx' o' ps h=>by
 unfold Um at h
 split at h<;>first|(cases h;done)|skip
 split at h<;>first|(cases h;done)|skip
 rename_i a0 p0 e0
 cases h
 refine⟨fun hp=>?_,_,rfl⟩
 have q0:=fun p hm=>hp p (List.mem_append.2 (.inl hm))
 have r0:=fun p hm=>hp p (List.mem_append.2 (.inr hm))
 refine Ah (Ag (Bak a0 r0) (Nat.le_refl _) (Ac (Af _ _) Ao) nx o) fun F N R vs hl=>?_
 obtain⟨v0,w0,rfl,h0,hl⟩:=hl.inv
 exact HL.cons (Am e0 q0 h0) (hl)
noncomputable def Bzs:=A7 102 Um Bzr
theorem Bk6:Dd Try.prog Bzs:=Av A01 Bk5
def Hn (a0:TStamp):Bool:=bif a0.1==(0:Int)&&a0.2==(0:Int) then true else decide (a0.1≥(1:Int))&&decide (a0.1≤(281474976710656:Int))&&(a0.2==(1:Int)||a0.2==(2:Int))
def Ac6 (a0:TStamp):A:=.v (.bool (Hn a0))
def Ac5 (_a0:TStamp):Objs:=[]
def Apf (_a0:TStamp):List Prop:=[]
theorem Be1 (a0:TStamp):EQ (AA Bzs L0) 9 104 [Ak .stamp a0] 0 []=some (1,Ac6 a0,0,Ac5 a0,[]):=by kernel_rfl
theorem Bi7 (a0:TStamp) (_hp:∀p∈Apf a0,p):CallOk Try.prog 104 [Ak .stamp a0] 0 [] 1 (Ac6 a0) 0 (Ac5 a0):=by
 exact AI (Aw Bk6 AH) (Be1 a0) Ab
def Ac7:List A→Nat→Objs→Option Bb
 | [y0],nx,o=>match AQ .stamp y0 with
  |some (a0,p0)=>some (1,(Ac6 a0).pk (AF nx),nx+0,AE nx (Ac5 a0)++o,p0++(Apf a0))
  |_=>none
 |_,_,_=>none
theorem A8y:Ft Try.prog 104 Ac7:=fun args nx o k x nx' o' ps h=>by
 unfold Ac7 at h
 split at h<;>first|(cases h;done)|skip
 split at h<;>first|(cases h;done)|skip
 rename_i a0 p0 e0
 cases h
 refine⟨fun hp=>?_,_,rfl⟩
 have q0:=fun p hm=>hp p (List.mem_append.2 (.inl hm))
 have r0:=fun p hm=>hp p (List.mem_append.2 (.inr hm))
 refine Ah (Ag (Bi7 a0 r0) (Nat.le_refl _) (Ac (Af _ _) Ao) nx o) fun F N R vs hl=>?_
 obtain⟨v0,w0,rfl,h0,hl⟩:=hl.inv
 exact HL.cons (Am e0 q0 h0) (hl)
noncomputable def Bzt:=A7 104 Ac7 Bzs
theorem Bk7:Dd Try.prog Bzt:=Av A8y Bk6
def Kv (a0:Int) (_a1:Int):Int:=min (max a0 (0:Int)) (1099511627776:Int)
def RN (a0:Int) (a1:Int):A:=.v (.int .i64 (Kv a0 a1))
def RM (_a0:Int) (_a1:Int):Objs:=[]
def YB (_a0:Int) (_a1:Int):List Prop:=[]
theorem A1c (a0:Int) (a1:Int):EQ (AA Bzt L0) 9 153 [Ak .i64 a0,Ak .i64 a1] 0 []=some (1,RN a0 a1,0,RM a0 a1,[]):=by kernel_rfl
theorem A3x (a0:Int) (a1:Int) (_hp:∀p∈YB a0 a1,p):CallOk Try.prog 153 [Ak .i64 a0,Ak .i64 a1] 0 [] 1 (RN a0 a1) 0 (RM a0 a1):=by
 exact AI (Aw Bk7 AH) (A1c a0 a1) Ab
def RO:List A→Nat→Objs→Option Bb
 | [y0,y1],nx,o=>match AQ .i64 y0,AQ .i64 y1 with
  |some (a0,p0),some (a1,p1)=>some (1,(RN a0 a1).pk (AF nx),nx+0,AE nx (RM a0 a1)++o,p0++(p1++(YB a0 a1)))
  |_,_=>none
 |_,_,_=>none
theorem Auc:Ft Try.prog 153 RO:=fun args nx o k x nx' o' ps h=>by
 unfold RO at h
 split at h<;>first|(cases h;done)|skip
 split at h<;>first|(cases h;done)|skip
 rename_i a0 p0 a1 p1 e0 e1
 cases h
 refine⟨fun hp=>?_,_,rfl⟩
 have q0:=fun p hm=>hp p (List.mem_append.2 (.inl hm))
 have r0:=fun p hm=>hp p (List.mem_append.2 (.inr hm))
 have q1:=fun p hm=>r0 p (List.mem_append.2 (.inl hm))
 have r1:=fun p hm=>r0 p (List.mem_append.2 (.inr hm))
 refine Ah (Ag (A3x a0 a1 r1) (Nat.le_refl _) (Ac (Af _ _) (Ac (Af _ _) Ao)) nx o) fun F N R vs hl=>?_
 obtain⟨v0,w0,rfl,h0,hl⟩:=hl.inv
 obtain⟨v1,w1,rfl,h1,hl⟩:=hl.inv
 exact HL.cons (Am e0 q0 h0) (HL.cons (Am e1 q1 h1) (hl))
noncomputable def Bzu:=A7 153 RO Bzt
theorem Bk8:Dd Try.prog Bzu:=Av Auc Bk7
def RQ (a0:Int) (a1:Int):A:=.v (.int .i64 (max a0 a1))
def RP (_a0:Int) (_a1:Int):Objs:=[]
def YC (_a0:Int) (_a1:Int):List Prop:=[]
theorem A1d (a0:Int) (a1:Int):EQ (AA Bzu L0) 9 154 [Ak .i64 a0,Ak .i64 a1] 0 []=some (1,RQ a0 a1,0,RP a0 a1,[]):=by kernel_rfl
theorem A3y (a0:Int) (a1:Int) (_hp:∀p∈YC a0 a1,p):CallOk Try.prog 154 [Ak .i64 a0,Ak .i64 a1] 0 [] 1 (RQ a0 a1) 0 (RP a0 a1):=by
 exact AI (Aw Bk8 AH) (A1d a0 a1) Ab
def RR:List A→Nat→Objs→Option Bb
 | [y0,y1],nx,o=>match AQ .i64 y0,AQ .i64 y1 with
  |some (a0,p0),some (a1,p1)=>some (1,(RQ a0 a1).pk (AF nx),nx+0,AE nx (RP a0 a1)++o,p0++(p1++(YC a0 a1)))
  |_,_=>none
 |_,_,_=>none
theorem Aud:Ft Try.prog 154 RR:=fun args nx o k x nx' o' ps h=>by
 unfold RR at h
 split at h<;>first|(cases h;done)|skip
 split at h<;>first|(cases h;done)|skip
 rename_i a0 p0 a1 p1 e0 e1
 cases h
 refine⟨fun hp=>?_,_,rfl⟩
 have q0:=fun p hm=>hp p (List.mem_append.2 (.inl hm))
 have r0:=fun p hm=>hp p (List.mem_append.2 (.inr hm))
 have q1:=fun p hm=>r0 p (List.mem_append.2 (.inl hm))
 have r1:=fun p hm=>r0 p (List.mem_append.2 (.inr hm))
 refine Ah (Ag (A3y a0 a1 r1) (Nat.le_refl _) (Ac (Af _ _) (Ac (Af _ _) Ao)) nx o) fun F N R vs hl=>?_
 obtain⟨v0,w0,rfl,h0,hl⟩:=hl.inv
 obtain⟨v1,w1,rfl,h1,hl⟩:=hl.inv
 exact HL.cons (Am e0 q0 h0) (HL.cons (Am e1 q1 h1) (hl))
noncomputable def Bzv:=A7 154 RR Bzu
theorem Bk9:Dd Try.prog Bzv:=Av Aud Bk8
def RT (a0:Int) (a1:Int):A:=.v (.int .i64 (min a0 a1))
def RS (_a0:Int) (_a1:Int):Objs:=[]
def YD (_a0:Int) (_a1:Int):List Prop:=[]
theorem A1e (a0:Int) (a1:Int):EQ (AA Bzv L0) 9 156 [Ak .i64 a0,Ak .i64 a1] 0 []=some (1,RT a0 a1,0,RS a0 a1,[]):=by kernel_rfl
theorem A3z (a0:Int) (a1:Int) (_hp:∀p∈YD a0 a1,p):CallOk Try.prog 156 [Ak .i64 a0,Ak .i64 a1] 0 [] 1 (RT a0 a1) 0 (RS a0 a1):=by
 exact AI (Aw Bk9 AH) (A1e a0 a1) Ab
def RU:List A→Nat→Objs→Option Bb
 | [y0,y1],nx,o=>match AQ .i64 y0,AQ .i64 y1 with
  |some (a0,p0),some (a1,p1)=>some (1,(RT a0 a1).pk (AF nx),nx+0,AE nx (RS a0 a1)++o,p0++(p1++(YD a0 a1)))
  |_,_=>none
 |_,_,_=>none
theorem Aue:Ft Try.prog 156 RU:=fun args nx o k x nx' o' ps h=>by
 unfold RU at h
 split at h<;>first|(cases h;done)|skip
 split at h<;>first|(cases h;done)|skip
 rename_i a0 p0 a1 p1 e0 e1
 cases h
 refine⟨fun hp=>?_,_,rfl⟩
 have q0:=fun p hm=>hp p (List.mem_append.2 (.inl hm))
 have r0:=fun p hm=>hp p (List.mem_append.2 (.inr hm))
 have q1:=fun p hm=>r0 p (List.mem_append.2 (.inl hm))
 have r1:=fun p hm=>r0 p (List.mem_append.2 (.inr hm))
 refine Ah (Ag (A3z a0 a1 r1) (Nat.le_refl _) (Ac (Af _ _) (Ac (Af _ _) Ao)) nx o) fun F N R vs hl=>?_
 obtain⟨v0,w0,rfl,h0,hl⟩:=hl.inv
 obtain⟨v1,w1,rfl,h1,hl⟩:=hl.inv
 exact HL.cons (Am e0 q0 h0) (HL.cons (Am e1 q1 h1) (hl))
noncomputable def Bzw:=A7 156 RU Bzv
theorem Bla:Dd Try.prog Bzw:=Av Aue Bk9
noncomputable def Bzx:=A7 152 (inl (AA Bzw L0) 4 152) Bzw
theorem Blb:Dd Try.prog Bzx:=Av (Acd (Aw Bla AH) 4 152) Bla
def Bv (a0:TVec):Bool:=Kv a0.1 (0:Int)==a0.1&&Kv a0.2 (0:Int)==a0.2
def Aff (a0:TVec):A:=.v (.bool (Bv a0))
def Afe (_a0:TVec):Objs:=[]
def Arh (_a0:TVec):List Prop:=[]
theorem Bg8 (a0:TVec):EQ (AA Bzx L0) 9 103 [Ak .vec a0] 0 []=some (1,Aff a0,0,Afe a0,[((0:Int)≤(0:Int)∧(0:Int) <(2:Int)),((0:Nat) <(2:Nat)),((0:Int)≤(0:Int)∧(0:Int) <(2:Int)),((0:Nat) <(2:Nat)),((0:Int)≤(0:Int)∧(0:Int) <(2:Int)),((0:Nat) <(2:Nat)),((0:Int)≤(1:Int)∧(1:Int) <(2:Int)),((1:Nat) <(2:Nat)),((0:Int)≤(1:Int)∧(1:Int) <(2:Int)),((1:Nat) <(2:Nat)),((0:Int)≤(1:Int)∧(1:Int) <(2:Int)),((1:Nat) <(2:Nat))]):=by kernel_rfl
theorem Bkx (a0:TVec) (_hp:∀p∈Arh a0,p):CallOk Try.prog 103 [Ak .vec a0] 0 [] 1 (Aff a0) 0 (Afe a0):=by
 have n0:((0:Int)≤(0:Int)∧(0:Int) <(2:Int)):=by first|rfl|decide+kernel
 have n1:((0:Nat) <(2:Nat)):=by first|rfl|decide+kernel
 have n6:((0:Int)≤(1:Int)∧(1:Int) <(2:Int)):=by first|rfl|decide+kernel
 have n7:((1:Nat) <(2:Nat)):=by first|rfl|decide+kernel
 exact AI (Aw Blb AH) (Bg8 a0) (Aa n0 (Aa n1 (Aa n0 (Aa n1 (Aa n0 (Aa n1 (Aa n6 (Aa n7 (Aa n6 (Aa n7 (Aa n6 (Aa n7 Ab))))))))))))
def Afg:List A→Nat→Objs→Option Bb
 | [y0],nx,o=>match AQ .vec y0 with
  |some (a0,p0)=>some (1,(Aff a0).pk (AF nx),nx+0,AE nx (Afe a0)++o,p0++(Arh a0))
  |_=>none
 |_,_,_=>none
theorem Bas:Ft Try.prog 103 Afg:=fun args nx o k x nx' o' ps h=>by
 unfold Afg at h
 split at h<;>first|(cases h;done)|skip
 split at h<;>first|(cases h;done)|skip
 rename_i a0 p0 e0
 cases h
 refine⟨fun hp=>?_,_,rfl⟩
 have q0:=fun p hm=>hp p (List.mem_append.2 (.inl hm))
 have r0:=fun p hm=>hp p (List.mem_append.2 (.inr hm))
 refine Ah (Ag (Bkx a0 r0) (Nat.le_refl _) (Ac (Af _ _) Ao) nx o) fun F N R vs hl=>?_
 obtain⟨v0,w0,rfl,h0,hl⟩:=hl.inv
 exact HL.cons (Am e0 q0 h0) (hl)
noncomputable def Bzy:=A7 103 Afg Bzx
theorem Blc:Dd Try.prog Bzy:=Av Bas Blb
def JT (a0:TVec) (a1:TVec):TVec:=TVec.mk (min a0.1 a1.1) (min a0.2 a1.2)
def Afi (a0:TVec) (a1:TVec):A:=.v (.agg ⟨[.int .i64 ((JT a0 a1).a),.int .i64 ((JT a0 a1).b)]⟩)
def Afh (_a0:TVec) (_a1:TVec):Objs:=[]
def Ari (_a0:TVec) (_a1:TVec):List Prop:=[]
theorem Bg9 (a0:TVec) (a1:TVec):EQ (AA Bzy L0) 9 112 [Ak .vec a0,Ak .vec a1] 0 []=some (1,Afi a0 a1,0,Afh a0 a1,[((0:Int)≤(0:Int)∧(0:Int) <(2:Int)),((0:Nat) <(2:Nat)),((0:Int)≤(0:Int)∧(0:Int) <(2:Int)),((0:Nat) <(2:Nat)),((0:Int)≤(0:Int)∧(0:Int) <(2:Int)),((0:Nat) <(2:Nat)),((0:Int)≤(1:Int)∧(1:Int) <(2:Int)),((1:Nat) <(2:Nat)),((0:Int)≤(1:Int)∧(1:Int) <(2:Int)),((1:Nat) <(2:Nat)),((0:Int)≤(1:Int)∧(1:Int) <(2:Int)),((1:Nat) <(2:Nat))]):=by kernel_rfl
theorem Bky (a0:TVec) (a1:TVec) (_hp:∀p∈Ari a0 a1,p):CallOk Try.prog 112 [Ak .vec a0,Ak .vec a1] 0 [] 1 (Afi a0 a1) 0 (Afh a0 a1):=by
 have n0:((0:Int)≤(0:Int)∧(0:Int) <(2:Int)):=by first|rfl|decide+kernel
 have n1:((0:Nat) <(2:Nat)):=by first|rfl|decide+kernel
 have n6:((0:Int)≤(1:Int)∧(1:Int) <(2:Int)):=by first|rfl|decide+kernel
 have n7:((1:Nat) <(2:Nat)):=by first|rfl|decide+kernel
 exact AI (Aw Blc AH) (Bg9 a0 a1) (Aa n0 (Aa n1 (Aa n0 (Aa n1 (Aa n0 (Aa n1 (Aa n6 (Aa n7 (Aa n6 (Aa n7 (Aa n6 (Aa n7 Ab))))))))))))
def Afj:List A→Nat→Objs→Option Bb
 | [y0,y1],nx,o=>match AQ .vec y0,AQ .vec y1 with
  |some (a0,p0),some (a1,p1)=>some (1,(Afi a0 a1).pk (AF nx),nx+0,AE nx (Afh a0 a1)++o,p0++(p1++(Ari a0 a1)))
  |_,_=>none
 |_,_,_=>none
theorem Bat:Ft Try.prog 112 Afj:=fun args nx o k x nx' o' ps h=>by
 unfold Afj at h
 split at h<;>first|(cases h;done)|skip
 split at h<;>first|(cases h;done)|skip
 rename_i a0 p0 a1 p1 e0 e1
 cases h
 refine⟨fun hp=>?_,_,rfl⟩
 have q0:=fun p hm=>hp p (List.mem_append.2 (.inl hm))
 have r0:=fun p hm=>hp p (List.mem_append.2 (.inr hm))
 have q1:=fun p hm=>r0 p (List.mem_append.2 (.inl hm))
 have r1:=fun p hm=>r0 p (List.mem_append.2 (.inr hm))
 refine Ah (Ag (Bky a0 a1 r1) (Nat.le_refl _) (Ac (Af _ _) (Ac (Af _ _) Ao)) nx o) fun F N R vs hl=>?_
 obtain⟨v0,w0,rfl,h0,hl⟩:=hl.inv
 obtain⟨v1,w1,rfl,h1,hl⟩:=hl.inv
 exact HL.cons (Am e0 q0 h0) (HL.cons (Am e1 q1 h1) (hl))
noncomputable def Bzz:=A7 112 Afj Bzy
theorem Bld:Dd Try.prog Bzz:=Av Bat Blc
def Ke (a0:TVec) (a1:TVec):Bool:=(JT a0 a1).1==a1.1&&(JT a0 a1).2==a1.2
def Uu (a0:TVec) (a1:TVec):A:=.v (.bool (Ke a0 a1))
def Ut (_a0:TVec) (_a1:TVec):Objs:=[]
def Abm (_a0:TVec) (_a1:TVec):List Prop:=[]
theorem A3w (a0:TVec) (a1:TVec):EQ (AA Bzz L0) 9 53 [Ak .vec a0,Ak .vec a1] 0 []=some (1,Uu a0 a1,0,Ut a0 a1,[]):=by kernel_rfl
theorem Bar (a0:TVec) (a1:TVec) (_hp:∀p∈Abm a0 a1,p):CallOk Try.prog 53 [Ak .vec a0,Ak .vec a1] 0 [] 1 (Uu a0 a1) 0 (Ut a0 a1):=by
 exact AI (Aw Bld AH) (A3w a0 a1) Ab
def Uv:List A→Nat→Objs→Option Bb
 | [y0,y1],nx,o=>match AQ .vec y0,AQ .vec y1 with
  |some (a0,p0),some (a1,p1)=>some (1,(Uu a0 a1).pk (AF nx),nx+0,AE nx (Ut a0 a1)++o,p0++(p1++(Abm a0 a1)))
  |_,_=>none
 |_,_,_=>none
theorem A09:Ft Try.prog 53 Uv:=fun args nx o k x nx' o' ps h=>by
 unfold Uv at h
 split at h<;>first|(cases h;done)|skip
 split at h<;>first|(cases h;done)|skip
 rename_i a0 p0 a1 p1 e0 e1
 cases h
 refine⟨fun hp=>?_,_,rfl⟩
 have q0:=fun p hm=>hp p (List.mem_append.2 (.inl hm))
 have r0:=fun p hm=>hp p (List.mem_append.2 (.inr hm))
 have q1:=fun p hm=>r0 p (List.mem_append.2 (.inl hm))
 have r1:=fun p hm=>r0 p (List.mem_append.2 (.inr hm))
 refine Ah (Ag (Bar a0 a1 r1) (Nat.le_refl _) (Ac (Af _ _) (Ac (Af _ _) Ao)) nx o) fun F N R vs hl=>?_
 obtain⟨v0,w0,rfl,h0,hl⟩:=hl.inv
 obtain⟨v1,w1,rfl,h1,hl⟩:=hl.inv
 exact HL.cons (Am e0 q0 h0) (HL.cons (Am e1 q1 h1) (hl))
noncomputable def Bqp:=A7 53 Uv Bzz
theorem Ba9:Dd Try.prog Bqp:=Av A09 Bld
def EY (a0:TVec):Bool:=decide (a0.1≥(0:Int))&&decide (a0.1≤(1099511627776:Int))&&decide (a0.2≥(0:Int))&&decide (a0.2≤(1099511627776:Int))
def Ade (a0:TVec):A:=.v (.bool (EY a0))
def Adc (_a0:TVec):Objs:=[]
def Aph (_a0:TVec):List Prop:=[]
theorem Be4 (a0:TVec):EQ (AA Bqp L0) 9 100 [Ak .vec a0] 0 []=some (1,Ade a0,0,Adc a0,[]):=by kernel_rfl
theorem Bi9 (a0:TVec) (_hp:∀p∈Aph a0,p):CallOk Try.prog 100 [Ak .vec a0] 0 [] 1 (Ade a0) 0 (Adc a0):=by
 exact AI (Aw Ba9 AH) (Be4 a0) Ab
def Adf:List A→Nat→Objs→Option Bb
 | [y0],nx,o=>match AQ .vec y0 with
  |some (a0,p0)=>some (1,(Ade a0).pk (AF nx),nx+0,AE nx (Adc a0)++o,p0++(Aph a0))
  |_=>none
 |_,_,_=>none
theorem A81:Ft Try.prog 100 Adf:=fun args nx o k x nx' o' ps h=>by
 unfold Adf at h
 split at h<;>first|(cases h;done)|skip
 split at h<;>first|(cases h;done)|skip
 rename_i a0 p0 e0
 cases h
 refine⟨fun hp=>?_,_,rfl⟩
 have q0:=fun p hm=>hp p (List.mem_append.2 (.inl hm))
 have r0:=fun p hm=>hp p (List.mem_append.2 (.inr hm))
 refine Ah (Ag (Bi9 a0 r0) (Nat.le_refl _) (Ac (Af _ _) Ao) nx o) fun F N R vs hl=>?_
 obtain⟨v0,w0,rfl,h0,hl⟩:=hl.inv
 exact HL.cons (Am e0 q0 h0) (hl)
noncomputable def Bqq:=A7 100 Adf Bqp
theorem Bba:Dd Try.prog Bqq:=Av A81 Ba9
def Ub (a0:TVec) (a1:TVec):Bool:=decide (a0.1≥a1.1)&&decide (a0.2≥a1.2)
def Ud (a0:TVec) (a1:TVec):A:=.v (.bool (Ub a0 a1))
def Uc (_a0:TVec) (_a1:TVec):Objs:=[]
def Aah (_a0:TVec) (_a1:TVec):List Prop:=[]
theorem A2o (a0:TVec) (a1:TVec):EQ (AA Bqq L0) 9 107 [Ak .vec a0,Ak .vec a1] 0 []=some (1,Ud a0 a1,0,Uc a0 a1,[]):=by kernel_rfl
theorem A80 (a0:TVec) (a1:TVec) (_hp:∀p∈Aah a0 a1,p):CallOk Try.prog 107 [Ak .vec a0,Ak .vec a1] 0 [] 1 (Ud a0 a1) 0 (Uc a0 a1):=by
 exact AI (Aw Bba AH) (A2o a0 a1) Ab
def Ue:List A→Nat→Objs→Option Bb
 | [y0,y1],nx,o=>match AQ .vec y0,AQ .vec y1 with
  |some (a0,p0),some (a1,p1)=>some (1,(Ud a0 a1).pk (AF nx),nx+0,AE nx (Uc a0 a1)++o,p0++(p1++(Aah a0 a1)))
  |_,_=>none
 |_,_,_=>none
theorem Ayp:Ft Try.prog 107 Ue:=fun args nx o k x nx' o' ps h=>by
 unfold Ue at h
 split at h<;>first|(cases h;done)|skip
 split at h<;>first|(cases h;done)|skip
 rename_i a0 p0 a1 p1 e0 e1
 cases h
 refine⟨fun hp=>?_,_,rfl⟩
 have q0:=fun p hm=>hp p (List.mem_append.2 (.inl hm))
 have r0:=fun p hm=>hp p (List.mem_append.2 (.inr hm))
 have q1:=fun p hm=>r0 p (List.mem_append.2 (.inl hm))
 have r1:=fun p hm=>r0 p (List.mem_append.2 (.inr hm))
 refine Ah (Ag (A80 a0 a1 r1) (Nat.le_refl _) (Ac (Af _ _) (Ac (Af _ _) Ao)) nx o) fun F N R vs hl=>?_
 obtain⟨v0,w0,rfl,h0,hl⟩:=hl.inv
 obtain⟨v1,w1,rfl,h1,hl⟩:=hl.inv
 exact HL.cons (Am e0 q0 h0) (HL.cons (Am e1 q1 h1) (hl))
noncomputable def Byy:=A7 107 Ue Bqq
theorem Bqr:Dd Try.prog Byy:=Av Ayp Bba
noncomputable def Cb:=Byy
theorem Ble:Dd Try.prog Cb:=Bqr
end Go.Proofs.Yteebobbhhgmeiaa
namespace Go.Proofs.Yteebobbhhgmeiaa
open Go.RowKit
def H3 (s:TStamp):Bool:=bif s.n==0&&s.site==0 then true else decide (1≤s.n)&&decide (s.n≤281474976710656)&&(s.site==1||s.site==2)
def CI (v:TVec):Bool:=decide (0≤v.a)&&decide (v.a≤1099511627776)&&(decide (0≤v.b)&&decide (v.b≤1099511627776))
def Hq (v:TVec):Bool:=v.a==0&&v.b==0
def Bzf (s:TStamp):Int:=bif s.n==0 then 0 else 2*s.n+s.site - 1
def B03 (n:Int):TStamp:=if n=0 then⟨0,0⟩ else⟨n / 2,1+n % 2⟩
def Bi2 (s:TStamp):List UInt8:=bif H3 s then M3 (Bzf s) else[]
def Asr (v:TVec):List UInt8:=bif CI v then M3 v.a++M3 v.b else[]
def A8u (t:ByteArray):List UInt8:=M3 (t.size:Int)++t.data.toList
def Gn (b:List UInt8):TStamp×Int×Int:=if(Ar b).2.2≠0 then(⟨0,0⟩,0,(Ar b).2.2) else if H3 (B03 (Ar b).1)=true then(B03 (Ar b).1,(Ar b).2.1,0) else(⟨0,0⟩,0,11)
def F3 (b:List UInt8):TVec×Int×Int:=if(Ar b).2.2≠0 then(⟨0,0⟩,0,(Ar b).2.2) else
 if(Ar (b.drop (Ar b).2.1.toNat)).2.2≠0 then(⟨0,0⟩,0,(Ar (b.drop (Ar b).2.1.toNat)).2.2) else
 if CI ⟨(Ar b).1,(Ar (b.drop (Ar b).2.1.toNat)).1⟩=true then(⟨(Ar b).1,(Ar (b.drop (Ar b).2.1.toNat)).1⟩,(Ar b).2.1+(Ar (b.drop (Ar b).2.1.toNat)).2.1,0) else(⟨0,0⟩,0,11)
def Wj (b:List UInt8) (m:Int):ByteArray×Int×Int:=if(Ar b).2.2≠0 then(ByteArray.empty,0,(Ar b).2.2) else if(Ar b).1 >m then(ByteArray.empty,0,3) else
 if(b.length:Int) - (Ar b).2.1 <(Ar b).1 then(ByteArray.empty,0,10) else(⟨((b.drop (Ar b).2.1.toNat).take (Ar b).1.toNat).toArray⟩,(Ar b).2.1+(Ar b).1,0)
structure Rd {α:Type} (get:List UInt8→α×Int×Int) (good:α→Prop) (put:α→List UInt8):Prop where
 back:∀x r,good x→get (put x++r)=(x,((put x).length:Int),0)
 front:∀b x k,get b=(x,k,0)→good x∧k=((put x).length:Int)∧∃r,b=put x++r
theorem Bkr {b p:List UInt8} (h:b.take p.length=p):∃r,b=p++r:=⟨b.drop p.length,by
 conv=>lhs;rw[←List.take_append_drop p.length b,h]⟩
def okN (n:Int):Prop:=0≤n∧n≤4611686018427387903
theorem rdN:Rd Ar okN M3 where
 back:=fun x r h=>by rw[Bw5 h.1 h.2 r,M4]
 front:=fun b x k h=>by
  obtain⟨h1,h2,h3,_,h5⟩:=Bxz h
  exact⟨⟨h1,h2⟩,by rw[h3,M4],Bkr (by rw[M4];exact h5)⟩
theorem Bw3 {b:List UInt8} (h:(Ar b).2.2=0):∃r,okN (Ar b).1∧(Ar b).2.1=((M3 (Ar b).1).length:Int)∧b=M3 (Ar b).1++r:=by
 obtain⟨h1,h2,r,h3⟩:=rdN.front b (Ar b).1 (Ar b).2.1 (by rw[←h])
 exact⟨r,h1,h2,h3⟩
theorem Bst (b:List UInt8):(Ar b).2.2≠0→(Ar b).1=0∧(Ar b).2.1=0:=fun h=>by
 cases b with
 |nil=>exact⟨rfl,rfl⟩
 | cons x r=>
  rw[YR] at h⊢
  split
  ·exact⟨rfl,rfl⟩
  ·split
   ·exact⟨rfl,rfl⟩
   ·rename_i h1 h2
    rw[if_neg h1,if_neg h2] at h
    exact absurd rfl h
theorem HK (b:List UInt8):0≤(Ar b).2.1∧(Ar b).2.1≤(b.length:Int)∧(Ar b).2.1≤8∧0≤(Ar b).1∧(Ar b).1≤4611686018427387903:=by
 by_cases h:(Ar b).2.2=0
 ·obtain⟨r,⟨h1,h1'⟩,h2,h3⟩:=Bw3 h
  have hl:=congrArg List.length h3
  rw[List.length_append] at hl
  have h8:(M3 (Ar b).1).length≤8:=by
   rw[M4]
   have:=(Bn1 h1 h1').1
   unfold szs at this
   omega
  exact⟨by omega,by omega,by omega,h1,h1'⟩
 ·obtain⟨h1,h2⟩:=Bst b h
  rw[h1,h2]
  omega
theorem Bot {s:TStamp}:H3 s=true↔(s.n=0∧s.site=0)∨(1≤s.n∧s.n≤281474976710656∧(s.site=1∨s.site=2)):=by
 unfold H3
 rw[Bool.cond_eq_ite]
 split
 ·rename_i h
  simp only[Bool.and_eq_true,beq_iff_eq] at h
  exact⟨fun _=> .inl h,fun _=>rfl⟩
 ·rename_i h
  simp only[Bool.and_eq_true,beq_iff_eq] at h
  simp only[Bool.and_eq_true,Bool.or_eq_true,beq_iff_eq,decide_eq_true_eq]
  constructor
  ·intro h';exact .inr ⟨h'.1.1,h'.1.2,h'.2⟩
  ·rintro(h'|⟨h1,h2,h3⟩)
   ·exact absurd h' h
   ·exact⟨⟨h1,h2⟩,h3⟩
theorem Bou {v:TVec}:CI v=true↔0≤v.a∧v.a≤1099511627776∧0≤v.b∧v.b≤1099511627776:=by
 unfold CI
 simp only[Bool.and_eq_true,decide_eq_true_eq]
 omega
theorem Bau {s t:TVec} (h1:s.a=t.a) (h2:s.b=t.b):s=t:=by cases s;cases t;simp_all
theorem Bb6 (n i:Nat):n &&& 2^i=n / 2^i % 2*2^i:=by
 rw[←Nat.toNat_testBit]
 apply Nat.eq_of_testBit_eq
 intro j
 rw[Nat.testBit_and,Nat.testBit_two_pow]
 cases hb:n.testBit i with
 |true=>
  by_cases hij:i=j
  ·subst hij;simp[hb]
  ·simp[hij]
 |false=>
  by_cases hij:i=j
  ·subst hij;simp[hb]
  ·simp[hij]
theorem Bmj {n:Int} (h:okN n) (k:Nat) (m:Int) (hm:m=((2^k:Nat):Int)) (hk:k <60):(BitVec.ofInt 64 n &&& BitVec.ofInt 64 m).toNat=n.toNat / 2^k % 2*2^k:=by
 obtain⟨h0,h1⟩:=h
 have hp:2^k <2^60:=Nat.pow_lt_pow_right (by decide) hk
 have e60:(2:Nat)^60=1152921504606846976:=by decide
 rw[BitVec.toNat_and,BitVec.toNat_ofInt,BitVec.toNat_ofInt]
 have m1:(n % ((2^64:Nat):Int)).toNat=n.toNat:=by omega
 have m2:(m % ((2^64:Nat):Int)).toNat=2^k:=by
  subst hm
  generalize 2^k=q at*
  omega
 rw[m1,m2,Bb6]
theorem Afp {n:Int} (h:okN n) (k:Nat) (m:Int) (hm:m=((2^k:Nat):Int)) (hk:k <60):decide (IntKind.i64.wrap ((BitVec.ofInt 64 n &&& BitVec.ofInt 64 m).toNat:Int) >0)=(n.toNat / 2^k % 2==1):=by
 rw[Bmj h k m hm hk]
 have hp:2^k <2^60:=Nat.pow_lt_pow_right (by decide) hk
 have hp0:0 <2^k:=Nat.pow_pos (by decide)
 have e60:(2:Nat)^60=1152921504606846976:=by decide
 generalize n.toNat / 2^k=x
 generalize 2^k=q at*
 rcases Nat.mod_two_eq_zero_or_one x with e|e
 ·rw[e,Nat.zero_mul]
  rfl
 ·rw[e,Nat.one_mul,i64_in (by omega)]
  have:(q:Int) >0:=by omega
  rw[decide_eq_true this]
  rfl
theorem Bwl {n:Int} (h:okN n):IntKind.i64.wrap (IntKind.i64.wrap ((BitVec.ofInt 64 n &&& BitVec.ofInt 64 1).toNat:Int)+1)=1+n % 2:=by
 have e:=Bmj h 0 1 rfl (by decide)
 rw[e]
 obtain⟨h0,h1⟩:=h
 have e2:n.toNat / 2^0 % 2*2^0=n.toNat % 2:=by rw[Nat.pow_zero,Nat.div_one,Nat.mul_one]
 rw[e2,i64_in (n:=((n.toNat % 2:Nat):Int)) (by omega),i64_in (by omega)]
 omega
end Go.Proofs.Yteebobbhhgmeiaa
namespace Go.Proofs.Yteebobbhhgmeiaa
open Go.RowKit
theorem A63 {x y:ByteArray}:(x.toList==y.toList)=true↔x=y:=by
 rw[beq_iff_eq,ByteArray.toList_eq,ByteArray.toList_eq]
 constructor
 ·intro h
  cases x;cases y
  simpa using h
 ·rintro rfl;rfl
theorem Bne {x:ByteArray}:(x.toList==(ByteArray.mk #[]).toList)=true↔x.size=0:=by
 rw[A63]
 constructor
 ·rintro rfl;rfl
 ·intro h
  cases x with|mk d=>
  have:d.size=0:=h
  rw[Array.eq_empty_of_size_eq_zero this]
theorem Rq (x:ByteArray):(x.toList==(ByteArray.mk #[]).toList)=(x.size==0):=by
 rw[Bool.eq_iff_iff,Bne,beq_iff_eq]
theorem B27 {x:ByteArray} (h:x.size=0):x=ByteArray.mk #[]:=A63.1 (Bne.2 h)
def Cx (c:TCell):Bool:=!(c.stamp.n==0&&c.stamp.site==0&&(c.vec.a==0&&c.vec.b==0)&&(!c.gone&&c.value.size==0))
def BA (p:Int) (c:TCell):Bool:=
 bif p==1&&!Hq c.dead||(p==2&&(c.gone||!CI c.dead)||!(p==1||p==2)) then false else
 bif !Cx c then true else H3 c.stamp&&decide (0 <c.stamp.n)&&CI c.vec&&decide ((c.value.size:Int)≤64)&&!(c.gone&&!(c.value.size==0))
def OA (c:TCell):Int:=(bif Cx c then 1 else 0)+(bif c.gone then 2 else 0)+(bif Hq c.dead then 0 else 4)
def Br2 (c:TCell):List UInt8:=(bif Cx c then Bi2 c.stamp++Asr c.vec++(bif c.gone then[] else A8u c.value) else[])++(bif Hq c.dead then[] else Asr c.dead)
def Bez (p:Int) (c:TCell):List UInt8:=bif BA p c then M3 (OA c)++Br2 c else[]
def zeroC:TCell:=⟨⟨0,0⟩,⟨0,0⟩,false,ByteArray.mk #[],⟨0,0⟩⟩
theorem A5x {v:TVec}:Hq v=true↔v=⟨0,0⟩:=by
 unfold Hq
 simp only[Bool.and_eq_true,beq_iff_eq]
 constructor
 ·intro h;exact Bau h.1 h.2
 ·rintro rfl;exact⟨rfl,rfl⟩
structure B2b (p:Int) (c:TCell):Prop where
 pol:p=1∨p=2
 dead:CI c.dead=true
 last:p=1→Hq c.dead=true
 del:p=2→c.gone=false
 st:Cx c=true→H3 c.stamp=true∧0 <c.stamp.n∧CI c.vec=true∧(c.value.size:Int)≤64∧(c.gone=true→c.value.size=0)
theorem A4m {p:Int} {c:TCell}:BA p c=true↔B2b p c:=by
 unfold BA
 rw[Bool.cond_eq_ite]
 split
 ·rename_i h
  refine⟨fun h=>(by cases h),fun g=>?_⟩
  exfalso
  simp only[Bool.or_eq_true,Bool.and_eq_true,beq_iff_eq,Bool.not_eq_true'] at h
  rcases h with⟨h1,h2⟩|⟨h1,h2⟩|h1
  ·rw[g.last h1] at h2;cases h2
  ·rcases h2 with h2|h2
   ·rw[g.del h1] at h2;cases h2
   ·rw[g.dead] at h2;cases h2
  ·rcases g.pol with h|h
   ·rw[h] at h1;cases h1
   ·rw[h] at h1;cases h1
 ·rename_i h
  have hh:=Bool.eq_false_iff.2 h
  simp only[Bool.or_eq_false_iff] at hh
  obtain⟨h1,h2,h3⟩:=hh
  have hp:p=1∨p=2:=by
   have:(p==1||p==2)=true:=by
    cases hq:(p==1||p==2) with
    |true=>rfl
    |false=>rw[hq] at h3;cases h3
   simpa using this
  have base:CI c.dead=true∧(p=1→Hq c.dead=true)∧(p=2→c.gone=false):=by
   rcases hp with rfl|rfl
   ·have hz:Hq c.dead=true:=by
     cases hz:Hq c.dead with
     |true=>rfl
     |false=>rw[hz] at h1;cases h1
    refine⟨by rw[A5x.1 hz];rfl,fun _=>hz,fun h=>by cases h⟩
   ·have:c.gone=false∧CI c.dead=true:=by
     cases hg:c.gone with
     |true=>rw[hg] at h2;cases h2
     |false=>
      cases hv:CI c.dead with
      |true=>exact⟨rfl,rfl⟩
      |false=>rw[hg,hv] at h2;cases h2
    exact⟨this.2,fun h=>(by cases h),fun _=>this.1⟩
  cases hw:Cx c with
  |false=>exact⟨fun _=>⟨hp,base.1,base.2.1,base.2.2,fun h=>by rw[hw] at h;cases h⟩,fun _=>rfl⟩
  | true=>
   rw[Bool.not_true,cond_false]
   simp only[Bool.and_eq_true,decide_eq_true_eq,Bool.not_eq_true',Bool.and_eq_false_iff,Bool.not_eq_false',beq_iff_eq]
   constructor
   ·rintro⟨⟨⟨⟨g1,g2⟩,g3⟩,g4⟩,g5⟩
    refine⟨hp,base.1,base.2.1,base.2.2,fun _=>⟨g1,g2,g3,g4,fun hg=>?_⟩⟩
    rcases g5 with g5|g5
    ·rw[g5] at hg;cases hg
    ·exact g5
   ·intro g
    obtain⟨g1,g2,g3,g4,g5⟩:=g.st hw
    refine⟨⟨⟨⟨g1,g2⟩,g3⟩,g4⟩,?_⟩
    cases hg:c.gone with
    |false=>exact .inl rfl
    |true=>exact .inr (g5 hg)
theorem Bdk (c:TCell):okN (OA c)∧OA c≤7∧((OA c).toNat / 2^0 % 2==1)=Cx c∧((OA c).toNat / 2^1 % 2==1)=c.gone∧((OA c).toNat / 2^2 % 2==1)=!Hq c.dead:=by
 unfold OA okN
 cases Cx c<;>cases c.gone<;>cases Hq c.dead<;>decide
def GG (n:Int) (k:Nat):Bool:=n.toNat / 2^k % 2==1
def stA (b:List UInt8):Bool×TCell×Int:=
 bif(Ar b).2.2==0&&GG (Ar b).1 0 then
  (bif !GG (Ar b).1 1 then
   ((Ar b).2.2==0&&(Gn (b.drop (Ar b).2.1.toNat)).2.2==0&&(F3 (b.drop ((Ar b).2.1+(Gn (b.drop (Ar b).2.1.toNat)).2.1).toNat)).2.2==0&&(Wj (b.drop ((Ar b).2.1+(Gn (b.drop (Ar b).2.1.toNat)).2.1+(F3 (b.drop ((Ar b).2.1+(Gn (b.drop (Ar b).2.1.toNat)).2.1).toNat)).2.1).toNat) 64).2.2==0,
    ⟨(Gn (b.drop (Ar b).2.1.toNat)).1,(F3 (b.drop ((Ar b).2.1+(Gn (b.drop (Ar b).2.1.toNat)).2.1).toNat)).1,GG (Ar b).1 1,(Wj (b.drop ((Ar b).2.1+(Gn (b.drop (Ar b).2.1.toNat)).2.1+(F3 (b.drop ((Ar b).2.1+(Gn (b.drop (Ar b).2.1.toNat)).2.1).toNat)).2.1).toNat) 64).1,⟨0,0⟩⟩,
    (Ar b).2.1+(Gn (b.drop (Ar b).2.1.toNat)).2.1+(F3 (b.drop ((Ar b).2.1+(Gn (b.drop (Ar b).2.1.toNat)).2.1).toNat)).2.1+(Wj (b.drop ((Ar b).2.1+(Gn (b.drop (Ar b).2.1.toNat)).2.1+(F3 (b.drop ((Ar b).2.1+(Gn (b.drop (Ar b).2.1.toNat)).2.1).toNat)).2.1).toNat) 64).2.1)
  else
   ((Ar b).2.2==0&&(Gn (b.drop (Ar b).2.1.toNat)).2.2==0&&(F3 (b.drop ((Ar b).2.1+(Gn (b.drop (Ar b).2.1.toNat)).2.1).toNat)).2.2==0,
    ⟨(Gn (b.drop (Ar b).2.1.toNat)).1,(F3 (b.drop ((Ar b).2.1+(Gn (b.drop (Ar b).2.1.toNat)).2.1).toNat)).1,GG (Ar b).1 1,ByteArray.mk #[],⟨0,0⟩⟩,
    (Ar b).2.1+(Gn (b.drop (Ar b).2.1.toNat)).2.1+(F3 (b.drop ((Ar b).2.1+(Gn (b.drop (Ar b).2.1.toNat)).2.1).toNat)).2.1))
 else((Ar b).2.2==0,zeroC,(Ar b).2.1)
def stB (b:List UInt8):Bool×TCell×Int:=
 bif(stA b).1&&GG (Ar b).1 2 then((stA b).1&&(F3 (b.drop (stA b).2.2.toNat)).2.2==0,{(stA b).2.1 with dead:=(F3 (b.drop (stA b).2.2.toNat)).1},(stA b).2.2+(F3 (b.drop (stA b).2.2.toNat)).2.1)
 else stA b
def A9v (n:Int) (c:TCell):Bool:=decide (n≤7)&&GG n 0==Cx c&&GG n 1==c.gone&&GG n 2==!Hq c.dead
def Arv (b:List UInt8) (p:Int):TCell×Int×Int:=
 bif !(stB b).1||!A9v (Ar b).1 (stB b).2.1||!BA p (stB b).2.1 then(zeroC,0,80) else((stB b).2.1,(stB b).2.2,0)
end Go.Proofs.Yteebobbhhgmeiaa
namespace Go.Proofs.Yteebobbhhgmeiaa
open Go.RowKit
theorem A03 (n:Int):MJ n=(n==1||n==2):=by
 unfold MJ PH
 cases n==1<;>cases n==2<;>rfl
theorem Ku (s:TStamp):B9 s=H3 s:=by
 unfold B9 H3
 rw[A03]
 rfl
theorem VG (x:Int):(Kv x 0==x)=(decide (0≤x)&&decide (x≤1099511627776)):=by
 unfold Kv
 rw[Bool.eq_iff_iff]
 simp only[beq_iff_eq,Bool.and_eq_true,decide_eq_true_eq]
 omega
theorem K1 (v:TVec):Bv v=CI v:=by
 unfold Bv CI
 rw[VG,VG]
theorem XE (n:Int):(M3 n).length≤8:=by
 rw[M4]
 rcases Ajx n with h|⟨_,_,h⟩
 ·omega
 ·unfold szs at h;omega
theorem Bud (s:TStamp):(Bi2 s).length≤8:=by
 unfold Bi2
 cases H3 s with
 |true=>exact XE _
 |false=>exact Nat.zero_le _
theorem A8v (v:TVec):(Asr v).length≤16:=by
 unfold Asr
 cases CI v with
 |true=>
  rw[cond_true,List.length_append]
  have h1:=XE v.a
  have h2:=XE v.b
  omega
 |false=>exact Nat.zero_le _
theorem Bi3 (t:ByteArray):(A8u t).length≤8+t.size:=by
 unfold A8u
 rw[List.length_append]
 have h1:=XE (t.size:Int)
 have hs:t.data.toList.length=t.size:=Array.length_toList
 omega
def Jo (_a0:Int) (_a1:TStamp) (_a2:TVec) (_a3:Bool) (a4:ByteArray):Bool:=decide ((↑a4.size:Int) >(64:Int))
def IL (a0:Int) (a1:TStamp) (a2:TVec) (a3:Bool) (a4:ByteArray):Bool:=bif a0 !=(1:Int)&&a0 !=(2:Int) then a0 !=(1:Int)&&a0 !=(2:Int) else bif a1.1==(0:Int)&&a1.2==(0:Int) then a1.1==(0:Int)&&a1.2==(0:Int) else bif !B9 a1 then !B9 a1 else bif !Bv a2 then !Bv a2 else a3&&!a4.toList==(ByteArray.mk #[]).toList
def G7 (a0:Int) (a1:TStamp) (a2:TVec) (a3:Bool) (a4:ByteArray):Bool:=(IL a0 a1 a2 a3 a4)||((Jo a0 a1 a2 a3 a4)||a3&&a0==(2:Int))
def LU (a0:Int) (a1:TStamp) (a2:TVec) (a3:Bool) (a4:ByteArray):Int:=bif(IL a0 a1 a2 a3 a4) then(0:Int) else bif(Jo a0 a1 a2 a3 a4) then(0:Int) else(0:Int)
def H7 (a0:Int) (a1:TStamp) (a2:TVec) (a3:Bool) (a4:ByteArray):TCell:=TCell.mk (TStamp.mk (bif(G7 a0 a1 a2 a3 a4) then(LU a0 a1 a2 a3 a4) else a1.1) (bif(G7 a0 a1 a2 a3 a4) then(LU a0 a1 a2 a3 a4) else a1.2)) (TVec.mk (bif(G7 a0 a1 a2 a3 a4) then(LU a0 a1 a2 a3 a4) else a2.1) (bif(G7 a0 a1 a2 a3 a4) then(LU a0 a1 a2 a3 a4) else a2.2)) (bif(G7 a0 a1 a2 a3 a4) then bif(IL a0 a1 a2 a3 a4) then false else bif(Jo a0 a1 a2 a3 a4) then false else false else a3) (bif(G7 a0 a1 a2 a3 a4) then bif(IL a0 a1 a2 a3 a4) then ByteArray.mk #[] else bif(Jo a0 a1 a2 a3 a4) then ByteArray.mk #[] else ByteArray.mk #[] else a4) (TVec.mk (bif(G7 a0 a1 a2 a3 a4) then bif(IL a0 a1 a2 a3 a4) then(0:Int) else bif(Jo a0 a1 a2 a3 a4) then(0:Int) else a2.1 else(0:Int)) (bif(G7 a0 a1 a2 a3 a4) then bif(IL a0 a1 a2 a3 a4) then(0:Int) else bif(Jo a0 a1 a2 a3 a4) then(0:Int) else a2.2 else(0:Int)))
def Bog (a0:Int) (a1:TStamp) (a2:TVec) (a3:Bool) (a4:ByteArray):Int:=bif(G7 a0 a1 a2 a3 a4) then bif(IL a0 a1 a2 a3 a4) then(2:Int) else bif(Jo a0 a1 a2 a3 a4) then(3:Int) else(0:Int) else(0:Int)
def Aj9 (a0:Int) (a1:TStamp) (a2:TVec) (a3:Bool) (a4:ByteArray):A:=.v (.tuple ⟨[.agg ⟨[.int .i64 ((H7 a0 a1 a2 a3 a4).stamp.n),.int .i64 ((H7 a0 a1 a2 a3 a4).stamp.site),.int .i64 ((H7 a0 a1 a2 a3 a4).vec.a),.int .i64 ((H7 a0 a1 a2 a3 a4).vec.b),.bool ((H7 a0 a1 a2 a3 a4).gone),.string ((H7 a0 a1 a2 a3 a4).value),.int .i64 ((H7 a0 a1 a2 a3 a4).dead.a),.int .i64 ((H7 a0 a1 a2 a3 a4).dead.b)]⟩,.int .i64 (Bog a0 a1 a2 a3 a4)]⟩)
def Aj8 (_a0:Int) (_a1:TStamp) (_a2:TVec) (_a3:Bool) (_a4:ByteArray):Objs:=[]
def Avj (_a0:Int) (_a1:TStamp) (_a2:TVec) (_a3:Bool) (_a4:ByteArray):List Prop:=[]
theorem Bhz (a0:Int) (a1:TStamp) (a2:TVec) (a3:Bool) (a4:ByteArray):EQ (AA Cb L0) 9 36 [Ak .i64 a0,Ak .stamp a1,Ak .vec a2,Ak .bool a3,Ak .str a4] 0 []=some (1,Aj9 a0 a1 a2 a3 a4,0,Aj8 a0 a1 a2 a3 a4,[]):=by kernel_rfl
theorem Boh (a0:Int) (a1:TStamp) (a2:TVec) (a3:Bool) (a4:ByteArray) (_hp:∀p∈Avj a0 a1 a2 a3 a4,p):CallOk Try.prog 36 [Ak .i64 a0,Ak .stamp a1,Ak .vec a2,Ak .bool a3,Ak .str a4] 0 [] 1 (Aj9 a0 a1 a2 a3 a4) 0 (Aj8 a0 a1 a2 a3 a4):=by
 exact AI (Aw Ble AH) (Bhz a0 a1 a2 a3 a4) Ab
def YK:List A→Nat→Objs→Option Bb
 | [y0,y1,y2,y3,y4],nx,o=>match AQ .i64 y0,AQ .stamp y1,AQ .vec y2,AQ .bool y3,AQ .str y4 with
  |some (a0,p0),some (a1,p1),some (a2,p2),some (a3,p3),some (a4,p4)=>some (1,(Aj9 a0 a1 a2 a3 a4).pk (AF nx),nx+0,AE nx (Aj8 a0 a1 a2 a3 a4)++o,p0++(p1++(p2++(p3++(p4++(Avj a0 a1 a2 a3 a4))))))
  |_,_,_,_,_=>none
 |_,_,_=>none
theorem Aof:Ft Try.prog 36 YK:=fun args nx o k x nx' o' ps h=>by
 unfold YK at h
 split at h<;>first|(cases h;done)|skip
 split at h<;>first|(cases h;done)|skip
 rename_i a0 p0 a1 p1 a2 p2 a3 p3 a4 p4 e0 e1 e2 e3 e4
 cases h
 refine⟨fun hp=>?_,_,rfl⟩
 have q0:=fun p hm=>hp p (List.mem_append.2 (.inl hm))
 have r0:=fun p hm=>hp p (List.mem_append.2 (.inr hm))
 have q1:=fun p hm=>r0 p (List.mem_append.2 (.inl hm))
 have r1:=fun p hm=>r0 p (List.mem_append.2 (.inr hm))
 have q2:=fun p hm=>r1 p (List.mem_append.2 (.inl hm))
 have r2:=fun p hm=>r1 p (List.mem_append.2 (.inr hm))
 have q3:=fun p hm=>r2 p (List.mem_append.2 (.inl hm))
 have r3:=fun p hm=>r2 p (List.mem_append.2 (.inr hm))
 have q4:=fun p hm=>r3 p (List.mem_append.2 (.inl hm))
 have r4:=fun p hm=>r3 p (List.mem_append.2 (.inr hm))
 refine Ah (Ag (Boh a0 a1 a2 a3 a4 r4) (Nat.le_refl _) (Ac (Af _ _) (Ac (Af _ _) (Ac (Af _ _) (Ac (Af _ _) (Ac (Af _ _) Ao))))) nx o) fun F N R vs hl=>?_
 obtain⟨v0,w0,rfl,h0,hl⟩:=hl.inv
 obtain⟨v1,w1,rfl,h1,hl⟩:=hl.inv
 obtain⟨v2,w2,rfl,h2,hl⟩:=hl.inv
 obtain⟨v3,w3,rfl,h3,hl⟩:=hl.inv
 obtain⟨v4,w4,rfl,h4,hl⟩:=hl.inv
 exact HL.cons (Am e0 q0 h0) (HL.cons (Am e1 q1 h1) (HL.cons (Am e2 q2 h2) (HL.cons (Am e3 q3 h3) (HL.cons (Am e4 q4 h4) (hl)))))
noncomputable def Bz0:=A7 36 YK Cb
theorem Blf:Dd Try.prog Bz0:=Av Aof Ble
def Fw (a0:TCell):Bool:=!(a0.1.1==(0:Int)&&a0.1.2==(0:Int)&&(a0.2.1==(0:Int)&&a0.2.2==(0:Int)&&(a0.3==false&&(a0.4.toList==(ByteArray.mk #[]).toList&&true))))
def Ok (a0:TCell):A:=.v (.bool (Fw a0))
def Oj (_a0:TCell):Objs:=[]
def UB (_a0:TCell):List Prop:=[]
theorem Arl (a0:TCell):EQ (AA Bz0 L0) 9 105 [Ak .cell a0] 0 []=some (1,Ok a0,0,Oj a0,[]):=by kernel_rfl
theorem Avl (a0:TCell) (_hp:∀p∈UB a0,p):CallOk Try.prog 105 [Ak .cell a0] 0 [] 1 (Ok a0) 0 (Oj a0):=by
 exact AI (Aw Blf AH) (Arl a0) Ab
def Ol:List A→Nat→Objs→Option Bb
 | [y0],nx,o=>match AQ .cell y0 with
  |some (a0,p0)=>some (1,(Ok a0).pk (AF nx),nx+0,AE nx (Oj a0)++o,p0++(UB a0))
  |_=>none
 |_,_,_=>none
theorem Aka:Ft Try.prog 105 Ol:=fun args nx o k x nx' o' ps h=>by
 unfold Ol at h
 split at h<;>first|(cases h;done)|skip
 split at h<;>first|(cases h;done)|skip
 rename_i a0 p0 e0
 cases h
 refine⟨fun hp=>?_,_,rfl⟩
 have q0:=fun p hm=>hp p (List.mem_append.2 (.inl hm))
 have r0:=fun p hm=>hp p (List.mem_append.2 (.inr hm))
 refine Ah (Ag (Avl a0 r0) (Nat.le_refl _) (Ac (Af _ _) Ao) nx o) fun F N R vs hl=>?_
 obtain⟨v0,w0,rfl,h0,hl⟩:=hl.inv
 exact HL.cons (Am e0 q0 h0) (hl)
noncomputable def Bz1:=A7 105 Ol Bz0
theorem Blg:Dd Try.prog Bz1:=Av Aka Blf
def AV (a0:Int) (a1:TCell):Bool:=bif bif a0==(1:Int) then !(a1.5.1==(0:Int)&&a1.5.2==(0:Int)) else !a0==(2:Int)||(a1.3||!Bv a1.5) then bif a0==(1:Int) then false else bif a0==(2:Int) then false else false else bif !Fw a1 then true else decide (a1.1.1 >(0:Int))&&B9 a1.1&&Bv a1.2&&decide ((↑a1.4.size:Int)≤(64:Int))&&!(a1.3&&!a1.4.toList==(ByteArray.mk #[]).toList)
def VT (a0:Int) (a1:TCell):A:=.v (.bool (AV a0 a1))
def VS (_a0:Int) (_a1:TCell):Objs:=[]
def Afw (_a0:Int) (_a1:TCell):List Prop:=[]
theorem A6o (a0:Int) (a1:TCell):EQ (AA Bz1 L0) 9 38 [Ak .i64 a0,Ak .cell a1] 0 []=some (1,VT a0 a1,0,VS a0 a1,[]):=by kernel_rfl
theorem Aoe (a0:Int) (a1:TCell) (_hp:∀p∈Afw a0 a1,p):CallOk Try.prog 38 [Ak .i64 a0,Ak .cell a1] 0 [] 1 (VT a0 a1) 0 (VS a0 a1):=by
 exact AI (Aw Blg AH) (A6o a0 a1) Ab
def VU:List A→Nat→Objs→Option Bb
 | [y0,y1],nx,o=>match AQ .i64 y0,AQ .cell y1 with
  |some (a0,p0),some (a1,p1)=>some (1,(VT a0 a1).pk (AF nx),nx+0,AE nx (VS a0 a1)++o,p0++(p1++(Afw a0 a1)))
  |_,_=>none
 |_,_,_=>none
theorem A1h:Ft Try.prog 38 VU:=fun args nx o k x nx' o' ps h=>by
 unfold VU at h
 split at h<;>first|(cases h;done)|skip
 split at h<;>first|(cases h;done)|skip
 rename_i a0 p0 a1 p1 e0 e1
 cases h
 refine⟨fun hp=>?_,_,rfl⟩
 have q0:=fun p hm=>hp p (List.mem_append.2 (.inl hm))
 have r0:=fun p hm=>hp p (List.mem_append.2 (.inr hm))
 have q1:=fun p hm=>r0 p (List.mem_append.2 (.inl hm))
 have r1:=fun p hm=>r0 p (List.mem_append.2 (.inr hm))
 refine Ah (Ag (Aoe a0 a1 r1) (Nat.le_refl _) (Ac (Af _ _) (Ac (Af _ _) Ao)) nx o) fun F N R vs hl=>?_
 obtain⟨v0,w0,rfl,h0,hl⟩:=hl.inv
 obtain⟨v1,w1,rfl,h1,hl⟩:=hl.inv
 exact HL.cons (Am e0 q0 h0) (HL.cons (Am e1 q1 h1) (hl))
noncomputable def Bz2:=A7 38 VU Bz1
theorem Blh:Dd Try.prog Bz2:=Av A1h Blg
def NN (a0:Int) (a1:TCell):Bool:=!AV a0 a1||!Fw a1||a1.3||!Ke a1.2 a1.5
def MO (a0:Int) (a1:TCell):ByteArray:=bif(NN a0 a1) then ByteArray.mk #[] else a1.4
def GA (a0:Int) (a1:TCell):Bool:=bif(NN a0 a1) then false else true
def VW (a0:Int) (a1:TCell):A:=.v (.tuple ⟨[.string (MO a0 a1),.bool (GA a0 a1)]⟩)
def VV (_a0:Int) (_a1:TCell):Objs:=[]
def Afz (_a0:Int) (_a1:TCell):List Prop:=[]
theorem A6r (a0:Int) (a1:TCell):EQ (AA Bz2 L0) 9 40 [Ak .i64 a0,Ak .cell a1] 0 []=some (1,VW a0 a1,0,VV a0 a1,[]):=by kernel_rfl
theorem Bcs (a0:Int) (a1:TCell) (_hp:∀p∈Afz a0 a1,p):CallOk Try.prog 40 [Ak .i64 a0,Ak .cell a1] 0 [] 1 (VW a0 a1) 0 (VV a0 a1):=by
 exact AI (Aw Blh AH) (A6r a0 a1) Ab
def VX:List A→Nat→Objs→Option Bb
 | [y0,y1],nx,o=>match AQ .i64 y0,AQ .cell y1 with
  |some (a0,p0),some (a1,p1)=>some (1,(VW a0 a1).pk (AF nx),nx+0,AE nx (VV a0 a1)++o,p0++(p1++(Afz a0 a1)))
  |_,_=>none
 |_,_,_=>none
theorem A1j:Ft Try.prog 40 VX:=fun args nx o k x nx' o' ps h=>by
 unfold VX at h
 split at h<;>first|(cases h;done)|skip
 split at h<;>first|(cases h;done)|skip
 rename_i a0 p0 a1 p1 e0 e1
 cases h
 refine⟨fun hp=>?_,_,rfl⟩
 have q0:=fun p hm=>hp p (List.mem_append.2 (.inl hm))
 have r0:=fun p hm=>hp p (List.mem_append.2 (.inr hm))
 have q1:=fun p hm=>r0 p (List.mem_append.2 (.inl hm))
 have r1:=fun p hm=>r0 p (List.mem_append.2 (.inr hm))
 refine Ah (Ag (Bcs a0 a1 r1) (Nat.le_refl _) (Ac (Af _ _) (Ac (Af _ _) Ao)) nx o) fun F N R vs hl=>?_
 obtain⟨v0,w0,rfl,h0,hl⟩:=hl.inv
 obtain⟨v1,w1,rfl,h1,hl⟩:=hl.inv
 exact HL.cons (Am e0 q0 h0) (HL.cons (Am e1 q1 h1) (hl))
noncomputable def Bz3:=A7 40 VX Bz2
theorem Bli:Dd Try.prog Bz3:=Av A1j Blh
theorem Kx (c:TCell):Fw c=Cx c:=by
 unfold Fw Cx
 have hg:(c.3==false)=!c.gone:=by show(c.gone==false)=!c.gone;cases c.gone<;>rfl
 rw[Rq,Bool.and_true,hg]
 simp only[Bool.and_assoc]
theorem IK (p:Int) (c:TCell):AV p c=BA p c:=by
 unfold AV BA Hq
 rw[Kx,K1,K1,Ku,Rq]
 have hw:(bif !Cx c then true else decide (c.1.1 >(0:Int))&&H3 c.1&&CI c.2&&decide (((c.4.size:Nat):Int)≤(64:Int))&&!(c.3&&!c.4.size==0))=bif !Cx c then true else H3 c.stamp&&decide (0 <c.stamp.n)&&CI c.vec&&decide ((c.value.size:Int)≤64)&&!(c.gone&&!(c.value.size==0)):=by
  rw[Bool.and_comm (decide (c.1.1 >(0:Int)))]
 rw[hw]
 generalize (bif !Cx c then true else H3 c.stamp&&decide (0 <c.stamp.n)&&CI c.vec&&decide ((c.value.size:Int)≤64)&&!(c.gone&&!(c.value.size==0)))=X
 by_cases h1:p=1
 ·subst h1
  show(bif !(c.5.1==(0:Int)&&c.5.2==(0:Int)) then false else X)=bif !(c.5.1==(0:Int)&&c.5.2==(0:Int))||false then false else X
  rw[Bool.or_false]
 ·have e1:(p==1)=false:=by simpa using h1
  rw[e1]
  by_cases h2:p=2
  ·subst h2
   show(bif c.3||!CI c.5 then false else X)=bif(c.3||!CI c.5)||false then false else X
   rw[Bool.or_false]
  ·have e2:(p==2)=false:=by simpa using h2
   rw[e2]
   rfl
def Yy (a0:List UInt8) (a1:TStamp):List UInt8:=a0++M3 (bif a1.1==(0:Int)&&a1.2==(0:Int) then(0:Int) else bif B9 a1 then IntKind.i64.wrap (IntKind.i64.wrap (IntKind.i64.wrap (a1.1*(2:Int))+a1.2) - (1:Int)) else(-1:Int))
def Ard (_a0:List UInt8) (_a1:TStamp):A:=.sq 0
def QN (a0:List UInt8) (a1:TStamp):Objs:=[(0,some (.arr 5 1 (.ty .u8 (Yy a0 a1))))]
def Bap (a0:List UInt8) (_a1:TStamp):List Prop:=[(Ai (a0.length+(8:Nat)))]
theorem Bao (a0:List UInt8) (a1:TStamp):EQ (AA Bz3 L0) 9 121 [Ak .bytes a0,Ak .stamp a1] 0 []=some (1,Ard a0 a1,1,QN a0 a1,[(Ai (a0.length+(8:Nat)))]):=by kernel_rfl
theorem Bgz (a0:List UInt8) (a1:TStamp) (hp:∀p∈Bap a0 a1,p):CallOk Try.prog 121 [Ak .bytes a0,Ak .stamp a1] 0 [] 1 (Ard a0 a1) 1 (QN a0 a1):=by
 have n0:=N0 hp
 exact AI (Aw Bli AH) (Bao a0 a1) (Aa n0 Ab)
def Aju (_a0:List UInt8) (_a1:TStamp):A:=.sq 0
def N4 (a0:List UInt8) (a1:TStamp):Objs:=[(0,some (.arr 5 1 (.ty .u8 (a0++Bi2 a1))))]
def Abk (a0:List UInt8) (_a1:TStamp):List Prop:=[Ai (a0.length+8)]
theorem Ban (a0:List UInt8) (a1:TStamp):Yy a0 a1=a0++Bi2 a1:=by
 unfold Yy Bi2 Bzf
 rw[Ku]
 congr 1
 cases hg:H3 a1 with
 | false=>
  have hz:(a1.1==(0:Int)&&a1.2==(0:Int))=false:=by
   rw[Bool.eq_false_iff]
   intro h
   unfold H3 at hg
   rw[h] at hg
   cases hg
  rw[hz]
  rfl
 | true=>
  have h':=Bot.1 hg
  rw[cond_true,cond_true]
  congr 1
  by_cases h0:a1.n=0
  ·have hz:(a1.1==(0:Int)&&a1.2==(0:Int))=true:=by
    rcases h' with⟨h1,h2⟩|h1
    ·rw[h1,h2];rfl
    ·omega
   have e:(a1.n==0)=true:=by simpa using h0
   rw[hz,e]
   rfl
  ·have hz:(a1.1==(0:Int)&&a1.2==(0:Int))=false:=by
    have:(a1.1==(0:Int))=false:=by simpa using h0
    rw[this];rfl
   have e:(a1.n==0)=false:=by simpa using h0
   rw[hz,e,cond_false,cond_false,i64_in (n:=a1.1*2) (by omega),i64_in (n:=a1.1*2+a1.2) (by omega),i64_in (by omega)]
   omega
theorem Bam (a0:List UInt8) (a1:TStamp) (hp:∀p∈Abk a0 a1,p):CallOk Try.prog 121 [Ak .bytes a0,Ak .stamp a1] 0 [] 1 (Aju a0 a1) 1 (N4 a0 a1):=by
 have h:=Bgz a0 a1 (Aa (hp _ (List.mem_cons_self ..)) Ab)
 have ho:QN a0 a1=N4 a0 a1:=by unfold QN N4;rw[Ban]
 rw[ho] at h
 exact h
def Yz:List A→Nat→Objs→Option Bb
 | [y0,y1],nx,o=>match AQ .bytes y0,AQ .stamp y1 with
  |some (a0,p0),some (a1,p1)=>some (1,(Aju a0 a1).pk (AF nx),nx+1,AE nx (N4 a0 a1)++o,p0++(p1++(Abk a0 a1)))
  |_,_=>none
 |_,_,_=>none
theorem A3t:Ft Try.prog 121 Yz:=fun args nx o k x nx' o' ps h=>by
 unfold Yz at h
 split at h<;>first|(cases h;done)|skip
 split at h<;>first|(cases h;done)|skip
 rename_i a0 p0 a1 p1 e0 e1
 cases h
 refine⟨fun hp=>?_,_,rfl⟩
 have q0:=fun p hm=>hp p (List.mem_append.2 (.inl hm))
 have r0:=fun p hm=>hp p (List.mem_append.2 (.inr hm))
 have q1:=fun p hm=>r0 p (List.mem_append.2 (.inl hm))
 have r1:=fun p hm=>r0 p (List.mem_append.2 (.inr hm))
 refine Ah (Ag (Bam a0 a1 r1) (Nat.le_refl _) (Ac (Af _ _) (Ac (Af _ _) Ao)) nx o) fun F N R vs hl=>?_
 obtain⟨v0,w0,rfl,h0,hl⟩:=hl.inv
 obtain⟨v1,w1,rfl,h1,hl⟩:=hl.inv
 exact HL.cons (Am e0 q0 h0) (HL.cons (Am e1 q1 h1) (hl))
noncomputable def Bz4:=A7 121 Yz Bz3
theorem Blj:Dd Try.prog Bz4:=Av A3t Bli
def PK (a0:List UInt8) (a1:TVec):List UInt8:=a0++M3 a1.1
def An5 (a0:List UInt8) (a1:TVec):List UInt8:=bif !Bv a1 then[]++a0 else(PK a0 a1)++M3 a1.2
def A5v (_a0:List UInt8) (_a1:TVec):A:=.sq 0
def Za (a0:List UInt8) (a1:TVec):Objs:=[(0,some (.arr 5 1 (.ty .u8 (An5 a0 a1))))]
def Bk2 (a0:List UInt8) (a1:TVec):List Prop:=[((!Bv a1)=true→Ai ((0:Nat)+a0.length)),((!!Bv a1)=true→Ai (a0.length+(8:Nat))),((!!Bv a1)=true→Ai ((PK a0 a1).length+(8:Nat)))]
theorem Bk1 (a0:List UInt8) (a1:TVec):EQ (AA Bz4 L0) 9 120 [Ak .bytes a0,Ak .vec a1] 0 []=some (1,A5v a0 a1,1,Za a0 a1,[((!Bv a1)=true→Ai ((0:Nat)+a0.length)),((!!Bv a1)=true→Ai (a0.length+(8:Nat))),((!!Bv a1)=true→Ai ((PK a0 a1).length+(8:Nat)))]):=by kernel_rfl
theorem Bp9 (a0:List UInt8) (a1:TVec) (hp:∀p∈Bk2 a0 a1,p):CallOk Try.prog 120 [Ak .bytes a0,Ak .vec a1] 0 [] 1 (A5v a0 a1) 1 (Za a0 a1):=by
 have n0:=N0 hp
 have n1:=N0 (N1 hp)
 have n2:=N0 (N1 (N1 hp))
 exact AI (Aw Blj AH) (Bk1 a0 a1) (Aa n0 (Aa n1 (Aa n2 Ab)))
def A1f (_a0:List UInt8) (_a1:TVec):A:=.sq 0
def Uy (a0:List UInt8) (a1:TVec):Objs:=[(0,some (.arr 5 1 (.ty .u8 (a0++Asr a1))))]
def Arj (a0:List UInt8) (_a1:TVec):List Prop:=[Ai (a0.length+16)]
theorem Bk0 (a0:List UInt8) (a1:TVec):An5 a0 a1=a0++Asr a1:=by
 unfold An5 PK Asr
 rw[K1]
 cases CI a1 with
 |false=>exact(List.append_nil a0).symm
 |true=>exact List.append_assoc ..
theorem Bkz (a0:List UInt8) (a1:TVec) (hp:∀p∈Arj a0 a1,p):CallOk Try.prog 120 [Ak .bytes a0,Ak .vec a1] 0 [] 1 (A1f a0 a1) 1 (Uy a0 a1):=by
 have hb:Ai (a0.length+16):=hp _ (List.mem_cons_self ..)
 have h:=Bp9 a0 a1 (Aa (fun _=>by unfold Ai at*;omega) (Aa (fun _=>by unfold Ai at*;omega) (Aa (fun _=>by
  have:=XE a1.1
  unfold PK Ai at*
  rw[List.length_append]
  omega) Ab)))
 have ho:Za a0 a1=Uy a0 a1:=by unfold Za Uy;rw[Bk0]
 rw[ho] at h
 exact h
def An6:List A→Nat→Objs→Option Bb
 | [y0,y1],nx,o=>match AQ .bytes y0,AQ .vec y1 with
  |some (a0,p0),some (a1,p1)=>some (1,(A1f a0 a1).pk (AF nx),nx+1,AE nx (Uy a0 a1)++o,p0++(p1++(Arj a0 a1)))
  |_,_=>none
 |_,_,_=>none
theorem Bha:Ft Try.prog 120 An6:=fun args nx o k x nx' o' ps h=>by
 unfold An6 at h
 split at h<;>first|(cases h;done)|skip
 split at h<;>first|(cases h;done)|skip
 rename_i a0 p0 a1 p1 e0 e1
 cases h
 refine⟨fun hp=>?_,_,rfl⟩
 have q0:=fun p hm=>hp p (List.mem_append.2 (.inl hm))
 have r0:=fun p hm=>hp p (List.mem_append.2 (.inr hm))
 have q1:=fun p hm=>r0 p (List.mem_append.2 (.inl hm))
 have r1:=fun p hm=>r0 p (List.mem_append.2 (.inr hm))
 refine Ah (Ag (Bkz a0 a1 r1) (Nat.le_refl _) (Ac (Af _ _) (Ac (Af _ _) Ao)) nx o) fun F N R vs hl=>?_
 obtain⟨v0,w0,rfl,h0,hl⟩:=hl.inv
 obtain⟨v1,w1,rfl,h1,hl⟩:=hl.inv
 exact HL.cons (Am e0 q0 h0) (HL.cons (Am e1 q1 h1) (hl))
noncomputable def Bz5:=A7 120 An6 Bz4
theorem Blk:Dd Try.prog Bz5:=Av Bha Blj
def JD (a0:List UInt8) (a1:ByteArray):List UInt8:=a0++M3 (↑a1.size:Int)
def Aad (a0:List UInt8) (a1:ByteArray):List UInt8:=(JD a0 a1)++a1.data.toList
def Aae (_a0:List UInt8) (_a1:ByteArray):A:=.sq 0
def Ms (a0:List UInt8) (a1:ByteArray):Objs:=[(0,some (.arr 5 1 (.ty .u8 (Aad a0 a1))))]
def Ax1 (a0:List UInt8) (a1:ByteArray):List Prop:=[(Ai (a0.length+(8:Nat))),(Ai ((JD a0 a1).length+a1.data.toList.length))]
theorem Ax0 (a0:List UInt8) (a1:ByteArray):EQ (AA Bz5 L0) 9 122 [Ak .bytes a0,Ak .str a1] 0 []=some (1,Aae a0 a1,1,Ms a0 a1,[(Ai (a0.length+(8:Nat))),(Ai ((JD a0 a1).length+a1.data.toList.length))]):=by kernel_rfl
theorem A2j (a0:List UInt8) (a1:ByteArray) (hp:∀p∈Ax1 a0 a1,p):CallOk Try.prog 122 [Ak .bytes a0,Ak .str a1] 0 [] 1 (Aae a0 a1) 1 (Ms a0 a1):=by
 have n0:=N0 hp
 have n1:=N0 (N1 hp)
 exact AI (Aw Blk AH) (Ax0 a0 a1) (Aa n0 (Aa n1 Ab))
def Xl (_a0:List UInt8) (_a1:ByteArray):A:=.sq 0
def LC (a0:List UInt8) (a1:ByteArray):Objs:=[(0,some (.arr 5 1 (.ty .u8 (a0++A8u a1))))]
def UY (a0:List UInt8) (a1:ByteArray):List Prop:=[Ai (a0.length+8+a1.size)]
theorem Xk (a0:List UInt8) (a1:ByteArray) (hp:∀p∈UY a0 a1,p):CallOk Try.prog 122 [Ak .bytes a0,Ak .str a1] 0 [] 1 (Xl a0 a1) 1 (LC a0 a1):=by
 have hb:Ai (a0.length+8+a1.size):=hp _ (List.mem_cons_self ..)
 have h:=A2j a0 a1 (Aa (by unfold Ai at*;omega) (Aa (by
  have:=XE (a1.size:Int)
  have hs:a1.data.toList.length=a1.size:=Array.length_toList
  unfold JD Ai at*
  rw[List.length_append,hs]
  omega) Ab))
 have ho:Ms a0 a1=LC a0 a1:=by unfold Ms LC Aad JD A8u;rw[List.append_assoc]
 rw[ho] at h
 exact h
def Rw:List A→Nat→Objs→Option Bb
 | [y0,y1],nx,o=>match AQ .bytes y0,AQ .str y1 with
  |some (a0,p0),some (a1,p1)=>some (1,(Xl a0 a1).pk (AF nx),nx+1,AE nx (LC a0 a1)++o,p0++(p1++(UY a0 a1)))
  |_,_=>none
 |_,_,_=>none
theorem Asm:Ft Try.prog 122 Rw:=fun args nx o k x nx' o' ps h=>by
 unfold Rw at h
 split at h<;>first|(cases h;done)|skip
 split at h<;>first|(cases h;done)|skip
 rename_i a0 p0 a1 p1 e0 e1
 cases h
 refine⟨fun hp=>?_,_,rfl⟩
 have q0:=fun p hm=>hp p (List.mem_append.2 (.inl hm))
 have r0:=fun p hm=>hp p (List.mem_append.2 (.inr hm))
 have q1:=fun p hm=>r0 p (List.mem_append.2 (.inl hm))
 have r1:=fun p hm=>r0 p (List.mem_append.2 (.inr hm))
 refine Ah (Ag (Xk a0 a1 r1) (Nat.le_refl _) (Ac (Af _ _) (Ac (Af _ _) Ao)) nx o) fun F N R vs hl=>?_
 obtain⟨v0,w0,rfl,h0,hl⟩:=hl.inv
 obtain⟨v1,w1,rfl,h1,hl⟩:=hl.inv
 exact HL.cons (Am e0 q0 h0) (HL.cons (Am e1 q1 h1) (hl))
noncomputable def Bz6:=A7 122 Rw Bz5
theorem Bll:Dd Try.prog Bz6:=Av Asm Blk
def CS (_a0:List UInt8) (_a1:Int) (a2:TCell):Int:=bif a2.3 then IntKind.i64.wrap (↑(BitVec.ofInt (64:Nat) (bif Fw a2 then(1:Int) else(0:Int)) ||| BitVec.ofInt (64:Nat) (2:Int)).toNat:Int) else bif Fw a2 then(1:Int) else(0:Int)
def HG (a0:List UInt8) (a1:Int) (a2:TCell):List UInt8:=a0++M3 (bif !(a2.5.1==(0:Int)&&a2.5.2==(0:Int)) then IntKind.i64.wrap (↑(BitVec.ofInt (64:Nat) (CS a0 a1 a2) ||| BitVec.ofInt (64:Nat) (4:Int)).toNat:Int) else(CS a0 a1 a2))++Bi2 a2.1
def DW (a0:List UInt8) (a1:Int) (a2:TCell):Bool:=decide (IntKind.i64.wrap (↑(BitVec.ofInt (64:Nat) (bif !(a2.5.1==(0:Int)&&a2.5.2==(0:Int)) then IntKind.i64.wrap (↑(BitVec.ofInt (64:Nat) (CS a0 a1 a2) ||| BitVec.ofInt (64:Nat) (4:Int)).toNat:Int) else(CS a0 a1 a2)) &&& BitVec.ofInt (64:Nat) (1:Int)).toNat:Int) >(0:Int))
def MN (a0:List UInt8) (a1:Int) (a2:TCell):Bool:=decide (IntKind.i64.wrap (↑(BitVec.ofInt (64:Nat) (bif !(a2.5.1==(0:Int)&&a2.5.2==(0:Int)) then IntKind.i64.wrap (↑(BitVec.ofInt (64:Nat) (CS a0 a1 a2) ||| BitVec.ofInt (64:Nat) (4:Int)).toNat:Int) else(CS a0 a1 a2)) &&& BitVec.ofInt (64:Nat) (4:Int)).toNat:Int) >(0:Int))
def Jp (a0:List UInt8) (a1:Int) (a2:TCell):List UInt8:=bif(DW a0 a1 a2) then bif !a2.3 then(HG a0 a1 a2)++Asr a2.2++A8u a2.4 else(HG a0 a1 a2)++Asr a2.2 else a0++M3 (bif !(a2.5.1==(0:Int)&&a2.5.2==(0:Int)) then IntKind.i64.wrap (↑(BitVec.ofInt (64:Nat) (CS a0 a1 a2) ||| BitVec.ofInt (64:Nat) (4:Int)).toNat:Int) else(CS a0 a1 a2))
def Abv (a0:List UInt8) (a1:Int) (a2:TCell):List UInt8:=bif !AV a1 a2 then[]++a0 else bif(MN a0 a1 a2) then(Jp a0 a1 a2)++Asr (TVec.mk (bif(DW a0 a1 a2) then bif !a2.3 then a2.5.1 else a2.5.1 else a2.5.1) (bif(DW a0 a1 a2) then bif !a2.3 then a2.5.2 else a2.5.2 else a2.5.2)) else(Jp a0 a1 a2)
def Avk (_a0:List UInt8) (_a1:Int) (_a2:TCell):A:=.sq 0
def TD (a0:List UInt8) (a1:Int) (a2:TCell):Objs:=[(0,some (.arr 5 1 (.ty .u8 (Abv a0 a1 a2))))]
def Bcr (a0:List UInt8) (a1:Int) (a2:TCell):List Prop:=[((!AV a1 a2)=true→Ai ((0:Nat)+a0.length)),((!!AV a1 a2)=true→Ai (a0.length+(8:Nat))),((!!AV a1 a2)=true→(DW a0 a1 a2)=true→Ai ((a0++M3 (bif !(a2.5.1==(0:Int)&&a2.5.2==(0:Int)) then IntKind.i64.wrap (↑(BitVec.ofInt (64:Nat) (CS a0 a1 a2) ||| BitVec.ofInt (64:Nat) (4:Int)).toNat:Int) else(CS a0 a1 a2))).length+(8:Nat))),((!!AV a1 a2)=true→(DW a0 a1 a2)=true→Ai ((HG a0 a1 a2).length+(16:Nat))),((!!AV a1 a2)=true→(DW a0 a1 a2)=true→(!a2.3)=true→Ai (((HG a0 a1 a2)++Asr a2.2).length+(8:Nat)+a2.4.size)),((!!AV a1 a2)=true→(MN a0 a1 a2)=true→Ai ((Jp a0 a1 a2).length+(16:Nat)))]
theorem Bcq (a0:List UInt8) (a1:Int) (a2:TCell):EQ (AA Bz6 L0) 9 56 [Ak .bytes a0,Ak .i64 a1,Ak .cell a2] 0 []=some (1,Avk a0 a1 a2,1,TD a0 a1 a2,[((!AV a1 a2)=true→Ai ((0:Nat)+a0.length)),((!!AV a1 a2)=true→Ai (a0.length+(8:Nat))),((!!AV a1 a2)=true→(DW a0 a1 a2)=true→Ai ((a0++M3 (bif !(a2.5.1==(0:Int)&&a2.5.2==(0:Int)) then IntKind.i64.wrap (↑(BitVec.ofInt (64:Nat) (CS a0 a1 a2) ||| BitVec.ofInt (64:Nat) (4:Int)).toNat:Int) else(CS a0 a1 a2))).length+(8:Nat))),((!!AV a1 a2)=true→(DW a0 a1 a2)=true→Ai ((HG a0 a1 a2).length+(16:Nat))),((!!AV a1 a2)=true→(DW a0 a1 a2)=true→(!a2.3)=true→Ai (((HG a0 a1 a2)++Asr a2.2).length+(8:Nat)+a2.4.size)),((!!AV a1 a2)=true→(MN a0 a1 a2)=true→Ai ((Jp a0 a1 a2).length+(16:Nat)))]):=by kernel_rfl
theorem Bh0 (a0:List UInt8) (a1:Int) (a2:TCell) (hp:∀p∈Bcr a0 a1 a2,p):CallOk Try.prog 56 [Ak .bytes a0,Ak .i64 a1,Ak .cell a2] 0 [] 1 (Avk a0 a1 a2) 1 (TD a0 a1 a2):=by
 have n0:=N0 hp
 have n1:=N0 (N1 hp)
 have n2:=N0 (N1 (N1 hp))
 have n3:=N0 (N1 (N1 (N1 hp)))
 have n4:=N0 (N1 (N1 (N1 (N1 hp))))
 have n5:=N0 (N1 (N1 (N1 (N1 (N1 hp)))))
 exact AI (Aw Bll AH) (Bcq a0 a1 a2) (Aa n0 (Aa n1 (Aa n2 (Aa n3 (Aa n4 (Aa n5 Ab))))))
def Aoi (_a0:List UInt8) (_a1:Int) (_a2:TCell):A:=.sq 0
def PT (a0:List UInt8) (a1:Int) (a2:TCell):Objs:=[(0,some (.arr 5 1 (.ty .u8 (a0++Bez a1 a2))))]
def Afx (a0:List UInt8) (_a1:Int) (_a2:TCell):List Prop:=[Ai (a0.length+128)]
theorem LV (a0:List UInt8) (a1:Int) (c:TCell):(bif !(c.5.1==(0:Int)&&c.5.2==(0:Int)) then IntKind.i64.wrap (↑(BitVec.ofInt (64:Nat) (CS a0 a1 c) ||| BitVec.ofInt (64:Nat) (4:Int)).toNat:Int) else(CS a0 a1 c))=OA c:=by
 unfold CS OA
 rw[Kx]
 show(bif !(Hq c.dead) then _ else _)=_
 cases Cx c<;>cases c.gone<;>cases Hq c.dead<;>rfl
theorem Aog (a0:List UInt8) (a1:Int) (c:TCell):DW a0 a1 c=Cx c:=by
 unfold DW
 obtain⟨h1,_,h3,_⟩:=Bdk c
 rw[LV,Afp h1 0 1 rfl (by decide)]
 exact h3
theorem Bco (a0:List UInt8) (a1:Int) (c:TCell):MN a0 a1 c=!Hq c.dead:=by
 unfold MN
 obtain⟨h1,_,_,_,h5⟩:=Bdk c
 rw[LV,Afp h1 2 4 rfl (by decide)]
 exact h5
theorem Bcp (a0:List UInt8) (a1:Int) (c:TCell):Abv a0 a1 c=a0++Bez a1 c:=by
 unfold Abv Jp HG Bez Br2
 rw[IK,LV,Aog,Bco]
 have hd:∀w g:Bool,(TVec.mk (bif w then bif !g then c.5.1 else c.5.1 else c.5.1) (bif w then bif !g then c.5.2 else c.5.2 else c.5.2))=c.dead:=by intro w g;cases w<;>cases g<;>rfl
 rw[hd]
 cases BA a1 c<;>cases Cx c<;>cases c.gone<;>cases Hq c.dead<;>simp
theorem Aoh (a0:List UInt8) (a1:Int) (a2:TCell) (hp:∀p∈Afx a0 a1 a2,p):CallOk Try.prog 56 [Ak .bytes a0,Ak .i64 a1,Ak .cell a2] 0 [] 1 (Aoi a0 a1 a2) 1 (PT a0 a1 a2):=by
 have hb:Ai (a0.length+128):=hp _ (List.mem_cons_self ..)
 unfold Ai at hb
 have n8:=XE (OA a2)
 have s8:=Bud a2.stamp
 have v16:=A8v a2.vec
 have t8:=Bi3 a2.value
 have k3:(HG a0 a1 a2).length≤a0.length+16:=by
  unfold HG
  rw[LV,List.length_append,List.length_append]
  omega
 have sz:(!!AV a1 a2)=true→DW a0 a1 a2=true→a2.value.size≤64:=fun h1 h2=>by
  rw[IK,Bool.not_not] at h1
  rw[Aog] at h2
  have:=((A4m.1 h1).st h2).2.2.2.1
  omega
 have h:=Bh0 a0 a1 a2 (Aa (fun _=>by unfold Ai;omega) (Aa (fun _=>by unfold Ai;omega) (Aa (fun _ _=>by rw[LV,List.length_append];unfold Ai;omega) (Aa (fun _ _=>by unfold Ai;omega) (Aa (fun h1 h2 _=>by
   have:=sz h1 h2
   rw[List.length_append];unfold Ai;omega) (Aa (fun h1 _=>by
   have:(Jp a0 a1 a2).length≤a0.length+112:=by
    unfold Jp
    rw[LV]
    cases hw:DW a0 a1 a2 with
    |false=>rw[cond_false,List.length_append];omega
    |true=>
     have:=sz h1 hw
     rw[cond_true]
     cases a2.3 with
     |true=>simp only[Bool.not_true,cond_false,List.length_append];omega
     |false=>simp only[Bool.not_false,cond_true,List.length_append];omega
   unfold Ai;omega) Ab))))))
 have ho:TD a0 a1 a2=PT a0 a1 a2:=by unfold TD PT;rw[Bcp]
 rw[ho] at h
 exact h
def Abw:List A→Nat→Objs→Option Bb
 | [y0,y1,y2],nx,o=>match AQ .bytes y0,AQ .i64 y1,AQ .cell y2 with
  |some (a0,p0),some (a1,p1),some (a2,p2)=>some (1,(Aoi a0 a1 a2).pk (AF nx),nx+1,AE nx (PT a0 a1 a2)++o,p0++(p1++(p2++(Afx a0 a1 a2))))
  |_,_,_=>none
 |_,_,_=>none
theorem A6q:Ft Try.prog 56 Abw:=fun args nx o k x nx' o' ps h=>by
 unfold Abw at h
 split at h<;>first|(cases h;done)|skip
 split at h<;>first|(cases h;done)|skip
 rename_i a0 p0 a1 p1 a2 p2 e0 e1 e2
 cases h
 refine⟨fun hp=>?_,_,rfl⟩
 have q0:=fun p hm=>hp p (List.mem_append.2 (.inl hm))
 have r0:=fun p hm=>hp p (List.mem_append.2 (.inr hm))
 have q1:=fun p hm=>r0 p (List.mem_append.2 (.inl hm))
 have r1:=fun p hm=>r0 p (List.mem_append.2 (.inr hm))
 have q2:=fun p hm=>r1 p (List.mem_append.2 (.inl hm))
 have r2:=fun p hm=>r1 p (List.mem_append.2 (.inr hm))
 refine Ah (Ag (Aoh a0 a1 a2 r2) (Nat.le_refl _) (Ac (Af _ _) (Ac (Af _ _) (Ac (Af _ _) Ao))) nx o) fun F N R vs hl=>?_
 obtain⟨v0,w0,rfl,h0,hl⟩:=hl.inv
 obtain⟨v1,w1,rfl,h1,hl⟩:=hl.inv
 obtain⟨v2,w2,rfl,h2,hl⟩:=hl.inv
 exact HL.cons (Am e0 q0 h0) (HL.cons (Am e1 q1 h1) (HL.cons (Am e2 q2 h2) (hl)))
noncomputable def Bz7:=A7 56 Abw Bz6
theorem Blm:Dd Try.prog Bz7:=Av A6q Bll
def LO (a0:List UInt8):Bool:=(Ar a0).fst==(0:Int)
def LN (a0:List UInt8):Bool:=(Ar a0).snd.snd !=(0:Int)
def LM (a0:List UInt8):Bool:=!B9 (TStamp.mk ((Ar a0).fst.fdiv (2:Int)) (IntKind.i64.wrap (IntKind.i64.wrap (↑(BitVec.ofInt (64:Nat) (Ar a0).fst &&& BitVec.ofInt (64:Nat) (1:Int)).toNat:Int)+(1:Int))))
def QL (a0:List UInt8):TStamp:=TStamp.mk (bif(LN a0) then(0:Int) else bif(LO a0) then(0:Int) else bif(LM a0) then(0:Int) else(Ar a0).fst.fdiv (2:Int)) (bif(LN a0) then(0:Int) else bif(LO a0) then(0:Int) else bif(LM a0) then(0:Int) else IntKind.i64.wrap (IntKind.i64.wrap (↑(BitVec.ofInt (64:Nat) (Ar a0).fst &&& BitVec.ofInt (64:Nat) (1:Int)).toNat:Int)+(1:Int)))
def Yv (a0:List UInt8):Int:=bif(LN a0) then(0:Int) else bif(LO a0) then(Ar a0).snd.fst else bif(LM a0) then(0:Int) else(Ar a0).snd.fst
def Yw (a0:List UInt8):Int:=bif(LN a0) then(Ar a0).snd.snd else bif(LO a0) then(0:Int) else bif(LM a0) then(11:Int) else(0:Int)
def QM (a0:List UInt8):A:=.v (.tuple ⟨[.agg ⟨[.int .i64 ((QL a0).n),.int .i64 ((QL a0).site)]⟩,.int .i64 (Yv a0),.int .i64 (Yw a0)]⟩)
def Arc (_a0:List UInt8):Objs:=[]
def Baj (_a0:List UInt8):List Prop:=[]
theorem Bai (a0:List UInt8):EQ (AA Bz7 L0) 9 115 [Ak .bytes a0] 0 []=some (1,QM a0,0,Arc a0,[]):=by kernel_rfl
theorem Bgy (a0:List UInt8) (_hp:∀p∈Baj a0,p):CallOk Try.prog 115 [Ak .bytes a0] 0 [] 1 (QM a0) 0 (Arc a0):=by
 exact AI (Aw Blm AH) (Bai a0) Ab
def N3 (a0:List UInt8):A:=.v (.tuple ⟨[.agg ⟨[.int .i64 (Gn a0).1.n,.int .i64 (Gn a0).1.site]⟩,.int .i64 (Gn a0).2.1,.int .i64 (Gn a0).2.2]⟩)
def Ajt (_a0:List UInt8):Objs:=[]
def Abh (_a0:List UInt8):List Prop:=[]
theorem Bah (b:List UInt8):(QL b,Yv b,Yw b)=Gn b:=by
 obtain⟨_,_,_,hn0,hn1⟩:=HK b
 have hok:okN (Ar b).1:=⟨hn0,hn1⟩
 unfold QL Yv Yw LM LN LO Gn B03
 rw[Bwl hok,Ku,Int.fdiv_eq_ediv_of_nonneg _ (by decide)]
 by_cases he:(Ar b).2.2=0
 ·have e1:((Ar b).2.2 !=(0:Int))=false:=by rw[he];rfl
  rw[e1,if_neg (by rw[he];simp)]
  by_cases hz:(Ar b).1=0
  ·have e2:((Ar b).1==(0:Int))=true:=by rw[hz];rfl
   rw[e2,if_pos hz]
   rfl
  ·have e2:((Ar b).1==(0:Int))=false:=by simpa using hz
   rw[e2,if_neg hz]
   cases hg:H3 ⟨(Ar b).1 / 2,1+(Ar b).1 % 2⟩ with
   |true=>rfl
   |false=>rfl
 ·have e1:((Ar b).2.2 !=(0:Int))=true:=by simpa using he
  rw[e1,if_pos he]
  rfl
theorem Bag (a0:List UInt8) (_hp:∀p∈Abh a0,p):CallOk Try.prog 115 [Ak .bytes a0] 0 [] 1 (N3 a0) 0 (Ajt a0):=by
 have h:=Bgy a0 Ab
 have hr:QM a0=N3 a0:=by unfold QM N3;rw[←Bah]
 rw[hr] at h
 exact h
def Yx:List A→Nat→Objs→Option Bb
 | [y0],nx,o=>match AQ .bytes y0 with
  |some (a0,p0)=>some (1,(N3 a0).pk (AF nx),nx+0,AE nx (Ajt a0)++o,p0++(Abh a0))
  |_=>none
 |_,_,_=>none
theorem A3q:Ft Try.prog 115 Yx:=fun args nx o k x nx' o' ps h=>by
 unfold Yx at h
 split at h<;>first|(cases h;done)|skip
 split at h<;>first|(cases h;done)|skip
 rename_i a0 p0 e0
 cases h
 refine⟨fun hp=>?_,_,rfl⟩
 have q0:=fun p hm=>hp p (List.mem_append.2 (.inl hm))
 have r0:=fun p hm=>hp p (List.mem_append.2 (.inr hm))
 refine Ah (Ag (Bag a0 r0) (Nat.le_refl _) (Ac (Af _ _) Ao) nx o) fun F N R vs hl=>?_
 obtain⟨v0,w0,rfl,h0,hl⟩:=hl.inv
 exact HL.cons (Am e0 q0 h0) (hl)
noncomputable def Bz8:=A7 115 Yx Bz7
theorem Bln:Dd Try.prog Bz8:=Av A3q Blm
def Ev (a0:List UInt8):Bool:=(Ar (List.take ((↑a0.length:Int).toNat - (0:Nat)) (List.drop (0:Nat) a0))).snd.snd !=(0:Int)
def DV (a0:List UInt8):Int:=IntKind.i64.wrap ((0:Int)+(Ar (List.take ((↑a0.length:Int).toNat - (0:Nat)) (List.drop (0:Nat) a0))).snd.fst)
def Uw (a0:List UInt8):Int:=bif(Ev a0) then(0:Int) else(0:Int)
def KV (a0:List UInt8):Int:=(Ar (List.take ((↑a0.length:Int).toNat - (DV a0).toNat) (List.drop (DV a0).toNat a0))).snd.snd
def PJ (a0:List UInt8):Bool:=!Bv (TVec.mk (Ar (List.take ((↑a0.length:Int).toNat - (0:Nat)) (List.drop (0:Nat) a0))).fst (Ar (List.take ((↑a0.length:Int).toNat - (DV a0).toNat) (List.drop (DV a0).toNat a0))).fst)
def PI (a0:List UInt8):Bool:=(Ev a0)||(KV a0) !=(0:Int)
def Y8 (a0:List UInt8):TVec:=TVec.mk (bif(PI a0) then(Uw a0) else bif(PJ a0) then(0:Int) else(Ar (List.take ((↑a0.length:Int).toNat - (0:Nat)) (List.drop (0:Nat) a0))).fst) (bif(PI a0) then(Uw a0) else bif(PJ a0) then(0:Int) else(Ar (List.take ((↑a0.length:Int).toNat - (DV a0).toNat) (List.drop (DV a0).toNat a0))).fst)
def An2 (a0:List UInt8):Int:=bif(PI a0) then(Uw a0) else bif(PJ a0) then(0:Int) else IntKind.i64.wrap ((DV a0)+(Ar (List.take ((↑a0.length:Int).toNat - (DV a0).toNat) (List.drop (DV a0).toNat a0))).snd.fst)
def An3 (a0:List UInt8):Int:=bif(PI a0) then bif(Ev a0) then(Ar (List.take ((↑a0.length:Int).toNat - (0:Nat)) (List.drop (0:Nat) a0))).snd.snd else(KV a0) else bif(PJ a0) then(11:Int) else(0:Int)
def Y9 (a0:List UInt8):A:=.v (.tuple ⟨[.agg ⟨[.int .i64 ((Y8 a0).a),.int .i64 ((Y8 a0).b)]⟩,.int .i64 (An2 a0),.int .i64 (An3 a0)]⟩)
def A5u (_a0:List UInt8):Objs:=[]
def A1b (a0:List UInt8):List Prop:=[((!(Ev a0))=true→(0:Int)≤(DV a0)∧(DV a0)≤(↑a0.length:Int)∧(↑a0.length:Int)≤(↑a0.length:Int))]
theorem Bkw (a0:List UInt8):EQ (AA Bz8 L0) 9 116 [Ak .bytes a0] 0 []=some (1,Y9 a0,0,A5u a0,[((0:Int)≤(0:Int)∧(0:Int)≤(↑a0.length:Int)∧(↑a0.length:Int)≤(↑a0.length:Int)),((!(Ev a0))=true→(0:Int)≤(0:Int)∧(0:Int) <(2:Int)),((!(Ev a0))=true→(0:Nat) <(2:Nat)),((!(Ev a0))=true→(0:Int)≤(DV a0)∧(DV a0)≤(↑a0.length:Int)∧(↑a0.length:Int)≤(↑a0.length:Int)),((!(Ev a0))=true→(!(KV a0) !=(0:Int))=true→(0:Int)≤(1:Int)∧(1:Int) <(2:Int)),((!(Ev a0))=true→(!(KV a0) !=(0:Int))=true→(1:Nat) <(2:Nat))]):=by kernel_rfl
theorem Bp8 (a0:List UInt8) (hp:∀p∈A1b a0,p):CallOk Try.prog 116 [Ak .bytes a0] 0 [] 1 (Y9 a0) 0 (A5u a0):=by
 have n0:((0:Int)≤(0:Int)∧(0:Int)≤(↑a0.length:Int)∧(↑a0.length:Int)≤(↑a0.length:Int)):=by omega
 have n1:((!(Ev a0))=true→(0:Int)≤(0:Int)∧(0:Int) <(2:Int)):=by omega
 have n2:((!(Ev a0))=true→(0:Nat) <(2:Nat)):=by omega
 have n3:=N0 hp
 have n4:((!(Ev a0))=true→(!(KV a0) !=(0:Int))=true→(0:Int)≤(1:Int)∧(1:Int) <(2:Int)):=by omega
 have n5:((!(Ev a0))=true→(!(KV a0) !=(0:Int))=true→(1:Nat) <(2:Nat)):=by omega
 exact AI (Aw Bln AH) (Bkw a0) (Aa n0 (Aa n1 (Aa n2 (Aa n3 (Aa n4 (Aa n5 Ab))))))
def Ux (a0:List UInt8):A:=.v (.tuple ⟨[.agg ⟨[.int .i64 (F3 a0).1.a,.int .i64 (F3 a0).1.b]⟩,.int .i64 (F3 a0).2.1,.int .i64 (F3 a0).2.2]⟩)
def A1a (_a0:List UInt8):Objs:=[]
def Arg (_a0:List UInt8):List Prop:=[]
theorem ED {b:List UInt8} {k:Int}:List.take (((b.length:Nat):Int).toNat - k.toNat) (List.drop k.toNat b)=b.drop k.toNat:=by
 rw[Int.toNat_natCast]
 exact List.take_of_length_le (by rw[List.length_drop];exact Nat.le_refl _)
theorem Bkv (b:List UInt8):(∀p∈A1b b,p)∧(Y8 b,An2 b,An3 b)=F3 b:=by
 obtain⟨hk0,hk1,hk2,hn0,hn1⟩:=HK b
 have e0:List.take (((b.length:Nat):Int).toNat - (0:Nat)) (List.drop (0:Nat) b)=b:=by
  simp
 have k4:DV b=(Ar b).2.1:=by
  unfold DV
  rw[e0,i64_in (by omega)]
  omega
 refine⟨Aa (fun _=>?_) Ab,?_⟩
 ·rw[k4];omega
 ·unfold Y8 An2 An3 PI PJ KV Uw Ev F3
  rw[k4,e0,ED,K1]
  obtain⟨hj0,hj1,hj2,hm0,hm1⟩:=HK (b.drop (Ar b).2.1.toNat)
  rw[i64_in (n:=(Ar b).2.1+_) (by omega)]
  by_cases he:(Ar b).2.2=0
  ·have e1:((Ar b).2.2 !=(0:Int))=false:=by rw[he];rfl
   rw[e1,if_neg (by rw[he];simp)]
   by_cases he2:(Ar (b.drop (Ar b).2.1.toNat)).2.2=0
   ·have e2:((Ar (b.drop (Ar b).2.1.toNat)).2.2 !=(0:Int))=false:=by rw[he2];rfl
    rw[e2,if_neg (by rw[he2];simp)]
    cases hg:CI ⟨(Ar b).1,(Ar (b.drop (Ar b).2.1.toNat)).1⟩ with
    |true=>rfl
    |false=>rfl
   ·have e2:((Ar (b.drop (Ar b).2.1.toNat)).2.2 !=(0:Int))=true:=by simpa using he2
    rw[e2,if_pos he2]
    rfl
  ·have e1:((Ar b).2.2 !=(0:Int))=true:=by simpa using he
   rw[e1,if_pos he]
   rfl
theorem Bku (a0:List UInt8) (_hp:∀p∈Arg a0,p):CallOk Try.prog 116 [Ak .bytes a0] 0 [] 1 (Ux a0) 0 (A1a a0):=by
 obtain⟨h1,h2⟩:=Bkv a0
 have h:=Bp8 a0 h1
 have hr:Y9 a0=Ux a0:=by unfold Y9 Ux;rw[←h2]
 rw[hr] at h
 exact h
def An4:List A→Nat→Objs→Option Bb
 | [y0],nx,o=>match AQ .bytes y0 with
  |some (a0,p0)=>some (1,(Ux a0).pk (AF nx),nx+0,AE nx (A1a a0)++o,p0++(Arg a0))
  |_=>none
 |_,_,_=>none
theorem Bg7:Ft Try.prog 116 An4:=fun args nx o k x nx' o' ps h=>by
 unfold An4 at h
 split at h<;>first|(cases h;done)|skip
 split at h<;>first|(cases h;done)|skip
 rename_i a0 p0 e0
 cases h
 refine⟨fun hp=>?_,_,rfl⟩
 have q0:=fun p hm=>hp p (List.mem_append.2 (.inl hm))
 have r0:=fun p hm=>hp p (List.mem_append.2 (.inr hm))
 refine Ah (Ag (Bku a0 r0) (Nat.le_refl _) (Ac (Af _ _) Ao) nx o) fun F N R vs hl=>?_
 obtain⟨v0,w0,rfl,h0,hl⟩:=hl.inv
 exact HL.cons (Am e0 q0 h0) (hl)
noncomputable def Bqz:=A7 116 An4 Bz8
theorem Bbh:Dd Try.prog Bqz:=Av Bg7 Bln
def Ih (a0:List UInt8) (_a1:Int):Bool:=(Ar a0).snd.snd !=(0:Int)
def Fx (a0:List UInt8) (_a1:Int):Int:=IntKind.i64.wrap ((Ar a0).snd.fst+(Ar a0).fst)
def Ig (a0:List UInt8) (a1:Int):Bool:=decide ((Ar a0).fst >a1)
def Hh (a0:List UInt8) (a1:Int):Bool:=(Ih a0 a1)||((Ig a0 a1)||decide (IntKind.i64.wrap ((↑a0.length:Int) - (Ar a0).snd.fst) <(Ar a0).fst))
def Rr (a0:List UInt8) (a1:Int):ByteArray:=bif(Hh a0 a1) then bif(Ih a0 a1) then ByteArray.mk #[] else bif(Ig a0 a1) then ByteArray.mk #[] else ByteArray.mk #[] else ByteArray.mk (List.take ((Fx a0 a1).toNat - (Ar a0).snd.fst.toNat) (List.drop (Ar a0).snd.fst.toNat a0)).toArray
def Rs (a0:List UInt8) (a1:Int):Int:=bif(Hh a0 a1) then bif(Ih a0 a1) then(0:Int) else bif(Ig a0 a1) then(0:Int) else(0:Int) else(Fx a0 a1)
def Rt (a0:List UInt8) (a1:Int):Int:=bif(Hh a0 a1) then bif(Ih a0 a1) then(Ar a0).snd.snd else bif(Ig a0 a1) then(3:Int) else(10:Int) else(0:Int)
def Mr (a0:List UInt8) (a1:Int):A:=.v (.tuple ⟨[.string (Rr a0 a1),.int .i64 (Rs a0 a1),.int .i64 (Rt a0 a1)]⟩)
def Aac (_a0:List UInt8) (_a1:Int):Objs:=[]
def Xh (a0:List UInt8) (a1:Int):List Prop:=[((!(Hh a0 a1))=true→(0:Int)≤(Ar a0).snd.fst∧(Ar a0).snd.fst≤(Fx a0 a1)∧(Fx a0 a1)≤(↑a0.length:Int))]
theorem Axu (a0:List UInt8) (a1:Int):EQ (AA Bqz L0) 9 117 [Ak .bytes a0,Ak .i64 a1] 0 []=some (1,Mr a0 a1,0,Aac a0 a1,[((!(Hh a0 a1))=true→(0:Int)≤(Ar a0).snd.fst∧(Ar a0).snd.fst≤(Fx a0 a1)∧(Fx a0 a1)≤(↑a0.length:Int))]):=by kernel_rfl
theorem A2g (a0:List UInt8) (a1:Int) (hp:∀p∈Xh a0 a1,p):CallOk Try.prog 117 [Ak .bytes a0,Ak .i64 a1] 0 [] 1 (Mr a0 a1) 0 (Aac a0 a1):=by
 have n0:=N0 hp
 exact AI (Aw Bbh AH) (Axu a0 a1) (Aa n0 Ab)
def LA (a0:List UInt8) (a1:Int):A:=.v (.tuple ⟨[.string (Wj a0 a1).1,.int .i64 (Wj a0 a1).2.1,.int .i64 (Wj a0 a1).2.2]⟩)
def Xg (_a0:List UInt8) (_a1:Int):Objs:=[]
def UW (a0:List UInt8) (_a1:Int):List Prop:=[Ai a0.length]
theorem Axt (b:List UInt8) (m:Int) (hb:Ai b.length):(∀p∈Xh b m,p)∧(Rr b m,Rs b m,Rt b m)=Wj b m:=by
 obtain⟨hk0,hk1,hk2,hn0,hn1⟩:=HK b
 unfold Ai at hb
 have k2:Fx b m=(Ar b).2.1+(Ar b).1:=by
  unfold Fx
  exact i64_in (by omega)
 have k0:Hh b m=((Ar b).2.2 !=0||(decide ((Ar b).1 >m)||decide ((b.length:Int) - (Ar b).2.1 <(Ar b).1))):=by
  unfold Hh Ig Ih
  rw[i64_in (by omega)]
 refine⟨Aa (fun h=>?_) Ab,?_⟩
 ·rw[k0] at h
  rw[k2]
  simp only[Bool.not_eq_true',Bool.or_eq_false_iff,decide_eq_false_iff_not] at h
  omega
 ·unfold Rr Rs Rt Ig Ih Wj
  rw[k0,k2]
  by_cases he:(Ar b).2.2=0
  ·have e1:((Ar b).2.2 !=(0:Int))=false:=by rw[he];rfl
   rw[e1,if_neg (by rw[he];simp)]
   by_cases hm:(Ar b).1 >m
   ·rw[decide_eq_true hm,if_pos hm];rfl
   ·rw[decide_eq_false hm,if_neg hm]
    by_cases hc:(b.length:Int) - (Ar b).2.1 <(Ar b).1
    ·rw[decide_eq_true hc,if_pos hc];rfl
    ·rw[decide_eq_false hc,if_neg hc]
     have e3:((Ar b).2.1+(Ar b).1).toNat - (Ar b).2.1.toNat=(Ar b).1.toNat:=by omega
     rw[e3]
     rfl
  ·have e1:((Ar b).2.2 !=(0:Int))=true:=by simpa using he
   rw[e1,if_pos he]
   rfl
theorem Axs (a0:List UInt8) (a1:Int) (hp:∀p∈UW a0 a1,p):CallOk Try.prog 117 [Ak .bytes a0,Ak .i64 a1] 0 [] 1 (LA a0 a1) 0 (Xg a0 a1):=by
 obtain⟨h1,h2⟩:=Axt a0 a1 (hp _ (List.mem_cons_self ..))
 have h:=A2g a0 a1 h1
 have hr:Mr a0 a1=LA a0 a1:=by unfold Mr LA;rw[←h2]
 rw[hr] at h
 exact h
def Ru:List A→Nat→Objs→Option Bb
 | [y0,y1],nx,o=>match AQ .bytes y0,AQ .i64 y1 with
  |some (a0,p0),some (a1,p1)=>some (1,(LA a0 a1).pk (AF nx),nx+0,AE nx (Xg a0 a1)++o,p0++(p1++(UW a0 a1)))
  |_,_=>none
 |_,_,_=>none
theorem Ask:Ft Try.prog 117 Ru:=fun args nx o k x nx' o' ps h=>by
 unfold Ru at h
 split at h<;>first|(cases h;done)|skip
 split at h<;>first|(cases h;done)|skip
 rename_i a0 p0 a1 p1 e0 e1
 cases h
 refine⟨fun hp=>?_,_,rfl⟩
 have q0:=fun p hm=>hp p (List.mem_append.2 (.inl hm))
 have r0:=fun p hm=>hp p (List.mem_append.2 (.inr hm))
 have q1:=fun p hm=>r0 p (List.mem_append.2 (.inl hm))
 have r1:=fun p hm=>r0 p (List.mem_append.2 (.inr hm))
 refine Ah (Ag (Axs a0 a1 r1) (Nat.le_refl _) (Ac (Af _ _) (Ac (Af _ _) Ao)) nx o) fun F N R vs hl=>?_
 obtain⟨v0,w0,rfl,h0,hl⟩:=hl.inv
 obtain⟨v1,w1,rfl,h1,hl⟩:=hl.inv
 exact HL.cons (Am e0 q0 h0) (HL.cons (Am e1 q1 h1) (hl))
noncomputable def Bq0:=A7 117 Ru Bqz
theorem Bbi:Dd Try.prog Bq0:=Av Ask Bbh
noncomputable def Bq1:=A7 113 (inl (AA Bq0 L0) 9 113) Bq0
theorem Bbj:Dd Try.prog Bq1:=Av (Acd (Aw Bbi AH) 9 113) Bbi
def AR (a0:List UInt8) (_a1:Int):Int:=IntKind.i64.wrap ((0:Int)+(Ar a0).snd.fst)
def AT (a0:List UInt8) (a1:Int):Int:=IntKind.i64.wrap ((AR a0 a1)+(Gn (List.take ((↑a0.length:Int).toNat - (AR a0 a1).toNat) (List.drop (AR a0 a1).toNat a0))).snd.fst)
def Fq (a0:List UInt8) (a1:Int):Int:=bif(Ar a0).snd.snd==(0:Int)&&decide (IntKind.i64.wrap (↑(BitVec.ofInt (64:Nat) (Ar a0).fst &&& BitVec.ofInt (64:Nat) (1:Int)).toNat:Int) >(0:Int)) then bif !decide (IntKind.i64.wrap (↑(BitVec.ofInt (64:Nat) (Ar a0).fst &&& BitVec.ofInt (64:Nat) (2:Int)).toNat:Int) >(0:Int)) then(F3 (List.take ((↑a0.length:Int).toNat - (AT a0 a1).toNat) (List.drop (AT a0 a1).toNat a0))).fst.2 else(F3 (List.take ((↑a0.length:Int).toNat - (AT a0 a1).toNat) (List.drop (AT a0 a1).toNat a0))).fst.2 else(0:Int)
def Gz (a0:List UInt8) (a1:Int):Int:=bif(Ar a0).snd.snd==(0:Int)&&decide (IntKind.i64.wrap (↑(BitVec.ofInt (64:Nat) (Ar a0).fst &&& BitVec.ofInt (64:Nat) (1:Int)).toNat:Int) >(0:Int)) then bif !decide (IntKind.i64.wrap (↑(BitVec.ofInt (64:Nat) (Ar a0).fst &&& BitVec.ofInt (64:Nat) (2:Int)).toNat:Int) >(0:Int)) then(F3 (List.take ((↑a0.length:Int).toNat - (AT a0 a1).toNat) (List.drop (AT a0 a1).toNat a0))).fst.1 else(F3 (List.take ((↑a0.length:Int).toNat - (AT a0 a1).toNat) (List.drop (AT a0 a1).toNat a0))).fst.1 else(0:Int)
def Gy (a0:List UInt8) (a1:Int):Int:=bif(Ar a0).snd.snd==(0:Int)&&decide (IntKind.i64.wrap (↑(BitVec.ofInt (64:Nat) (Ar a0).fst &&& BitVec.ofInt (64:Nat) (1:Int)).toNat:Int) >(0:Int)) then bif !decide (IntKind.i64.wrap (↑(BitVec.ofInt (64:Nat) (Ar a0).fst &&& BitVec.ofInt (64:Nat) (2:Int)).toNat:Int) >(0:Int)) then(Gn (List.take ((↑a0.length:Int).toNat - (AR a0 a1).toNat) (List.drop (AR a0 a1).toNat a0))).fst.2 else(Gn (List.take ((↑a0.length:Int).toNat - (AR a0 a1).toNat) (List.drop (AR a0 a1).toNat a0))).fst.2 else(0:Int)
def Gx (a0:List UInt8) (a1:Int):Int:=bif(Ar a0).snd.snd==(0:Int)&&decide (IntKind.i64.wrap (↑(BitVec.ofInt (64:Nat) (Ar a0).fst &&& BitVec.ofInt (64:Nat) (1:Int)).toNat:Int) >(0:Int)) then bif !decide (IntKind.i64.wrap (↑(BitVec.ofInt (64:Nat) (Ar a0).fst &&& BitVec.ofInt (64:Nat) (2:Int)).toNat:Int) >(0:Int)) then(Gn (List.take ((↑a0.length:Int).toNat - (AR a0 a1).toNat) (List.drop (AR a0 a1).toNat a0))).fst.1 else(Gn (List.take ((↑a0.length:Int).toNat - (AR a0 a1).toNat) (List.drop (AR a0 a1).toNat a0))).fst.1 else(0:Int)
def EG (a0:List UInt8) (_a1:Int):Int:=bif(Ar a0).snd.snd==(0:Int)&&decide (IntKind.i64.wrap (↑(BitVec.ofInt (64:Nat) (Ar a0).fst &&& BitVec.ofInt (64:Nat) (1:Int)).toNat:Int) >(0:Int)) then bif !decide (IntKind.i64.wrap (↑(BitVec.ofInt (64:Nat) (Ar a0).fst &&& BitVec.ofInt (64:Nat) (2:Int)).toNat:Int) >(0:Int)) then(0:Int) else(0:Int) else(0:Int)
def Bl (a0:List UInt8) (a1:Int):Int:=IntKind.i64.wrap ((AT a0 a1)+(F3 (List.take ((↑a0.length:Int).toNat - (AT a0 a1).toNat) (List.drop (AT a0 a1).toNat a0))).snd.fst)
def EF (a0:List UInt8) (_a1:Int):Bool:=bif(Ar a0).snd.snd==(0:Int)&&decide (IntKind.i64.wrap (↑(BitVec.ofInt (64:Nat) (Ar a0).fst &&& BitVec.ofInt (64:Nat) (1:Int)).toNat:Int) >(0:Int)) then bif !decide (IntKind.i64.wrap (↑(BitVec.ofInt (64:Nat) (Ar a0).fst &&& BitVec.ofInt (64:Nat) (2:Int)).toNat:Int) >(0:Int)) then decide (IntKind.i64.wrap (↑(BitVec.ofInt (64:Nat) (Ar a0).fst &&& BitVec.ofInt (64:Nat) (2:Int)).toNat:Int) >(0:Int)) else decide (IntKind.i64.wrap (↑(BitVec.ofInt (64:Nat) (Ar a0).fst &&& BitVec.ofInt (64:Nat) (2:Int)).toNat:Int) >(0:Int)) else false
def Gw (a0:List UInt8) (a1:Int):ByteArray:=bif(Ar a0).snd.snd==(0:Int)&&decide (IntKind.i64.wrap (↑(BitVec.ofInt (64:Nat) (Ar a0).fst &&& BitVec.ofInt (64:Nat) (1:Int)).toNat:Int) >(0:Int)) then bif !decide (IntKind.i64.wrap (↑(BitVec.ofInt (64:Nat) (Ar a0).fst &&& BitVec.ofInt (64:Nat) (2:Int)).toNat:Int) >(0:Int)) then(Wj (List.take ((↑a0.length:Int).toNat - (Bl a0 a1).toNat) (List.drop (Bl a0 a1).toNat a0)) (64:Int)).fst else ByteArray.mk #[] else ByteArray.mk #[]
def A3 (a0:List UInt8) (a1:Int):Int:=bif(Ar a0).snd.snd==(0:Int)&&decide (IntKind.i64.wrap (↑(BitVec.ofInt (64:Nat) (Ar a0).fst &&& BitVec.ofInt (64:Nat) (1:Int)).toNat:Int) >(0:Int)) then bif !decide (IntKind.i64.wrap (↑(BitVec.ofInt (64:Nat) (Ar a0).fst &&& BitVec.ofInt (64:Nat) (2:Int)).toNat:Int) >(0:Int)) then IntKind.i64.wrap ((Bl a0 a1)+(Wj (List.take ((↑a0.length:Int).toNat - (Bl a0 a1).toNat) (List.drop (Bl a0 a1).toNat a0)) (64:Int)).snd.fst) else(Bl a0 a1) else(AR a0 a1)
def AJ (a0:List UInt8) (a1:Int):Bool:=(bif(Ar a0).snd.snd==(0:Int)&&decide (IntKind.i64.wrap (↑(BitVec.ofInt (64:Nat) (Ar a0).fst &&& BitVec.ofInt (64:Nat) (1:Int)).toNat:Int) >(0:Int)) then bif !decide (IntKind.i64.wrap (↑(BitVec.ofInt (64:Nat) (Ar a0).fst &&& BitVec.ofInt (64:Nat) (2:Int)).toNat:Int) >(0:Int)) then(Ar a0).snd.snd==(0:Int)&&(Gn (List.take ((↑a0.length:Int).toNat - (AR a0 a1).toNat) (List.drop (AR a0 a1).toNat a0))).snd.snd==(0:Int)&&(F3 (List.take ((↑a0.length:Int).toNat - (AT a0 a1).toNat) (List.drop (AT a0 a1).toNat a0))).snd.snd==(0:Int)&&(Wj (List.take ((↑a0.length:Int).toNat - (Bl a0 a1).toNat) (List.drop (Bl a0 a1).toNat a0)) (64:Int)).snd.snd==(0:Int) else(Ar a0).snd.snd==(0:Int)&&(Gn (List.take ((↑a0.length:Int).toNat - (AR a0 a1).toNat) (List.drop (AR a0 a1).toNat a0))).snd.snd==(0:Int)&&(F3 (List.take ((↑a0.length:Int).toNat - (AT a0 a1).toNat) (List.drop (AT a0 a1).toNat a0))).snd.snd==(0:Int) else(Ar a0).snd.snd==(0:Int))&&decide (IntKind.i64.wrap (↑(BitVec.ofInt (64:Nat) (Ar a0).fst &&& BitVec.ofInt (64:Nat) (4:Int)).toNat:Int) >(0:Int))
def EE (a0:List UInt8) (a1:Int):Bool:=(!bif(AJ a0 a1) then(bif(Ar a0).snd.snd==(0:Int)&&decide (IntKind.i64.wrap (↑(BitVec.ofInt (64:Nat) (Ar a0).fst &&& BitVec.ofInt (64:Nat) (1:Int)).toNat:Int) >(0:Int)) then bif !decide (IntKind.i64.wrap (↑(BitVec.ofInt (64:Nat) (Ar a0).fst &&& BitVec.ofInt (64:Nat) (2:Int)).toNat:Int) >(0:Int)) then(Ar a0).snd.snd==(0:Int)&&(Gn (List.take ((↑a0.length:Int).toNat - (AR a0 a1).toNat) (List.drop (AR a0 a1).toNat a0))).snd.snd==(0:Int)&&(F3 (List.take ((↑a0.length:Int).toNat - (AT a0 a1).toNat) (List.drop (AT a0 a1).toNat a0))).snd.snd==(0:Int)&&(Wj (List.take ((↑a0.length:Int).toNat - (Bl a0 a1).toNat) (List.drop (Bl a0 a1).toNat a0)) (64:Int)).snd.snd==(0:Int) else(Ar a0).snd.snd==(0:Int)&&(Gn (List.take ((↑a0.length:Int).toNat - (AR a0 a1).toNat) (List.drop (AR a0 a1).toNat a0))).snd.snd==(0:Int)&&(F3 (List.take ((↑a0.length:Int).toNat - (AT a0 a1).toNat) (List.drop (AT a0 a1).toNat a0))).snd.snd==(0:Int) else(Ar a0).snd.snd==(0:Int))&&(F3 (List.take ((↑a0.length:Int).toNat - (A3 a0 a1).toNat) (List.drop (A3 a0 a1).toNat a0))).snd.snd==(0:Int) else bif(Ar a0).snd.snd==(0:Int)&&decide (IntKind.i64.wrap (↑(BitVec.ofInt (64:Nat) (Ar a0).fst &&& BitVec.ofInt (64:Nat) (1:Int)).toNat:Int) >(0:Int)) then bif !decide (IntKind.i64.wrap (↑(BitVec.ofInt (64:Nat) (Ar a0).fst &&& BitVec.ofInt (64:Nat) (2:Int)).toNat:Int) >(0:Int)) then(Ar a0).snd.snd==(0:Int)&&(Gn (List.take ((↑a0.length:Int).toNat - (AR a0 a1).toNat) (List.drop (AR a0 a1).toNat a0))).snd.snd==(0:Int)&&(F3 (List.take ((↑a0.length:Int).toNat - (AT a0 a1).toNat) (List.drop (AT a0 a1).toNat a0))).snd.snd==(0:Int)&&(Wj (List.take ((↑a0.length:Int).toNat - (Bl a0 a1).toNat) (List.drop (Bl a0 a1).toNat a0)) (64:Int)).snd.snd==(0:Int) else(Ar a0).snd.snd==(0:Int)&&(Gn (List.take ((↑a0.length:Int).toNat - (AR a0 a1).toNat) (List.drop (AR a0 a1).toNat a0))).snd.snd==(0:Int)&&(F3 (List.take ((↑a0.length:Int).toNat - (AT a0 a1).toNat) (List.drop (AT a0 a1).toNat a0))).snd.snd==(0:Int) else(Ar a0).snd.snd==(0:Int))||!((decide ((Ar a0).fst≤(7:Int))&&decide (IntKind.i64.wrap (↑(BitVec.ofInt (64:Nat) (Ar a0).fst &&& BitVec.ofInt (64:Nat) (1:Int)).toNat:Int) >(0:Int))==Fw (TCell.mk (TStamp.mk (bif(AJ a0 a1) then(Gx a0 a1) else(Gx a0 a1)) (bif(AJ a0 a1) then(Gy a0 a1) else(Gy a0 a1))) (TVec.mk (bif(AJ a0 a1) then(Gz a0 a1) else(Gz a0 a1)) (bif(AJ a0 a1) then(Fq a0 a1) else(Fq a0 a1))) (bif(AJ a0 a1) then(EF a0 a1) else(EF a0 a1)) (bif(AJ a0 a1) then(Gw a0 a1) else(Gw a0 a1)) (TVec.mk (bif(AJ a0 a1) then(F3 (List.take ((↑a0.length:Int).toNat - (A3 a0 a1).toNat) (List.drop (A3 a0 a1).toNat a0))).fst.1 else(EG a0 a1)) (bif(AJ a0 a1) then(F3 (List.take ((↑a0.length:Int).toNat - (A3 a0 a1).toNat) (List.drop (A3 a0 a1).toNat a0))).fst.2 else(EG a0 a1))))&&decide (IntKind.i64.wrap (↑(BitVec.ofInt (64:Nat) (Ar a0).fst &&& BitVec.ofInt (64:Nat) (2:Int)).toNat:Int) >(0:Int))==bif(AJ a0 a1) then(EF a0 a1) else(EF a0 a1))&&decide (IntKind.i64.wrap (↑(BitVec.ofInt (64:Nat) (Ar a0).fst &&& BitVec.ofInt (64:Nat) (4:Int)).toNat:Int) >(0:Int))==!((bif(AJ a0 a1) then(F3 (List.take ((↑a0.length:Int).toNat - (A3 a0 a1).toNat) (List.drop (A3 a0 a1).toNat a0))).fst.1 else(EG a0 a1))==(0:Int)&&(bif(AJ a0 a1) then(F3 (List.take ((↑a0.length:Int).toNat - (A3 a0 a1).toNat) (List.drop (A3 a0 a1).toNat a0))).fst.2 else(EG a0 a1))==(0:Int)))||!AV a1 (TCell.mk (TStamp.mk (bif(AJ a0 a1) then(Gx a0 a1) else(Gx a0 a1)) (bif(AJ a0 a1) then(Gy a0 a1) else(Gy a0 a1))) (TVec.mk (bif(AJ a0 a1) then(Gz a0 a1) else(Gz a0 a1)) (bif(AJ a0 a1) then(Fq a0 a1) else(Fq a0 a1))) (bif(AJ a0 a1) then(EF a0 a1) else(EF a0 a1)) (bif(AJ a0 a1) then(Gw a0 a1) else(Gw a0 a1)) (TVec.mk (bif(AJ a0 a1) then(F3 (List.take ((↑a0.length:Int).toNat - (A3 a0 a1).toNat) (List.drop (A3 a0 a1).toNat a0))).fst.1 else(EG a0 a1)) (bif(AJ a0 a1) then(F3 (List.take ((↑a0.length:Int).toNat - (A3 a0 a1).toNat) (List.drop (A3 a0 a1).toNat a0))).fst.2 else(EG a0 a1))))
def HW (a0:List UInt8) (a1:Int):TCell:=TCell.mk (TStamp.mk (bif(EE a0 a1) then(0:Int) else bif(AJ a0 a1) then(Gx a0 a1) else(Gx a0 a1)) (bif(EE a0 a1) then(0:Int) else bif(AJ a0 a1) then(Gy a0 a1) else(Gy a0 a1))) (TVec.mk (bif(EE a0 a1) then(0:Int) else bif(AJ a0 a1) then(Gz a0 a1) else(Gz a0 a1)) (bif(EE a0 a1) then(0:Int) else bif(AJ a0 a1) then(Fq a0 a1) else(Fq a0 a1))) (bif(EE a0 a1) then false else bif(AJ a0 a1) then(EF a0 a1) else(EF a0 a1)) (bif(EE a0 a1) then ByteArray.mk #[] else bif(AJ a0 a1) then(Gw a0 a1) else(Gw a0 a1)) (TVec.mk (bif(EE a0 a1) then(0:Int) else bif(AJ a0 a1) then(F3 (List.take ((↑a0.length:Int).toNat - (A3 a0 a1).toNat) (List.drop (A3 a0 a1).toNat a0))).fst.1 else(EG a0 a1)) (bif(EE a0 a1) then(0:Int) else bif(AJ a0 a1) then(F3 (List.take ((↑a0.length:Int).toNat - (A3 a0 a1).toNat) (List.drop (A3 a0 a1).toNat a0))).fst.2 else(EG a0 a1)))
def Abs (a0:List UInt8) (a1:Int):Int:=bif(EE a0 a1) then(0:Int) else bif(AJ a0 a1) then IntKind.i64.wrap ((A3 a0 a1)+(F3 (List.take ((↑a0.length:Int).toNat - (A3 a0 a1).toNat) (List.drop (A3 a0 a1).toNat a0))).snd.fst) else(A3 a0 a1)
def Abt (a0:List UInt8) (a1:Int):Int:=bif(EE a0 a1) then(80:Int) else(0:Int)
def Ty (a0:List UInt8) (a1:Int):A:=.v (.tuple ⟨[.agg ⟨[.int .i64 ((HW a0 a1).stamp.n),.int .i64 ((HW a0 a1).stamp.site),.int .i64 ((HW a0 a1).vec.a),.int .i64 ((HW a0 a1).vec.b),.bool ((HW a0 a1).gone),.string ((HW a0 a1).value),.int .i64 ((HW a0 a1).dead.a),.int .i64 ((HW a0 a1).dead.b)]⟩,.int .i64 (Abs a0 a1),.int .i64 (Abt a0 a1)]⟩)
def Avh (_a0:List UInt8) (_a1:Int):Objs:=[]
def Aod (a0:List UInt8) (a1:Int):List Prop:=[(((Ar a0).snd.snd==(0:Int)&&decide (IntKind.i64.wrap (↑(BitVec.ofInt (64:Nat) (Ar a0).fst &&& BitVec.ofInt (64:Nat) (1:Int)).toNat:Int) >(0:Int)))=true→(0:Int)≤(AR a0 a1)∧(AR a0 a1)≤(↑a0.length:Int)∧(↑a0.length:Int)≤(↑a0.length:Int)),(((Ar a0).snd.snd==(0:Int)&&decide (IntKind.i64.wrap (↑(BitVec.ofInt (64:Nat) (Ar a0).fst &&& BitVec.ofInt (64:Nat) (1:Int)).toNat:Int) >(0:Int)))=true→(0:Int)≤(AT a0 a1)∧(AT a0 a1)≤(↑a0.length:Int)∧(↑a0.length:Int)≤(↑a0.length:Int)),(((Ar a0).snd.snd==(0:Int)&&decide (IntKind.i64.wrap (↑(BitVec.ofInt (64:Nat) (Ar a0).fst &&& BitVec.ofInt (64:Nat) (1:Int)).toNat:Int) >(0:Int)))=true→(!decide (IntKind.i64.wrap (↑(BitVec.ofInt (64:Nat) (Ar a0).fst &&& BitVec.ofInt (64:Nat) (2:Int)).toNat:Int) >(0:Int)))=true→(0:Int)≤(Bl a0 a1)∧(Bl a0 a1)≤(↑a0.length:Int)∧(↑a0.length:Int)≤(↑a0.length:Int)),(((Ar a0).snd.snd==(0:Int)&&decide (IntKind.i64.wrap (↑(BitVec.ofInt (64:Nat) (Ar a0).fst &&& BitVec.ofInt (64:Nat) (1:Int)).toNat:Int) >(0:Int)))=true→(!decide (IntKind.i64.wrap (↑(BitVec.ofInt (64:Nat) (Ar a0).fst &&& BitVec.ofInt (64:Nat) (2:Int)).toNat:Int) >(0:Int)))=true→Ai (List.take ((↑a0.length:Int).toNat - (Bl a0 a1).toNat) (List.drop (Bl a0 a1).toNat a0)).length),((AJ a0 a1)=true→(0:Int)≤(A3 a0 a1)∧(A3 a0 a1)≤(↑a0.length:Int)∧(↑a0.length:Int)≤(↑a0.length:Int))]
theorem Bcn (a0:List UInt8) (a1:Int):EQ (AA Bq1 L0) 9 54 [Ak .bytes a0,Ak .i64 a1] 0 []=some (1,Ty a0 a1,0,Avh a0 a1,[(((Ar a0).snd.snd==(0:Int)&&decide (IntKind.i64.wrap (↑(BitVec.ofInt (64:Nat) (Ar a0).fst &&& BitVec.ofInt (64:Nat) (1:Int)).toNat:Int) >(0:Int)))=true→(0:Int)≤(AR a0 a1)∧(AR a0 a1)≤(↑a0.length:Int)∧(↑a0.length:Int)≤(↑a0.length:Int)),(((Ar a0).snd.snd==(0:Int)&&decide (IntKind.i64.wrap (↑(BitVec.ofInt (64:Nat) (Ar a0).fst &&& BitVec.ofInt (64:Nat) (1:Int)).toNat:Int) >(0:Int)))=true→(0:Int)≤(AT a0 a1)∧(AT a0 a1)≤(↑a0.length:Int)∧(↑a0.length:Int)≤(↑a0.length:Int)),(((Ar a0).snd.snd==(0:Int)&&decide (IntKind.i64.wrap (↑(BitVec.ofInt (64:Nat) (Ar a0).fst &&& BitVec.ofInt (64:Nat) (1:Int)).toNat:Int) >(0:Int)))=true→(!decide (IntKind.i64.wrap (↑(BitVec.ofInt (64:Nat) (Ar a0).fst &&& BitVec.ofInt (64:Nat) (2:Int)).toNat:Int) >(0:Int)))=true→(0:Int)≤(Bl a0 a1)∧(Bl a0 a1)≤(↑a0.length:Int)∧(↑a0.length:Int)≤(↑a0.length:Int)),(((Ar a0).snd.snd==(0:Int)&&decide (IntKind.i64.wrap (↑(BitVec.ofInt (64:Nat) (Ar a0).fst &&& BitVec.ofInt (64:Nat) (1:Int)).toNat:Int) >(0:Int)))=true→(!decide (IntKind.i64.wrap (↑(BitVec.ofInt (64:Nat) (Ar a0).fst &&& BitVec.ofInt (64:Nat) (2:Int)).toNat:Int) >(0:Int)))=true→Ai (List.take ((↑a0.length:Int).toNat - (Bl a0 a1).toNat) (List.drop (Bl a0 a1).toNat a0)).length),((AJ a0 a1)=true→(0:Int)≤(A3 a0 a1)∧(A3 a0 a1)≤(↑a0.length:Int)∧(↑a0.length:Int)≤(↑a0.length:Int))]):=by kernel_rfl
theorem Bhy (a0:List UInt8) (a1:Int) (hp:∀p∈Aod a0 a1,p):CallOk Try.prog 54 [Ak .bytes a0,Ak .i64 a1] 0 [] 1 (Ty a0 a1) 0 (Avh a0 a1):=by
 have n0:=N0 hp
 have n1:=N0 (N1 hp)
 have n2:=N0 (N1 (N1 hp))
 have n3:=N0 (N1 (N1 (N1 hp)))
 have n4:=N0 (N1 (N1 (N1 (N1 hp))))
 exact AI (Aw Bbj AH) (Bcn a0 a1) (Aa n0 (Aa n1 (Aa n2 (Aa n3 (Aa n4 Ab)))))
def PS (a0:List UInt8) (a1:Int):A:=.v (.tuple ⟨[.agg ⟨[.int .i64 (Arv a0 a1).1.stamp.n,.int .i64 (Arv a0 a1).1.stamp.site,.int .i64 (Arv a0 a1).1.vec.a,.int .i64 (Arv a0 a1).1.vec.b,.bool (Arv a0 a1).1.gone,.string (Arv a0 a1).1.value,.int .i64 (Arv a0 a1).1.dead.a,.int .i64 (Arv a0 a1).1.dead.b]⟩,.int .i64 (Arv a0 a1).2.1,.int .i64 (Arv a0 a1).2.2]⟩)
def Aoc (_a0:List UInt8) (_a1:Int):Objs:=[]
def Afv (a0:List UInt8) (_a1:Int):List Prop:=[Ai a0.length]
theorem Bdq (b:List UInt8):0≤(Gn b).2.1∧(Gn b).2.1≤(b.length:Int):=by
 obtain⟨h1,h2,_⟩:=HK b
 unfold Gn
 split
 ·exact⟨Int.le_refl _,by show(0:Int)≤(b.length:Int);omega⟩
 ·split
  ·exact⟨h1,h2⟩
  ·exact⟨Int.le_refl _,by show(0:Int)≤(b.length:Int);omega⟩
theorem Aom (b:List UInt8):0≤(F3 b).2.1∧(F3 b).2.1≤(b.length:Int):=by
 obtain⟨h1,h2,_⟩:=HK b
 obtain⟨h3,h4,_⟩:=HK (b.drop (Ar b).2.1.toNat)
 rw[List.length_drop] at h4
 unfold F3
 split
 ·exact⟨Int.le_refl _,by show(0:Int)≤(b.length:Int);omega⟩
 ·split
  ·exact⟨Int.le_refl _,by show(0:Int)≤(b.length:Int);omega⟩
  ·split
   ·exact⟨by show 0≤(Ar b).2.1+_;omega,by show(Ar b).2.1+_≤(b.length:Int);omega⟩
   ·exact⟨Int.le_refl _,by show(0:Int)≤(b.length:Int);omega⟩
theorem Bdr (b:List UInt8) (m:Int):0≤(Wj b m).2.1∧(Wj b m).2.1≤(b.length:Int):=by
 obtain⟨h1,h2,_,h3,_⟩:=HK b
 unfold Wj
 split
 ·exact⟨Int.le_refl _,by show(0:Int)≤(b.length:Int);omega⟩
 ·split
  ·exact⟨Int.le_refl _,by show(0:Int)≤(b.length:Int);omega⟩
  ·split
   ·exact⟨Int.le_refl _,by show(0:Int)≤(b.length:Int);omega⟩
   ·exact⟨by show 0≤(Ar b).2.1+_;omega,by show(Ar b).2.1+_≤(b.length:Int);omega⟩
theorem Bcm (b:List UInt8) (p:Int) (hb:Ai b.length):(∀q∈Aod b p,q)∧(HW b p,Abs b p,Abt b p)=Arv b p:=by
 unfold Ai at hb
 obtain⟨a1,a2,_,a3,a4⟩:=HK b
 have hok:okN (Ar b).1:=⟨a3,a4⟩
 have B1:=Afp hok 0 1 rfl (by decide)
 have B2:=Afp hok 1 2 rfl (by decide)
 have B4:=Afp hok 2 4 rfl (by decide)
 have e12:AR b p=(Ar b).2.1:=by
  unfold AR
  rw[i64_in (by omega)];omega
 obtain⟨s1,s2⟩:=Bdq (b.drop (Ar b).2.1.toNat)
 rw[List.length_drop] at s2
 have e11:AT b p=(Ar b).2.1+(Gn (b.drop (Ar b).2.1.toNat)).2.1:=by
  unfold AT
  rw[e12,ED,i64_in (by omega)]
 obtain⟨v1,v2⟩:=Aom (b.drop ((Ar b).2.1+(Gn (b.drop (Ar b).2.1.toNat)).2.1).toNat)
 rw[List.length_drop] at v2
 have e5:Bl b p=(Ar b).2.1+(Gn (b.drop (Ar b).2.1.toNat)).2.1+(F3 (b.drop ((Ar b).2.1+(Gn (b.drop (Ar b).2.1.toNat)).2.1).toNat)).2.1:=by
  unfold Bl
  rw[e11,ED,i64_in (by omega)]
 obtain⟨t1,t2⟩:=Bdr (b.drop ((Ar b).2.1+(Gn (b.drop (Ar b).2.1.toNat)).2.1+(F3 (b.drop ((Ar b).2.1+(Gn (b.drop (Ar b).2.1.toNat)).2.1).toNat)).2.1).toNat) 64
 rw[List.length_drop] at t2
 have e2:A3 b p=(stA b).2.2∧0≤(stA b).2.2∧(stA b).2.2≤(b.length:Int):=by
  unfold A3 stA
  rw[e5,e12,ED,B1,B2]
  show(bif(Ar b).2.2==0&&GG (Ar b).1 0 then bif !GG (Ar b).1 1 then _ else _ else _)=_∧_
  rw[i64_in (by omega)]
  cases((Ar b).2.2==0&&GG (Ar b).1 0)<;>cases GG (Ar b).1 1<;>refine⟨rfl,?_,?_⟩<;>(first|exact a1|exact a2|(simp only[cond_true,cond_false,Bool.not_true,Bool.not_false];omega))
 obtain⟨e2,e2a,e2b⟩:=e2
 obtain⟨d1,d2⟩:=Aom (b.drop (stA b).2.2.toNat)
 rw[List.length_drop] at d2
 have hcell:(stA b).2.1=⟨⟨Gx b p,Gy b p⟩,⟨Gz b p,Fq b p⟩,EF b p,Gw b p,⟨0,0⟩⟩:=by
  unfold Gx Gy Gz Fq EF Gw stA
  rw[e11,e5,e12,ED,ED,ED,B1,B2]
  show _=TCell.mk (TStamp.mk (bif(Ar b).2.2==0&&GG (Ar b).1 0 then bif !GG (Ar b).1 1 then _ else _ else _) _) _ _ _ _
  show(bif(Ar b).2.2==0&&GG (Ar b).1 0 then bif !GG (Ar b).1 1 then _ else _ else _:Bool×TCell×Int).2.1=TCell.mk (TStamp.mk (bif(Ar b).2.2==0&&GG (Ar b).1 0 then bif !GG (Ar b).1 1 then _ else _ else _) (bif(Ar b).2.2==0&&GG (Ar b).1 0 then bif !GG (Ar b).1 1 then _ else _ else _)) (TVec.mk (bif(Ar b).2.2==0&&GG (Ar b).1 0 then bif !GG (Ar b).1 1 then _ else _ else _) (bif(Ar b).2.2==0&&GG (Ar b).1 0 then bif !GG (Ar b).1 1 then _ else _ else _)) (bif(Ar b).2.2==0&&GG (Ar b).1 0 then bif !GG (Ar b).1 1 then GG (Ar b).1 1 else GG (Ar b).1 1 else _) (bif(Ar b).2.2==0&&GG (Ar b).1 0 then bif !GG (Ar b).1 1 then _ else _ else _) _
  cases((Ar b).2.2==0&&GG (Ar b).1 0)<;>cases GG (Ar b).1 1<;>rfl
 have hok1:(bif(Ar b).2.2==0&&GG (Ar b).1 0 then bif !GG (Ar b).1 1 then(Ar b).2.2==0&&(Gn (b.drop (Ar b).2.1.toNat)).2.2==0&&(F3 (b.drop ((Ar b).2.1+(Gn (b.drop (Ar b).2.1.toNat)).2.1).toNat)).2.2==0&&(Wj (b.drop ((Ar b).2.1+(Gn (b.drop (Ar b).2.1.toNat)).2.1+(F3 (b.drop ((Ar b).2.1+(Gn (b.drop (Ar b).2.1.toNat)).2.1).toNat)).2.1).toNat) 64).2.2==0
   else(Ar b).2.2==0&&(Gn (b.drop (Ar b).2.1.toNat)).2.2==0&&(F3 (b.drop ((Ar b).2.1+(Gn (b.drop (Ar b).2.1.toNat)).2.1).toNat)).2.2==0 else(Ar b).2.2==0)=(stA b).1:=by
  unfold stA
  cases((Ar b).2.2==0&&GG (Ar b).1 0)<;>cases GG (Ar b).1 1<;>rfl
 have e1:AJ b p=((stA b).1&&GG (Ar b).1 2):=by
  unfold AJ
  rw[e11,e5,e12,ED,ED,ED,B1,B2,B4]
  show((bif(Ar b).2.2==0&&GG (Ar b).1 0 then bif !GG (Ar b).1 1 then _ else _ else _)&&GG (Ar b).1 2)=_
  rw[hok1]
 have e6:EG b p=0:=by
  unfold EG
  cases((Ar b).2.2==0&&decide (IntKind.i64.wrap (↑(BitVec.ofInt (64:Nat) (Ar b).1 &&& BitVec.ofInt (64:Nat) (1:Int)).toNat:Int) >(0:Int)))<;>cases decide (IntKind.i64.wrap (↑(BitVec.ofInt (64:Nat) (Ar b).1 &&& BitVec.ofInt (64:Nat) (2:Int)).toNat:Int) >(0:Int))<;>rfl
 refine⟨Aa (fun _=>by rw[e12];omega) (Aa (fun _=>by rw[e11];omega) (Aa (fun _ _=>by rw[e5];omega) (Aa (fun _ _=>by rw[e5,ED,List.length_drop];unfold Ai;omega) (Aa (fun _=>by rw[e2];omega) Ab)))),?_⟩
 have hB1:(stB b).1=bif(stA b).1&&GG (Ar b).1 2 then(stA b).1&&(F3 (b.drop (stA b).2.2.toNat)).2.2==0 else(stA b).1:=by unfold stB;cases((stA b).1&&GG (Ar b).1 2)<;>rfl
 have hB2:(stB b).2.1=TCell.mk (TStamp.mk (bif AJ b p then Gx b p else Gx b p) (bif AJ b p then Gy b p else Gy b p)) (TVec.mk (bif AJ b p then Gz b p else Gz b p) (bif AJ b p then Fq b p else Fq b p)) (bif AJ b p then EF b p else EF b p) (bif AJ b p then Gw b p else Gw b p) (TVec.mk (bif AJ b p then(F3 (b.drop (stA b).2.2.toNat)).1.1 else EG b p) (bif AJ b p then(F3 (b.drop (stA b).2.2.toNat)).1.2 else EG b p)):=by
  rw[e1]
  unfold stB
  cases((stA b).1&&GG (Ar b).1 2) with
  |true=>simp only[cond_true];rw[hcell]
  |false=>simp only[cond_false];rw[hcell,e6]
 have hB3:(stB b).2.2=bif AJ b p then(stA b).2.2+(F3 (b.drop (stA b).2.2.toNat)).2.1 else(stA b).2.2:=by
  rw[e1]
  unfold stB
  cases((stA b).1&&GG (Ar b).1 2)<;>rfl
 have e0:EE b p=(!(stB b).1||!A9v (Ar b).1 (stB b).2.1||!BA p (stB b).2.1):=by
  unfold EE
  rw[e2,e11,e5,e12,ED,ED,ED,ED,IK,Kx,←hB2]
  rw[B1,B2,B4]
  show((!bif AJ b p then(bif(Ar b).2.2==0&&GG (Ar b).1 0 then bif !GG (Ar b).1 1 then _ else _ else _)&&_ else(bif(Ar b).2.2==0&&GG (Ar b).1 0 then bif !GG (Ar b).1 1 then _ else _ else _))||_||_)=_
  rw[hok1,hB1,←e1]
  unfold A9v
  rw[hB2]
  rfl
 unfold HW Abs Abt Arv
 rw[e0]
 cases(!(stB b).1||!A9v (Ar b).1 (stB b).2.1||!BA p (stB b).2.1) with
 |true=>rfl
 |false=>
  simp only[cond_false]
  rw[hB3,e2,ED,hB2,i64_in (by omega)]
theorem Bcl (a0:List UInt8) (a1:Int) (hp:∀p∈Afv a0 a1,p):CallOk Try.prog 54 [Ak .bytes a0,Ak .i64 a1] 0 [] 1 (PS a0 a1) 0 (Aoc a0 a1):=by
 obtain⟨h1,h2⟩:=Bcm a0 a1 (hp _ (List.mem_cons_self ..))
 have h:=Bhy a0 a1 h1
 have hr:Ty a0 a1=PS a0 a1:=by unfold Ty PS;rw[←h2]
 rw[hr] at h
 exact h
def Abu:List A→Nat→Objs→Option Bb
 | [y0,y1],nx,o=>match AQ .bytes y0,AQ .i64 y1 with
  |some (a0,p0),some (a1,p1)=>some (1,(PS a0 a1).pk (AF nx),nx+0,AE nx (Aoc a0 a1)++o,p0++(p1++(Afv a0 a1)))
  |_,_=>none
 |_,_,_=>none
theorem A6n:Ft Try.prog 54 Abu:=fun args nx o k x nx' o' ps h=>by
 unfold Abu at h
 split at h<;>first|(cases h;done)|skip
 split at h<;>first|(cases h;done)|skip
 rename_i a0 p0 a1 p1 e0 e1
 cases h
 refine⟨fun hp=>?_,_,rfl⟩
 have q0:=fun p hm=>hp p (List.mem_append.2 (.inl hm))
 have r0:=fun p hm=>hp p (List.mem_append.2 (.inr hm))
 have q1:=fun p hm=>r0 p (List.mem_append.2 (.inl hm))
 have r1:=fun p hm=>r0 p (List.mem_append.2 (.inr hm))
 refine Ah (Ag (Bcl a0 a1 r1) (Nat.le_refl _) (Ac (Af _ _) (Ac (Af _ _) Ao)) nx o) fun F N R vs hl=>?_
 obtain⟨v0,w0,rfl,h0,hl⟩:=hl.inv
 obtain⟨v1,w1,rfl,h1,hl⟩:=hl.inv
 exact HL.cons (Am e0 q0 h0) (HL.cons (Am e1 q1 h1) (hl))
noncomputable def By1:=A7 54 Abu Bq1
theorem Bq2:Dd Try.prog By1:=Av A6n Bbj
noncomputable def Cd:=By1
theorem By2:Dd Try.prog Cd:=Bq2
end Go.Proofs.Yteebobbhhgmeiaa
namespace Go.Proofs.Yteebobbhhgmeiaa
open Go.RowKit
def Adv (a0:TVec):A:=.v (.bool (a0.1==(0:Int)&&a0.2==(0:Int)))
def Adu (_a0:TVec):Objs:=[]
def Apv (_a0:TVec):List Prop:=[]
theorem Bfh (a0:TVec):EQ (AA Cd L0) 9 108 [Ak .vec a0] 0 []=some (1,Adv a0,0,Adu a0,[]):=by kernel_rfl
theorem Bjh (a0:TVec) (_hp:∀p∈Apv a0,p):CallOk Try.prog 108 [Ak .vec a0] 0 [] 1 (Adv a0) 0 (Adu a0):=by
 exact AI (Aw By2 AH) (Bfh a0) Ab
def Adw:List A→Nat→Objs→Option Bb
 | [y0],nx,o=>match AQ .vec y0 with
  |some (a0,p0)=>some (1,(Adv a0).pk (AF nx),nx+0,AE nx (Adu a0)++o,p0++(Apv a0))
  |_=>none
 |_,_,_=>none
theorem A88:Ft Try.prog 108 Adw:=fun args nx o k x nx' o' ps h=>by
 unfold Adw at h
 split at h<;>first|(cases h;done)|skip
 split at h<;>first|(cases h;done)|skip
 rename_i a0 p0 e0
 cases h
 refine⟨fun hp=>?_,_,rfl⟩
 have q0:=fun p hm=>hp p (List.mem_append.2 (.inl hm))
 have r0:=fun p hm=>hp p (List.mem_append.2 (.inr hm))
 refine Ah (Ag (Bjh a0 r0) (Nat.le_refl _) (Ac (Af _ _) Ao) nx o) fun F N R vs hl=>?_
 obtain⟨v0,w0,rfl,h0,hl⟩:=hl.inv
 exact HL.cons (Am e0 q0 h0) (hl)
noncomputable def Bz9:=A7 108 Adw Cd
theorem Blo:Dd Try.prog Bz9:=Av A88 By2
def Kr (a0:TCell):Bool:=a0.1.1 !=(0:Int)||a0.1.2 !=(0:Int)||a0.2.1 !=(0:Int)||a0.2.2 !=(0:Int)||a0.3||!a0.4.toList==(ByteArray.mk #[]).toList
def RC (a0:TCell):A:=.v (.bool (Kr a0))
def RB (_a0:TCell):Objs:=[]
def XP (_a0:TCell):List Prop:=[]
theorem Ay3 (a0:TCell):EQ (AA Bz9 L0) 9 106 [Ak .cell a0] 0 []=some (1,RC a0,0,RB a0,[]):=by kernel_rfl
theorem A2t (a0:TCell) (_hp:∀p∈XP a0,p):CallOk Try.prog 106 [Ak .cell a0] 0 [] 1 (RC a0) 0 (RB a0):=by
 exact AI (Aw Blo AH) (Ay3 a0) Ab
def RD:List A→Nat→Objs→Option Bb
 | [y0],nx,o=>match AQ .cell y0 with
  |some (a0,p0)=>some (1,(RC a0).pk (AF nx),nx+0,AE nx (RB a0)++o,p0++(XP a0))
  |_=>none
 |_,_,_=>none
theorem As0:Ft Try.prog 106 RD:=fun args nx o k x nx' o' ps h=>by
 unfold RD at h
 split at h<;>first|(cases h;done)|skip
 split at h<;>first|(cases h;done)|skip
 rename_i a0 p0 e0
 cases h
 refine⟨fun hp=>?_,_,rfl⟩
 have q0:=fun p hm=>hp p (List.mem_append.2 (.inl hm))
 have r0:=fun p hm=>hp p (List.mem_append.2 (.inr hm))
 refine Ah (Ag (A2t a0 r0) (Nat.le_refl _) (Ac (Af _ _) Ao) nx o) fun F N R vs hl=>?_
 obtain⟨v0,w0,rfl,h0,hl⟩:=hl.inv
 exact HL.cons (Am e0 q0 h0) (hl)
noncomputable def B0a:=A7 106 RD Bz9
theorem Blp:Dd Try.prog B0a:=Av As0 Blo
def Pj (a0:Int) (a1:TCell):Bool:=bif a0==(1:Int)&&!(a1.5.1==(0:Int)&&a1.5.2==(0:Int))||a0==(2:Int)&&(a1.3||!EY a1.5)||a0 !=(1:Int)&&a0 !=(2:Int) then false else bif !Kr a1 then true else Hn a1.1&&decide (a1.1.1 >(0:Int))&&EY a1.2&&decide ((↑a1.4.size:Int)≤(64:Int))&&(!a1.3||a1.4.toList==(ByteArray.mk #[]).toList)
def Adm (a0:Int) (a1:TCell):A:=.v (.bool (Pj a0 a1))
def Adl (_a0:Int) (_a1:TCell):Objs:=[]
def Apr (_a0:Int) (_a1:TCell):List Prop:=[]
theorem Bfa (a0:Int) (a1:TCell):EQ (AA B0a L0) 9 42 [Ak .i64 a0,Ak .cell a1] 0 []=some (1,Adm a0 a1,0,Adl a0 a1,[]):=by kernel_rfl
theorem Bjd (a0:Int) (a1:TCell) (_hp:∀p∈Apr a0 a1,p):CallOk Try.prog 42 [Ak .i64 a0,Ak .cell a1] 0 [] 1 (Adm a0 a1) 0 (Adl a0 a1):=by
 exact AI (Aw Blp AH) (Bfa a0 a1) Ab
def Adn:List A→Nat→Objs→Option Bb
 | [y0,y1],nx,o=>match AQ .i64 y0,AQ .cell y1 with
  |some (a0,p0),some (a1,p1)=>some (1,(Adm a0 a1).pk (AF nx),nx+0,AE nx (Adl a0 a1)++o,p0++(p1++(Apr a0 a1)))
  |_,_=>none
 |_,_,_=>none
theorem A84:Ft Try.prog 42 Adn:=fun args nx o k x nx' o' ps h=>by
 unfold Adn at h
 split at h<;>first|(cases h;done)|skip
 split at h<;>first|(cases h;done)|skip
 rename_i a0 p0 a1 p1 e0 e1
 cases h
 refine⟨fun hp=>?_,_,rfl⟩
 have q0:=fun p hm=>hp p (List.mem_append.2 (.inl hm))
 have r0:=fun p hm=>hp p (List.mem_append.2 (.inr hm))
 have q1:=fun p hm=>r0 p (List.mem_append.2 (.inl hm))
 have r1:=fun p hm=>r0 p (List.mem_append.2 (.inr hm))
 refine Ah (Ag (Bjd a0 a1 r1) (Nat.le_refl _) (Ac (Af _ _) (Ac (Af _ _) Ao)) nx o) fun F N R vs hl=>?_
 obtain⟨v0,w0,rfl,h0,hl⟩:=hl.inv
 obtain⟨v1,w1,rfl,h1,hl⟩:=hl.inv
 exact HL.cons (Am e0 q0 h0) (HL.cons (Am e1 q1 h1) (hl))
noncomputable def B1x:=A7 42 Adn B0a
theorem Bvz:Dd Try.prog B1x:=Av A84 Blp
theorem XH (s:TStamp):Hn s=H3 s:=rfl
theorem Qy (v:TVec):EY v=CI v:=by
 unfold EY CI
 rw[Bool.and_assoc]
theorem XO (c:TCell):Kr c=Cx c:=by
 unfold Kr Cx bne
 rw[Rq]
 generalize (c.1.1==(0:Int))=a
 generalize (c.1.2==(0:Int))=b
 generalize (c.2.1==(0:Int))=d
 generalize (c.2.2==(0:Int))=e
 show(!a||!b||!d||!e||c.gone||!(c.4.size==0))=!(a&&b&&(d&&e)&&(!c.gone&&c.value.size==0))
 cases a<;>cases b<;>cases d<;>cases e<;>cases c.gone<;>simp
theorem Apq (p:Int) (c:TCell):Pj p c=BA p c:=by
 unfold Pj BA bne
 rw[XO,Qy,Qy,XH,Rq]
 have h1:(p==(1:Int)&&!(c.5.1==(0:Int)&&c.5.2==(0:Int))||p==(2:Int)&&(c.3||!CI c.5)||!(p==(1:Int))&&!(p==(2:Int)))=(p==1&&!Hq c.dead||(p==2&&(c.gone||!CI c.dead)||!(p==1||p==2))):=by
  rw[Bool.or_assoc,Bool.not_or]
  rfl
 have h2:(!c.3||c.4.size==0)=!(c.gone&&!(c.value.size==0)):=by rw[Bool.not_and,Bool.not_not]
 rw[h1,h2]
noncomputable def Cf:=B1x
theorem Bq3:Dd Try.prog Cf:=Bvz
end Go.Proofs.Yteebobbhhgmeiaa
namespace Go.Proofs.Yteebobbhhgmeiaa
open Go.RowKit
theorem A5h {X:Type} (mk:Nat→X) (n:Nat) (stop:Nat→Bool) (next:X→X) (goes:X→Cnd) (ps:X→List Prop)
  (hg:∀i,i≤n→(∀j,j <i→stop j=false)→Bq (goes (mk i))=(decide (i <n)&&!stop i)) (hn:∀i,i <n→(∀j,j <i+1→stop j=false)→next (mk i)=mk (i+1)) (hp:∀i,i≤n→(∀j,j <i→stop j=false)→∀p∈ps (mk i),p):
  ∀(f i:Nat),i≤n→n≤i+f→(∀j,j <i→stop j=false)→
  AL next goes ps f (mk i)∧∃k,k≤n∧Bg next goes f (mk i)=mk k∧(∀j,j <k→stop j=false)∧(k <n→stop k=true)
 |0,i,hi,hf,hs=>by
  have hc:=hg i hi hs
  have:i=n:=by omega
  rw[decide_eq_false (by omega),Bool.false_and] at hc
  exact⟨⟨hp i hi hs,hc⟩,i,hi,rfl,hs,fun h=>by omega⟩
 | f +1,i,hi,hf,hs=>by
  have hc:=hg i hi hs
  cases hb:Bq (goes (mk i)) with
  | false=>
   have e:Bg next goes (f+1) (mk i)=mk i:=by
    show(bif Bq (goes (mk i)) then _ else mk i)=mk i
    rw[hb];rfl
   rw[e]
   refine⟨⟨hp i hi hs,fun h=>by rw[hb] at h;cases h⟩,i,hi,rfl,hs,fun h=>?_⟩
   rw[hb,decide_eq_true h,Bool.true_and] at hc
   cases hst:stop i with
   |true=>rfl
   |false=>rw[hst] at hc;cases hc
  | true=>
   rw[hb] at hc
   have h1:i <n:=by
    cases hd:decide (i <n) with
    |true=>exact of_decide_eq_true hd
    |false=>rw[hd] at hc;cases hc
   have h2:stop i=false:=by
    cases hst:stop i with
    |false=>rfl
    |true=>rw[hst,Bool.and_comm] at hc;cases hc
   have hs':∀j,j <i+1→stop j=false:=fun j hj=>by
    by_cases h:j <i
    ·exact hs j h
    ·obtain rfl:j=i:=by omega
     exact h2
   have e:Bg next goes (f+1) (mk i)=Bg next goes f (mk (i+1)):=by
    show(bif Bq (goes (mk i)) then Bg next goes f (next (mk i)) else mk i)=_
    rw[hb,hn i h1 hs'];rfl
   obtain⟨g1,g2⟩:=A5h mk n stop next goes ps hg hn hp f (i+1) h1 (by omega) hs'
   rw[e]
   exact⟨⟨hp i hi hs,fun _=>by rw[hn i h1 hs'];exact g1⟩,g2⟩
theorem Bpp {X:Type} (mk:Nat→X) (n:Nat) (stop:Nat→Bool) (next:X→X) (goes:X→Cnd) (ps:X→List Prop) (f:Nat) (x:X) (hx:x=mk 0) (hf:n≤f)
  (hg:∀i,i≤n→(∀j,j <i→stop j=false)→Bq (goes (mk i))=(decide (i <n)&&!stop i)) (hn:∀i,i <n→(∀j,j <i+1→stop j=false)→next (mk i)=mk (i+1)) (hp:∀i,i≤n→(∀j,j <i→stop j=false)→∀p∈ps (mk i),p):
  AL next goes ps f x∧∃k,k≤n∧Bg next goes f x=mk k∧(∀j,j <k→stop j=false)∧(k <n→stop k=true):=by
 subst hx
 exact A5h mk n stop next goes ps hg hn hp f 0 (Nat.zero_le _) (by omega) fun j h=>absurd h (Nat.not_lt_zero _)
theorem Fp {i:Nat} (h:i <9223372036854775807):IntKind.i64.wrap ((i:Int)+1)=((i+1:Nat):Int):=by rw[i64_in (by omega)];omega
theorem Mp {i n:Nat}:decide ((i:Int) <(n:Int))=decide (i <n):=by
 by_cases h:i <n
 ·rw[decide_eq_true h,decide_eq_true (by omega)]
 ·rw[decide_eq_false h,decide_eq_false (by omega)]
theorem nn (b:Bool):(!!b)=b:=Bool.not_not b
theorem Bb4 {α:Type} (l:List α) (d:α) (p:α→Bool) (k:Nat) (hk:k≤l.length) (h1:∀j,j <k→p (l.getD j d)=true) (h2:k <l.length→p (l.getD k d)=false):l.all p=decide (¬k <l.length):=by
 by_cases h:k <l.length
 ·rw[decide_eq_false (by omega)]
  have:=h2 h
  rw[List.getD_eq_getElem?_getD,List.getElem?_eq_getElem h,Option.getD_some] at this
  cases ha:l.all p with
  |false=>rfl
  |true=>rw[List.all_eq_true.1 ha _ (List.getElem_mem h)] at this;cases this
 ·rw[decide_eq_true (by omega)]
  refine List.all_eq_true.2 fun x hx=>?_
  obtain⟨i,hi,rfl⟩:=List.mem_iff_getElem.1 hx
  have:=h1 i (by omega)
  rw[List.getD_eq_getElem?_getD,List.getElem?_eq_getElem hi,Option.getD_some] at this
  exact this
def Az (n:Nat):Prop:=n≤9223372036854775807
def Jn (n:Nat) (p:Nat→Bool):Bool:=(List.range n).all p
theorem HF {n:Nat} {p:Nat→Bool}:Jn n p=true↔∀i,i <n→p i=true:=by
 unfold Jn
 rw[List.all_eq_true]
 exact⟨fun h i hi=>h i (List.mem_range.2 hi),fun h i hi=>h i (List.mem_range.1 hi)⟩
theorem HV {n:Nat} {p q:Nat→Bool} (h:∀i,i <n→p i=q i):Jn n p=Jn n q:=by
 rw[Bool.eq_iff_iff,HF,HF]
 exact⟨fun g i hi=>(h i hi)▸g i hi,fun g i hi=>(h i hi).symm▸g i hi⟩
theorem IJ {X:Type} (mk:Nat→X) (n:Nat) (bad:Nat→Bool) (next:X→X) (goes:X→Cnd) (ps:X→List Prop) (f:Nat) (x:X) (hx:x=mk 0) (hf:n≤f)
  (hg:∀i,i≤n→(∀j,j <i→bad j=false)→Bq (goes (mk i))=(decide (i <n)&&!bad i)) (hn:∀i,i <n→(∀j,j <i+1→bad j=false)→next (mk i)=mk (i+1)) (hp:∀i,i≤n→(∀j,j <i→bad j=false)→∀p∈ps (mk i),p):
  AL next goes ps f x∧∃k,k≤n∧Bg next goes f x=mk k∧(∀j,j <k→bad j=false)∧(k <n→bad k=true)∧(decide (k <n)&&bad k)=!Jn n (fun i=>!bad i):=by
 obtain⟨h1,k,hk,h2,h3,h4⟩:=Bpp mk n bad next goes ps f x hx hf hg hn hp
 refine⟨h1,k,hk,h2,h3,h4,?_⟩
 by_cases h:k <n
 ·rw[decide_eq_true h,h4 h]
  cases ha:Jn n (fun i=>!bad i) with
  |false=>rfl
  |true=>have:=HF.1 ha k h;rw[h4 h] at this;cases this
 ·rw[decide_eq_false h,HF.2 (fun i hi=>by rw[h3 i (by omega)];rfl)]
  rfl
theorem Brx {α:Type} (l:List α) (d:α) (p:α→Bool):l.all p=Jn l.length (fun i=>p (l.getD i d)):=by
 rw[Bool.eq_iff_iff,List.all_eq_true,HF]
 constructor
 ·intro h i hi
  rw[List.getD_eq_getElem?_getD,List.getElem?_eq_getElem hi,Option.getD_some]
  exact h _ (List.getElem_mem hi)
 ·intro h x hx
  obtain⟨i,hi,rfl⟩:=List.mem_iff_getElem.1 hx
  have:=h i hi
  rw[List.getD_eq_getElem?_getD,List.getElem?_eq_getElem hi,Option.getD_some] at this
  exact this
theorem Bzq {α β:Type} (l:List α) (r:List β) (d:α) (e:β) (p:α→β→Bool) (h:r.length=l.length):(l.zip r).all (fun x=>p x.1 x.2)=Jn l.length (fun i=>p (l.getD i d) (r.getD i e)):=by
 rw[Brx (l.zip r) (d,e),List.length_zip,h,Nat.min_self]
 refine HV fun i hi=>?_
 rw[List.getD_eq_getElem?_getD,List.getD_eq_getElem?_getD,List.getD_eq_getElem?_getD,List.getElem?_eq_getElem (by rw[List.length_zip];omega),List.getElem?_eq_getElem hi,List.getElem?_eq_getElem (by omega),List.getElem_zip]
 rfl
theorem B3f (n:Nat):(n==0)=!decide (1≤n):=by cases n<;>simp
theorem Ava (n:Nat):((n:Int)==0)=(n==0):=by cases n<;>simp;omega
theorem dgt (n k:Nat):decide ((n:Int) >(k:Int))=decide (k <n):=decide_eq_decide.2 (by omega)
instance:LawfulBEq ByteArray where
 rfl:=fun {a}=>by cases a with|mk a=>exact beq_self_eq_true a
 eq_of_beq:=fun {a b} h=>by
  cases a with|mk a=>cases b with|mk b=>exact congrArg ByteArray.mk (eq_of_beq (α:=Array UInt8) h)
theorem Av4:∀(m:List (ByteArray×Int)) (b:ByteArray) (v:Int) (x:ByteArray),Kl (ZE m b v) x=if x=b then v else Kl m x
 | [],b,v,x=>by
  by_cases h:x=b
  ·subst h;simp[ZE,Kl]
  ·simp[ZE,Kl,h,show(x==b)=false from beq_eq_false_iff_ne.2 h]
 | (a,n)::r,b,v,x=>by
  unfold ZE
  by_cases h:b=a
  ·subst h
   rw[show(b==b)=true from beq_self_eq_true b,cond_true]
   by_cases hx:x=b
   ·subst hx;simp[Kl]
   ·simp[Kl,hx,show(x==b)=false from beq_eq_false_iff_ne.2 hx]
  ·rw[show(b==a)=false from beq_eq_false_iff_ne.2 h,cond_false]
   by_cases hx:x=a
   ·subst hx
    rw[if_neg (fun e=>h e.symm)]
    simp[Kl]
   ·simp only[Kl,show(x==a)=false from beq_eq_false_iff_ne.2 hx,cond_false]
    exact Av4 r b v x
def WR (b:UInt8):Bool:=decide (97≤b.toNat)&&decide (b.toNat≤122)
def IA (s:ByteArray):Bool:=s.data.toList.all WR&&(decide (1≤s.size)&&decide (s.size≤12))
def O6 (p:Int):Bool:=p==1||p==2
def Q5:List ByteArray→List TGroup→Int
 |_,[]=>0
 |seen,g::r=>bif !(IA g.name&&O6 g.policy) then 2 else bif seen.any (fun s=>s==g.name) then 70 else Q5 (seen++[g.name]) r
def AY (l:List TGroup):Int:=bif l.length==0 then 2 else bif decide (4 <l.length) then 3 else Q5 [] l
theorem KZ (s:ByteArray):s.data.toList.length=s.size:=by show s.data.toList.length=s.data.size;exact Array.length_toList
theorem Bsu (s:ByteArray) (i:Nat) (h:i <s.size):s.data.toList.getD i 0=s[i]'h:=by
 rw[List.getD_eq_getElem?_getD,List.getElem?_eq_getElem (by rw[KZ];exact h)]
 rfl
theorem Bgs (s:ByteArray) (i:Nat) (h:i <s.size):(decide (((Utf8.decode s i).1:Int) <97)||decide (((Utf8.decode s i).1:Int) >122))=!WR (s.data.toList.getD i 0)∧(WR (s.data.toList.getD i 0)=true→(Utf8.decode s i).2=1):=by
 rw[Bsu s i h]
 by_cases hb:(s[i]'h).toNat <128
 ·rw[decode_ascii s i h hb]
  refine⟨?_,fun _=>rfl⟩
  unfold WR
  rw[Bool.not_and,←decide_not,←decide_not]
  congr 1<;>exact decide_eq_decide.2 (by omega)
 ·have h2:=(decode_high s i h (by omega)).1
  have hl:WR (s[i]'h)=false:=by unfold WR;rw[decide_eq_false (p:=(s[i]'h).toNat≤122) (by omega),Bool.and_false]
  rw[hl]
  refine⟨?_,fun h=>by cases h⟩
  rw[decide_eq_true (p:=((Utf8.decode s i).1:Int) >122) (by omega),Bool.or_true]
  rfl
theorem Gu {l:List TGroup} (h:AY l=0):1≤l.length∧l.length≤4:=by
 unfold AY at h
 cases h1:l.length==0 with
 |true=>rw[h1] at h;cases h
 | false=>
  rw[h1] at h
  cases h2:decide (4 <l.length) with
  |true=>rw[h2] at h;cases h
  |false=>
   have:=of_decide_eq_false h2
   have h3:l.length≠0:=by simpa using h1
   omega
theorem A4n (l:List TGroup) (k:Nat) (seen:List ByteArray):(∀j,j <k→j <l.length→(IA (l.getD j (Ae TC.group)).name&&O6 (l.getD j (Ae TC.group)).policy)=true∧(seen++(l.take j).map (·.name)).any (fun s=>s==(l.getD j (Ae TC.group)).name)=false)→
  Q5 seen l=Q5 (seen++(l.take k).map (·.name)) (l.drop k):=by
 induction l generalizing k seen with
 |nil=>intro _;simp[Q5]
 | cons g r ih=>
  intro h
  cases k with
  |zero=>simp
  | succ k=>
   obtain⟨h1,h2⟩:=h 0 (Nat.succ_pos _) (Nat.succ_pos _)
   have h1':(IA g.name&&O6 g.policy)=true:=h1
   have h2':seen.any (fun s=>s==g.name)=false:=by simpa using h2
   rw[Q5,h1',h2',Bool.not_true,cond_false,cond_false]
   rw[ih k (seen++[g.name]) (fun j hj hl=>by
    have:=h (j+1) (by omega) (by simpa using hl)
    simpa[List.append_assoc] using this)]
   simp[List.append_assoc]
def SO (l:List TGroup):Nat→List (ByteArray×Int)
 |0=>[]
 |i+1=>ZE (SO l i) (l.getD i (Ae TC.group)).1 (IntKind.i64.wrap (Kl (SO l i) (l.getD i (Ae TC.group)).1+1))
def VF (l:List TGroup) (i:Nat):Bool:=!(IA (l.getD i (Ae TC.group)).1&&O6 (l.getD i (Ae TC.group)).2)||((l.take i).map (·.name)).any (fun s=>s==(l.getD i (Ae TC.group)).1)
theorem Bkq (l:List TGroup) (i:Nat) (h:i <l.length):(l.take (i+1)).map (·.name)=(l.take i).map (·.name)++[(l.getD i (Ae TC.group)).1]:=by
 rw[List.take_add_one,List.getD_eq_getElem?_getD,List.getElem?_eq_getElem h,List.map_append]
 rfl
theorem Av3 (l:List TGroup):∀(i:Nat),i≤l.length→(∀j,j <i→VF l j=false)→∀x,Kl (SO l i) x=bif((l.take i).map (·.name)).any (fun s=>s==x) then 1 else 0
 |0,_,_,x=>by simp[SO,Kl]
 | i+1,hi,hs,x=>by
  have ih:=Av3 l i (by omega) (fun j hj=>hs j (by omega))
  have h:=hs i (Nat.lt_succ_self i)
  unfold VF at h
  have h2:=(Bool.or_eq_false_iff.1 h).2
  unfold SO
  rw[Av4,ih,h2,Bkq l i (by omega),List.any_append,ih]
  by_cases hx:x=(l.getD i (Ae TC.group)).1
  ·subst hx
   rw[if_pos rfl]
   simp
   decide
  ·rw[if_neg hx]
   have:([(l.getD i (Ae TC.group)).1].any fun s=>s==x)=false:=by
    simp only[List.any_cons,List.any_nil,Bool.or_false]
    exact beq_eq_false_iff_ne.2 fun e=>hx e.symm
   rw[this,Bool.or_false]
end Go.Proofs.Yteebobbhhgmeiaa
