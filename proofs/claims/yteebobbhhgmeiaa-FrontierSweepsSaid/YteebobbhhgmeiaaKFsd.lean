/- made by a program (rowgen.py): FrontierSweeps: for every input the law returns true, and each argument reads behind the call as it read before. -/
import Derived.Test.YteebobbhhgmeiaaKFsc

namespace Go.Proofs.Yteebobbhhgmeiaa
open Go.RowKit
theorem eqi (d:Nat) (a b:Int) (w:World):(Op.equalIn (d+1) 3 (.int .i64 a) (.int .i64 b)).run Try.prog w=.ok (a==b) w:=run_equalIn_int w d 3 .i64 .i64 a b Try.underlying3
theorem eqb (d:Nat) (a b:Bool) (w:World):(Op.equalIn (d+1) 4 (.bool a) (.bool b)).run Try.prog w=.ok (a==b) w:=run_equalIn_bool' w d 4 a b Try.underlying4
theorem eqs (d:Nat) (a b:ByteArray) (w:World):(Op.equalIn (d+1) 9 (.string a) (.string b)).run Try.prog w=.ok (a.toList==b.toList) w:=run_equalIn_string w d 9 a b Try.underlying9
@[go_sem] theorem eqVec (d:Nat) (a b x y:Int) (w:World):(Op.equalIn (d+2) 31 (.agg #[.int .i64 a,.int .i64 b]) (.agg #[.int .i64 x,.int .i64 y])).run Try.prog w=.ok (a==x&&b==y) w:=by
 have p0:∀a b w,(part 3 #[.int .i64 a,.int .i64 b] 0).run Try.prog w=Result.ok (.int .i64 a) w:=fun a b w=>by kernel_rfl
 have p1:∀a b w,(part 3 #[.int .i64 a,.int .i64 b] 1).run Try.prog w=Result.ok (.int .i64 b) w:=fun a b w=>by kernel_rfl
 unfold Op.equalIn
 cases h:a==x
 ·simp[Sem.run_bind,run_underlying Try.underlying31,List.range',p0,eqi,h]
 ·cases h':b==y<;>simp[Sem.run_bind,run_underlying Try.underlying31,List.range',p0,p1,eqi,h,h']
@[go_sem] theorem eqInt2 (d:Nat) (a b x y:Int) (w:World):(Op.equalIn (d+2) 30 (.agg #[.int .i64 a,.int .i64 b]) (.agg #[.int .i64 x,.int .i64 y])).run Try.prog w=.ok (a==x&&b==y) w:=by
 have p0:∀a b w,(part 3 #[.int .i64 a,.int .i64 b] 0).run Try.prog w=Result.ok (.int .i64 a) w:=fun a b w=>by kernel_rfl
 have p1:∀a b w,(part 3 #[.int .i64 a,.int .i64 b] 1).run Try.prog w=Result.ok (.int .i64 b) w:=fun a b w=>by kernel_rfl
 unfold Op.equalIn
 cases h:a==x
 ·simp[Sem.run_bind,run_underlying Try.underlying30,List.range',p0,eqi,h]
 ·cases h':b==y<;>simp[Sem.run_bind,run_underlying Try.underlying30,List.range',p0,p1,eqi,h,h']
@[go_sem] theorem eqStamp (d:Nat) (a b x y:Int) (w:World):(Op.equalIn (d+2) 51 (.agg #[.int .i64 a,.int .i64 b]) (.agg #[.int .i64 x,.int .i64 y])).run Try.prog w=.ok (a==x&&b==y) w:=by
 rw[run_equalIn_struct w (d+1) 51 _ _ (by kernel_rfl) (by kernel_rfl)]
 have p0:∀a b w,(part 3 #[.int .i64 a,.int .i64 b] 0).run Try.prog w=Result.ok (.int .i64 a) w:=fun a b w=>by kernel_rfl
 have p1:∀a b w,(part 3 #[.int .i64 a,.int .i64 b] 1).run Try.prog w=Result.ok (.int .i64 b) w:=fun a b w=>by kernel_rfl
 cases h:a==x
 ·simp[Program.fieldsOf,Try.underlying51,Op.eqFields,Sem.run_bind,p0,eqi,h]
 ·cases h':b==y<;>simp[Program.fieldsOf,Try.underlying51,Op.eqFields,Sem.run_bind,p0,p1,eqi,h,h']
@[go_sem] theorem eqFront (d:Nat) (a b c e f u v x y z:Int) (w:World):(Op.equalIn (d+2) 25 (.agg #[.int .i64 a,.int .i64 b,.int .i64 c,.int .i64 e,.int .i64 f]) (.agg #[.int .i64 u,.int .i64 v,.int .i64 x,.int .i64 y,.int .i64 z])).run Try.prog w=.ok (a==u&&(b==v&&(c==x&&(e==y&&(f==z))))) w:=by
 rw[run_equalIn_struct w (d+1) 25 _ _ (by kernel_rfl) (by kernel_rfl)]
 have p0:∀a b c e f w,(part 3 #[.int .i64 a,.int .i64 b,.int .i64 c,.int .i64 e,.int .i64 f] 0).run Try.prog w=Result.ok (.int .i64 a) w:=fun a b c e f w=>by kernel_rfl
 have p1:∀a b c e f w,(part 3 #[.int .i64 a,.int .i64 b,.int .i64 c,.int .i64 e,.int .i64 f] 1).run Try.prog w=Result.ok (.int .i64 b) w:=fun a b c e f w=>by kernel_rfl
 have p2:∀a b c e f w,(part 3 #[.int .i64 a,.int .i64 b,.int .i64 c,.int .i64 e,.int .i64 f] 2).run Try.prog w=Result.ok (.int .i64 c) w:=fun a b c e f w=>by kernel_rfl
 have p3:∀a b c e f w,(part 3 #[.int .i64 a,.int .i64 b,.int .i64 c,.int .i64 e,.int .i64 f] 3).run Try.prog w=Result.ok (.int .i64 e) w:=fun a b c e f w=>by kernel_rfl
 have p4:∀a b c e f w,(part 3 #[.int .i64 a,.int .i64 b,.int .i64 c,.int .i64 e,.int .i64 f] 4).run Try.prog w=Result.ok (.int .i64 f) w:=fun a b c e f w=>by kernel_rfl
 cases h0:a==u
 ·simp[Program.fieldsOf,Try.underlying25,Op.eqFields,Sem.run_bind,p0,eqi,h0]
 ·cases h1:b==v
  ·simp[Program.fieldsOf,Try.underlying25,Op.eqFields,Sem.run_bind,p0,p1,eqi,h0,h1]
  ·cases h2:c==x
   ·simp[Program.fieldsOf,Try.underlying25,Op.eqFields,Sem.run_bind,p0,p1,p2,eqi,h0,h1,h2]
   ·cases h3:e==y
    ·simp[Program.fieldsOf,Try.underlying25,Op.eqFields,Sem.run_bind,p0,p1,p2,p3,eqi,h0,h1,h2,h3]
    ·cases h4:f==z
     ·simp[Program.fieldsOf,Try.underlying25,Op.eqFields,Sem.run_bind,p0,p1,p2,p3,p4,eqi,h0,h1,h2,h3,h4]
     ·simp[Program.fieldsOf,Try.underlying25,Op.eqFields,Sem.run_bind,p0,p1,p2,p3,p4,eqi,h0,h1,h2,h3,h4]
@[go_sem] theorem eqRFront (d:Nat) (a b c e f u v x y z:Int) (w:World):(Op.equalIn (d+2) 37 (.agg #[.int .i64 a,.int .i64 b,.int .i64 c,.int .i64 e,.int .i64 f]) (.agg #[.int .i64 u,.int .i64 v,.int .i64 x,.int .i64 y,.int .i64 z])).run Try.prog w=.ok (a==u&&(b==v&&(c==x&&(e==y&&(f==z))))) w:=by
 rw[run_equalIn_struct w (d+1) 37 _ _ (by kernel_rfl) (by kernel_rfl)]
 have p0:∀a b c e f w,(part 3 #[.int .i64 a,.int .i64 b,.int .i64 c,.int .i64 e,.int .i64 f] 0).run Try.prog w=Result.ok (.int .i64 a) w:=fun a b c e f w=>by kernel_rfl
 have p1:∀a b c e f w,(part 3 #[.int .i64 a,.int .i64 b,.int .i64 c,.int .i64 e,.int .i64 f] 1).run Try.prog w=Result.ok (.int .i64 b) w:=fun a b c e f w=>by kernel_rfl
 have p2:∀a b c e f w,(part 3 #[.int .i64 a,.int .i64 b,.int .i64 c,.int .i64 e,.int .i64 f] 2).run Try.prog w=Result.ok (.int .i64 c) w:=fun a b c e f w=>by kernel_rfl
 have p3:∀a b c e f w,(part 3 #[.int .i64 a,.int .i64 b,.int .i64 c,.int .i64 e,.int .i64 f] 3).run Try.prog w=Result.ok (.int .i64 e) w:=fun a b c e f w=>by kernel_rfl
 have p4:∀a b c e f w,(part 3 #[.int .i64 a,.int .i64 b,.int .i64 c,.int .i64 e,.int .i64 f] 4).run Try.prog w=Result.ok (.int .i64 f) w:=fun a b c e f w=>by kernel_rfl
 cases h0:a==u
 ·simp[Program.fieldsOf,Try.underlying37,Op.eqFields,Sem.run_bind,p0,eqi,h0]
 ·cases h1:b==v
  ·simp[Program.fieldsOf,Try.underlying37,Op.eqFields,Sem.run_bind,p0,p1,eqi,h0,h1]
  ·cases h2:c==x
   ·simp[Program.fieldsOf,Try.underlying37,Op.eqFields,Sem.run_bind,p0,p1,p2,eqi,h0,h1,h2]
   ·cases h3:e==y
    ·simp[Program.fieldsOf,Try.underlying37,Op.eqFields,Sem.run_bind,p0,p1,p2,p3,eqi,h0,h1,h2,h3]
    ·cases h4:f==z
     ·simp[Program.fieldsOf,Try.underlying37,Op.eqFields,Sem.run_bind,p0,p1,p2,p3,p4,eqi,h0,h1,h2,h3,h4]
     ·simp[Program.fieldsOf,Try.underlying37,Op.eqFields,Sem.run_bind,p0,p1,p2,p3,p4,eqi,h0,h1,h2,h3,h4]
@[go_sem] theorem eqCell (d:Nat) (a0 a1 a2 a3 a6 a7 b0 b1 b2 b3 b6 b7:Int) (a4 b4:Bool) (a5 b5:ByteArray) (w:World):(Op.equalIn (d+3) 55 (.agg #[.int .i64 a0,.int .i64 a1,.int .i64 a2,.int .i64 a3,.bool a4,.string a5,.int .i64 a6,.int .i64 a7]) (.agg #[.int .i64 b0,.int .i64 b1,.int .i64 b2,.int .i64 b3,.bool b4,.string b5,.int .i64 b6,.int .i64 b7])).run Try.prog w=.ok ((a0==b0&&a1==b1)&&((a2==b2&&a3==b3)&&((a4==b4)&&((a5.toList==b5.toList)&&(a6==b6&&a7==b7))))) w:=by
 rw[run_equalIn_struct w (d+2) 55 _ _ (by kernel_rfl) (by kernel_rfl)]
 have p0:∀(a0 a1 a2 a3 a6 a7:Int) (a4:Bool) (a5:ByteArray) (w:World),(part 51 #[.int .i64 a0,.int .i64 a1,.int .i64 a2,.int .i64 a3,.bool a4,.string a5,.int .i64 a6,.int .i64 a7] 0).run Try.prog w=Result.ok (.agg #[.int .i64 a0,.int .i64 a1]) w:=fun _ _ _ _ _ _ _ _ _=>by kernel_rfl
 have p1:∀(a0 a1 a2 a3 a6 a7:Int) (a4:Bool) (a5:ByteArray) (w:World),(part 31 #[.int .i64 a0,.int .i64 a1,.int .i64 a2,.int .i64 a3,.bool a4,.string a5,.int .i64 a6,.int .i64 a7] 2).run Try.prog w=Result.ok (.agg #[.int .i64 a2,.int .i64 a3]) w:=fun _ _ _ _ _ _ _ _ _=>by kernel_rfl
 have p2:∀(a0 a1 a2 a3 a6 a7:Int) (a4:Bool) (a5:ByteArray) (w:World),(part 4 #[.int .i64 a0,.int .i64 a1,.int .i64 a2,.int .i64 a3,.bool a4,.string a5,.int .i64 a6,.int .i64 a7] 4).run Try.prog w=Result.ok (.bool a4) w:=fun _ _ _ _ _ _ _ _ _=>by kernel_rfl
 have p3:∀(a0 a1 a2 a3 a6 a7:Int) (a4:Bool) (a5:ByteArray) (w:World),(part 9 #[.int .i64 a0,.int .i64 a1,.int .i64 a2,.int .i64 a3,.bool a4,.string a5,.int .i64 a6,.int .i64 a7] 5).run Try.prog w=Result.ok (.string a5) w:=fun _ _ _ _ _ _ _ _ _=>by kernel_rfl
 have p4:∀(a0 a1 a2 a3 a6 a7:Int) (a4:Bool) (a5:ByteArray) (w:World),(part 31 #[.int .i64 a0,.int .i64 a1,.int .i64 a2,.int .i64 a3,.bool a4,.string a5,.int .i64 a6,.int .i64 a7] 6).run Try.prog w=Result.ok (.agg #[.int .i64 a6,.int .i64 a7]) w:=fun _ _ _ _ _ _ _ _ _=>by kernel_rfl
 cases h0:(a0==b0&&a1==b1)
 ·simp only[Program.fieldsOf,Try.underlying55,Op.eqFields,Sem.run_bind,Sem.run_ite,Sem.run_pure,Result.andThen_ok,p0,eqStamp,h0];simp
 ·cases h1:(a2==b2&&a3==b3)
  ·simp only[Program.fieldsOf,Try.underlying55,Op.eqFields,Sem.run_bind,Sem.run_ite,Sem.run_pure,Result.andThen_ok,p0,p1,eqStamp,eqVec,h0,h1];simp
  ·cases h2:(a4==b4)
   ·simp only[Program.fieldsOf,Try.underlying55,Op.eqFields,Sem.run_bind,Sem.run_ite,Sem.run_pure,Result.andThen_ok,p0,p1,p2,eqStamp,eqVec,eqb,h0,h1,h2];simp
   ·cases h3:(a5.toList==b5.toList)
    ·simp only[Program.fieldsOf,Try.underlying55,Op.eqFields,Sem.run_bind,Sem.run_ite,Sem.run_pure,Result.andThen_ok,p0,p1,p2,p3,eqStamp,eqVec,eqb,eqs,h0,h1,h2,h3];simp
    ·cases h4:(a6==b6&&a7==b7)
     ·simp only[Program.fieldsOf,Try.underlying55,Op.eqFields,Sem.run_bind,Sem.run_ite,Sem.run_pure,Result.andThen_ok,p0,p1,p2,p3,p4,eqStamp,eqVec,eqb,eqs,h0,h1,h2,h3,h4];simp
     ·simp only[Program.fieldsOf,Try.underlying55,Op.eqFields,Sem.run_bind,Sem.run_ite,Sem.run_pure,Result.andThen_ok,p0,p1,p2,p3,p4,eqStamp,eqVec,eqb,eqs,h0,h1,h2,h3,h4];simp
theorem Av1:Try.prog.eqGuardType Try.prog.depth 31=false:=by kernel_rfl
@[go_sem] theorem grdVec (op:BinOp) (x y:Operand) (xs ys:Array Value) (w:World):(eqGuard op 31 x y (.agg xs) (.agg ys)).run Try.prog w=.ok () w:=run_eqGuard_agg w op 31 x y xs ys Av1
theorem A4u:Try.prog.eqGuardType Try.prog.depth 30=false:=by kernel_rfl
@[go_sem] theorem grdInt2 (op:BinOp) (x y:Operand) (xs ys:Array Value) (w:World):(eqGuard op 30 x y (.agg xs) (.agg ys)).run Try.prog w=.ok () w:=run_eqGuard_agg w op 30 x y xs ys A4u
theorem Aja:Try.prog.eqGuardType Try.prog.depth 51=false:=by kernel_rfl
@[go_sem] theorem grdStamp (op:BinOp) (x y:Operand) (xs ys:Array Value) (w:World):(eqGuard op 51 x y (.agg xs) (.agg ys)).run Try.prog w=.ok () w:=run_eqGuard_agg w op 51 x y xs ys Aja
theorem Azp:Try.prog.eqGuardType Try.prog.depth 25=false:=by kernel_rfl
@[go_sem] theorem grdFront (op:BinOp) (x y:Operand) (xs ys:Array Value) (w:World):(eqGuard op 25 x y (.agg xs) (.agg ys)).run Try.prog w=.ok () w:=run_eqGuard_agg w op 25 x y xs ys Azp
theorem Adk:Try.prog.eqGuardType Try.prog.depth 37=false:=by kernel_rfl
@[go_sem] theorem grdRFront (op:BinOp) (x y:Operand) (xs ys:Array Value) (w:World):(eqGuard op 37 x y (.agg xs) (.agg ys)).run Try.prog w=.ok () w:=run_eqGuard_agg w op 37 x y xs ys Adk
theorem Apg:Try.prog.eqGuardType Try.prog.depth 55=false:=by kernel_rfl
@[go_sem] theorem grdCell (op:BinOp) (x y:Operand) (xs ys:Array Value) (w:World):(eqGuard op 55 x y (.agg xs) (.agg ys)).run Try.prog w=.ok () w:=run_eqGuard_agg w op 55 x y xs ys Apg
end Go.Proofs.Yteebobbhhgmeiaa
namespace Go.Proofs.Yteebobbhhgmeiaa
open Go.RowKit
instance (n:Nat):Decidable (Vq n):=.isFalse id
theorem Bgb:Try.prog.follows .mixedOrders=true:=by kernel_rfl
theorem Azo:Try.prog.eqGuardType Try.prog.depth 142=false:=by kernel_rfl
theorem Ba9 (d:Nat) (a x:Int) (b y:ByteArray) (w:World):(Op.equalIn (d+2) 142 (.agg #[.int .i64 a,.string b]) (.agg #[.int .i64 x,.string y])).run Try.prog w=.ok (a==x&&b.toList==y.toList) w:=by
 rw[run_equalIn_struct w (d+1) 142 _ _ (by kernel_rfl) (by kernel_rfl)]
 have p0:∀a b w,(part 3 #[.int .i64 a,.string b] 0).run Try.prog w=Result.ok (.int .i64 a) w:=fun a b w=>by kernel_rfl
 have p1:∀a b w,(part 9 #[.int .i64 a,.string b] 1).run Try.prog w=Result.ok (.string b) w:=fun a b w=>by kernel_rfl
 cases h:a==x
 ·simp[Program.fieldsOf,Try.underlying142,Op.eqFields,Sem.run_bind,p0,eqi,h]
 ·cases h':b.toList==y.toList<;>simp[Program.fieldsOf,Try.underlying142,Op.eqFields,Sem.run_bind,p0,p1,eqi,eqs,h,h']
def Bba:List Value→List Value→Option Bool
 | [.int .i64 a,.int .i64 b],[.int .i64 x,.int .i64 y]=>some (a==x&&b==y)
 |_,_=>none
def Bfo:List Value→List Value→Option Bool
 | [.int .i64 a,.string b],[.int .i64 x,.string y]=>some (a==x&&b.toList==y.toList)
 |_,_=>none
def Bfp:List Value→List Value→Option Bool
 | [.int .i64 a,.int .i64 b,.int .i64 c,.int .i64 e,.int .i64 f],[.int .i64 u,.int .i64 v,.int .i64 x,.int .i64 y,.int .i64 z]=>some (a==u&&(b==v&&(c==x&&(e==y&&f==z))))
 |_,_=>none
def Bfn:List Value→List Value→Option Bool
 | [.int .i64 a0,.int .i64 a1,.int .i64 a2,.int .i64 a3,.bool a4,.string a5,.int .i64 a6,.int .i64 a7],[.int .i64 b0,.int .i64 b1,.int .i64 b2,.int .i64 b3,.bool b4,.string b5,.int .i64 b6,.int .i64 b7]=>
  some ((a0==b0&&a1==b1)&&((a2==b2&&a3==b3)&&((a4==b4)&&((a5.toList==b5.toList)&&(a6==b6&&a7==b7)))))
 |_,_=>none
def A7m (t:TypeId) (xs ys:List Value):Option Bool:=
 bif Nat.beq t 31 then Bba xs ys else bif Nat.beq t 51 then Bba xs ys else bif Nat.beq t 55 then Bfn xs ys else bif Nat.beq t 142 then Bfo xs ys else bif Nat.beq t 37 then Bfp xs ys else none
theorem A7n:Bge Try.prog A7m:=fun t xs ys b h=>by
 unfold A7m at h
 cases h1:Nat.beq t 31 with
 |true=>
  rw[h1] at h
  rw[Nat.eq_of_beq_eq_true h1]
  refine⟨Av1,fun R=>?_⟩
  unfold Bba at h
  simp only[cond_true] at h
  split at h<;>first|(cases h;done)|skip
  cases h
  exact eqVec 9998 _ _ _ _ R
 |false=>
 cases h2:Nat.beq t 51 with
 |true=>
  rw[h1,h2] at h
  rw[Nat.eq_of_beq_eq_true h2]
  refine⟨Aja,fun R=>?_⟩
  unfold Bba at h
  simp only[cond_true,cond_false] at h
  split at h<;>first|(cases h;done)|skip
  cases h
  exact eqStamp 9998 _ _ _ _ R
 |false=>
 cases h3:Nat.beq t 55 with
 |true=>
  rw[h1,h2,h3] at h
  rw[Nat.eq_of_beq_eq_true h3]
  refine⟨Apg,fun R=>?_⟩
  unfold Bfn at h
  simp only[cond_true,cond_false] at h
  split at h<;>first|(cases h;done)|skip
  cases h
  exact eqCell 9997 _ _ _ _ _ _ _ _ _ _ _ _ _ _ _ _ R
 |false=>
 cases h4:Nat.beq t 142 with
 |true=>
  rw[h1,h2,h3,h4] at h
  rw[Nat.eq_of_beq_eq_true h4]
  refine⟨Azo,fun R=>?_⟩
  unfold Bfo at h
  simp only[cond_true,cond_false] at h
  split at h<;>first|(cases h;done)|skip
  cases h
  exact Ba9 9998 _ _ _ _ R
 |false=>
 cases h5:Nat.beq t 37 with
 |true=>
  rw[h1,h2,h3,h4,h5] at h
  rw[Nat.eq_of_beq_eq_true h5]
  refine⟨Adk,fun R=>?_⟩
  unfold Bfp at h
  simp only[cond_true,cond_false] at h
  split at h<;>first|(cases h;done)|skip
  cases h
  rw[eqRFront 9998]
 |false=>
  rw[h1,h2,h3,h4,h5] at h
  cases h
noncomputable def Ay (C:Tab) (L:Aq1):Env:=⟨Try.prog,A7m,C,false,A9y,L⟩
theorem Ba8 {C:Tab} {L:Aq1} (hC:Gg Try.prog C) (hL:∀l s b ps outs,L l s=some (b,ps,outs)→Wf s ⟨ps,outs,none⟩∧BY (Ay C L) b s ps outs):SE (Ay C L) where
 suf f args nx o k x nx' o' ps h:=(hC f args nx o k x nx' o' ps h).2
 wide:=Bgb
 eq:=A7n
 C f args nx o k x nx' o' ps h:=(hC f args nx o k x nx' o' ps h).1
 tc:=A9z
 loops:=hL
end Go.Proofs.Yteebobbhhgmeiaa
namespace Go.Proofs.Yteebobbhhgmeiaa
open Go.RowKit
def Ht (L:Aq1):Prop:=∀l s b ps outs,L l s=some (b,ps,outs)→Wf s ⟨ps,outs,none⟩∧BY (Ay C0 L0) b s ps outs
theorem AM:Ht L0:=fun _ _ _ _ _ h=>by cases h
theorem Bf {l0:Nat} {g:St→Option (Code×List Prop×Bw)} {L:Aq1} (hg:∀s b ps outs,g s=some (b,ps,outs)→Wf s ⟨ps,outs,none⟩∧BY (Ay C0 L0) b s ps outs) (hL:Ht L):Ht (EO l0 g L):=fun l s b ps outs h=>by
 unfold EO at h
 cases hb:Nat.beq l l0 with
 |true=>rw[hb] at h;exact hg s b ps outs h
 |false=>rw[hb] at h;exact hL l s b ps outs h
theorem Aw {C:Tab} {L:Aq1} (hC:Gg Try.prog C) (hL:Ht L):SE (Ay C L):=Ba8 hC hL
theorem BL {C:Tab} {L:Aq1} (hC:Gg Try.prog C) (hL:Ht L) {u:Nat} {b:Code} {S:DS} {En:Eh} {X:Type} {T:X→St} {unT:St→Option X} {fuel:X→Nat} {next:X→X} {goes:X→Cnd} {psA ps:X→List Prop} {outs:X→Bw} (hS:okL S.nb S.nx1 S.ren=true) (hnb:S.nb≤S.nx1)
  (hr:∀x,Ce (Ay C L) u b S (T x)=some (psA x,outs x,goes x,T (next x))) (hA:∀x,(∀p∈ps x,p)→∀p∈psA x,p) (hu:∀s x,unT s=some x→s=T x)
  (hw:∀x,ME (outs x)∧∀t c y,AP t (outs x)=some (c,y)→y.n=(T x).n) (hTn:∀x y,(T x).n=(T y).n):∀s b0 qs os,HZ (Ay C L) b S En unT fuel next goes ps outs s=some (b0,qs,os)→Wf s ⟨qs,os,none⟩∧BY (Ay C0 L0) b0 s qs os:=
 fun _ _ _ _ he=>Bb5 (Aw hC hL) hS hnb hr hA hu hw hTn he
def Az7 (n:Nat):Bw→Bool
 | []=>true
 |(t,_,s)::r=>Nat.beq s.n n&&((match AP t r with|some _=>false|none=>true)&&Az7 n r)
theorem AV {n:Nat}:∀{o:Bw},Az7 n o=true→ME o∧∀t c y,AP t o=some (c,y)→y.n=n
 | [],_=>⟨trivial,fun t c y h=>by cases h⟩
 | (k,d,s)::r,h=>by
  unfold Az7 at h
  simp only[Bool.and_eq_true] at h
  obtain⟨h1,h2,h3⟩:=h
  obtain⟨g1,g2⟩:=AV h3
  refine⟨⟨?_,g1⟩,fun t c y hy=>?_⟩
  ·cases hg:AP k r with
   |none=>rfl
   |some x=>rw[hg] at h2;cases h2
  ·have hy':(bif EX k t then some (d,s) else AP t r)=some (c,y):=hy
   cases hb:EX k t with
   |true=>rw[hb] at hy';cases hy';exact Nat.eq_of_beq_eq_true h1
   |false=>rw[hb] at hy';exact g2 t c y hy'
theorem At4 (x:Int):0≤IntKind.u8.wrap x∧IntKind.u8.wrap x <256:=by
 simp only[IntKind.wrap,IntKind.bits,IntKind.signed]
 have h1:=Int.emod_nonneg x (show(256:Int)≠0 by decide)
 have h2:=Int.emod_lt_of_pos x (show(0:Int) <256 by decide)
 exact⟨h1,h2⟩
theorem Bcr (x:Int):0≤IntKind.u64.wrap x:=by
 simp only[IntKind.wrap,IntKind.bits,IntKind.signed]
 exact Int.emod_nonneg x (by decide)
def Bfk (c:TC) (x:A):Option (U c×List Prop):=match ZZ x with
 |some cs=>U3 c cs
 |none=>none
def QX (c:TC):A→Option (List (U c))
 | .sl c' l=>match TC.same c' c with
  |some h=>some (Ac8 h.down l)
  |none=>none
 | .nl=>some []
 | .v x=>bif DM x then some [] else none
 |_=>none
section
variable {F:Nat→Prop} {N:Nm} {nx:Nat} {R:World}
theorem GD {c:TC} {x:A} {l:List (U c)} {v:Value} (he:QX c x=some l) (h:Hv F N nx R x v):Hv F N nx R (.sl c l) v:=by
 unfold QX at he
 split at he<;>first|(cases he;done)|skip
 ·split at he<;>first|(cases he;done)|skip
  rename_i h1 _
  obtain⟨h1⟩:=h1
  subst h1
  cases he
  exact h
 ·cases he
  obtain⟨a,e⟩:=h.nl_inv
  exact Hv.sl_nil e
 ·rename_i x
  cases hb:DM x with
  |false=>rw[hb] at he;cases he
  |true=>
   rw[hb] at he
   cases he
   exact Hv.sl_nil (by rw[h.v_inv,FU hb])
theorem Azq {c:TC} {d:U c} {vs:List Value} (h:HL F N nx R (enc c d) vs) (ha:c.isAgg=true):Hv F N nx R (Aq c d) (.agg vs.toArray):=by
 unfold Aq
 rw[ha]
 exact UC h
theorem A7z {c:TC} {d:U c} {vs:List Value} {v:Value} (h:HL F N nx R (enc c d) vs) (ha:c.isAgg=false) (hv:vs[0]?=some v):Hv F N nx R (Aq c d) v:=by
 unfold Aq
 rw[ha]
 show Hv F N nx R (match enc c d with|x::_=>x| []=> .dead) v
 generalize enc c d=l at h
 cases l with
 |nil=>exact .dead _
 |cons x r=>
  obtain⟨w,ws,rfl,h1,_⟩:=h.inv
  cases hv
  exact h1
def RF (c:TC):A→Bool
 | .v (.agg _)=>c.isAgg
 | .agg _=>c.isAgg
 | .v (.tuple _)=>false
 | .v x=>!c.isAgg&&x.oneCell'
 | .opt _ _ _=>false
 | .tup _=>false
 | .dead=>false
 | .it _ _=>false
 | .sq _=>false
 | .dq _=>false
 | .iv _ _=>false
 | .de _ _ _ _=>false
 | .ie _ _ _ _ _=>false
 |_=>!c.isAgg
def A3 (c:TC) (x:A):Option (U c×List Prop):=bif RF c x then Bfk c x else none
theorem Ar {c:TC} {x:A} {d:U c} {ps:List Prop} {v:Value} (he:A3 c x=some (d,ps)) (hp:∀p∈ps,p) (h:Hv F N nx R x v):Hv F N nx R (Aq c d) v:=by
 unfold A3 at he
 cases hf:RF c x with
 |false=>rw[hf] at he;cases he
 | true=>
  rw[hf] at he
  simp only[cond_true] at he
  unfold Bfk at he
  split at he<;>first|(cases he;done)|skip
  rename_i cs hcs
  have hd:=Arg (F:=F) (N:=N) (nx:=nx) (R:=R) he hp
  have single:∀{y:A},Hv F N nx R y v→cs=[y]→c.isAgg=false→Hv F N nx R (Aq c d) v:=fun {y} hy e hc=>by
   subst e
   exact A7z (hd [v] (HL.cons hy HL.nil)) hc rfl
  cases x<;>first|(cases hf;done)|skip
  ·rename_i y
   have hv:=h.v_inv
   subst hv
   cases hcs
   have hl:HL F N nx R (toL v.cells.toList) v.cells.toList:=HL.toL _
   cases v with
   |agg xs=>
    have hl':HL F N nx R (toL xs.toList) xs.toList:=hl
    have:=Azq (hd _ hl') hf
    simpa using this
   |tuple xs=>cases hf
   |_=>
    simp only[RF,Bool.and_eq_true,Bool.not_eq_true'] at hf
    exact A7z (hd _ hl) hf.1 rfl
  ·cases hcs
   exact single h rfl (by simpa[RF] using hf)
  ·cases hcs
   exact single h rfl (by simpa[RF] using hf)
  ·cases hcs
   exact single h rfl (by simpa[RF] using hf)
  ·cases hcs
   exact single h rfl (by simpa[RF] using hf)
  ·cases hcs
   exact single h rfl (by simpa[RF] using hf)
  ·cases hcs
   exact single h rfl (by simpa[RF] using hf)
  ·cases hcs
   exact single h rfl (by simpa[RF] using hf)
  ·cases hcs
   exact single h rfl (by simpa[RF] using hf)
  ·cases hcs
   exact single h rfl (by simpa[RF] using hf)
  ·cases hcs
   obtain⟨vs,rfl,h2⟩:=h.agg_inv
   exact Azq (hd _ h2) hf
end
theorem Au:freeL []=true:=by unfold freeL;rfl
theorem Af {x:A} {r:List A} (h:x.free=true) (k:freeL r=true):freeL (x::r)=true:=by unfold freeL;rw[h,k];rfl
theorem Ag (c:TC) (d:U c):(Aq c d).free=true:=by
 have hfr:∀l:List A,(∀x∈l,x.free=true)→freeL l=true:=fun l=>by
  induction l with
  |nil=>intro _;unfold freeL;rfl
  |cons x r ih=>intro h;unfold freeL;rw[h x (List.mem_cons_self ..),ih fun y hy=>h y (List.mem_cons_of_mem _ hy)];rfl
 have h:=Avl c d
 unfold Aq
 cases c.isAgg with
 |true=>
  show(SJ (enc c d)).free=true
  unfold SJ
  split
  ·unfold A.free;rfl
  ·unfold A.free;exact hfr _ h
 |false=>
  show A.free (match enc c d with|x::_=>x| []=> .dead)=true
  have hl:=Wp c d
  have hs:0 <size c:=by cases c<;>decide
  generalize enc c d=l at h hl
  cases l with
  |nil=>rw[←hl] at hs;cases hs
  |cons x r=>exact h x (List.mem_cons_self ..)
theorem Ao {P:Program} {f:FuncId} {args args':List A} {nx k nx':Nat} {o o':Objs} {x:A} (h:CallOk P f args' nx o k x nx' o') (ha:∀(F:Nat→Prop) (N:Nm) (R:World) (vs:List Value),HL F N nx R args vs→HL F N nx R args' vs):CallOk P f args nx o k x nx' o':=
 fun F N R vs hh hl=>h F N R vs hh (ha F N R vs hl)
end Go.Proofs.Yteebobbhhgmeiaa
namespace Go.Proofs.Yteebobbhhgmeiaa
open Go.RowKit
def HI (k:IntKind) (n:Int):Prop:=(Lit.int k n).wf=true
def WfS (x:TStamp):Prop:=HI .i64 x.n∧HI .i64 x.site
def WfV (x:TVec):Prop:=HI .i64 x.a∧HI .i64 x.b
def Wi (x:TCell):Prop:=WfS x.stamp∧WfV x.vec∧True∧x.value.size≤maxLen∧WfV x.dead
def A2x (x:TRow):Prop:=x.key.size≤maxLen∧(x.cells.length≤maxLen∧∀y∈x.cells,Wi y)
def A2y (x:SH):Prop:=x.key.size≤maxLen∧HI .i64 x.group∧True∧x.value.size≤maxLen
def A2w (x:TField):Prop:=HI .i64 x.group∧x.value.size≤maxLen
def Wfd:(c:TC)→U c→Prop
 | .i64,n=>HI .i64 n
 | .u32,n=>HI .u32 n
 | .str,s=>s.size≤maxLen
 | .vec,x=>WfV x
 | .stamp,x=>WfS x
 | .cell,x=>Wi x
 | .group,x=>x.name.size≤maxLen∧HI .i64 x.policy
 | .write,x=>A2y x
 | .row,x=>A2x x
 | .change,x=>HI .i64 x.site∧HI .i64 x.seq∧WfS x.stamp∧WfV x.vec∧(x.writes.length≤maxLen∧∀y∈x.writes,A2y y)
 | .field,x=>A2w x
 | .view,x=>x.key.size≤maxLen∧(x.fields.length≤maxLen∧∀y∈x.fields,A2w y)
 | .told,x=>HI .i64 x.ack∧HI .i64 x.own∧HI .i64 x.come
 | .act,x=>HI .i64 x.kind∧A2x x.row∧x.til.size≤maxLen∧HI .i64 x.n
 | .front,x=>HI .i64 x.site∧HI .i64 x.acked∧HI .i64 x.stable∧HI .i64 x.wait∧HI .i64 x.til
 | .ask,x=>WfS x.stamp∧WfV x.vec∧True∧x.value.size≤maxLen
 | .two,x=>A2x x.row∧HI .i64 x.group∧Wi x.cell
 | .note,x=>x.name.size≤maxLen∧x.text.size≤maxLen
 | .packet,x=>HI .i64 x.src∧x.bytes.size≤maxLen
 | .place,x=>x.key.size≤maxLen∧HI .i64 x.group
 | .bytes,l=>l.length≤maxLen∧∀y∈l,True
 | .ints,l=>l.length≤maxLen∧∀y∈l,HI .i64 y
 | .cells,l=>l.length≤maxLen∧∀y∈l,Wi y
 | .rows,l=>l.length≤maxLen∧∀y∈l,A2x y
 | .three,x=>(x.a.length≤maxLen∧∀y∈x.a,Wi y)∧(x.b.length≤maxLen∧∀y∈x.b,Wi y)∧(x.c.length≤maxLen∧∀y∈x.c,Wi y)
 |_,_=>True
def FB (w:World) (F:Nat→Prop):Prop:=∀b,b <w.heap.size→F b
def Bfg (P:Program) (c:TC) (t:TypeId) {H:Type} (en:TypeId×Value→H) (w:World) (base:Nat) (spare:Nat→Bool) (held:Bool):Prop:=
 ∀(m:Nat) (cs:List Value) (y:DataW H×List MemPlace),DataW.trod en P w base spare held m t cs=some y→∃x:U c,Wfd c x∧∀(F:Nat→Prop) (N:Nm) (nx:Nat),FB w F→HL F N nx w (enc c x) cs
def Opn (P:Program) (c:TC) (t:TypeId):Prop:=∀{H:Type} (en:TypeId×Value→H) (w:World) (base:Nat) (spare:Nat→Bool) (held:Bool),Bfg P c t en w base spare held
def Aow (P:Program) (c:TC) (t:TypeId):Prop:=∀{H:Type} (en:TypeId×Value→H) (w:World) (base:Nat) (spare:Nat→Bool) (held:Bool) (m:Nat) (cs:List Value) (y:DataW H×List MemPlace),
 DataW.trod en P w base spare held m t cs=some y→∃l:List (U c),(l.length≤maxLen∧∀x∈l,Wfd c x)∧∀(F:Nat→Prop) (N:Nm) (nx:Nat),FB w F→HL F N nx w [.sl c l] cs
section
variable {P:Program} {t:TypeId}
theorem Bbu (hu:P.underlying t=some (.int .i64)):Opn P .i64 t:=fun en w base spare held m cs y h=>by
 obtain⟨n,rfl,_,hw⟩:=DataW.trod_int hu h
 exact⟨n,hw,fun F N nx _=>HL.cons (Hv.v _) HL.nil⟩
theorem A8k (hu:P.underlying t=some .bool):Opn P .bool t:=fun en w base spare held m cs y h=>by
 obtain⟨n,rfl,_⟩:=DataW.trod_bool hu h
 exact⟨n,trivial,fun F N nx _=>HL.cons (Hv.v _) HL.nil⟩
theorem Bbv (hu:P.underlying t=some .string):Opn P .str t:=fun en w base spare held m cs y h=>by
 obtain⟨n,rfl,_,hw⟩:=DataW.trod_string hu h
 exact⟨n,hw,fun F N nx _=>HL.cons (Hv.v _) HL.nil⟩
theorem A3k {α:Type} {Q:Nat→α→Prop}:∀(n:Nat),(∀i,i <n→∃x,Q i x)→∃l:List α,l.length=n∧∀(i:Nat) (x:α),l[i]?=some x→Q i x
 |0,_=>⟨[],rfl,fun i x h=>by cases h⟩
 | n+1,h=>by
  obtain⟨l,h1,h2⟩:=A3k n fun i hi=>h i (by omega)
  obtain⟨x,hx⟩:=h n (by omega)
  refine⟨l++[x],by simp[h1],fun i y hy=>?_⟩
  rcases Nat.lt_trichotomy i n with hi|rfl|hi
  ·rw[List.getElem?_append_left (by omega)] at hy
   exact h2 i y hy
  ·rw[List.getElem?_append_right (by omega)] at hy
   simp[h1] at hy
   subst hy
   exact hx
  ·rw[List.getElem?_eq_none (by simp;omega)] at hy
   cases hy
theorem Z2 {w:World} {base:Nat} {a:Addr} {n:Nat} {cs:List Value} (h:w.cells? base a n=some cs):base≤a.block∧cs.length=n∧∀(j:Nat) (v:Value),cs[j]?=some v→w.cell? (a.add j)=some v:=by
 unfold World.cells? at h
 split at h
 ·rename_i hb
  refine⟨hb,by simpa using mapM_some_length h,fun j v hv=>?_⟩
  have hl:cs.length=n:=by simpa using mapM_some_length h
  have hj:j <n:=by
   have:=(List.getElem?_eq_some_iff.1 hv).1
   omega
  have:=mapM_some_get h j j (by simp[hj])
  rw[this,hv]
 ·cases h
theorem Akr {c:TC} {e:TypeId} (hu:P.underlying t=some (.slice e)) (hs:P.cellsOf e=size c) (he:Opn P c e):Aow P c t:=fun en w base spare held m cs y h=>by
 rcases DataW.trod_slice hu h with⟨rfl,_⟩|⟨a,len,cap,elems,rest,n,_,rfl,_,hb,hlc,hcm,hel,hg,_⟩
 ·exact⟨[],⟨Nat.zero_le _,fun x hx=>by cases hx⟩,fun F N nx _=>HL.cons (Hv.sl_nil (a:=none) rfl) HL.nil⟩
 ·have each:∀i,i <len→∃x:U c,Wfd c x∧∃zs,w.cells? base (a.add (i*size c)) (size c)=some zs∧∀(F:Nat→Prop) (N:Nm) (nx:Nat),FB w F→HL F N nx w (enc c x) zs:=fun i hi=>by
   have:=hg i hi
   rw[hs] at this
   have h2:elems[i]?≠none:=by
    intro h0
    rw[List.getElem?_eq_none_iff] at h0
    omega
   obtain⟨z,hz⟩:=Option.ne_none_iff_exists'.1 h2
   rw[hz] at this
   obtain⟨zs,h3,h4⟩:=Option.bind_eq_some_iff.1 this
   obtain⟨x,h5,h6⟩:=he en w base spare held n zs z h4
   exact⟨x,h5,zs,h3,h6⟩
  obtain⟨l,h1,h2⟩:=A3k len each
  refine⟨l,⟨by omega,fun x hx=>?_⟩,fun F N nx hF=>HL.cons ?_ HL.nil⟩
  ·obtain⟨i,hi⟩:=List.getElem?_of_mem hx
   exact(h2 i x hi).1
  ·subst h1
   refine Hv.sl a hlc (fun hp=>⟨rfl,?_⟩) (fun i d j x hd hx=>?_) (fun i d j x y hd hx hy=>?_)
   ·obtain⟨_,zs,h3,h4⟩:=h2 0 l[0] (by rw[List.getElem?_eq_getElem hp])
    obtain⟨_,h5,h6⟩:=Z2 h3
    have hsz:0 <zs.length:=by rw[h5];cases c<;>decide
    have:=h6 0 zs[0] (by rw[List.getElem?_eq_getElem hsz])
    have:=World.block_lt_of_cell? w _ this
    rw[HJ,HJ] at this
    exact hF _ this
   ·obtain⟨_,zs,h3,h4⟩:=h2 i d hd
    obtain⟨v,h5,h6⟩:=(h4 F N nx hF).get hx
    refine⟨v,?_⟩
    rw[←DK]
    exact(Z2 h3).2.2 j v h5
   ·obtain⟨_,zs,h3,h4⟩:=h2 i d hd
    obtain⟨v,h5,h6⟩:=(h4 F N nx hF).get hx
    have:=(Z2 h3).2.2 j v h5
    rw[DK,hy] at this
    cases this
    exact h6
end
section
variable {H:Type} {en:TypeId×Value→H} {P:Program} {w:World} {base:Nat} {spare:Nat→Bool} {held:Bool} {F:Nat→Prop} {N:Nm} {nx:Nat}
theorem Anc {fs:Array Field} {cs:List Value} {m i:Nat} {xs:List (DataW H×List MemPlace)} {f:Field} {t:TypeId} {o k:Nat} {c:TC} (ho:Opn P c t) (hf:fs[i]?=some f) (ht:f.type=t) (hof:f.offset=o) (hk:P.cellsOf t=k) (hi:i <xs.length)
  (g:∀(i:Nat) (f:Field),fs[i]?=some f→DataW.trod en P w base spare held m f.type ((cs.drop f.offset).take (P.cellsOf f.type))=xs[i]?):∃x:U c,Wfd c x∧∀(F:Nat→Prop) (N:Nm) (nx:Nat),FB w F→HL F N nx w (enc c x) ((cs.drop o).take k):=by
 subst ht hof hk
 have:=g i f hf
 rw[List.getElem?_eq_getElem hi] at this
 exact ho en w base spare held m _ _ this
theorem Bgi {fs:Array Field} {cs:List Value} {m i:Nat} {xs:List (DataW H×List MemPlace)} {f:Field} {t:TypeId} {o k:Nat} {c:TC} (ho:Aow P c t) (hf:fs[i]?=some f) (ht:f.type=t) (hof:f.offset=o) (hk:P.cellsOf t=k) (hi:i <xs.length)
  (g:∀(i:Nat) (f:Field),fs[i]?=some f→DataW.trod en P w base spare held m f.type ((cs.drop f.offset).take (P.cellsOf f.type))=xs[i]?):∃l:List (U c),(l.length≤maxLen∧∀x∈l,Wfd c x)∧∀(F:Nat→Prop) (N:Nm) (nx:Nat),FB w F→HL F N nx w [.sl c l] ((cs.drop o).take k):=by
 subst ht hof hk
 have:=g i f hf
 rw[List.getElem?_eq_getElem hi] at this
 exact ho en w base spare held m _ _ this
theorem Bfl {cs:List Value} {m i n:Nat} {xs:List (DataW H×List MemPlace)} {t:TypeId} {k:Nat} {c:TC} (ho:Opn P c t) (hk:P.cellsOf t=k) (hx:i <xs.length) (hn:i <n)
  (g:∀(i:Nat),i <n→DataW.trod en P w base spare held m t ((cs.drop (i*P.cellsOf t)).take (P.cellsOf t))=xs[i]?):∃x:U c,Wfd c x∧∀(F:Nat→Prop) (N:Nm) (nx:Nat),FB w F→HL F N nx w (enc c x) ((cs.drop (i*k)).take k):=by
 subst hk
 have:=g i hn
 rw[List.getElem?_eq_getElem hx] at this
 exact ho en w base spare held m _ _ this
theorem HLd {o k:Nat} {cs:List Value} {l r:List A} (h:HL F N nx w l ((cs.drop o).take k)) (h':HL F N nx w r (cs.drop (o+k))):HL F N nx w (l++r) (cs.drop o):=by
 have e:cs.drop o=(cs.drop o).take k++cs.drop (o+k):=by
  rw[←List.drop_drop,List.take_append_drop]
 rw[e]
 exact h.append h'
theorem HLe {o:Nat} {cs:List Value} (h:cs.length=o):HL F N nx w [] (cs.drop o):=by
 rw[List.drop_eq_nil_of_le (by omega)]
 exact HL.nil
end
end Go.Proofs.Yteebobbhhgmeiaa
namespace Go.Proofs.Yteebobbhhgmeiaa
open Go.RowKit
theorem Tn {X:Type} {next:X→X} {goes:X→Cnd} {ps:X→List Prop} (I:X→Prop) (m:X→Nat) (h:∀x,I x→(∀p∈ps x,p)∧(By (goes x)=true→I (next x)∧m (next x) <m x)):
  ∀(n:Nat) (x:X),I x→m x≤n→AE next goes ps n x∧I (BA next goes n x)∧By (goes (BA next goes n x))=false
 | 0,x,hi,hm=>by
  obtain⟨h1,h2⟩:=h x hi
  have hg:By (goes x)=false:=by
   cases hc:By (goes x) with
   |false=>rfl
   |true=>have:=(h2 hc).2;omega
  exact⟨⟨h1,hg⟩,hi,hg⟩
 | n+1,x,hi,hm=>by
  obtain⟨h1,h2⟩:=h x hi
  cases hc:By (goes x) with
  | false=>
   have e:BA next goes (n+1) x=x:=by
    show(bif By (goes x) then _ else x)=x
    rw[hc];rfl
   rw[e]
   exact⟨⟨h1,fun hh=>by rw[hc] at hh;cases hh⟩,hi,hc⟩
  | true=>
   have e:BA next goes (n+1) x=BA next goes n (next x):=by
    show(bif By (goes x) then _ else x)=_
    rw[hc];rfl
   obtain⟨h3,h4⟩:=h2 hc
   obtain⟨g1,g2,g3⟩:=Tn I m h n (next x) h3 (by omega)
   rw[e]
   exact⟨⟨h1,fun _=>g1⟩,g2,g3⟩
theorem i64_in {n:Int} (h:-9223372036854775808≤n∧n≤9223372036854775807):IntKind.i64.wrap n=n:=IntWalk.i64_in n h
end Go.Proofs.Yteebobbhhgmeiaa
namespace Go.Proofs.Yteebobbhhgmeiaa
open Go.RowKit
def JL (n:Int):Nat:=if n <0∨n >4611686018427387903 then 0 else if n≥1073741824 then 8 else if n≥16384 then 4 else if n≥64 then 2 else 1
def be:Nat→Nat→List UInt8
 |0,_=>[]
 |k+1,N=>UInt8.ofNat (N / 256^k)::be k N
def A9g (k:Nat):Nat:=if k=2 then 1 else if k=4 then 2 else if k=8 then 3 else 0
def LI (n:Int):List UInt8:=be (JL n) (n.toNat+A9g (JL n)*(64*256^(JL n - 1)))
def val (acc:Nat) (l:List UInt8):Nat:=l.foldl (fun a y=>a*256+y.toNat) acc
def Am:List UInt8→Int×Int×Int
 | []=>(0,0,10)
 |x::r=>if r.length+1 <2^(x.toNat / 64) then(0,0,10) else if JL (val (x.toNat % 64) (r.take (2^(x.toNat / 64) - 1))) <2^(x.toNat / 64) then(0,0,11) else((val (x.toNat % 64) (r.take (2^(x.toNat / 64) - 1)):Int),((2^(x.toNat / 64):Nat):Int),0)
theorem UJ (x:UInt8) (r:List UInt8):Am (x::r)=if r.length+1 <2^(x.toNat / 64) then(0,0,10) else if JL (val (x.toNat % 64) (r.take (2^(x.toNat / 64) - 1))) <2^(x.toNat / 64) then(0,0,11) else((val (x.toNat % 64) (r.take (2^(x.toNat / 64) - 1)):Int),((2^(x.toNat / 64):Nat):Int),0):=rfl
theorem Jy:∀(k N:Nat),(be k N).length=k
 |0,_=>rfl
 |k+1,N=>by unfold be;rw[List.length_cons,Jy]
theorem QS (acc:Nat) (x:UInt8) (r:List UInt8):val acc (x::r)=val (acc*256+x.toNat) r:=rfl
theorem Rw:∀(l:List UInt8) (acc:Nat),val acc l=acc*256^l.length+val 0 l
 | [],acc=>by show acc=acc*256^0+0;omega
 |x::r,acc=>by
  rw[QS,QS,Rw r,Rw r (0*256+x.toNat),List.length_cons,Nat.pow_succ,Nat.zero_mul,Nat.zero_add,Nat.add_mul,Nat.mul_assoc,Nat.mul_comm 256]
  omega
theorem Atx:∀(l:List UInt8),val 0 l <256^l.length
 | []=>by show 0 <256^0;decide
 |x::r=>by
  rw[QS,Rw,List.length_cons,Nat.pow_succ,Nat.zero_mul,Nat.zero_add]
  have h1:=Atx r
  have h2:x.toNat+1≤256:=x.toNat_lt
  have:=Nat.mul_le_mul_right (256^r.length) h2
  rw[Nat.add_mul,Nat.one_mul] at this
  rw[Nat.mul_comm (256^r.length)]
  omega
theorem Ayx:∀(k N a:Nat),be k (N+a*256^k)=be k N
 |0,_,_=>rfl
 |k+1,N,a=>by
  unfold be
  have h:N+a*256^(k+1)=N+a*256*256^k:=by rw[Nat.pow_succ,Nat.mul_assoc,Nat.mul_comm (256^k)]
  rw[h,Ayx k N (a*256),Nat.add_mul_div_right _ _ (Nat.pow_pos (by decide))]
  congr 1
  apply UInt8.toNat_inj.1
  rw[UInt8.toNat_ofNat',UInt8.toNat_ofNat']
  omega
theorem A66:∀(l:List UInt8),be l.length (val 0 l)=l
 | []=>rfl
 | x::r=>by
  rw[List.length_cons]
  have e:val 0 (x::r)=val 0 r+x.toNat*256^r.length:=by
   rw[QS,Rw,Nat.zero_mul,Nat.zero_add,Nat.add_comm]
  unfold be
  rw[e,Ayx,A66 r,Nat.add_mul_div_right _ _ (Nat.pow_pos (by decide)),Nat.div_eq_of_lt (Atx r),Nat.zero_add]
  congr 1
  exact UInt8.ofNat_toNat
theorem A94:∀(k N acc:Nat),val acc (be k N)=acc*256^k+N % 256^k
 |0,N,acc=>by show acc=acc*256^0+N % 256^0;omega
 |k+1,N,acc=>by
  unfold be
  have h8:(UInt8.ofNat (N / 256^k)).toNat=N / 256^k % 256:=by rw[UInt8.toNat_ofNat']
  have hm:=Nat.mod_pow_succ (x:=N) (b:=256) (k:=k)
  rw[QS,A94 k,h8,hm,Nat.pow_succ,Nat.add_mul,Nat.mul_assoc,Nat.mul_comm 256 (256^k),Nat.mul_comm (256^k) (N / 256^k % 256)]
  omega
def szs (k:Nat):Prop:=k=1∨k=2∨k=4∨k=8
theorem A34 {n:Int} (h0:0≤n) (h1:n≤4611686018427387903):szs (JL n)∧n.toNat <64*256^(JL n - 1):=by
 unfold JL szs
 rw[if_neg (by omega)]
 split
 ·exact⟨by decide,by show n.toNat <64*256^7;omega⟩
 ·split
  ·exact⟨by decide,by show n.toNat <64*256^3;omega⟩
  ·split
   ·exact⟨by decide,by show n.toNat <64*256^1;omega⟩
   ·exact⟨by decide,by show n.toNat <64*256^0;omega⟩
theorem Bga {n k:Nat} (hk:szs k) (h:n <64*256^(k - 1)):JL n≤k∧1≤JL n∧n≤4611686018427387903:=by
 unfold JL
 rcases hk with rfl|rfl|rfl|rfl
 ·have h':n <64:=h
  rw[if_neg (by omega),if_neg (by omega),if_neg (by omega),if_neg (by omega)];omega
 ·have h':n <64*256:=h
  rw[if_neg (by omega),if_neg (by omega),if_neg (by omega)]
  split<;>omega
 ·have h':n <64*256^3:=h
  have h'':n <1073741824:=by omega
  rw[if_neg (by omega),if_neg (by omega)]
  split
  ·omega
  ·split<;>omega
 ·have h':n <64*256^7:=h
  have h'':n <4611686018427387904:=by omega
  rw[if_neg (by omega)]
  split
  ·omega
  ·split
   ·omega
   ·split<;>omega
theorem Be0 {k:Nat} (hk:szs k):A9g k≤3∧2^A9g k=k:=by
 rcases hk with rfl|rfl|rfl|rfl<;>decide
theorem A9h {t:Nat} (h:t≤3):szs (2^t)∧A9g (2^t)=t:=by
 match t,h with
 |0,_=>exact⟨by unfold szs;decide,rfl⟩
 |1,_=>exact⟨by unfold szs;decide,rfl⟩
 |2,_=>exact⟨by unfold szs;decide,rfl⟩
 |3,_=>exact⟨by unfold szs;decide,rfl⟩
 |n+4,h=>omega
theorem LJ (n:Int):(LI n).length=JL n:=Jy _ _
theorem Bbf {n:Int} (h0:0≤n) (h1:n≤4611686018427387903) (r:List UInt8):Am (LI n++r)=(n,(JL n:Int),0):=by
 obtain⟨hk,hn⟩:=A34 h0 h1
 unfold LI
 generalize hkk:JL n=k at*
 obtain⟨m,rfl⟩:∃m,k=m+1:=⟨k - 1,by unfold szs at hk;omega⟩
 obtain⟨t1,t2⟩:=Be0 hk
 generalize A9g (m+1)=t at*
 rw[Nat.add_sub_cancel] at hn⊢
 have hp:0 <256^m:=Nat.pow_pos (by decide)
 have e1:(n.toNat+t*(64*256^m)) / 256^m=n.toNat / 256^m+t*64:=by rw[←Nat.mul_assoc,Nat.add_mul_div_right _ _ hp]
 have e2:n.toNat / 256^m <64:=by rw[Nat.div_lt_iff_lt_mul hp];exact hn
 have e3:(n.toNat+t*(64*256^m)) % 256^m=n.toNat % 256^m:=by rw[←Nat.mul_assoc,Nat.add_mul_mod_self_right]
 unfold be
 rw[e1]
 have aux:∀q:Nat,q <64→(UInt8.ofNat (q+t*64)).toNat=q+t*64∧(q+t*64) / 64=t∧(q+t*64) % 64=q:=fun q hq=>by
  rw[UInt8.toNat_ofNat']
  omega
 obtain⟨hx,ht,hm⟩:=aux _ e2
 show Am (UInt8.ofNat (n.toNat / 256^m+t*64)::(be m (n.toNat+t*(64*256^m))++r))=_
 rw[UJ,hx,ht,hm,t2,Nat.add_sub_cancel]
 have hl:(be m (n.toNat+t*(64*256^m))++r).take m=be m (n.toNat+t*(64*256^m)):=by
  rw[List.take_append_of_le_length (by rw[Jy];exact Nat.le_refl _),List.take_of_length_le (by rw[Jy];exact Nat.le_refl _)]
 rw[hl,A94,e3]
 have hv:n.toNat / 256^m*256^m+n.toNat % 256^m=n.toNat:=by rw[Nat.mul_comm];exact Nat.div_add_mod _ _
 rw[hv,if_neg (by rw[List.length_append,Jy];omega)]
 have hnn:(n.toNat:Int)=n:=Int.toNat_of_nonneg h0
 rw[hnn,hkk,if_neg (by omega)]
theorem Bb1 {b:List UInt8} {n k:Int} (h:Am b=(n,k,0)):0≤n∧n≤4611686018427387903∧k=(JL n:Int)∧JL n≤b.length∧b.take (JL n)=LI n:=by
 cases b with
 |nil=>cases h
 | cons x r=>
  rw[UJ] at h
  split at h
  ·cases h
  ·rename_i hlen
   split at h
   ·cases h
   ·rename_i hsz
    have hxl:x.toNat <256:=x.toNat_lt
    obtain⟨k1,k2⟩:=A9h (t:=x.toNat / 64) (by omega)
    generalize hK:2^(x.toNat / 64)=K at*
    obtain⟨m,rfl⟩:∃m,K=m+1:=⟨K - 1,by unfold szs at k1;omega⟩
    rw[Nat.add_sub_cancel] at*
    have hrl:(r.take m).length=m:=by rw[List.length_take];omega
    have hv:=Rw (r.take m) (x.toNat % 64)
    have hlt:=Atx (r.take m)
    rw[hrl] at hv hlt
    generalize hN:val (x.toNat % 64) (r.take m)=M at*
    have hM:M <64*256^m:=by
     have:x.toNat % 64+1≤64:=by omega
     have:=Nat.mul_le_mul_right (256^m) this
     rw[Nat.add_mul,Nat.one_mul] at this
     omega
    obtain⟨s1,s2,s3⟩:=Bga k1 (by rw[Nat.add_sub_cancel];exact hM)
    have hs:JL (M:Int)=m+1:=by omega
    injection h with h1 h
    injection h with h2 h3
    subst h1
    refine⟨by omega,by omega,by rw[hs,←h2],by rw[hs,List.length_cons];omega,?_⟩
    rw[hs]
    unfold LI
    rw[hs,k2,Nat.add_sub_cancel,Int.toNat_natCast]
    have e:M+x.toNat / 64*(64*256^m)=val 0 (x::r.take m):=by
     rw[QS,Nat.zero_mul,Nat.zero_add,Rw,hrl,hv,←Nat.mul_assoc]
     have hx:=Nat.div_add_mod x.toNat 64
     have:x.toNat*256^m=(x.toNat / 64*64+x.toNat % 64)*256^m:=by congr 1;omega
     rw[this,Nat.add_mul]
     omega
    rw[e]
    have hb:=A66 (x::r.take m)
    rw[List.length_cons,hrl] at hb
    rw[hb]
    rfl
theorem A65:∀(k N i:Nat),i <k→(be k N)[i]?=some (UInt8.ofNat (N / 256^(k - 1 - i)))
 |0,_,_,h=>by omega
 |k+1,N,0,_=>by unfold be;rfl
 |k+1,N,i+1,h=>by
  unfold be
  rw[List.getElem?_cons_succ,A65 k N i (by omega)]
  have:k - 1 - i=k+1 - 1 - (i+1):=by omega
  rw[this]
theorem Bav {k N i:Nat} (h:i <k):(be k N).take (i+1)=(be k N).take i++[UInt8.ofNat (N / 256^(k - 1 - i))]:=by
 rw[List.take_add_one,A65 k N i h]
 rfl
theorem Bby (j:Nat):(2:Int)^(8*j)=((256^j:Nat):Int):=by
 rw[Int.pow_mul]
 norm_cast
theorem A8z {n:Int} {k i:Nat} (hn:0≤n) (hk:k≤8) (hi:i <k):
  UInt8.ofNat (IntKind.u8.wrap (n.fdiv ((2:Int)^min (IntKind.u64.wrap (IntKind.i64.wrap ((8:Int)*IntKind.i64.wrap (IntKind.i64.wrap ((k:Int) - (1:Int)) - (i:Int))))).toNat (64:Nat)))).toNat=UInt8.ofNat (n.toNat / 256^(k - 1 - i)):=by
 have e1:IntKind.u64.wrap (IntKind.i64.wrap ((8:Int)*IntKind.i64.wrap (IntKind.i64.wrap ((k:Int) - (1:Int)) - (i:Int))))=((8*(k - 1 - i):Nat):Int):=by
  rw[i64_in (n:=(k:Int) - 1) (by omega),i64_in (n:=(k:Int) - 1 - (i:Int)) (by omega),i64_in (by omega),IntWalk.u64_in _ (by omega)]
  omega
 rw[e1,Int.toNat_natCast,Nat.min_eq_left (by omega),Bby]
 have e2:n=(n.toNat:Int):=(Int.toNat_of_nonneg hn).symm
 have e3:n.fdiv ((256^(k - 1 - i):Nat):Int)=((n.toNat / 256^(k - 1 - i):Nat):Int):=by
  rw[Int.fdiv_eq_ediv_of_nonneg _ (Int.natCast_nonneg _)]
  conv=>lhs;rw[e2]
  exact(Int.natCast_ediv _ _).symm
 rw[e3]
 generalize n.toNat / 256^(k - 1 - i)=q
 have e4:IntKind.u8.wrap (q:Int)=((q % 256:Nat):Int):=by
  rw[IntKind.wrap_u8]
  omega
 rw[e4,Int.toNat_natCast]
 apply UInt8.toNat_inj.1
 rw[UInt8.toNat_ofNat',UInt8.toNat_ofNat']
 omega
theorem Bes:∀(t:Fin 4) (q:Fin 64),(BitVec.ofInt 8 (q.val:Int) ||| BitVec.ofInt 8 ((64*t.val:Nat):Int)).toNat=q.val+t.val*64:=by decide+kernel
theorem Bbw {q t:Nat} (hq:q <64) (ht:t <4):UInt8.ofNat (IntKind.u8.wrap ((BitVec.ofInt 8 (((UInt8.ofNat q).toNat:Nat):Int) ||| BitVec.ofInt 8 ((64*t:Nat):Int)).toNat:Int)).toNat=UInt8.ofNat (q+t*64):=by
 have h1:(UInt8.ofNat q).toNat=q:=by rw[UInt8.toNat_ofNat'];omega
 rw[h1,Bes ⟨t,ht⟩ ⟨q,hq⟩,IntWalk.u8_in _ (by show 0≤((q+t*64:Nat):Int)∧((q+t*64:Nat):Int)≤255;omega),Int.toNat_natCast]
theorem Atk {m N t:Nat} (b:List UInt8) (hN:N <64*256^m) (ht:t <4) (d:UInt8):
  (b++be (m+1) N).set b.length (UInt8.ofNat (IntKind.u8.wrap ((BitVec.ofInt 8 ((((b++be (m+1) N).getD b.length d).toNat:Nat):Int) ||| BitVec.ofInt 8 ((64*t:Nat):Int)).toNat:Int)).toNat)=b++be (m+1) (N+t*(64*256^m)):=by
 have hp:0 <256^m:=Nat.pow_pos (by decide)
 have e2:N / 256^m <64:=by rw[Nat.div_lt_iff_lt_mul hp];exact hN
 have e0:be (m+1) N=UInt8.ofNat (N / 256^m)::be m N:=rfl
 have e1:be (m+1) (N+t*(64*256^m))=UInt8.ofNat (N / 256^m+t*64)::be m N:=by
  show UInt8.ofNat ((N+t*(64*256^m)) / 256^m)::be m (N+t*(64*256^m))=_
  rw[←Nat.mul_assoc,Ayx,Nat.add_mul_div_right _ _ hp]
 have hg:(b++be (m+1) N).getD b.length d=UInt8.ofNat (N / 256^m):=by
  rw[e0,List.getD_eq_getElem?_getD,List.getElem?_append_right (Nat.le_refl _),Nat.sub_self]
  rfl
 rw[hg,Bbw e2 ht,e0,e1,List.set_append_right _ _ (Nat.le_refl _),Nat.sub_self]
 rfl
theorem Bbx {a:Nat} (ha:a <64*256^6) {y:UInt8}:IntKind.i64.wrap ((BitVec.ofInt 64 (IntKind.i64.wrap ((a:Int)*256)) ||| BitVec.ofInt 64 (IntKind.i64.wrap ((y.toNat:Nat):Int))).toNat:Int)=((a*256+y.toNat:Nat):Int):=by
 have hy:y.toNat <256:=y.toNat_lt
 have h6:64*256^6=18014398509481984:=by decide
 rw[h6] at ha
 rw[i64_in (n:=(a:Int)*256) (by omega),i64_in (n:=((y.toNat:Nat):Int)) (by omega)]
 have e1:(a:Int)*256=((a*256:Nat):Int):=by omega
 have e2:(BitVec.ofInt 64 ((a*256:Nat):Int) ||| BitVec.ofInt 64 ((y.toNat:Nat):Int)).toNat=a*256+y.toNat:=by
  rw[BitVec.toNat_or,BitVec.toNat_ofInt,BitVec.toNat_ofInt]
  have m1:(((a*256:Nat):Int) % ((2^64:Nat):Int)).toNat=2^8*a:=by omega
  have m2:(((y.toNat:Nat):Int) % ((2^64:Nat):Int)).toNat=y.toNat:=by omega
  rw[m1,m2,←Nat.two_pow_add_eq_or_of_lt hy]
  omega
 rw[e1,e2,i64_in (by omega)]
theorem A95 (a:Nat) (L:List UInt8) (i:Nat) (h:i <L.length) {d:UInt8}:((val a (L.take i)*256+(L.getD i d).toNat:Nat):Int)=(val a (L.take (i+1)):Int):=by
 have e:L.take (i+1)=L.take i++[L.getD i d]:=by
  rw[List.take_add_one,List.getD_eq_getElem?_getD,List.getElem?_eq_getElem h]
  rfl
 rw[e]
 unfold val
 rw[List.foldl_append]
 rfl
theorem Bfx (x:UInt8):IntKind.i64.wrap ((1:Int)*(2:Int)^min ((((x.toNat:Nat):Int)).fdiv (64:Int)).toNat (64:Nat))=((2^(x.toNat / 64):Nat):Int):=by
 have hx:x.toNat <256:=x.toNat_lt
 have e:((((x.toNat:Nat):Int)).fdiv (64:Int)).toNat=x.toNat / 64:=by
  rw[Int.fdiv_eq_ediv_of_nonneg _ (by decide)]
  omega
 rw[e,Nat.min_eq_left (by omega)]
 have:x.toNat / 64≤3:=by omega
 generalize x.toNat / 64=t at*
 match t,this with
 |0,_=>rfl
 |1,_=>rfl
 |2,_=>rfl
 |3,_=>rfl
 |n+4,h=>omega
theorem A8c:∀q:Fin 256,(BitVec.ofInt 8 (q.val:Int) &&& BitVec.ofInt 8 63).toNat=q.val % 64:=by decide+kernel
theorem Bbe (x:UInt8):IntKind.i64.wrap (IntKind.u8.wrap ((BitVec.ofInt 8 ((x.toNat:Nat):Int) &&& BitVec.ofInt 8 63).toNat:Int))=((x.toNat % 64:Nat):Int):=by
 have hx:x.toNat <256:=x.toNat_lt
 rw[A8c ⟨x.toNat,hx⟩,IntWalk.u8_in _ (by show 0≤((x.toNat % 64:Nat):Int)∧((x.toNat % 64:Nat):Int)≤255;omega),i64_in (by show -9223372036854775808≤((x.toNat % 64:Nat):Int)∧((x.toNat % 64:Nat):Int)≤9223372036854775807;omega)]
end Go.Proofs.Yteebobbhhgmeiaa
namespace Go.Proofs.Yteebobbhhgmeiaa
open Go.RowKit
def Oo (a0:Int):Bool:=!(decide (a0 <(0:Int))||decide (a0 >(4611686018427387903:Int)))&&(!decide (a0≥(1073741824:Int))&&decide (a0≥(16384:Int)))
def On (a0:Int):Bool:=!(decide (a0 <(0:Int))||decide (a0 >(4611686018427387903:Int)))&&(!decide (a0≥(1073741824:Int))&&(!decide (a0≥(16384:Int))&&decide (a0≥(64:Int))))
def TA (a0:Int):Bool:=!(decide (a0 <(0:Int))||decide (a0 >(4611686018427387903:Int)))&&(!(!(decide (a0 <(0:Int))||decide (a0 >(4611686018427387903:Int)))&&decide (a0≥(1073741824:Int)))&&(!(Oo a0)&&!(On a0)))
def A6 (a0:Int):Int:=bif !(!(decide (a0 <(0:Int))||decide (a0 >(4611686018427387903:Int)))&&decide (a0≥(1073741824:Int)))&&(!(Oo a0)&&(!(On a0)&&!(TA a0))) then(0:Int) else IntKind.i64.wrap ((bif(TA a0) then(0:Int) else IntKind.i64.wrap ((bif(On a0) then(0:Int) else IntKind.i64.wrap ((bif(Oo a0) then(0:Int) else(4:Int))+(2:Int)))+(1:Int)))+(1:Int))
def WH (a0:Int):A:=.v (.int .i64 (A6 a0))
def WG (_a0:Int):Objs:=[]
def Adw (_a0:Int):List Prop:=[]
set_option maxRecDepth 100000 in
theorem Awk (a0:Int):Hx (Ay C0 L0) 9 157 [Aq .i64 a0] 0 []=some (1,WH a0,0,WG a0,[]):=by kernel_rfl
set_option maxRecDepth 100000 in
theorem Az6 (a0:Int) (_hp:∀p∈Adw a0,p):CallOk Try.prog 157 [Aq .i64 a0] 0 [] 1 (WH a0) 0 (WG a0):=by
 exact AJ (Aw Bct AM) (Awk a0) Ad
def WI:List A→Nat→Objs→Option BP
 | [y0],nx,o=>match A3 .i64 y0 with
  |some (a0,p0)=>some (1,(WH a0).pk (AH nx),nx+0,AG nx (WG a0)++o,p0++(Adw a0))
  |_=>none
 |_,_,_=>none
theorem Asa:HO Try.prog 157 WI:=fun args nx o k x nx' o' ps h=>by
 unfold WI at h
 split at h<;>first|(cases h;done)|skip
 split at h<;>first|(cases h;done)|skip
 rename_i a0 p0 e0
 cases h
 refine⟨fun hp=>?_,_,rfl⟩
 have q0:=fun p hm=>hp p (List.mem_append.2 (.inl hm))
 have r0:=fun p hm=>hp p (List.mem_append.2 (.inr hm))
 refine Ao (Ai (Az6 a0 r0) (Nat.le_refl _) (Af (Ag _ _) Au) nx o) fun F N R vs hl=>?_
 obtain⟨v0,w0,rfl,h0,hl⟩:=hl.inv
 exact HL.cons (Ar e0 q0 h0) (hl)
noncomputable def A52:=B5 157 WI C0
theorem Aqm:Gg Try.prog A52:=Ax Asa Bct
abbrev D2:Type:=Int×Int×Int×Int×(List UInt8)
def Mp (x:D2):St:=⟨59,3,[(1,.v (.int .i64 x.1)),(5,.sq 2),(6,.v (.int .i64 x.2.1)),(16,.v (.int .i64 x.2.2.1)),(17,.v (.int .i64 x.2.2.2.1))],[(2,some (.arr 5 1 (.ty .u8 x.2.2.2.2)))]⟩
def Pg:St→Option D2
 |⟨59,3,[(1,.v (.int .i64 z0)),(5,.sq 2),(6,.v (.int .i64 z1)),(16,.v (.int .i64 z2)),(17,.v (.int .i64 z3))],[(2,some (.arr 5 1 (.ty .u8 z4)))]⟩=>some (z0,z1,z2,z3,z4)
 |_=>none
theorem Agk:∀s x,Pg s=some x→s=Mp x:=fun s x h=>by
 unfold Pg at h
 split at h
 ·cases h;rfl
 ·cases h
def Y3:DS:=⟨2,3,[1,5,6,16,17],[],[(4,2)],[4],[5],[2]⟩
def Ar9:Eh:=⟨[],[(1,2)],[1,5,6,16,17],[1]⟩
def HE (a0:Int) (a1:Int) (_a2:Int) (a3:Int) (_a4:List UInt8):Int:=IntKind.u8.wrap (a0.fdiv ((2:Int)^min (IntKind.u64.wrap (IntKind.i64.wrap ((8:Int)*IntKind.i64.wrap (IntKind.i64.wrap (a1 - (1:Int)) - a3)))).toNat (64:Nat)))
def Akh (a0:Int) (a1:Int) (a2:Int) (a3:Int) (a4:List UInt8):List UInt8:=a4++[UInt8.ofNat (HE a0 a1 a2 a3 a4).toNat]
def Fx (x:D2):D2:=(x.1,x.2.1,x.2.2.1,IntKind.i64.wrap (x.2.2.2.1+(1:Int)),Akh x.1 x.2.1 x.2.2.1 x.2.2.2.1 x.2.2.2.2)
def Fw (x:D2):Cnd:=some (!!decide (x.2.2.2.1 <x.2.2.1))
def Ty (x:D2):List Prop:=[((!!decide (x.2.2.2.1 <x.2.2.1))=true→(0:Int)≤IntKind.u64.wrap (IntKind.i64.wrap ((8:Int)*IntKind.i64.wrap (IntKind.i64.wrap (x.2.1 - (1:Int)) - x.2.2.2.1)))),((!!decide (x.2.2.2.1 <x.2.2.1))=true→Aj (x.2.2.2.2.length+(1:Nat))),((!!decide (x.2.2.2.1 <x.2.2.1))=true→(0:Int)≤(HE x.1 x.2.1 x.2.2.1 x.2.2.2.1 x.2.2.2.2)∧(HE x.1 x.2.1 x.2.2.1 x.2.2.2.1 x.2.2.2.2) <(256:Int))]
def HM (x:D2):List Prop:=[((!!decide (x.2.2.2.1 <x.2.2.1))=true→Aj (x.2.2.2.2.length+(1:Nat)))]
def RQ (x:D2):Bw:=[(some 0,some (!decide (x.2.2.2.1 <x.2.2.1)),⟨59,3,[(5,.sq 2)],[(2,some (.arr 5 1 (.ty .u8 x.2.2.2.2)))]⟩)]
def GA (x:D2):Nat:=(x.2.2.1 - x.2.2.2.1).toNat
def M7 (x:D2):D2:=BA Fx Fw (GA x) x
set_option maxRecDepth 100000 in
theorem Anu (a0:Int) (a1:Int) (a2:Int) (a3:Int) (a4:List UInt8):Ce (Ay A52 L0) 9 (Ah Try.prog 119 0) Y3 (Mp (a0,a1,a2,a3,a4))=some (Ty (a0,a1,a2,a3,a4),RQ (a0,a1,a2,a3,a4),Fw (a0,a1,a2,a3,a4),Mp (Fx (a0,a1,a2,a3,a4))):=by kernel_rfl
set_option maxRecDepth 100000 in
theorem Anv (a0:Int) (a1:Int) (a2:Int) (a3:Int) (a4:List UInt8) (hp:∀p∈HM (a0,a1,a2,a3,a4),p):∀p∈Ty (a0,a1,a2,a3,a4),p:=by
 have n0:((!!decide (a3 <a2))=true→(0:Int)≤IntKind.u64.wrap (IntKind.i64.wrap ((8:Int)*IntKind.i64.wrap (IntKind.i64.wrap (a1 - (1:Int)) - a3)))):=by intros;exact Bcr _
 have n1:=N0 hp
 have n2:((!!decide (a3 <a2))=true→(0:Int)≤(HE a0 a1 a2 a3 a4)∧(HE a0 a1 a2 a3 a4) <(256:Int)):=by intros;exact At4 _
 exact(Aa n0 (Aa n1 (Aa n2 Ad)))
noncomputable def Tz:=HZ (Ay A52 L0) (Ah Try.prog 119 0) Y3 Ar9 Pg GA Fx Fw HM RQ
theorem Aki:∀s b ps outs,Tz s=some (b,ps,outs)→Wf s ⟨ps,outs,none⟩∧BY (Ay C0 L0) b s ps outs:=
 BL (T:=Mp) Aqm AM (u:=9) (by kernel_rfl) (by decide) (fun⟨a0,a1,a2,a3,a4⟩=>Anu a0 a1 a2 a3 a4) (fun⟨a0,a1,a2,a3,a4⟩=>Anv a0 a1 a2 a3 a4) Agk (fun _=>AV (n:=59) rfl) fun _ _=>rfl
noncomputable def Y2:=EO 0 Tz L0
theorem Akg:Ht Y2:=Bf Aki AM
def Gn (_a0:List UInt8) (a1:Int):Bool:=A6 a1==(8:Int)
def BV (_a0:List UInt8) (a1:Int):Bool:=A6 a1==(4:Int)
def AZ (_a0:List UInt8) (a1:Int):Bool:=A6 a1==(2:Int)
def AD (a0:List UInt8) (_a1:Int):Int:=(↑([]++a0).length:Int)
def AW (a0:List UInt8) (a1:Int):List UInt8:=(M7 (a1,A6 a1,A6 a1,(0:Int),[]++a0)).snd.snd.snd.snd
def K0 (a0:List UInt8) (a1:Int):Int:=IntKind.u8.wrap (↑(BitVec.ofInt (8:Nat) (↑(UInt8.toNat ((AW a0 a1).getD (AD a0 a1).toNat (Ae TC.u8))):Int) ||| BitVec.ofInt (8:Nat) (192:Int)).toNat:Int)
def KZ (a0:List UInt8) (a1:Int):Int:=IntKind.u8.wrap (↑(BitVec.ofInt (8:Nat) (↑(UInt8.toNat ((AW a0 a1).getD (AD a0 a1).toNat (Ae TC.u8))):Int) ||| BitVec.ofInt (8:Nat) (128:Int)).toNat:Int)
def KY (a0:List UInt8) (a1:Int):Int:=IntKind.u8.wrap (↑(BitVec.ofInt (8:Nat) (↑(UInt8.toNat ((AW a0 a1).getD (AD a0 a1).toNat (Ae TC.u8))):Int) ||| BitVec.ofInt (8:Nat) (64:Int)).toNat:Int)
def Aba (a0:List UInt8) (a1:Int):List UInt8:=bif(AZ a0 a1) then(AW a0 a1).set (AD a0 a1).toNat (UInt8.ofNat (KY a0 a1).toNat) else bif(BV a0 a1) then(AW a0 a1).set (AD a0 a1).toNat (UInt8.ofNat (KZ a0 a1).toNat) else bif(Gn a0 a1) then(AW a0 a1).set (AD a0 a1).toNat (UInt8.ofNat (K0 a0 a1).toNat) else(AW a0 a1)
def Apt (_a0:List UInt8) (_a1:Int):A:=.sq 0
def UT (a0:List UInt8) (a1:Int):Objs:=[(0,some (.arr 5 1 (.ty .u8 (Aba a0 a1))))]
def Akj (a0:List UInt8) (a1:Int):List Prop:=[(Aj ((0:Nat)+a0.length)),(AE Fx Fw HM (GA (a1,A6 a1,A6 a1,(0:Int),[]++a0)) (a1,A6 a1,A6 a1,(0:Int),[]++a0)),((AZ a0 a1)=true→(0:Int)≤(AD a0 a1)∧(AD a0 a1) <(↑(AW a0 a1).length:Int)),((AZ a0 a1)=false→(BV a0 a1)=true→(0:Int)≤(AD a0 a1)∧(AD a0 a1) <(↑(AW a0 a1).length:Int)),((AZ a0 a1)=false→(BV a0 a1)=false→(Gn a0 a1)=true→(0:Int)≤(AD a0 a1)∧(AD a0 a1) <(↑(AW a0 a1).length:Int))]
set_option maxRecDepth 100000 in
theorem Az5 (a0:List UInt8) (a1:Int):Hx (Ay A52 Y2) 9 119 [Aq .bytes a0,Aq .i64 a1] 0 []=some (1,Apt a0 a1,1,UT a0 a1,[(Aj ((0:Nat)+a0.length)),(Ah Try.prog (119:FuncId) (0:Nat)=Ah Try.prog (119:FuncId) (0:Nat)),(AE Fx Fw HM (GA (a1,A6 a1,A6 a1,(0:Int),[]++a0)) (a1,A6 a1,A6 a1,(0:Int),[]++a0)),((AZ a0 a1)=true→(0:Int)≤(AD a0 a1)∧(AD a0 a1) <(↑(AW a0 a1).length:Int)),((AZ a0 a1)=true→(AD a0 a1).toNat <(AW a0 a1).length),((AZ a0 a1)=true→(0:Int)≤(AD a0 a1)∧(AD a0 a1) <(↑(AW a0 a1).length:Int)),((AZ a0 a1)=true→(AD a0 a1).toNat <(AW a0 a1).length),((AZ a0 a1)=true→(0:Int)≤(KY a0 a1)∧(KY a0 a1) <(256:Int)),((AZ a0 a1)=false→(BV a0 a1)=true→(0:Int)≤(AD a0 a1)∧(AD a0 a1) <(↑(AW a0 a1).length:Int)),((AZ a0 a1)=false→(BV a0 a1)=true→(AD a0 a1).toNat <(AW a0 a1).length),((AZ a0 a1)=false→(BV a0 a1)=true→(0:Int)≤(AD a0 a1)∧(AD a0 a1) <(↑(AW a0 a1).length:Int)),((AZ a0 a1)=false→(BV a0 a1)=true→(AD a0 a1).toNat <(AW a0 a1).length),((AZ a0 a1)=false→(BV a0 a1)=true→(0:Int)≤(KZ a0 a1)∧(KZ a0 a1) <(256:Int)),((AZ a0 a1)=false→(BV a0 a1)=false→(Gn a0 a1)=true→(0:Int)≤(AD a0 a1)∧(AD a0 a1) <(↑(AW a0 a1).length:Int)),((AZ a0 a1)=false→(BV a0 a1)=false→(Gn a0 a1)=true→(AD a0 a1).toNat <(AW a0 a1).length),((AZ a0 a1)=false→(BV a0 a1)=false→(Gn a0 a1)=true→(0:Int)≤(AD a0 a1)∧(AD a0 a1) <(↑(AW a0 a1).length:Int)),((AZ a0 a1)=false→(BV a0 a1)=false→(Gn a0 a1)=true→(AD a0 a1).toNat <(AW a0 a1).length),((AZ a0 a1)=false→(BV a0 a1)=false→(Gn a0 a1)=true→(0:Int)≤(K0 a0 a1)∧(K0 a0 a1) <(256:Int))]):=by kernel_rfl
set_option maxRecDepth 100000 in
theorem A4z (a0:List UInt8) (a1:Int) (hp:∀p∈Akj a0 a1,p):CallOk Try.prog 119 [Aq .bytes a0,Aq .i64 a1] 0 [] 1 (Apt a0 a1) 1 (UT a0 a1):=by
 have n0:=N0 hp
 have n2:=N0 (N1 hp)
 have n3:((AZ a0 a1)=true→(0:Int)≤(AD a0 a1)∧(AD a0 a1) <(↑(AW a0 a1).length:Int)):=N0 (N1 (N1 hp))
 have n4:((AZ a0 a1)=true→(AD a0 a1).toNat <(AW a0 a1).length):=by intro h0;have g:=n3 h0;omega
 have n7:((AZ a0 a1)=true→(0:Int)≤(KY a0 a1)∧(KY a0 a1) <(256:Int)):=by intros;exact At4 _
 have n8:((AZ a0 a1)=false→(BV a0 a1)=true→(0:Int)≤(AD a0 a1)∧(AD a0 a1) <(↑(AW a0 a1).length:Int)):=N0 (N1 (N1 (N1 hp)))
 have n9:((AZ a0 a1)=false→(BV a0 a1)=true→(AD a0 a1).toNat <(AW a0 a1).length):=by intro h0 h1;have g:=n8 h0 h1;omega
 have n12:((AZ a0 a1)=false→(BV a0 a1)=true→(0:Int)≤(KZ a0 a1)∧(KZ a0 a1) <(256:Int)):=by intros;exact At4 _
 have n13:((AZ a0 a1)=false→(BV a0 a1)=false→(Gn a0 a1)=true→(0:Int)≤(AD a0 a1)∧(AD a0 a1) <(↑(AW a0 a1).length:Int)):=N0 (N1 (N1 (N1 (N1 hp))))
 have n14:((AZ a0 a1)=false→(BV a0 a1)=false→(Gn a0 a1)=true→(AD a0 a1).toNat <(AW a0 a1).length):=by intro h0 h1 h2;have g:=n13 h0 h1 h2;omega
 have n17:((AZ a0 a1)=false→(BV a0 a1)=false→(Gn a0 a1)=true→(0:Int)≤(K0 a0 a1)∧(K0 a0 a1) <(256:Int)):=by intros;exact At4 _
 exact AJ (Aw Aqm Akg) (Az5 a0 a1) (Aa n0 (Aa rfl (Aa n2 (Aa n3 (Aa n4 (Aa n3 (Aa n4 (Aa n7 (Aa n8 (Aa n9 (Aa n8 (Aa n9 (Aa n12 (Aa n13 (Aa n14 (Aa n13 (Aa n14 (Aa n17 Ad))))))))))))))))))
def Akk (_a0:List UInt8) (_a1:Int):A:=.sq 0
def Rl (a0:List UInt8) (a1:Int):Objs:=[(0,some (.arr 5 1 (.ty .u8 (a0++LI a1))))]
def Adv (a0:List UInt8) (_a1:Int):List Prop:=[Aj (a0.length+8)]
theorem Atl (n:Int):A6 n=(JL n:Int):=by
 unfold A6 TA On Oo JL
 by_cases h0:n <0∨n >4611686018427387903
 ·have e:(decide (n <0)||decide (n >4611686018427387903))=true:=by simpa using h0
  rw[e,if_pos h0];rfl
 ·have e:(decide (n <0)||decide (n >4611686018427387903))=false:=by
   rw[Bool.eq_false_iff]
   intro hh
   exact h0 (by simpa using hh)
  rw[e,if_neg h0]
  by_cases h1:n≥1073741824
  ·rw[if_pos h1,decide_eq_true h1];rfl
  ·rw[if_neg h1,decide_eq_false h1]
   by_cases h2:n≥16384
   ·rw[if_pos h2,decide_eq_true h2];rfl
   ·rw[if_neg h2,decide_eq_false h2]
    by_cases h3:n≥64
    ·rw[if_pos h3,decide_eq_true h3];rfl
    ·rw[if_neg h3,decide_eq_false h3];rfl
theorem ZO (n:Int):JL n=0∨(0≤n∧n≤4611686018427387903∧szs (JL n)):=by
 by_cases h:n <0∨n >4611686018427387903
 ·left;unfold JL;rw[if_pos h]
 ·right;exact⟨by omega,by omega,(A34 (by omega) (by omega)).1⟩
theorem A80 (b:List UInt8) (n:Int) (hb:Aj (b.length+8)):
  AE Fx Fw HM (GA (n,A6 n,A6 n,0,[]++b)) (n,A6 n,A6 n,0,[]++b)∧
  (M7 (n,A6 n,A6 n,0,[]++b)).2.2.2.2=b++be (JL n) n.toNat:=by
 have hk8:JL n≤8:=by
  rcases ZO n with h|⟨_,_,h⟩
  ·omega
  ·unfold szs at h;omega
 rw[Atl]
 obtain⟨h1,⟨i,hi,h2⟩,h3⟩:=Tn (next:=Fx) (goes:=Fw) (ps:=HM)
  (fun x=>∃i:Nat,i≤JL n∧x=(n,(JL n:Int),(JL n:Int),(i:Int),b++(be (JL n) n.toNat).take i)) GA (by
   rintro x ⟨i,hi,rfl⟩
   refine⟨Aa (fun hp=>?_) Ad,fun hg=>?_⟩
   ·have h':(!!decide ((i:Int) <(JL n:Int)))=true:=hp
    have hlt:i <JL n:=by simpa using h'
    show Aj ((b++(be (JL n) n.toNat).take i).length+1)
    unfold Aj at*
    rw[List.length_append,List.length_take,Jy]
    omega
   ·have h':(!!decide ((i:Int) <(JL n:Int)))=true:=hg
    have hlt:i <JL n:=by simpa using h'
    have hw:IntKind.i64.wrap ((i:Int)+1)=((i+1:Nat):Int):=by rw[i64_in (by omega)];rfl
    have hn0:0≤n:=by rcases ZO n with h|⟨h,_⟩<;>omega
    refine⟨⟨i+1,hlt,?_⟩,?_⟩
    ·show(n,(JL n:Int),(JL n:Int),IntKind.i64.wrap ((i:Int)+1),(b++(be (JL n) n.toNat).take i)++[UInt8.ofNat (IntKind.u8.wrap (n.fdiv ((2:Int)^min (IntKind.u64.wrap (IntKind.i64.wrap ((8:Int)*IntKind.i64.wrap (IntKind.i64.wrap ((JL n:Int) - (1:Int)) - (i:Int))))).toNat (64:Nat)))).toNat])=_
     rw[hw,A8z hn0 hk8 hlt,List.append_assoc,←Bav hlt]
    ·show((JL n:Int) - IntKind.i64.wrap ((i:Int)+1)).toNat <((JL n:Int) - (i:Int)).toNat
     rw[hw]
     omega) _ (n,(JL n:Int),(JL n:Int),0,[]++b) ⟨0,Nat.zero_le _,by simp⟩ (Nat.le_refl _)
 refine⟨h1,?_⟩
 have h4:M7 (n,(JL n:Int),(JL n:Int),0,[]++b)=_:=h2
 rw[h2] at h3
 have h3':(!!decide ((i:Int) <(JL n:Int)))=false:=h3
 have hn:¬((i:Int) <(JL n:Int)):=by simpa using h3'
 obtain rfl:i=JL n:=by omega
 rw[h4,List.take_of_length_le (by rw[Jy];exact Nat.le_refl _)]
theorem Az4 (b:List UInt8) (n:Int) (hb:Aj (b.length+8)):(∀p∈Akj b n,p)∧Aba b n=b++LI n:=by
 obtain⟨h1,h2⟩:=A80 b n hb
 have h3:AW b n=b++be (JL n) n.toNat:=h2
 have h4:(AD b n).toNat=b.length:=rfl
 have hS:=Atl n
 have hlen:(b++be (JL n) n.toNat).length=b.length+JL n:=by rw[List.length_append,Jy]
 have hpos:JL n≠0→(0:Int)≤AD b n∧AD b n <((AW b n).length:Int):=fun h0=>by
  rw[h3,hlen]
  show(0:Int)≤(b.length:Int)∧(b.length:Int) <((b.length+JL n:Nat):Int)
  omega
 have sz2:∀c:Int,c≠0→(A6 n==c)=true→JL n≠0:=fun c hc h h0=>by
  rw[hS,h0] at h
  have h':(0:Int)=c:=by simpa using h
  exact hc h'.symm
 refine⟨Aa (by unfold Aj at*;omega) (Aa h1 (Aa (fun h=>hpos (sz2 2 (by decide) h)) (Aa (fun _ h=>hpos (sz2 4 (by decide) h)) (Aa (fun _ _ h=>hpos (sz2 8 (by decide) h)) Ad)))),?_⟩
 unfold Aba
 rw[h3,h4]
 have k7:AZ b n=((JL n:Int)==2):=by show(A6 n==2)=_;rw[hS]
 have k6:BV b n=((JL n:Int)==4):=by show(A6 n==4)=_;rw[hS]
 have k5:Gn b n=((JL n:Int)==8):=by show(A6 n==8)=_;rw[hS]
 have b1:KY b n=IntKind.u8.wrap ((BitVec.ofInt 8 ((((b++be (JL n) n.toNat).getD b.length (Ae TC.u8)).toNat:Nat):Int) ||| BitVec.ofInt 8 ((64*1:Nat):Int)).toNat:Int):=by rw[←h3,←h4];rfl
 have b0:KZ b n=IntKind.u8.wrap ((BitVec.ofInt 8 ((((b++be (JL n) n.toNat).getD b.length (Ae TC.u8)).toNat:Nat):Int) ||| BitVec.ofInt 8 ((64*2:Nat):Int)).toNat:Int):=by rw[←h3,←h4];rfl
 have b2:K0 b n=IntKind.u8.wrap ((BitVec.ofInt 8 ((((b++be (JL n) n.toNat).getD b.length (Ae TC.u8)).toNat:Nat):Int) ||| BitVec.ofInt 8 ((64*3:Nat):Int)).toNat:Int):=by rw[←h3,←h4];rfl
 rw[k7,k6,k5,b1,b0,b2]
 unfold LI
 rcases ZO n with hz|⟨g1,g2,g3⟩
 ·rw[hz];rfl
 ·have hN:=(A34 g1 g2).2
  generalize hk:JL n=k at*
  rcases g3 with rfl|rfl|rfl|rfl
  ·show b++be 1 n.toNat=b++be 1 (n.toNat+0*(64*256^0))
   rw[Nat.zero_mul,Nat.add_zero]
  ·exact Atk (m:=1) (t:=1) b hN (by decide) _
  ·exact Atk (m:=3) (t:=2) b hN (by decide) _
  ·exact Atk (m:=7) (t:=3) b hN (by decide) _
theorem Az3 (a0:List UInt8) (a1:Int) (hp:∀p∈Adv a0 a1,p):CallOk Try.prog 119 [Aq .bytes a0,Aq .i64 a1] 0 [] 1 (Akk a0 a1) 1 (Rl a0 a1):=by
 obtain⟨h1,h2⟩:=Az4 a0 a1 (hp _ (List.mem_cons_self ..))
 have h:=A4z a0 a1 h1
 have ho:UT a0 a1=Rl a0 a1:=by unfold UT Rl;rw[h2]
 rw[ho] at h
 exact h
def Abb:List A→Nat→Objs→Option BP
 | [y0,y1],nx,o=>match A3 .bytes y0,A3 .i64 y1 with
  |some (a0,p0),some (a1,p1)=>some (1,(Akk a0 a1).pk (AH nx),nx+1,AG nx (Rl a0 a1)++o,p0++(p1++(Adv a0 a1)))
  |_,_=>none
 |_,_,_=>none
theorem Awj:HO Try.prog 119 Abb:=fun args nx o k x nx' o' ps h=>by
 unfold Abb at h
 split at h<;>first|(cases h;done)|skip
 split at h<;>first|(cases h;done)|skip
 rename_i a0 p0 a1 p1 e0 e1
 cases h
 refine⟨fun hp=>?_,_,rfl⟩
 have q0:=fun p hm=>hp p (List.mem_append.2 (.inl hm))
 have r0:=fun p hm=>hp p (List.mem_append.2 (.inr hm))
 have q1:=fun p hm=>r0 p (List.mem_append.2 (.inl hm))
 have r1:=fun p hm=>r0 p (List.mem_append.2 (.inr hm))
 refine Ao (Ai (Az3 a0 a1 r1) (Nat.le_refl _) (Af (Ag _ _) (Af (Ag _ _) Au)) nx o) fun F N R vs hl=>?_
 obtain⟨v0,w0,rfl,h0,hl⟩:=hl.inv
 obtain⟨v1,w1,rfl,h1,hl⟩:=hl.inv
 exact HL.cons (Ar e0 q0 h0) (HL.cons (Ar e1 q1 h1) (hl))
noncomputable def A53:=B5 119 Abb A52
theorem Aqn:Gg Try.prog A53:=Ax Awj Aqm
abbrev D1:Type:=Int×(List UInt8)×Int×Int
def Mo (x:D1):St:=⟨46,0,[(6,.v (.int .i64 x.1)),(28,.sl .u8 x.2.1),(29,.v (.int .i64 x.2.2.1)),(30,.v (.int .i64 x.2.2.2))],[]⟩
def Pe:St→Option D1
 |⟨46,0,[(6,.v (.int .i64 z0)),(28,.sl .u8 z1),(29,.v (.int .i64 z2)),(30,.v (.int .i64 z3))],[]⟩=>some (z0,z1,z2,z3)
 |_=>none
theorem Agi:∀s x,Pe s=some x→s=Mo x:=fun s x h=>by
 unfold Pe at h
 split at h
 ·cases h;rfl
 ·cases h
def Y1:DS:=⟨0,0,[6,28,29,30],[],[],[],[6],[]⟩
def Ar8:Eh:=⟨[],[],[6,28,29,30],[]⟩
def Aka (a0:Int) (a1:List UInt8) (_a2:Int) (a3:Int):Int:=IntKind.i64.wrap (↑(BitVec.ofInt (64:Nat) (IntKind.i64.wrap (a0*(256:Int))) ||| BitVec.ofInt (64:Nat) (IntKind.i64.wrap (↑(UInt8.toNat (a1.getD a3.toNat (Ae TC.u8))):Int))).toNat:Int)
def Fv (x:D1):D1:=(Aka x.1 x.2.1 x.2.2.1 x.2.2.2,x.2.1,x.2.2.1,IntKind.i64.wrap (x.2.2.2+(1:Int)))
def Fu (x:D1):Cnd:=some (!!decide (x.2.2.2 <x.2.2.1))
def Tu (x:D1):List Prop:=[((!!decide (x.2.2.2 <x.2.2.1))=true→(0:Int)≤x.2.2.2∧x.2.2.2 <(↑x.2.1.length:Int))]
def HK (x:D1):List Prop:=[((!!decide (x.2.2.2 <x.2.2.1))=true→(0:Int)≤x.2.2.2∧x.2.2.2 <(↑x.2.1.length:Int))]
def RO (x:D1):Bw:=[(some 0,some (!decide (x.2.2.2 <x.2.2.1)),⟨46,0,[(6,.v (.int .i64 x.1))],[]⟩)]
def Gz (x:D1):Nat:=(x.2.2.1 - x.2.2.2).toNat
def Kg (x:D1):D1:=BA Fv Fu (Gz x) x
set_option maxRecDepth 100000 in
theorem Anr (a0:Int) (a1:List UInt8) (a2:Int) (a3:Int):Ce (Ay A53 L0) 9 (Ah Try.prog 114 0) Y1 (Mo (a0,a1,a2,a3))=some (Tu (a0,a1,a2,a3),RO (a0,a1,a2,a3),Fu (a0,a1,a2,a3),Mo (Fv (a0,a1,a2,a3))):=by kernel_rfl
set_option maxRecDepth 100000 in
theorem Ans (a0:Int) (a1:List UInt8) (a2:Int) (a3:Int) (hp:∀p∈HK (a0,a1,a2,a3),p):∀p∈Tu (a0,a1,a2,a3),p:=by
 have n0:=N0 hp
 exact(Aa n0 Ad)
noncomputable def Tv:=HZ (Ay A53 L0) (Ah Try.prog 114 0) Y1 Ar8 Pe Gz Fv Fu HK RO
theorem Akb:∀s b ps outs,Tv s=some (b,ps,outs)→Wf s ⟨ps,outs,none⟩∧BY (Ay C0 L0) b s ps outs:=
 BL (T:=Mo) Aqn AM (u:=9) (by kernel_rfl) (by decide) (fun⟨a0,a1,a2,a3⟩=>Anr a0 a1 a2 a3) (fun⟨a0,a1,a2,a3⟩=>Ans a0 a1 a2 a3) Agi (fun _=>AV (n:=46) rfl) fun _ _=>rfl
noncomputable def Y0:=EO 0 Tv L0
theorem Aj9:Ht Y0:=Bf Akb AM
def GW (a0:List UInt8):Int:=(↑(UInt8.toNat (a0.getD (0:Nat) (Ae TC.u8))):Int)
def CR (a0:List UInt8):Bool:=(↑a0.length:Int)==(0:Int)
def Gm (a0:List UInt8):Int:=IntKind.i64.wrap ((1:Int)*(2:Int)^min ((GW a0).fdiv (64:Int)).toNat (64:Nat))
def Eo (a0:List UInt8):List UInt8:=List.take ((Gm a0).toNat - (1:Nat)) (List.drop (1:Nat) a0)
def Ft (a0:List UInt8):Bool:=decide ((↑a0.length:Int) <(Gm a0))
def M6 (a0:List UInt8):Bool:=decide (A6 (Kg (IntKind.i64.wrap (IntKind.u8.wrap (↑(BitVec.ofInt (8:Nat) (GW a0) &&& BitVec.ofInt (8:Nat) (63:Int)).toNat:Int)),(Eo a0),(↑(Eo a0).length:Int),(0:Int))).fst <(Gm a0))
def Aa6 (a0:List UInt8):Int:=bif(CR a0) then(0:Int) else bif(Ft a0) then(0:Int) else bif(M6 a0) then(0:Int) else(Kg (IntKind.i64.wrap (IntKind.u8.wrap (↑(BitVec.ofInt (8:Nat) (GW a0) &&& BitVec.ofInt (8:Nat) (63:Int)).toNat:Int)),(Eo a0),(↑(Eo a0).length:Int),(0:Int))).fst
def Aa7 (a0:List UInt8):Int:=bif(CR a0) then(0:Int) else bif(Ft a0) then(0:Int) else bif(M6 a0) then(0:Int) else(Gm a0)
def Aa8 (a0:List UInt8):Int:=bif(CR a0) then(10:Int) else bif(Ft a0) then(10:Int) else bif(M6 a0) then(11:Int) else(0:Int)
def US (a0:List UInt8):A:=.v (.tuple ⟨[.int .i64 (Aa6 a0),.int .i64 (Aa7 a0),.int .i64 (Aa8 a0)]⟩)
def Aps (_a0:List UInt8):Objs:=[]
def Akd (a0:List UInt8):List Prop:=[((!(CR a0))=true→(0:Int)≤(0:Int)∧(0:Int) <(↑a0.length:Int)),((!(CR a0))=true→(0:Int)≤(GW a0).fdiv (64:Int)),((!(CR a0))=true→(!(Ft a0))=true→(0:Int)≤(0:Int)∧(0:Int) <(↑a0.length:Int)),((!(CR a0))=true→(!(Ft a0))=true→(0:Int)≤(1:Int)∧(1:Int)≤(Gm a0)∧(Gm a0)≤(↑a0.length:Int)),((!(CR a0))=true→(!(Ft a0))=true→AE Fv Fu HK (Gz (IntKind.i64.wrap (IntKind.u8.wrap (↑(BitVec.ofInt (8:Nat) (GW a0) &&& BitVec.ofInt (8:Nat) (63:Int)).toNat:Int)),(Eo a0),(↑(Eo a0).length:Int),(0:Int))) (IntKind.i64.wrap (IntKind.u8.wrap (↑(BitVec.ofInt (8:Nat) (GW a0) &&& BitVec.ofInt (8:Nat) (63:Int)).toNat:Int)),(Eo a0),(↑(Eo a0).length:Int),(0:Int)))]
set_option maxRecDepth 100000 in
theorem Az2 (a0:List UInt8):Hx (Ay A53 Y0) 9 114 [Aq .bytes a0] 0 []=some (1,US a0,0,Aps a0,[((!(CR a0))=true→(0:Int)≤(0:Int)∧(0:Int) <(↑a0.length:Int)),((!(CR a0))=true→(0:Int)≤(GW a0).fdiv (64:Int)),((!(CR a0))=true→(!(Ft a0))=true→(0:Int)≤(0:Int)∧(0:Int) <(↑a0.length:Int)),((!(CR a0))=true→(!(Ft a0))=true→(0:Int)≤(1:Int)∧(1:Int)≤(Gm a0)∧(Gm a0)≤(↑a0.length:Int)),((!(CR a0))=true→(!(Ft a0))=true→Ah Try.prog (114:FuncId) (0:Nat)=Ah Try.prog (114:FuncId) (0:Nat)),((!(CR a0))=true→(!(Ft a0))=true→AE Fv Fu HK (Gz (IntKind.i64.wrap (IntKind.u8.wrap (↑(BitVec.ofInt (8:Nat) (GW a0) &&& BitVec.ofInt (8:Nat) (63:Int)).toNat:Int)),(Eo a0),(↑(Eo a0).length:Int),(0:Int))) (IntKind.i64.wrap (IntKind.u8.wrap (↑(BitVec.ofInt (8:Nat) (GW a0) &&& BitVec.ofInt (8:Nat) (63:Int)).toNat:Int)),(Eo a0),(↑(Eo a0).length:Int),(0:Int)))]):=by kernel_rfl
set_option maxRecDepth 100000 in
theorem A4y (a0:List UInt8) (hp:∀p∈Akd a0,p):CallOk Try.prog 114 [Aq .bytes a0] 0 [] 1 (US a0) 0 (Aps a0):=by
 have n0:=N0 hp
 have n1:=N0 (N1 hp)
 have n2:=N0 (N1 (N1 hp))
 have n3:=N0 (N1 (N1 (N1 hp)))
 have n4:((!(CR a0))=true→(!(Ft a0))=true→Ah Try.prog (114:FuncId) (0:Nat)=Ah Try.prog (114:FuncId) (0:Nat)):=by intros;rfl
 have n5:=N0 (N1 (N1 (N1 (N1 hp))))
 exact AJ (Aw Aqn Aj9) (Az2 a0) (Aa n0 (Aa n1 (Aa n2 (Aa n3 (Aa n4 (Aa n5 Ad))))))
def Rk (a0:List UInt8):A:=.v (.tuple ⟨[.int .i64 (Am a0).1,.int .i64 (Am a0).2.1,.int .i64 (Am a0).2.2]⟩)
def Akc (_a0:List UInt8):Objs:=[]
def Adu (_a0:List UInt8):List Prop:=[]
theorem A7x (L:List UInt8) (h7:L.length≤7) (a:Nat) (ha:a <64):
  AE Fv Fu HK (Gz ((a:Int),L,(L.length:Int),0)) ((a:Int),L,(L.length:Int),0)∧
  (Kg ((a:Int),L,(L.length:Int),0)).1=(val a L:Int):=by
 obtain⟨h1,⟨i,hi,h2⟩,h3⟩:=Tn (next:=Fv) (goes:=Fu) (ps:=HK)
  (fun x=>∃i:Nat,i≤L.length∧x=((val a (L.take i):Int),L,(L.length:Int),(i:Int))) Gz (by
   rintro x ⟨i,hi,rfl⟩
   refine⟨Aa (fun hp=>?_) Ad,fun hg=>?_⟩
   ·have h':(!!decide ((i:Int) <(L.length:Int)))=true:=hp
    have hlt:(i:Int) <(L.length:Int):=by simpa using h'
    show(0:Int)≤(i:Int)∧(i:Int) <(L.length:Int)
    exact⟨by omega,hlt⟩
   ·have h':(!!decide ((i:Int) <(L.length:Int)))=true:=hg
    have hlt:i <L.length:=by simpa using h'
    have hw:IntKind.i64.wrap ((i:Int)+1)=((i+1:Nat):Int):=by rw[i64_in (by omega)];rfl
    have hb:val a (L.take i) <64*256^6:=by
     have hv:=Rw (L.take i) a
     have hl:=Atx (L.take i)
     have e:(L.take i).length=i:=by rw[List.length_take];omega
     rw[e] at hv hl
     have hm:256^i≤256^6:=Nat.pow_le_pow_right (by decide) (by omega)
     have hq:=Nat.mul_le_mul_right (256^i) (show a+1≤64 by omega)
     rw[Nat.add_mul,Nat.one_mul] at hq
     have hq2:=Nat.mul_le_mul_left 64 hm
     omega
    refine⟨⟨i+1,hlt,?_⟩,?_⟩
    ·show(IntKind.i64.wrap ((BitVec.ofInt 64 (IntKind.i64.wrap ((val a (L.take i):Int)*256)) ||| BitVec.ofInt 64 (IntKind.i64.wrap (((L.getD (i:Int).toNat (Ae TC.u8)).toNat:Nat):Int))).toNat:Int),L,(L.length:Int),IntKind.i64.wrap ((i:Int)+1))=_
     rw[hw,Bbx hb,Int.toNat_natCast,A95 _ _ _ hlt]
    ·show((L.length:Int) - IntKind.i64.wrap ((i:Int)+1)).toNat <((L.length:Int) - (i:Int)).toNat
     rw[hw]
     omega) _ ((a:Int),L,(L.length:Int),0) ⟨0,Nat.zero_le _,rfl⟩ (Nat.le_refl _)
 refine⟨h1,?_⟩
 have h4:Kg ((a:Int),L,(L.length:Int),0)=_:=h2
 rw[h2] at h3
 have h3':(!!decide ((i:Int) <(L.length:Int)))=false:=h3
 have hn:¬((i:Int) <(L.length:Int)):=by simpa using h3'
 obtain rfl:i=L.length:=by omega
 rw[h4,List.take_length]
theorem Az1 (b:List UInt8):(∀p∈Akd b,p)∧Aa6 b=(Am b).1∧Aa7 b=(Am b).2.1∧Aa8 b=(Am b).2.2:=by
 cases b with
 |nil=>
  have no:(!(CR []))=true→False:=by intro h;cases h
  exact⟨Aa (fun h=>(no h).elim) (Aa (fun h=>(no h).elim) (Aa (fun h=>(no h).elim) (Aa (fun h=>(no h).elim) (Aa (fun h=>(no h).elim) Ad)))),rfl,rfl,rfl⟩
 | cons x r=>
  have hx:x.toNat <256:=x.toNat_lt
  have k4:CR (x::r)=false:=by
   show(((r.length+1:Nat):Int)==0)=false
   rw[Bool.eq_false_iff]
   intro h
   have:((r.length+1:Nat):Int)=0:=by simpa using h
   omega
  have k3:Gm (x::r)=((2^(x.toNat / 64):Nat):Int):=Bfx x
  have t3:x.toNat / 64≤3:=by omega
  have hK:=(A9h t3).1
  have k2:Eo (x::r)=r.take (2^(x.toNat / 64) - 1):=by
   show List.take ((Gm (x::r)).toNat - 1) r=_
   rw[k3,Int.toNat_natCast]
  have k1:Ft (x::r)=decide (r.length+1 <2^(x.toNat / 64)):=by
   show decide (((r.length+1:Nat):Int) <Gm (x::r))=_
   rw[k3]
   exact decide_eq_decide.2 Int.ofNat_lt
  have k6:IntKind.i64.wrap (IntKind.u8.wrap ((BitVec.ofInt 8 (GW (x::r)) &&& BitVec.ofInt 8 63).toNat:Int))=((x.toNat % 64:Nat):Int):=Bbe x
  generalize hKK:2^(x.toNat / 64)=K at*
  have hlen:(r.take (K - 1)).length≤7:=by rw[List.length_take];unfold szs at hK;omega
  obtain⟨n1,n2⟩:=A7x (r.take (K - 1)) hlen (x.toNat % 64) (by omega)
  have k0:M6 (x::r)=decide (JL (val (x.toNat % 64) (r.take (K - 1))) <K):=by
   unfold M6
   rw[k6,k2,n2,Atl,k3]
   exact decide_eq_decide.2 Int.ofNat_lt
  refine⟨Aa (fun _=>?_) (Aa (fun _=>?_) (Aa (fun _ _=>(by show(0:Int)≤0∧(0:Int) <((r.length+1:Nat):Int);omega)) (Aa (fun _ h=>?_) (Aa (fun _ _=>?_) Ad)))),?_⟩
  ·show(0:Int)≤0∧(0:Int) <((r.length+1:Nat):Int)
   omega
  ·show(0:Int)≤((x.toNat:Nat):Int).fdiv 64
   rw[Int.fdiv_eq_ediv_of_nonneg _ (by decide)]
   omega
  ·rw[k1] at h
   have h':¬(r.length+1 <K):=by simpa using h
   rw[k3]
   show(0:Int)≤1∧(1:Int)≤(K:Int)∧(K:Int)≤((r.length+1:Nat):Int)
   unfold szs at hK
   omega
  ·rw[k6,k2]
   exact n1
  ·unfold Aa6 Aa7 Aa8
   rw[k4,k1,k0,k6,k2,n2,k3,UJ,hKK]
   by_cases c1:r.length+1 <K
   ·rw[if_pos c1,decide_eq_true c1];exact⟨rfl,rfl,rfl⟩
   ·rw[if_neg c1,decide_eq_false c1]
    by_cases c2:JL (val (x.toNat % 64) (r.take (K - 1))) <K
    ·rw[if_pos c2,decide_eq_true c2];exact⟨rfl,rfl,rfl⟩
    ·rw[if_neg c2,decide_eq_false c2];exact⟨rfl,rfl,rfl⟩
theorem Az0 (a0:List UInt8) (_hp:∀p∈Adu a0,p):CallOk Try.prog 114 [Aq .bytes a0] 0 [] 1 (Rk a0) 0 (Akc a0):=by
 obtain⟨h1,h2,h3,h4⟩:=Az1 a0
 have h:=A4y a0 h1
 have hr:US a0=Rk a0:=by unfold US Rk;rw[h2,h3,h4]
 rw[hr] at h
 exact h
def Aa9:List A→Nat→Objs→Option BP
 | [y0],nx,o=>match A3 .bytes y0 with
  |some (a0,p0)=>some (1,(Rk a0).pk (AH nx),nx+0,AG nx (Akc a0)++o,p0++(Adu a0))
  |_=>none
 |_,_,_=>none
theorem Awi:HO Try.prog 114 Aa9:=fun args nx o k x nx' o' ps h=>by
 unfold Aa9 at h
 split at h<;>first|(cases h;done)|skip
 split at h<;>first|(cases h;done)|skip
 rename_i a0 p0 e0
 cases h
 refine⟨fun hp=>?_,_,rfl⟩
 have q0:=fun p hm=>hp p (List.mem_append.2 (.inl hm))
 have r0:=fun p hm=>hp p (List.mem_append.2 (.inr hm))
 refine Ao (Ai (Az0 a0 r0) (Nat.le_refl _) (Af (Ag _ _) Au) nx o) fun F N R vs hl=>?_
 obtain⟨v0,w0,rfl,h0,hl⟩:=hl.inv
 exact HL.cons (Ar e0 q0 h0) (hl)
noncomputable def Be3:=B5 114 Aa9 A53
theorem Bae:Gg Try.prog Be3:=Ax Awi Aqn
noncomputable def Ca:=Be3
theorem Bcu:Gg Try.prog Ca:=Bae
end Go.Proofs.Yteebobbhhgmeiaa
namespace Go.Proofs.Yteebobbhhgmeiaa
open Go.RowKit
def NE (a0:Int):Bool:=!a0==(1:Int)
def Lr (a0:Int):Bool:=bif !((NE a0)&&!((NE a0)&&a0==(2:Int))) then true else false
def Pt (a0:Int):A:=.v (.bool (Lr a0))
def Ps (_a0:Int):Objs:=[]
def Uy (_a0:Int):List Prop:=[]
set_option maxRecDepth 100000 in
theorem Amr (a0:Int):Hx (Ay Ca L0) 9 151 [Aq .i64 a0] 0 []=some (1,Pt a0,0,Ps a0,[]):=by kernel_rfl
set_option maxRecDepth 100000 in
theorem Aoo (a0:Int) (_hp:∀p∈Uy a0,p):CallOk Try.prog 151 [Aq .i64 a0] 0 [] 1 (Pt a0) 0 (Ps a0):=by
 exact AJ (Aw Bcu AM) (Amr a0) Ad
def Pu:List A→Nat→Objs→Option BP
 | [y0],nx,o=>match A3 .i64 y0 with
  |some (a0,p0)=>some (1,(Pt a0).pk (AH nx),nx+0,AG nx (Ps a0)++o,p0++(Uy a0))
  |_=>none
 |_,_,_=>none
theorem Ah2:HO Try.prog 151 Pu:=fun args nx o k x nx' o' ps h=>by
 unfold Pu at h
 split at h<;>first|(cases h;done)|skip
 split at h<;>first|(cases h;done)|skip
 rename_i a0 p0 e0
 cases h
 refine⟨fun hp=>?_,_,rfl⟩
 have q0:=fun p hm=>hp p (List.mem_append.2 (.inl hm))
 have r0:=fun p hm=>hp p (List.mem_append.2 (.inr hm))
 refine Ao (Ai (Aoo a0 r0) (Nat.le_refl _) (Af (Ag _ _) Au) nx o) fun F N R vs hl=>?_
 obtain⟨v0,w0,rfl,h0,hl⟩:=hl.inv
 exact HL.cons (Ar e0 q0 h0) (hl)
noncomputable def Bde:=B5 151 Pu Ca
theorem A1z:Gg Try.prog Bde:=Ax Ah2 Bcu
def GM (a0:TStamp):Bool:=bif a0.1==(0:Int)&&a0.2==(0:Int) then true else decide (a0.1 >(0:Int))&&decide (a0.1≤(281474976710656:Int))&&Lr a0.2
def Rt (a0:TStamp):A:=.v (.bool (GM a0))
def Rs (_a0:TStamp):Objs:=[]
def Wb (_a0:TStamp):List Prop:=[]
set_option maxRecDepth 100000 in
theorem Aom (a0:TStamp):Hx (Ay Bde L0) 9 102 [Aq .stamp a0] 0 []=some (1,Rt a0,0,Rs a0,[]):=by kernel_rfl
set_option maxRecDepth 100000 in
theorem Atq (a0:TStamp) (_hp:∀p∈Wb a0,p):CallOk Try.prog 102 [Aq .stamp a0] 0 [] 1 (Rt a0) 0 (Rs a0):=by
 exact AJ (Aw A1z AM) (Aom a0) Ad
def Ru:List A→Nat→Objs→Option BP
 | [y0],nx,o=>match A3 .stamp y0 with
  |some (a0,p0)=>some (1,(Rt a0).pk (AH nx),nx+0,AG nx (Rs a0)++o,p0++(Wb a0))
  |_=>none
 |_,_,_=>none
theorem Amp:HO Try.prog 102 Ru:=fun args nx o k x nx' o' ps h=>by
 unfold Ru at h
 split at h<;>first|(cases h;done)|skip
 split at h<;>first|(cases h;done)|skip
 rename_i a0 p0 e0
 cases h
 refine⟨fun hp=>?_,_,rfl⟩
 have q0:=fun p hm=>hp p (List.mem_append.2 (.inl hm))
 have r0:=fun p hm=>hp p (List.mem_append.2 (.inr hm))
 refine Ao (Ai (Atq a0 r0) (Nat.le_refl _) (Af (Ag _ _) Au) nx o) fun F N R vs hl=>?_
 obtain⟨v0,w0,rfl,h0,hl⟩:=hl.inv
 exact HL.cons (Ar e0 q0 h0) (hl)
noncomputable def Bdf:=B5 102 Ru Bde
theorem A10:Gg Try.prog Bdf:=Ax Amp A1z
def WQ (a0:TStamp):Bool:=bif a0.1==(0:Int)&&a0.2==(0:Int) then true else decide (a0.1≥(1:Int))&&decide (a0.1≤(281474976710656:Int))&&(a0.2==(1:Int)||a0.2==(2:Int))
def WS (a0:TStamp):A:=.v (.bool (WQ a0))
def WR (_a0:TStamp):Objs:=[]
def Ad2 (_a0:TStamp):List Prop:=[]
set_option maxRecDepth 100000 in
theorem Aww (a0:TStamp):Hx (Ay Bdf L0) 9 104 [Aq .stamp a0] 0 []=some (1,WS a0,0,WR a0,[]):=by kernel_rfl
set_option maxRecDepth 100000 in
theorem A0e (a0:TStamp) (_hp:∀p∈Ad2 a0,p):CallOk Try.prog 104 [Aq .stamp a0] 0 [] 1 (WS a0) 0 (WR a0):=by
 exact AJ (Aw A10 AM) (Aww a0) Ad
def WT:List A→Nat→Objs→Option BP
 | [y0],nx,o=>match A3 .stamp y0 with
  |some (a0,p0)=>some (1,(WS a0).pk (AH nx),nx+0,AG nx (WR a0)++o,p0++(Ad2 a0))
  |_=>none
 |_,_,_=>none
theorem Asj:HO Try.prog 104 WT:=fun args nx o k x nx' o' ps h=>by
 unfold WT at h
 split at h<;>first|(cases h;done)|skip
 split at h<;>first|(cases h;done)|skip
 rename_i a0 p0 e0
 cases h
 refine⟨fun hp=>?_,_,rfl⟩
 have q0:=fun p hm=>hp p (List.mem_append.2 (.inl hm))
 have r0:=fun p hm=>hp p (List.mem_append.2 (.inr hm))
 refine Ao (Ai (A0e a0 r0) (Nat.le_refl _) (Af (Ag _ _) Au) nx o) fun F N R vs hl=>?_
 obtain⟨v0,w0,rfl,h0,hl⟩:=hl.inv
 exact HL.cons (Ar e0 q0 h0) (hl)
noncomputable def Bdg:=B5 104 WT Bdf
theorem A11:Gg Try.prog Bdg:=Ax Asj A10
def Jd (a0:Int) (_a1:Int):Int:=min (max a0 (0:Int)) (1099511627776:Int)
def Pw (a0:Int) (a1:Int):A:=.v (.int .i64 (Jd a0 a1))
def Pv (_a0:Int) (_a1:Int):Objs:=[]
def Uz (_a0:Int) (_a1:Int):List Prop:=[]
set_option maxRecDepth 100000 in
theorem Am0 (a0:Int) (a1:Int):Hx (Ay Bdg L0) 9 153 [Aq .i64 a0,Aq .i64 a1] 0 []=some (1,Pw a0 a1,0,Pv a0 a1,[]):=by kernel_rfl
set_option maxRecDepth 100000 in
theorem Aor (a0:Int) (a1:Int) (_hp:∀p∈Uz a0 a1,p):CallOk Try.prog 153 [Aq .i64 a0,Aq .i64 a1] 0 [] 1 (Pw a0 a1) 0 (Pv a0 a1):=by
 exact AJ (Aw A11 AM) (Am0 a0 a1) Ad
def Px:List A→Nat→Objs→Option BP
 | [y0,y1],nx,o=>match A3 .i64 y0,A3 .i64 y1 with
  |some (a0,p0),some (a1,p1)=>some (1,(Pw a0 a1).pk (AH nx),nx+0,AG nx (Pv a0 a1)++o,p0++(p1++(Uz a0 a1)))
  |_,_=>none
 |_,_,_=>none
theorem Ah3:HO Try.prog 153 Px:=fun args nx o k x nx' o' ps h=>by
 unfold Px at h
 split at h<;>first|(cases h;done)|skip
 split at h<;>first|(cases h;done)|skip
 rename_i a0 p0 a1 p1 e0 e1
 cases h
 refine⟨fun hp=>?_,_,rfl⟩
 have q0:=fun p hm=>hp p (List.mem_append.2 (.inl hm))
 have r0:=fun p hm=>hp p (List.mem_append.2 (.inr hm))
 have q1:=fun p hm=>r0 p (List.mem_append.2 (.inl hm))
 have r1:=fun p hm=>r0 p (List.mem_append.2 (.inr hm))
 refine Ao (Ai (Aor a0 a1 r1) (Nat.le_refl _) (Af (Ag _ _) (Af (Ag _ _) Au)) nx o) fun F N R vs hl=>?_
 obtain⟨v0,w0,rfl,h0,hl⟩:=hl.inv
 obtain⟨v1,w1,rfl,h1,hl⟩:=hl.inv
 exact HL.cons (Ar e0 q0 h0) (HL.cons (Ar e1 q1 h1) (hl))
noncomputable def Bdh:=B5 153 Px Bdg
theorem A12:Gg Try.prog Bdh:=Ax Ah3 A11
def Pz (a0:Int) (a1:Int):A:=.v (.int .i64 (max a0 a1))
def Py (_a0:Int) (_a1:Int):Objs:=[]
def UA (_a0:Int) (_a1:Int):List Prop:=[]
set_option maxRecDepth 100000 in
theorem Am1 (a0:Int) (a1:Int):Hx (Ay Bdh L0) 9 154 [Aq .i64 a0,Aq .i64 a1] 0 []=some (1,Pz a0 a1,0,Py a0 a1,[]):=by kernel_rfl
set_option maxRecDepth 100000 in
theorem Aos (a0:Int) (a1:Int) (_hp:∀p∈UA a0 a1,p):CallOk Try.prog 154 [Aq .i64 a0,Aq .i64 a1] 0 [] 1 (Pz a0 a1) 0 (Py a0 a1):=by
 exact AJ (Aw A12 AM) (Am1 a0 a1) Ad
def PA:List A→Nat→Objs→Option BP
 | [y0,y1],nx,o=>match A3 .i64 y0,A3 .i64 y1 with
  |some (a0,p0),some (a1,p1)=>some (1,(Pz a0 a1).pk (AH nx),nx+0,AG nx (Py a0 a1)++o,p0++(p1++(UA a0 a1)))
  |_,_=>none
 |_,_,_=>none
theorem Ah4:HO Try.prog 154 PA:=fun args nx o k x nx' o' ps h=>by
 unfold PA at h
 split at h<;>first|(cases h;done)|skip
 split at h<;>first|(cases h;done)|skip
 rename_i a0 p0 a1 p1 e0 e1
 cases h
 refine⟨fun hp=>?_,_,rfl⟩
 have q0:=fun p hm=>hp p (List.mem_append.2 (.inl hm))
 have r0:=fun p hm=>hp p (List.mem_append.2 (.inr hm))
 have q1:=fun p hm=>r0 p (List.mem_append.2 (.inl hm))
 have r1:=fun p hm=>r0 p (List.mem_append.2 (.inr hm))
 refine Ao (Ai (Aos a0 a1 r1) (Nat.le_refl _) (Af (Ag _ _) (Af (Ag _ _) Au)) nx o) fun F N R vs hl=>?_
 obtain⟨v0,w0,rfl,h0,hl⟩:=hl.inv
 obtain⟨v1,w1,rfl,h1,hl⟩:=hl.inv
 exact HL.cons (Ar e0 q0 h0) (HL.cons (Ar e1 q1 h1) (hl))
noncomputable def Bdi:=B5 154 PA Bdh
theorem A13:Gg Try.prog Bdi:=Ax Ah4 A12
def PC (a0:Int) (a1:Int):A:=.v (.int .i64 (min a0 a1))
def PB (_a0:Int) (_a1:Int):Objs:=[]
def UB (_a0:Int) (_a1:Int):List Prop:=[]
set_option maxRecDepth 100000 in
theorem Am2 (a0:Int) (a1:Int):Hx (Ay Bdi L0) 9 156 [Aq .i64 a0,Aq .i64 a1] 0 []=some (1,PC a0 a1,0,PB a0 a1,[]):=by kernel_rfl
set_option maxRecDepth 100000 in
theorem Aot (a0:Int) (a1:Int) (_hp:∀p∈UB a0 a1,p):CallOk Try.prog 156 [Aq .i64 a0,Aq .i64 a1] 0 [] 1 (PC a0 a1) 0 (PB a0 a1):=by
 exact AJ (Aw A13 AM) (Am2 a0 a1) Ad
def PD:List A→Nat→Objs→Option BP
 | [y0,y1],nx,o=>match A3 .i64 y0,A3 .i64 y1 with
  |some (a0,p0),some (a1,p1)=>some (1,(PC a0 a1).pk (AH nx),nx+0,AG nx (PB a0 a1)++o,p0++(p1++(UB a0 a1)))
  |_,_=>none
 |_,_,_=>none
theorem Ah5:HO Try.prog 156 PD:=fun args nx o k x nx' o' ps h=>by
 unfold PD at h
 split at h<;>first|(cases h;done)|skip
 split at h<;>first|(cases h;done)|skip
 rename_i a0 p0 a1 p1 e0 e1
 cases h
 refine⟨fun hp=>?_,_,rfl⟩
 have q0:=fun p hm=>hp p (List.mem_append.2 (.inl hm))
 have r0:=fun p hm=>hp p (List.mem_append.2 (.inr hm))
 have q1:=fun p hm=>r0 p (List.mem_append.2 (.inl hm))
 have r1:=fun p hm=>r0 p (List.mem_append.2 (.inr hm))
 refine Ao (Ai (Aot a0 a1 r1) (Nat.le_refl _) (Af (Ag _ _) (Af (Ag _ _) Au)) nx o) fun F N R vs hl=>?_
 obtain⟨v0,w0,rfl,h0,hl⟩:=hl.inv
 obtain⟨v1,w1,rfl,h1,hl⟩:=hl.inv
 exact HL.cons (Ar e0 q0 h0) (HL.cons (Ar e1 q1 h1) (hl))
noncomputable def Bdj:=B5 156 PD Bdi
theorem A14:Gg Try.prog Bdj:=Ax Ah5 A13
noncomputable def Bdk:=B5 152 (inl (Ay Bdj L0) 4 152) Bdj
theorem A15:Gg Try.prog Bdk:=Ax (Arp (Aw A14 AM) 4 152) A14
def Bk (a0:TVec):Bool:=Jd a0.1 (0:Int)==a0.1&&Jd a0.2 (0:Int)==a0.2
def XV (a0:TVec):A:=.v (.bool (Bk a0))
def XU (_a0:TVec):Objs:=[]
def Afs (_a0:TVec):List Prop:=[]
set_option maxRecDepth 100000 in
theorem Ayj (a0:TVec):Hx (Ay Bdk L0) 9 103 [Aq .vec a0] 0 []=some (1,XV a0,0,XU a0,[((0:Int)≤(0:Int)∧(0:Int) <(2:Int)),((0:Nat) <(2:Nat)),((0:Int)≤(0:Int)∧(0:Int) <(2:Int)),((0:Nat) <(2:Nat)),((0:Int)≤(0:Int)∧(0:Int) <(2:Int)),((0:Nat) <(2:Nat)),((0:Int)≤(1:Int)∧(1:Int) <(2:Int)),((1:Nat) <(2:Nat)),((0:Int)≤(1:Int)∧(1:Int) <(2:Int)),((1:Nat) <(2:Nat)),((0:Int)≤(1:Int)∧(1:Int) <(2:Int)),((1:Nat) <(2:Nat))]):=by kernel_rfl
set_option maxRecDepth 100000 in
theorem A1t (a0:TVec) (_hp:∀p∈Afs a0,p):CallOk Try.prog 103 [Aq .vec a0] 0 [] 1 (XV a0) 0 (XU a0):=by
 have n0:((0:Int)≤(0:Int)∧(0:Int) <(2:Int)):=by first|rfl|decide+kernel
 have n1:((0:Nat) <(2:Nat)):=by first|rfl|decide+kernel
 have n6:((0:Int)≤(1:Int)∧(1:Int) <(2:Int)):=by first|rfl|decide+kernel
 have n7:((1:Nat) <(2:Nat)):=by first|rfl|decide+kernel
 exact AJ (Aw A15 AM) (Ayj a0) (Aa n0 (Aa n1 (Aa n0 (Aa n1 (Aa n0 (Aa n1 (Aa n6 (Aa n7 (Aa n6 (Aa n7 (Aa n6 (Aa n7 Ad))))))))))))
def XW:List A→Nat→Objs→Option BP
 | [y0],nx,o=>match A3 .vec y0 with
  |some (a0,p0)=>some (1,(XV a0).pk (AH nx),nx+0,AG nx (XU a0)++o,p0++(Afs a0))
  |_=>none
 |_,_,_=>none
theorem Atz:HO Try.prog 103 XW:=fun args nx o k x nx' o' ps h=>by
 unfold XW at h
 split at h<;>first|(cases h;done)|skip
 split at h<;>first|(cases h;done)|skip
 rename_i a0 p0 e0
 cases h
 refine⟨fun hp=>?_,_,rfl⟩
 have q0:=fun p hm=>hp p (List.mem_append.2 (.inl hm))
 have r0:=fun p hm=>hp p (List.mem_append.2 (.inr hm))
 refine Ao (Ai (A1t a0 r0) (Nat.le_refl _) (Af (Ag _ _) Au) nx o) fun F N R vs hl=>?_
 obtain⟨v0,w0,rfl,h0,hl⟩:=hl.inv
 exact HL.cons (Ar e0 q0 h0) (hl)
noncomputable def Bdl:=B5 103 XW Bdk
theorem A16:Gg Try.prog Bdl:=Ax Atz A15
def Iz (a0:TVec) (a1:TVec):TVec:=TVec.mk (min a0.1 a1.1) (min a0.2 a1.2)
def XY (a0:TVec) (a1:TVec):A:=.v (.agg ⟨[.int .i64 ((Iz a0 a1).a),.int .i64 ((Iz a0 a1).b)]⟩)
def XX (_a0:TVec) (_a1:TVec):Objs:=[]
def Aft (_a0:TVec) (_a1:TVec):List Prop:=[]
set_option maxRecDepth 100000 in
theorem Ayk (a0:TVec) (a1:TVec):Hx (Ay Bdl L0) 9 112 [Aq .vec a0,Aq .vec a1] 0 []=some (1,XY a0 a1,0,XX a0 a1,[((0:Int)≤(0:Int)∧(0:Int) <(2:Int)),((0:Nat) <(2:Nat)),((0:Int)≤(0:Int)∧(0:Int) <(2:Int)),((0:Nat) <(2:Nat)),((0:Int)≤(0:Int)∧(0:Int) <(2:Int)),((0:Nat) <(2:Nat)),((0:Int)≤(1:Int)∧(1:Int) <(2:Int)),((1:Nat) <(2:Nat)),((0:Int)≤(1:Int)∧(1:Int) <(2:Int)),((1:Nat) <(2:Nat)),((0:Int)≤(1:Int)∧(1:Int) <(2:Int)),((1:Nat) <(2:Nat))]):=by kernel_rfl
set_option maxRecDepth 100000 in
theorem A1u (a0:TVec) (a1:TVec) (_hp:∀p∈Aft a0 a1,p):CallOk Try.prog 112 [Aq .vec a0,Aq .vec a1] 0 [] 1 (XY a0 a1) 0 (XX a0 a1):=by
 have n0:((0:Int)≤(0:Int)∧(0:Int) <(2:Int)):=by first|rfl|decide+kernel
 have n1:((0:Nat) <(2:Nat)):=by first|rfl|decide+kernel
 have n6:((0:Int)≤(1:Int)∧(1:Int) <(2:Int)):=by first|rfl|decide+kernel
 have n7:((1:Nat) <(2:Nat)):=by first|rfl|decide+kernel
 exact AJ (Aw A16 AM) (Ayk a0 a1) (Aa n0 (Aa n1 (Aa n0 (Aa n1 (Aa n0 (Aa n1 (Aa n6 (Aa n7 (Aa n6 (Aa n7 (Aa n6 (Aa n7 Ad))))))))))))
def XZ:List A→Nat→Objs→Option BP
 | [y0,y1],nx,o=>match A3 .vec y0,A3 .vec y1 with
  |some (a0,p0),some (a1,p1)=>some (1,(XY a0 a1).pk (AH nx),nx+0,AG nx (XX a0 a1)++o,p0++(p1++(Aft a0 a1)))
  |_,_=>none
 |_,_,_=>none
theorem At0:HO Try.prog 112 XZ:=fun args nx o k x nx' o' ps h=>by
 unfold XZ at h
 split at h<;>first|(cases h;done)|skip
 split at h<;>first|(cases h;done)|skip
 rename_i a0 p0 a1 p1 e0 e1
 cases h
 refine⟨fun hp=>?_,_,rfl⟩
 have q0:=fun p hm=>hp p (List.mem_append.2 (.inl hm))
 have r0:=fun p hm=>hp p (List.mem_append.2 (.inr hm))
 have q1:=fun p hm=>r0 p (List.mem_append.2 (.inl hm))
 have r1:=fun p hm=>r0 p (List.mem_append.2 (.inr hm))
 refine Ao (Ai (A1u a0 a1 r1) (Nat.le_refl _) (Af (Ag _ _) (Af (Ag _ _) Au)) nx o) fun F N R vs hl=>?_
 obtain⟨v0,w0,rfl,h0,hl⟩:=hl.inv
 obtain⟨v1,w1,rfl,h1,hl⟩:=hl.inv
 exact HL.cons (Ar e0 q0 h0) (HL.cons (Ar e1 q1 h1) (hl))
noncomputable def Bdm:=B5 112 XZ Bdl
theorem A17:Gg Try.prog Bdm:=Ax At0 A16
def IM (a0:TVec) (a1:TVec):Bool:=(Iz a0 a1).1==a1.1&&(Iz a0 a1).2==a1.2
def Ry (a0:TVec) (a1:TVec):A:=.v (.bool (IM a0 a1))
def Rx (_a0:TVec) (_a1:TVec):Objs:=[]
def We (_a0:TVec) (_a1:TVec):List Prop:=[]
set_option maxRecDepth 100000 in
theorem Aoq (a0:TVec) (a1:TVec):Hx (Ay Bdm L0) 9 53 [Aq .vec a0,Aq .vec a1] 0 []=some (1,Ry a0 a1,0,Rx a0 a1,[]):=by kernel_rfl
set_option maxRecDepth 100000 in
theorem Aty (a0:TVec) (a1:TVec) (_hp:∀p∈We a0 a1,p):CallOk Try.prog 53 [Aq .vec a0,Aq .vec a1] 0 [] 1 (Ry a0 a1) 0 (Rx a0 a1):=by
 exact AJ (Aw A17 AM) (Aoq a0 a1) Ad
def Rz:List A→Nat→Objs→Option BP
 | [y0,y1],nx,o=>match A3 .vec y0,A3 .vec y1 with
  |some (a0,p0),some (a1,p1)=>some (1,(Ry a0 a1).pk (AH nx),nx+0,AG nx (Rx a0 a1)++o,p0++(p1++(We a0 a1)))
  |_,_=>none
 |_,_,_=>none
theorem Amx:HO Try.prog 53 Rz:=fun args nx o k x nx' o' ps h=>by
 unfold Rz at h
 split at h<;>first|(cases h;done)|skip
 split at h<;>first|(cases h;done)|skip
 rename_i a0 p0 a1 p1 e0 e1
 cases h
 refine⟨fun hp=>?_,_,rfl⟩
 have q0:=fun p hm=>hp p (List.mem_append.2 (.inl hm))
 have r0:=fun p hm=>hp p (List.mem_append.2 (.inr hm))
 have q1:=fun p hm=>r0 p (List.mem_append.2 (.inl hm))
 have r1:=fun p hm=>r0 p (List.mem_append.2 (.inr hm))
 refine Ao (Ai (Aty a0 a1 r1) (Nat.le_refl _) (Af (Ag _ _) (Af (Ag _ _) Au)) nx o) fun F N R vs hl=>?_
 obtain⟨v0,w0,rfl,h0,hl⟩:=hl.inv
 obtain⟨v1,w1,rfl,h1,hl⟩:=hl.inv
 exact HL.cons (Ar e0 q0 h0) (HL.cons (Ar e1 q1 h1) (hl))
noncomputable def A6d:=B5 53 Rz Bdm
theorem Aud:Gg Try.prog A6d:=Ax Amx A17
def Ep (a0:TVec):Bool:=decide (a0.1≥(0:Int))&&decide (a0.1≤(1099511627776:Int))&&decide (a0.2≥(0:Int))&&decide (a0.2≤(1099511627776:Int))
def WV (a0:TVec):A:=.v (.bool (Ep a0))
def WU (_a0:TVec):Objs:=[]
def Ad3 (_a0:TVec):List Prop:=[]
set_option maxRecDepth 100000 in
theorem Awx (a0:TVec):Hx (Ay A6d L0) 9 100 [Aq .vec a0] 0 []=some (1,WV a0,0,WU a0,[]):=by kernel_rfl
set_option maxRecDepth 100000 in
theorem A0f (a0:TVec) (_hp:∀p∈Ad3 a0,p):CallOk Try.prog 100 [Aq .vec a0] 0 [] 1 (WV a0) 0 (WU a0):=by
 exact AJ (Aw Aud AM) (Awx a0) Ad
def WW:List A→Nat→Objs→Option BP
 | [y0],nx,o=>match A3 .vec y0 with
  |some (a0,p0)=>some (1,(WV a0).pk (AH nx),nx+0,AG nx (WU a0)++o,p0++(Ad3 a0))
  |_=>none
 |_,_,_=>none
theorem Asl:HO Try.prog 100 WW:=fun args nx o k x nx' o' ps h=>by
 unfold WW at h
 split at h<;>first|(cases h;done)|skip
 split at h<;>first|(cases h;done)|skip
 rename_i a0 p0 e0
 cases h
 refine⟨fun hp=>?_,_,rfl⟩
 have q0:=fun p hm=>hp p (List.mem_append.2 (.inl hm))
 have r0:=fun p hm=>hp p (List.mem_append.2 (.inr hm))
 refine Ao (Ai (A0f a0 r0) (Nat.le_refl _) (Af (Ag _ _) Au) nx o) fun F N R vs hl=>?_
 obtain⟨v0,w0,rfl,h0,hl⟩:=hl.inv
 exact HL.cons (Ar e0 q0 h0) (hl)
noncomputable def A6e:=B5 100 WW A6d
theorem Aue:Gg Try.prog A6e:=Ax Asl Aud
def Ms (a0:TVec) (a1:TVec):Bool:=decide (a0.1≥a1.1)&&decide (a0.2≥a1.2)
def Rq (a0:TVec) (a1:TVec):A:=.v (.bool (Ms a0 a1))
def Rp (_a0:TVec) (_a1:TVec):Objs:=[]
def VH (_a0:TVec) (_a1:TVec):List Prop:=[]
set_option maxRecDepth 100000 in
theorem Anx (a0:TVec) (a1:TVec):Hx (Ay A6e L0) 9 107 [Aq .vec a0,Aq .vec a1] 0 []=some (1,Rq a0 a1,0,Rp a0 a1,[]):=by kernel_rfl
set_option maxRecDepth 100000 in
theorem Ask (a0:TVec) (a1:TVec) (_hp:∀p∈VH a0 a1,p):CallOk Try.prog 107 [Aq .vec a0,Aq .vec a1] 0 [] 1 (Rq a0 a1) 0 (Rp a0 a1):=by
 exact AJ (Aw Aue AM) (Anx a0 a1) Ad
def Rr:List A→Nat→Objs→Option BP
 | [y0,y1],nx,o=>match A3 .vec y0,A3 .vec y1 with
  |some (a0,p0),some (a1,p1)=>some (1,(Rq a0 a1).pk (AH nx),nx+0,AG nx (Rp a0 a1)++o,p0++(p1++(VH a0 a1)))
  |_,_=>none
 |_,_,_=>none
theorem Ak1:HO Try.prog 107 Rr:=fun args nx o k x nx' o' ps h=>by
 unfold Rr at h
 split at h<;>first|(cases h;done)|skip
 split at h<;>first|(cases h;done)|skip
 rename_i a0 p0 a1 p1 e0 e1
 cases h
 refine⟨fun hp=>?_,_,rfl⟩
 have q0:=fun p hm=>hp p (List.mem_append.2 (.inl hm))
 have r0:=fun p hm=>hp p (List.mem_append.2 (.inr hm))
 have q1:=fun p hm=>r0 p (List.mem_append.2 (.inl hm))
 have r1:=fun p hm=>r0 p (List.mem_append.2 (.inr hm))
 refine Ao (Ai (Ask a0 a1 r1) (Nat.le_refl _) (Af (Ag _ _) (Af (Ag _ _) Au)) nx o) fun F N R vs hl=>?_
 obtain⟨v0,w0,rfl,h0,hl⟩:=hl.inv
 obtain⟨v1,w1,rfl,h1,hl⟩:=hl.inv
 exact HL.cons (Ar e0 q0 h0) (HL.cons (Ar e1 q1 h1) (hl))
noncomputable def Bcw:=B5 107 Rr A6e
theorem A6f:Gg Try.prog Bcw:=Ax Ak1 Aue
noncomputable def Cb:=Bcw
theorem A18:Gg Try.prog Cb:=A6f
end Go.Proofs.Yteebobbhhgmeiaa
namespace Go.Proofs.Yteebobbhhgmeiaa
open Go.RowKit
def Mf (s:TStamp):Bool:=bif s.n==0&&s.site==0 then true else decide (1≤s.n)&&decide (s.n≤281474976710656)&&(s.site==1||s.site==2)
def GY (v:TVec):Bool:=decide (0≤v.a)&&decide (v.a≤1099511627776)&&(decide (0≤v.b)&&decide (v.b≤1099511627776))
def JM (v:TVec):Bool:=v.a==0&&v.b==0
def Bc6 (s:TStamp):Int:=bif s.n==0 then 0 else 2*s.n+s.site - 1
def Beb (n:Int):TStamp:=if n=0 then⟨0,0⟩ else⟨n / 2,1+n % 2⟩
def A0a (s:TStamp):List UInt8:=bif Mf s then LI (Bc6 s) else[]
def Ago (v:TVec):List UInt8:=bif GY v then LI v.a++LI v.b else[]
def Asf (t:ByteArray):List UInt8:=LI (t.size:Int)++t.data.toList
def FH (b:List UInt8):TStamp×Int×Int:=if(Am b).2.2≠0 then(⟨0,0⟩,0,(Am b).2.2) else if Mf (Beb (Am b).1)=true then(Beb (Am b).1,(Am b).2.1,0) else(⟨0,0⟩,0,11)
def Fq (b:List UInt8):TVec×Int×Int:=if(Am b).2.2≠0 then(⟨0,0⟩,0,(Am b).2.2) else
 if(Am (b.drop (Am b).2.1.toNat)).2.2≠0 then(⟨0,0⟩,0,(Am (b.drop (Am b).2.1.toNat)).2.2) else
 if GY ⟨(Am b).1,(Am (b.drop (Am b).2.1.toNat)).1⟩=true then(⟨(Am b).1,(Am (b.drop (Am b).2.1.toNat)).1⟩,(Am b).2.1+(Am (b.drop (Am b).2.1.toNat)).2.1,0) else(⟨0,0⟩,0,11)
def S2 (b:List UInt8) (m:Int):ByteArray×Int×Int:=if(Am b).2.2≠0 then(ByteArray.empty,0,(Am b).2.2) else if(Am b).1 >m then(ByteArray.empty,0,3) else
 if(b.length:Int) - (Am b).2.1 <(Am b).1 then(ByteArray.empty,0,10) else(⟨((b.drop (Am b).2.1.toNat).take (Am b).1.toNat).toArray⟩,(Am b).2.1+(Am b).1,0)
structure Rd {α:Type} (get:List UInt8→α×Int×Int) (good:α→Prop) (put:α→List UInt8):Prop where
 back:∀x r,good x→get (put x++r)=(x,((put x).length:Int),0)
 front:∀b x k,get b=(x,k,0)→good x∧k=((put x).length:Int)∧∃r,b=put x++r
theorem A1n {b p:List UInt8} (h:b.take p.length=p):∃r,b=p++r:=⟨b.drop p.length,by
 conv=>lhs;rw[←List.take_append_drop p.length b,h]⟩
def okN (n:Int):Prop:=0≤n∧n≤4611686018427387903
theorem rdN:Rd Am okN LI where
 back:=fun x r h=>by rw[Bbf h.1 h.2 r,LJ]
 front:=fun b x k h=>by
  obtain⟨h1,h2,h3,_,h5⟩:=Bb1 h
  exact⟨⟨h1,h2⟩,by rw[h3,LJ],A1n (by rw[LJ];exact h5)⟩
theorem Bbd {b:List UInt8} (h:(Am b).2.2=0):∃r,okN (Am b).1∧(Am b).2.1=((LI (Am b).1).length:Int)∧b=LI (Am b).1++r:=by
 obtain⟨h1,h2,r,h3⟩:=rdN.front b (Am b).1 (Am b).2.1 (by rw[←h])
 exact⟨r,h1,h2,h3⟩
theorem A7v (b:List UInt8):(Am b).2.2≠0→(Am b).1=0∧(Am b).2.1=0:=fun h=>by
 cases b with
 |nil=>exact⟨rfl,rfl⟩
 | cons x r=>
  rw[UJ] at h⊢
  split
  ·exact⟨rfl,rfl⟩
  ·split
   ·exact⟨rfl,rfl⟩
   ·rename_i h1 h2
    rw[if_neg h1,if_neg h2] at h
    exact absurd rfl h
theorem GG (b:List UInt8):0≤(Am b).2.1∧(Am b).2.1≤(b.length:Int)∧(Am b).2.1≤8∧0≤(Am b).1∧(Am b).1≤4611686018427387903:=by
 by_cases h:(Am b).2.2=0
 ·obtain⟨r,⟨h1,h1'⟩,h2,h3⟩:=Bbd h
  have hl:=congrArg List.length h3
  rw[List.length_append] at hl
  have h8:(LI (Am b).1).length≤8:=by
   rw[LJ]
   have:=(A34 h1 h1').1
   unfold szs at this
   omega
  exact⟨by omega,by omega,by omega,h1,h1'⟩
 ·obtain⟨h1,h2⟩:=A7v b h
  rw[h1,h2]
  omega
theorem A4s {s:TStamp}:Mf s=true↔(s.n=0∧s.site=0)∨(1≤s.n∧s.n≤281474976710656∧(s.site=1∨s.site=2)):=by
 unfold Mf
 rw[Bool.cond_eq_ite]
 split
 ·rename_i h
  simp only[Bool.and_eq_true,beq_iff_eq] at h
  exact⟨fun _=> .inl h,fun _=>rfl⟩
 ·rename_i h
  simp only[Bool.and_eq_true,beq_iff_eq] at h
  simp only[Bool.and_eq_true,Bool.or_eq_true,beq_iff_eq,decide_eq_true_eq]
  constructor
  ·intro h';exact .inr ⟨h'.1.1,h'.1.2,h'.2⟩
  ·rintro(h'|⟨h1,h2,h3⟩)
   ·exact absurd h' h
   ·exact⟨⟨h1,h2⟩,h3⟩
theorem Bcn {s t:TVec} (h1:s.a=t.a) (h2:s.b=t.b):s=t:=by cases s;cases t;simp_all
theorem Aup (n i:Nat):n &&& 2^i=n / 2^i % 2*2^i:=by
 rw[←Nat.toNat_testBit]
 apply Nat.eq_of_testBit_eq
 intro j
 rw[Nat.testBit_and,Nat.testBit_two_pow]
 cases hb:n.testBit i with
 |true=>
  by_cases hij:i=j
  ·subst hij;simp[hb]
  ·simp[hij]
 |false=>
  by_cases hij:i=j
  ·subst hij;simp[hb]
  ·simp[hij]
theorem A20 {n:Int} (h:okN n) (k:Nat) (m:Int) (hm:m=((2^k:Nat):Int)) (hk:k <60):(BitVec.ofInt 64 n &&& BitVec.ofInt 64 m).toNat=n.toNat / 2^k % 2*2^k:=by
 obtain⟨h0,h1⟩:=h
 have hp:2^k <2^60:=Nat.pow_lt_pow_right (by decide) hk
 have e60:(2:Nat)^60=1152921504606846976:=by decide
 rw[BitVec.toNat_and,BitVec.toNat_ofInt,BitVec.toNat_ofInt]
 have m1:(n % ((2^64:Nat):Int)).toNat=n.toNat:=by omega
 have m2:(m % ((2^64:Nat):Int)).toNat=2^k:=by
  subst hm
  generalize 2^k=q at*
  omega
 rw[m1,m2,Aup]
theorem X7 {n:Int} (h:okN n) (k:Nat) (m:Int) (hm:m=((2^k:Nat):Int)) (hk:k <60):decide (IntKind.i64.wrap ((BitVec.ofInt 64 n &&& BitVec.ofInt 64 m).toNat:Int) >0)=(n.toNat / 2^k % 2==1):=by
 rw[A20 h k m hm hk]
 have hp:2^k <2^60:=Nat.pow_lt_pow_right (by decide) hk
 have hp0:0 <2^k:=Nat.pow_pos (by decide)
 have e60:(2:Nat)^60=1152921504606846976:=by decide
 generalize n.toNat / 2^k=x
 generalize 2^k=q at*
 rcases Nat.mod_two_eq_zero_or_one x with e|e
 ·rw[e,Nat.zero_mul]
  rfl
 ·rw[e,Nat.one_mul,i64_in (by omega)]
  have:(q:Int) >0:=by omega
  rw[decide_eq_true this]
  rfl
theorem Baw {n:Int} (h:okN n):IntKind.i64.wrap (IntKind.i64.wrap ((BitVec.ofInt 64 n &&& BitVec.ofInt 64 1).toNat:Int)+1)=1+n % 2:=by
 have e:=A20 h 0 1 rfl (by decide)
 rw[e]
 obtain⟨h0,h1⟩:=h
 have e2:n.toNat / 2^0 % 2*2^0=n.toNat % 2:=by rw[Nat.pow_zero,Nat.div_one,Nat.mul_one]
 rw[e2,i64_in (n:=((n.toNat % 2:Nat):Int)) (by omega),i64_in (by omega)]
 omega
end Go.Proofs.Yteebobbhhgmeiaa
namespace Go.Proofs.Yteebobbhhgmeiaa
open Go.RowKit
theorem A27 {x y:ByteArray}:(x.toList==y.toList)=true↔x=y:=by
 rw[beq_iff_eq,ByteArray.toList_eq,ByteArray.toList_eq]
 constructor
 ·intro h
  cases x;cases y
  simpa using h
 ·rintro rfl;rfl
theorem Bbp {x:ByteArray}:(x.toList==(ByteArray.mk #[]).toList)=true↔x.size=0:=by
 rw[A27]
 constructor
 ·rintro rfl;rfl
 ·intro h
  cases x with|mk d=>
  have:d.size=0:=h
  rw[Array.eq_empty_of_size_eq_zero this]
theorem Aa4 (x:ByteArray):(x.toList==(ByteArray.mk #[]).toList)=(x.size==0):=by
 rw[Bool.eq_iff_iff,Bbp,beq_iff_eq]
def DL (c:TCell):Bool:=!(c.stamp.n==0&&c.stamp.site==0&&(c.vec.a==0&&c.vec.b==0)&&(!c.gone&&c.value.size==0))
def EZ (p:Int) (c:TCell):Bool:=
 bif p==1&&!JM c.dead||(p==2&&(c.gone||!GY c.dead)||!(p==1||p==2)) then false else
 bif !DL c then true else Mf c.stamp&&decide (0 <c.stamp.n)&&GY c.vec&&decide ((c.value.size:Int)≤64)&&!(c.gone&&!(c.value.size==0))
def ML (c:TCell):Int:=(bif DL c then 1 else 0)+(bif c.gone then 2 else 0)+(bif JM c.dead then 0 else 4)
def A67 (c:TCell):List UInt8:=(bif DL c then A0a c.stamp++Ago c.vec++(bif c.gone then[] else Asf c.value) else[])++(bif JM c.dead then[] else Ago c.dead)
def Awr (p:Int) (c:TCell):List UInt8:=bif EZ p c then LI (ML c)++A67 c else[]
def Dq:TCell:=⟨⟨0,0⟩,⟨0,0⟩,false,ByteArray.mk #[],⟨0,0⟩⟩
theorem A50 {v:TVec}:JM v=true↔v=⟨0,0⟩:=by
 unfold JM
 simp only[Bool.and_eq_true,beq_iff_eq]
 constructor
 ·intro h;exact Bcn h.1 h.2
 ·rintro rfl;exact⟨rfl,rfl⟩
structure Bff (p:Int) (c:TCell):Prop where
 pol:p=1∨p=2
 dead:GY c.dead=true
 last:p=1→JM c.dead=true
 del:p=2→c.gone=false
 st:DL c=true→Mf c.stamp=true∧0 <c.stamp.n∧GY c.vec=true∧(c.value.size:Int)≤64∧(c.gone=true→c.value.size=0)
theorem Ape {p:Int} {c:TCell}:EZ p c=true↔Bff p c:=by
 unfold EZ
 rw[Bool.cond_eq_ite]
 split
 ·rename_i h
  refine⟨fun h=>(by cases h),fun g=>?_⟩
  exfalso
  simp only[Bool.or_eq_true,Bool.and_eq_true,beq_iff_eq,Bool.not_eq_true'] at h
  rcases h with⟨h1,h2⟩|⟨h1,h2⟩|h1
  ·rw[g.last h1] at h2;cases h2
  ·rcases h2 with h2|h2
   ·rw[g.del h1] at h2;cases h2
   ·rw[g.dead] at h2;cases h2
  ·rcases g.pol with h|h
   ·rw[h] at h1;cases h1
   ·rw[h] at h1;cases h1
 ·rename_i h
  have hh:=Bool.eq_false_iff.2 h
  simp only[Bool.or_eq_false_iff] at hh
  obtain⟨h1,h2,h3⟩:=hh
  have hp:p=1∨p=2:=by
   have:(p==1||p==2)=true:=by
    cases hq:(p==1||p==2) with
    |true=>rfl
    |false=>rw[hq] at h3;cases h3
   simpa using this
  have base:GY c.dead=true∧(p=1→JM c.dead=true)∧(p=2→c.gone=false):=by
   rcases hp with rfl|rfl
   ·have hz:JM c.dead=true:=by
     cases hz:JM c.dead with
     |true=>rfl
     |false=>rw[hz] at h1;cases h1
    refine⟨by rw[A50.1 hz];rfl,fun _=>hz,fun h=>by cases h⟩
   ·have:c.gone=false∧GY c.dead=true:=by
     cases hg:c.gone with
     |true=>rw[hg] at h2;cases h2
     |false=>
      cases hv:GY c.dead with
      |true=>exact⟨rfl,rfl⟩
      |false=>rw[hg,hv] at h2;cases h2
    exact⟨this.2,fun h=>(by cases h),fun _=>this.1⟩
  cases hw:DL c with
  |false=>exact⟨fun _=>⟨hp,base.1,base.2.1,base.2.2,fun h=>by rw[hw] at h;cases h⟩,fun _=>rfl⟩
  | true=>
   rw[Bool.not_true,cond_false]
   simp only[Bool.and_eq_true,decide_eq_true_eq,Bool.not_eq_true',Bool.and_eq_false_iff,Bool.not_eq_false',beq_iff_eq]
   constructor
   ·rintro⟨⟨⟨⟨g1,g2⟩,g3⟩,g4⟩,g5⟩
    refine⟨hp,base.1,base.2.1,base.2.2,fun _=>⟨g1,g2,g3,g4,fun hg=>?_⟩⟩
    rcases g5 with g5|g5
    ·rw[g5] at hg;cases hg
    ·exact g5
   ·intro g
    obtain⟨g1,g2,g3,g4,g5⟩:=g.st hw
    refine⟨⟨⟨⟨g1,g2⟩,g3⟩,g4⟩,?_⟩
    cases hg:c.gone with
    |false=>exact .inl rfl
    |true=>exact .inr (g5 hg)
theorem Avt (c:TCell):okN (ML c)∧ML c≤7∧((ML c).toNat / 2^0 % 2==1)=DL c∧((ML c).toNat / 2^1 % 2==1)=c.gone∧((ML c).toNat / 2^2 % 2==1)=!JM c.dead:=by
 unfold ML okN
 cases DL c<;>cases c.gone<;>cases JM c.dead<;>decide
def FT (n:Int) (k:Nat):Bool:=n.toNat / 2^k % 2==1
def X3 (b:List UInt8):Bool×TCell×Int:=
 bif(Am b).2.2==0&&FT (Am b).1 0 then
  (bif !FT (Am b).1 1 then
   ((Am b).2.2==0&&(FH (b.drop (Am b).2.1.toNat)).2.2==0&&(Fq (b.drop ((Am b).2.1+(FH (b.drop (Am b).2.1.toNat)).2.1).toNat)).2.2==0&&(S2 (b.drop ((Am b).2.1+(FH (b.drop (Am b).2.1.toNat)).2.1+(Fq (b.drop ((Am b).2.1+(FH (b.drop (Am b).2.1.toNat)).2.1).toNat)).2.1).toNat) 64).2.2==0,
    ⟨(FH (b.drop (Am b).2.1.toNat)).1,(Fq (b.drop ((Am b).2.1+(FH (b.drop (Am b).2.1.toNat)).2.1).toNat)).1,FT (Am b).1 1,(S2 (b.drop ((Am b).2.1+(FH (b.drop (Am b).2.1.toNat)).2.1+(Fq (b.drop ((Am b).2.1+(FH (b.drop (Am b).2.1.toNat)).2.1).toNat)).2.1).toNat) 64).1,⟨0,0⟩⟩,
    (Am b).2.1+(FH (b.drop (Am b).2.1.toNat)).2.1+(Fq (b.drop ((Am b).2.1+(FH (b.drop (Am b).2.1.toNat)).2.1).toNat)).2.1+(S2 (b.drop ((Am b).2.1+(FH (b.drop (Am b).2.1.toNat)).2.1+(Fq (b.drop ((Am b).2.1+(FH (b.drop (Am b).2.1.toNat)).2.1).toNat)).2.1).toNat) 64).2.1)
  else
   ((Am b).2.2==0&&(FH (b.drop (Am b).2.1.toNat)).2.2==0&&(Fq (b.drop ((Am b).2.1+(FH (b.drop (Am b).2.1.toNat)).2.1).toNat)).2.2==0,
    ⟨(FH (b.drop (Am b).2.1.toNat)).1,(Fq (b.drop ((Am b).2.1+(FH (b.drop (Am b).2.1.toNat)).2.1).toNat)).1,FT (Am b).1 1,ByteArray.mk #[],⟨0,0⟩⟩,
    (Am b).2.1+(FH (b.drop (Am b).2.1.toNat)).2.1+(Fq (b.drop ((Am b).2.1+(FH (b.drop (Am b).2.1.toNat)).2.1).toNat)).2.1))
 else((Am b).2.2==0,Dq,(Am b).2.1)
def stB (b:List UInt8):Bool×TCell×Int:=
 bif(X3 b).1&&FT (Am b).1 2 then((X3 b).1&&(Fq (b.drop (X3 b).2.2.toNat)).2.2==0,{(X3 b).2.1 with dead:=(Fq (b.drop (X3 b).2.2.toNat)).1},(X3 b).2.2+(Fq (b.drop (X3 b).2.2.toNat)).2.1)
 else X3 b
def Atb (n:Int) (c:TCell):Bool:=decide (n≤7)&&FT n 0==DL c&&FT n 1==c.gone&&FT n 2==!JM c.dead
def Af3 (b:List UInt8) (p:Int):TCell×Int×Int:=
 bif !(stB b).1||!Atb (Am b).1 (stB b).2.1||!EZ p (stB b).2.1 then(Dq,0,80) else((stB b).2.1,(stB b).2.2,0)
end Go.Proofs.Yteebobbhhgmeiaa
namespace Go.Proofs.Yteebobbhhgmeiaa
open Go.RowKit
theorem Amq (n:Int):Lr n=(n==1||n==2):=by
 unfold Lr NE
 cases n==1<;>cases n==2<;>rfl
theorem Pr (s:TStamp):GM s=Mf s:=by
 unfold GM Mf
 rw[Amq]
 rfl
theorem Ss (x:Int):(Jd x 0==x)=(decide (0≤x)&&decide (x≤1099511627776)):=by
 unfold Jd
 rw[Bool.eq_iff_iff]
 simp only[beq_iff_eq,Bool.and_eq_true,decide_eq_true_eq]
 omega
theorem LO (v:TVec):Bk v=GY v:=by
 unfold Bk GY
 rw[Ss,Ss]
theorem TN (n:Int):(LI n).length≤8:=by
 rw[LJ]
 rcases ZO n with h|⟨_,_,h⟩
 ·omega
 ·unfold szs at h;omega
theorem A8y (s:TStamp):(A0a s).length≤8:=by
 unfold A0a
 cases Mf s with
 |true=>exact TN _
 |false=>exact Nat.zero_le _
theorem Asg (v:TVec):(Ago v).length≤16:=by
 unfold Ago
 cases GY v with
 |true=>
  rw[cond_true,List.length_append]
  have h1:=TN v.a
  have h2:=TN v.b
  omega
 |false=>exact Nat.zero_le _
theorem A0b (t:ByteArray):(Asf t).length≤8+t.size:=by
 unfold Asf
 rw[List.length_append]
 have h1:=TN (t.size:Int)
 have hs:t.data.toList.length=t.size:=Array.length_toList
 omega
def Jo (_a0:Int) (_a1:TStamp) (_a2:TVec) (_a3:Bool) (a4:ByteArray):Bool:=decide ((↑a4.size:Int) >(64:Int))
def Jn (a0:Int) (a1:TStamp) (a2:TVec) (a3:Bool) (a4:ByteArray):Bool:=bif a0 !=(1:Int)&&a0 !=(2:Int) then a0 !=(1:Int)&&a0 !=(2:Int) else bif a1.1==(0:Int)&&a1.2==(0:Int) then a1.1==(0:Int)&&a1.2==(0:Int) else bif !GM a1 then !GM a1 else bif !Bk a2 then !Bk a2 else a3&&!a4.toList==(ByteArray.mk #[]).toList
def Hw (a0:Int) (a1:TStamp) (a2:TVec) (a3:Bool) (a4:ByteArray):Bool:=(Jn a0 a1 a2 a3 a4)||((Jo a0 a1 a2 a3 a4)||a3&&a0==(2:Int))
def Q3 (a0:Int) (a1:TStamp) (a2:TVec) (a3:Bool) (a4:ByteArray):Int:=bif(Jn a0 a1 a2 a3 a4) then(0:Int) else bif(Jo a0 a1 a2 a3 a4) then(0:Int) else(0:Int)
def Jz (a0:Int) (a1:TStamp) (a2:TVec) (a3:Bool) (a4:ByteArray):TCell:=TCell.mk (TStamp.mk (bif(Hw a0 a1 a2 a3 a4) then(Q3 a0 a1 a2 a3 a4) else a1.1) (bif(Hw a0 a1 a2 a3 a4) then(Q3 a0 a1 a2 a3 a4) else a1.2)) (TVec.mk (bif(Hw a0 a1 a2 a3 a4) then(Q3 a0 a1 a2 a3 a4) else a2.1) (bif(Hw a0 a1 a2 a3 a4) then(Q3 a0 a1 a2 a3 a4) else a2.2)) (bif(Hw a0 a1 a2 a3 a4) then bif(Jn a0 a1 a2 a3 a4) then false else bif(Jo a0 a1 a2 a3 a4) then false else false else a3) (bif(Hw a0 a1 a2 a3 a4) then bif(Jn a0 a1 a2 a3 a4) then ByteArray.mk #[] else bif(Jo a0 a1 a2 a3 a4) then ByteArray.mk #[] else ByteArray.mk #[] else a4) (TVec.mk (bif(Hw a0 a1 a2 a3 a4) then bif(Jn a0 a1 a2 a3 a4) then(0:Int) else bif(Jo a0 a1 a2 a3 a4) then(0:Int) else a2.1 else(0:Int)) (bif(Hw a0 a1 a2 a3 a4) then bif(Jn a0 a1 a2 a3 a4) then(0:Int) else bif(Jo a0 a1 a2 a3 a4) then(0:Int) else a2.2 else(0:Int)))
def A4i (a0:Int) (a1:TStamp) (a2:TVec) (a3:Bool) (a4:ByteArray):Int:=bif(Hw a0 a1 a2 a3 a4) then bif(Jn a0 a1 a2 a3 a4) then(2:Int) else bif(Jo a0 a1 a2 a3 a4) then(3:Int) else(0:Int) else(0:Int)
def ZW (a0:Int) (a1:TStamp) (a2:TVec) (a3:Bool) (a4:ByteArray):A:=.v (.tuple ⟨[.agg ⟨[.int .i64 ((Jz a0 a1 a2 a3 a4).stamp.n),.int .i64 ((Jz a0 a1 a2 a3 a4).stamp.site),.int .i64 ((Jz a0 a1 a2 a3 a4).vec.a),.int .i64 ((Jz a0 a1 a2 a3 a4).vec.b),.bool ((Jz a0 a1 a2 a3 a4).gone),.string ((Jz a0 a1 a2 a3 a4).value),.int .i64 ((Jz a0 a1 a2 a3 a4).dead.a),.int .i64 ((Jz a0 a1 a2 a3 a4).dead.b)]⟩,.int .i64 (A4i a0 a1 a2 a3 a4)]⟩)
def ZV (_a0:Int) (_a1:TStamp) (_a2:TVec) (_a3:Bool) (_a4:ByteArray):Objs:=[]
def Air (_a0:Int) (_a1:TStamp) (_a2:TVec) (_a3:Bool) (_a4:ByteArray):List Prop:=[]
set_option maxRecDepth 100000 in
theorem Aza (a0:Int) (a1:TStamp) (a2:TVec) (a3:Bool) (a4:ByteArray):Hx (Ay Cb L0) 9 36 [Aq .i64 a0,Aq .stamp a1,Aq .vec a2,Aq .bool a3,Aq .str a4] 0 []=some (1,ZW a0 a1 a2 a3 a4,0,ZV a0 a1 a2 a3 a4,[]):=by kernel_rfl
set_option maxRecDepth 100000 in
theorem A4j (a0:Int) (a1:TStamp) (a2:TVec) (a3:Bool) (a4:ByteArray) (_hp:∀p∈Air a0 a1 a2 a3 a4,p):CallOk Try.prog 36 [Aq .i64 a0,Aq .stamp a1,Aq .vec a2,Aq .bool a3,Aq .str a4] 0 [] 1 (ZW a0 a1 a2 a3 a4) 0 (ZV a0 a1 a2 a3 a4):=by
 exact AJ (Aw A18 AM) (Aza a0 a1 a2 a3 a4) Ad
def ZX:List A→Nat→Objs→Option BP
 | [y0,y1,y2,y3,y4],nx,o=>match A3 .i64 y0,A3 .stamp y1,A3 .vec y2,A3 .bool y3,A3 .str y4 with
  |some (a0,p0),some (a1,p1),some (a2,p2),some (a3,p3),some (a4,p4)=>some (1,(ZW a0 a1 a2 a3 a4).pk (AH nx),nx+0,AG nx (ZV a0 a1 a2 a3 a4)++o,p0++(p1++(p2++(p3++(p4++(Air a0 a1 a2 a3 a4))))))
  |_,_,_,_,_=>none
 |_,_,_=>none
theorem Au5:HO Try.prog 36 ZX:=fun args nx o k x nx' o' ps h=>by
 unfold ZX at h
 split at h<;>first|(cases h;done)|skip
 split at h<;>first|(cases h;done)|skip
 rename_i a0 p0 a1 p1 a2 p2 a3 p3 a4 p4 e0 e1 e2 e3 e4
 cases h
 refine⟨fun hp=>?_,_,rfl⟩
 have q0:=fun p hm=>hp p (List.mem_append.2 (.inl hm))
 have r0:=fun p hm=>hp p (List.mem_append.2 (.inr hm))
 have q1:=fun p hm=>r0 p (List.mem_append.2 (.inl hm))
 have r1:=fun p hm=>r0 p (List.mem_append.2 (.inr hm))
 have q2:=fun p hm=>r1 p (List.mem_append.2 (.inl hm))
 have r2:=fun p hm=>r1 p (List.mem_append.2 (.inr hm))
 have q3:=fun p hm=>r2 p (List.mem_append.2 (.inl hm))
 have r3:=fun p hm=>r2 p (List.mem_append.2 (.inr hm))
 have q4:=fun p hm=>r3 p (List.mem_append.2 (.inl hm))
 have r4:=fun p hm=>r3 p (List.mem_append.2 (.inr hm))
 refine Ao (Ai (A4j a0 a1 a2 a3 a4 r4) (Nat.le_refl _) (Af (Ag _ _) (Af (Ag _ _) (Af (Ag _ _) (Af (Ag _ _) (Af (Ag _ _) Au))))) nx o) fun F N R vs hl=>?_
 obtain⟨v0,w0,rfl,h0,hl⟩:=hl.inv
 obtain⟨v1,w1,rfl,h1,hl⟩:=hl.inv
 obtain⟨v2,w2,rfl,h2,hl⟩:=hl.inv
 obtain⟨v3,w3,rfl,h3,hl⟩:=hl.inv
 obtain⟨v4,w4,rfl,h4,hl⟩:=hl.inv
 exact HL.cons (Ar e0 q0 h0) (HL.cons (Ar e1 q1 h1) (HL.cons (Ar e2 q2 h2) (HL.cons (Ar e3 q3 h3) (HL.cons (Ar e4 q4 h4) (hl)))))
noncomputable def Bdn:=B5 36 ZX Cb
theorem A19:Gg Try.prog Bdn:=Ax Au5 A18
def ES (a0:TCell):Bool:=!(a0.1.1==(0:Int)&&a0.1.2==(0:Int)&&(a0.2.1==(0:Int)&&a0.2.2==(0:Int)&&(a0.3==false&&(a0.4.toList==(ByteArray.mk #[]).toList&&true))))
def MI (a0:TCell):A:=.v (.bool (ES a0))
def MH (_a0:TCell):Objs:=[]
def RE (_a0:TCell):List Prop:=[]
set_option maxRecDepth 100000 in
theorem Afw (a0:TCell):Hx (Ay Bdn L0) 9 105 [Aq .cell a0] 0 []=some (1,MI a0,0,MH a0,[]):=by kernel_rfl
set_option maxRecDepth 100000 in
theorem Ait (a0:TCell) (_hp:∀p∈RE a0,p):CallOk Try.prog 105 [Aq .cell a0] 0 [] 1 (MI a0) 0 (MH a0):=by
 exact AJ (Aw A19 AM) (Afw a0) Ad
def MJ:List A→Nat→Objs→Option BP
 | [y0],nx,o=>match A3 .cell y0 with
  |some (a0,p0)=>some (1,(MI a0).pk (AH nx),nx+0,AG nx (MH a0)++o,p0++(RE a0))
  |_=>none
 |_,_,_=>none
theorem ZY:HO Try.prog 105 MJ:=fun args nx o k x nx' o' ps h=>by
 unfold MJ at h
 split at h<;>first|(cases h;done)|skip
 split at h<;>first|(cases h;done)|skip
 rename_i a0 p0 e0
 cases h
 refine⟨fun hp=>?_,_,rfl⟩
 have q0:=fun p hm=>hp p (List.mem_append.2 (.inl hm))
 have r0:=fun p hm=>hp p (List.mem_append.2 (.inr hm))
 refine Ao (Ai (Ait a0 r0) (Nat.le_refl _) (Af (Ag _ _) Au) nx o) fun F N R vs hl=>?_
 obtain⟨v0,w0,rfl,h0,hl⟩:=hl.inv
 exact HL.cons (Ar e0 q0 h0) (hl)
noncomputable def Bdo:=B5 105 MJ Bdn
theorem A2a:Gg Try.prog Bdo:=Ax ZY A19
def Bx (a0:Int) (a1:TCell):Bool:=bif bif a0==(1:Int) then !(a1.5.1==(0:Int)&&a1.5.2==(0:Int)) else !a0==(2:Int)||(a1.3||!Bk a1.5) then bif a0==(1:Int) then false else bif a0==(2:Int) then false else false else bif !ES a1 then true else decide (a1.1.1 >(0:Int))&&GM a1.1&&Bk a1.2&&decide ((↑a1.4.size:Int)≤(64:Int))&&!(a1.3&&!a1.4.toList==(ByteArray.mk #[]).toList)
def SM (a0:Int) (a1:TCell):A:=.v (.bool (Bx a0 a1))
def SL (_a0:Int) (_a1:TCell):Objs:=[]
def Ye (_a0:Int) (_a1:TCell):List Prop:=[]
set_option maxRecDepth 100000 in
theorem Arc (a0:Int) (a1:TCell):Hx (Ay Bdo L0) 9 38 [Aq .i64 a0,Aq .cell a1] 0 []=some (1,SM a0 a1,0,SL a0 a1,[]):=by kernel_rfl
set_option maxRecDepth 100000 in
theorem Adb (a0:Int) (a1:TCell) (_hp:∀p∈Ye a0 a1,p):CallOk Try.prog 38 [Aq .i64 a0,Aq .cell a1] 0 [] 1 (SM a0 a1) 0 (SL a0 a1):=by
 exact AJ (Aw A2a AM) (Arc a0 a1) Ad
def SN:List A→Nat→Objs→Option BP
 | [y0,y1],nx,o=>match A3 .i64 y0,A3 .cell y1 with
  |some (a0,p0),some (a1,p1)=>some (1,(SM a0 a1).pk (AH nx),nx+0,AG nx (SL a0 a1)++o,p0++(p1++(Ye a0 a1)))
  |_,_=>none
 |_,_,_=>none
theorem Am7:HO Try.prog 38 SN:=fun args nx o k x nx' o' ps h=>by
 unfold SN at h
 split at h<;>first|(cases h;done)|skip
 split at h<;>first|(cases h;done)|skip
 rename_i a0 p0 a1 p1 e0 e1
 cases h
 refine⟨fun hp=>?_,_,rfl⟩
 have q0:=fun p hm=>hp p (List.mem_append.2 (.inl hm))
 have r0:=fun p hm=>hp p (List.mem_append.2 (.inr hm))
 have q1:=fun p hm=>r0 p (List.mem_append.2 (.inl hm))
 have r1:=fun p hm=>r0 p (List.mem_append.2 (.inr hm))
 refine Ao (Ai (Adb a0 a1 r1) (Nat.le_refl _) (Af (Ag _ _) (Af (Ag _ _) Au)) nx o) fun F N R vs hl=>?_
 obtain⟨v0,w0,rfl,h0,hl⟩:=hl.inv
 obtain⟨v1,w1,rfl,h1,hl⟩:=hl.inv
 exact HL.cons (Ar e0 q0 h0) (HL.cons (Ar e1 q1 h1) (hl))
noncomputable def Bdp:=B5 38 SN Bdo
theorem A2b:Gg Try.prog Bdp:=Ax Am7 A2a
def Mm (a0:Int) (a1:TCell):Bool:=!Bx a0 a1||!ES a1||a1.3||!IM a1.2 a1.5
def Lw (a0:Int) (a1:TCell):ByteArray:=bif(Mm a0 a1) then ByteArray.mk #[] else a1.4
def FQ (a0:Int) (a1:TCell):Bool:=bif(Mm a0 a1) then false else true
def SP (a0:Int) (a1:TCell):A:=.v (.tuple ⟨[.string (Lw a0 a1),.bool (FQ a0 a1)]⟩)
def SO (_a0:Int) (_a1:TCell):Objs:=[]
def Yh (_a0:Int) (_a1:TCell):List Prop:=[]
set_option maxRecDepth 100000 in
theorem Arf (a0:Int) (a1:TCell):Hx (Ay Bdp L0) 9 40 [Aq .i64 a0,Aq .cell a1] 0 []=some (1,SP a0 a1,0,SO a0 a1,[]):=by kernel_rfl
set_option maxRecDepth 100000 in
theorem Ava (a0:Int) (a1:TCell) (_hp:∀p∈Yh a0 a1,p):CallOk Try.prog 40 [Aq .i64 a0,Aq .cell a1] 0 [] 1 (SP a0 a1) 0 (SO a0 a1):=by
 exact AJ (Aw A2b AM) (Arf a0 a1) Ad
def SQ:List A→Nat→Objs→Option BP
 | [y0,y1],nx,o=>match A3 .i64 y0,A3 .cell y1 with
  |some (a0,p0),some (a1,p1)=>some (1,(SP a0 a1).pk (AH nx),nx+0,AG nx (SO a0 a1)++o,p0++(p1++(Yh a0 a1)))
  |_,_=>none
 |_,_,_=>none
theorem Am9:HO Try.prog 40 SQ:=fun args nx o k x nx' o' ps h=>by
 unfold SQ at h
 split at h<;>first|(cases h;done)|skip
 split at h<;>first|(cases h;done)|skip
 rename_i a0 p0 a1 p1 e0 e1
 cases h
 refine⟨fun hp=>?_,_,rfl⟩
 have q0:=fun p hm=>hp p (List.mem_append.2 (.inl hm))
 have r0:=fun p hm=>hp p (List.mem_append.2 (.inr hm))
 have q1:=fun p hm=>r0 p (List.mem_append.2 (.inl hm))
 have r1:=fun p hm=>r0 p (List.mem_append.2 (.inr hm))
 refine Ao (Ai (Ava a0 a1 r1) (Nat.le_refl _) (Af (Ag _ _) (Af (Ag _ _) Au)) nx o) fun F N R vs hl=>?_
 obtain⟨v0,w0,rfl,h0,hl⟩:=hl.inv
 obtain⟨v1,w1,rfl,h1,hl⟩:=hl.inv
 exact HL.cons (Ar e0 q0 h0) (HL.cons (Ar e1 q1 h1) (hl))
noncomputable def Bdq:=B5 40 SQ Bdp
theorem A2c:Gg Try.prog Bdq:=Ax Am9 A2b
theorem Je (c:TCell):ES c=DL c:=by
 unfold ES DL
 have hg:(c.3==false)=!c.gone:=by show(c.gone==false)=!c.gone;cases c.gone<;>rfl
 rw[Aa4,Bool.and_true,hg]
 simp only[Bool.and_assoc]
theorem IB (p:Int) (c:TCell):Bx p c=EZ p c:=by
 unfold Bx EZ JM
 rw[Je,LO,LO,Pr,Aa4]
 have hw:(bif !DL c then true else decide (c.1.1 >(0:Int))&&Mf c.1&&GY c.2&&decide (((c.4.size:Nat):Int)≤(64:Int))&&!(c.3&&!c.4.size==0))=bif !DL c then true else Mf c.stamp&&decide (0 <c.stamp.n)&&GY c.vec&&decide ((c.value.size:Int)≤64)&&!(c.gone&&!(c.value.size==0)):=by
  rw[Bool.and_comm (decide (c.1.1 >(0:Int)))]
 rw[hw]
 generalize (bif !DL c then true else Mf c.stamp&&decide (0 <c.stamp.n)&&GY c.vec&&decide ((c.value.size:Int)≤64)&&!(c.gone&&!(c.value.size==0)))=X
 by_cases h1:p=1
 ·subst h1
  show(bif !(c.5.1==(0:Int)&&c.5.2==(0:Int)) then false else X)=bif !(c.5.1==(0:Int)&&c.5.2==(0:Int))||false then false else X
  rw[Bool.or_false]
 ·have e1:(p==1)=false:=by simpa using h1
  rw[e1]
  by_cases h2:p=2
  ·subst h2
   show(bif c.3||!GY c.5 then false else X)=bif(c.3||!GY c.5)||false then false else X
   rw[Bool.or_false]
  ·have e2:(p==2)=false:=by simpa using h2
   rw[e2]
   rfl
def Uw (a0:List UInt8) (a1:TStamp):List UInt8:=a0++LI (bif a1.1==(0:Int)&&a1.2==(0:Int) then(0:Int) else bif GM a1 then IntKind.i64.wrap (IntKind.i64.wrap (IntKind.i64.wrap (a1.1*(2:Int))+a1.2) - (1:Int)) else(-1:Int))
def Afo (_a0:List UInt8) (_a1:TStamp):A:=.sq 0
def OL (a0:List UInt8) (a1:TStamp):Objs:=[(0,some (.arr 5 1 (.ty .u8 (Uw a0 a1))))]
def Atu (a0:List UInt8) (_a1:TStamp):List Prop:=[(Aj (a0.length+(8:Nat)))]
set_option maxRecDepth 100000 in
theorem Att (a0:List UInt8) (a1:TStamp):Hx (Ay Bdq L0) 9 121 [Aq .bytes a0,Aq .stamp a1] 0 []=some (1,Afo a0 a1,1,OL a0 a1,[(Aj (a0.length+(8:Nat)))]):=by kernel_rfl
set_option maxRecDepth 100000 in
theorem Ayc (a0:List UInt8) (a1:TStamp) (hp:∀p∈Atu a0 a1,p):CallOk Try.prog 121 [Aq .bytes a0,Aq .stamp a1] 0 [] 1 (Afo a0 a1) 1 (OL a0 a1):=by
 have n0:=N0 hp
 exact AJ (Aw A2c AM) (Att a0 a1) (Aa n0 Ad)
def ZM (_a0:List UInt8) (_a1:TStamp):A:=.sq 0
def Mw (a0:List UInt8) (a1:TStamp):Objs:=[(0,some (.arr 5 1 (.ty .u8 (a0++A0a a1))))]
def Wc (a0:List UInt8) (_a1:TStamp):List Prop:=[Aj (a0.length+8)]
theorem Ats (a0:List UInt8) (a1:TStamp):Uw a0 a1=a0++A0a a1:=by
 unfold Uw A0a Bc6
 rw[Pr]
 congr 1
 cases hg:Mf a1 with
 | false=>
  have hz:(a1.1==(0:Int)&&a1.2==(0:Int))=false:=by
   rw[Bool.eq_false_iff]
   intro h
   unfold Mf at hg
   rw[h] at hg
   cases hg
  rw[hz]
  rfl
 | true=>
  have h':=A4s.1 hg
  rw[cond_true,cond_true]
  congr 1
  by_cases h0:a1.n=0
  ·have hz:(a1.1==(0:Int)&&a1.2==(0:Int))=true:=by
    rcases h' with⟨h1,h2⟩|h1
    ·rw[h1,h2];rfl
    ·omega
   have e:(a1.n==0)=true:=by simpa using h0
   rw[hz,e]
   rfl
  ·have hz:(a1.1==(0:Int)&&a1.2==(0:Int))=false:=by
    have:(a1.1==(0:Int))=false:=by simpa using h0
    rw[this];rfl
   have e:(a1.n==0)=false:=by simpa using h0
   rw[hz,e,cond_false,cond_false,i64_in (n:=a1.1*2) (by omega),i64_in (n:=a1.1*2+a1.2) (by omega),i64_in (by omega)]
   omega
theorem Atr (a0:List UInt8) (a1:TStamp) (hp:∀p∈Wc a0 a1,p):CallOk Try.prog 121 [Aq .bytes a0,Aq .stamp a1] 0 [] 1 (ZM a0 a1) 1 (Mw a0 a1):=by
 have h:=Ayc a0 a1 (Aa (hp _ (List.mem_cons_self ..)) Ad)
 have ho:OL a0 a1=Mw a0 a1:=by unfold OL Mw;rw[Ats]
 rw[ho] at h
 exact h
def Ux:List A→Nat→Objs→Option BP
 | [y0,y1],nx,o=>match A3 .bytes y0,A3 .stamp y1 with
  |some (a0,p0),some (a1,p1)=>some (1,(ZM a0 a1).pk (AH nx),nx+1,AG nx (Mw a0 a1)++o,p0++(p1++(Wc a0 a1)))
  |_,_=>none
 |_,_,_=>none
theorem Aon:HO Try.prog 121 Ux:=fun args nx o k x nx' o' ps h=>by
 unfold Ux at h
 split at h<;>first|(cases h;done)|skip
 split at h<;>first|(cases h;done)|skip
 rename_i a0 p0 a1 p1 e0 e1
 cases h
 refine⟨fun hp=>?_,_,rfl⟩
 have q0:=fun p hm=>hp p (List.mem_append.2 (.inl hm))
 have r0:=fun p hm=>hp p (List.mem_append.2 (.inr hm))
 have q1:=fun p hm=>r0 p (List.mem_append.2 (.inl hm))
 have r1:=fun p hm=>r0 p (List.mem_append.2 (.inr hm))
 refine Ao (Ai (Atr a0 a1 r1) (Nat.le_refl _) (Af (Ag _ _) (Af (Ag _ _) Au)) nx o) fun F N R vs hl=>?_
 obtain⟨v0,w0,rfl,h0,hl⟩:=hl.inv
 obtain⟨v1,w1,rfl,h1,hl⟩:=hl.inv
 exact HL.cons (Ar e0 q0 h0) (HL.cons (Ar e1 q1 h1) (hl))
noncomputable def Bdr:=B5 121 Ux Bdq
theorem A2d:Gg Try.prog Bdr:=Ax Aon A2c
def NH (a0:List UInt8) (a1:TVec):List UInt8:=a0++LI a1.1
def Ac1 (a0:List UInt8) (a1:TVec):List UInt8:=bif !Bk a1 then[]++a0 else(NH a0 a1)++LI a1.2
def Aqh (_a0:List UInt8) (_a1:TVec):A:=.sq 0
def U1 (a0:List UInt8) (a1:TVec):Objs:=[(0,some (.arr 5 1 (.ty .u8 (Ac1 a0 a1))))]
def A1y (a0:List UInt8) (a1:TVec):List Prop:=[((!Bk a1)=true→Aj ((0:Nat)+a0.length)),((!!Bk a1)=true→Aj (a0.length+(8:Nat))),((!!Bk a1)=true→Aj ((NH a0 a1).length+(8:Nat)))]
set_option maxRecDepth 100000 in
theorem A1x (a0:List UInt8) (a1:TVec):Hx (Ay Bdr L0) 9 120 [Aq .bytes a0,Aq .vec a1] 0 []=some (1,Aqh a0 a1,1,U1 a0 a1,[((!Bk a1)=true→Aj ((0:Nat)+a0.length)),((!!Bk a1)=true→Aj (a0.length+(8:Nat))),((!!Bk a1)=true→Aj ((NH a0 a1).length+(8:Nat)))]):=by kernel_rfl
set_option maxRecDepth 100000 in
theorem A5z (a0:List UInt8) (a1:TVec) (hp:∀p∈A1y a0 a1,p):CallOk Try.prog 120 [Aq .bytes a0,Aq .vec a1] 0 [] 1 (Aqh a0 a1) 1 (U1 a0 a1):=by
 have n0:=N0 hp
 have n1:=N0 (N1 hp)
 have n2:=N0 (N1 (N1 hp))
 exact AJ (Aw A2d AM) (A1x a0 a1) (Aa n0 (Aa n1 (Aa n2 Ad)))
def Am3 (_a0:List UInt8) (_a1:TVec):A:=.sq 0
def RC (a0:List UInt8) (a1:TVec):Objs:=[(0,some (.arr 5 1 (.ty .u8 (a0++Ago a1))))]
def Afu (a0:List UInt8) (_a1:TVec):List Prop:=[Aj (a0.length+16)]
theorem A1w (a0:List UInt8) (a1:TVec):Ac1 a0 a1=a0++Ago a1:=by
 unfold Ac1 NH Ago
 rw[LO]
 cases GY a1 with
 |false=>exact(List.append_nil a0).symm
 |true=>exact List.append_assoc ..
theorem A1v (a0:List UInt8) (a1:TVec) (hp:∀p∈Afu a0 a1,p):CallOk Try.prog 120 [Aq .bytes a0,Aq .vec a1] 0 [] 1 (Am3 a0 a1) 1 (RC a0 a1):=by
 have hb:Aj (a0.length+16):=hp _ (List.mem_cons_self ..)
 have h:=A5z a0 a1 (Aa (fun _=>by unfold Aj at*;omega) (Aa (fun _=>by unfold Aj at*;omega) (Aa (fun _=>by
  have:=TN a1.1
  unfold NH Aj at*
  rw[List.length_append]
  omega) Ad)))
 have ho:U1 a0 a1=RC a0 a1:=by unfold U1 RC;rw[A1w]
 rw[ho] at h
 exact h
def Ac2:List A→Nat→Objs→Option BP
 | [y0,y1],nx,o=>match A3 .bytes y0,A3 .vec y1 with
  |some (a0,p0),some (a1,p1)=>some (1,(Am3 a0 a1).pk (AH nx),nx+1,AG nx (RC a0 a1)++o,p0++(p1++(Afu a0 a1)))
  |_,_=>none
 |_,_,_=>none
theorem Ayl:HO Try.prog 120 Ac2:=fun args nx o k x nx' o' ps h=>by
 unfold Ac2 at h
 split at h<;>first|(cases h;done)|skip
 split at h<;>first|(cases h;done)|skip
 rename_i a0 p0 a1 p1 e0 e1
 cases h
 refine⟨fun hp=>?_,_,rfl⟩
 have q0:=fun p hm=>hp p (List.mem_append.2 (.inl hm))
 have r0:=fun p hm=>hp p (List.mem_append.2 (.inr hm))
 have q1:=fun p hm=>r0 p (List.mem_append.2 (.inl hm))
 have r1:=fun p hm=>r0 p (List.mem_append.2 (.inr hm))
 refine Ao (Ai (A1v a0 a1 r1) (Nat.le_refl _) (Af (Ag _ _) (Af (Ag _ _) Au)) nx o) fun F N R vs hl=>?_
 obtain⟨v0,w0,rfl,h0,hl⟩:=hl.inv
 obtain⟨v1,w1,rfl,h1,hl⟩:=hl.inv
 exact HL.cons (Ar e0 q0 h0) (HL.cons (Ar e1 q1 h1) (hl))
noncomputable def Bds:=B5 120 Ac2 Bdr
theorem A2e:Gg Try.prog Bds:=Ax Ayl A2d
def In (a0:List UInt8) (a1:ByteArray):List UInt8:=a0++LI (↑a1.size:Int)
def VD (a0:List UInt8) (a1:ByteArray):List UInt8:=(In a0 a1)++a1.data.toList
def VE (_a0:List UInt8) (_a1:ByteArray):A:=.sq 0
def Le (a0:List UInt8) (a1:ByteArray):Objs:=[(0,some (.arr 5 1 (.ty .u8 (VD a0 a1))))]
def Akf (a0:List UInt8) (a1:ByteArray):List Prop:=[(Aj (a0.length+(8:Nat))),(Aj ((In a0 a1).length+a1.data.toList.length))]
set_option maxRecDepth 100000 in
theorem Ake (a0:List UInt8) (a1:ByteArray):Hx (Ay Bds L0) 9 122 [Aq .bytes a0,Aq .str a1] 0 []=some (1,VE a0 a1,1,Le a0 a1,[(Aj (a0.length+(8:Nat))),(Aj ((In a0 a1).length+a1.data.toList.length))]):=by kernel_rfl
set_option maxRecDepth 100000 in
theorem Ant (a0:List UInt8) (a1:ByteArray) (hp:∀p∈Akf a0 a1,p):CallOk Try.prog 122 [Aq .bytes a0,Aq .str a1] 0 [] 1 (VE a0 a1) 1 (Le a0 a1):=by
 have n0:=N0 hp
 have n1:=N0 (N1 hp)
 exact AJ (Aw A2e AM) (Ake a0 a1) (Aa n0 (Aa n1 Ad))
def Tx (_a0:List UInt8) (_a1:ByteArray):A:=.sq 0
def Kh (a0:List UInt8) (a1:ByteArray):Objs:=[(0,some (.arr 5 1 (.ty .u8 (a0++Asf a1))))]
def RP (a0:List UInt8) (a1:ByteArray):List Prop:=[Aj (a0.length+8+a1.size)]
theorem Tw (a0:List UInt8) (a1:ByteArray) (hp:∀p∈RP a0 a1,p):CallOk Try.prog 122 [Aq .bytes a0,Aq .str a1] 0 [] 1 (Tx a0 a1) 1 (Kh a0 a1):=by
 have hb:Aj (a0.length+8+a1.size):=hp _ (List.mem_cons_self ..)
 have h:=Ant a0 a1 (Aa (by unfold Aj at*;omega) (Aa (by
  have:=TN (a1.size:Int)
  have hs:a1.data.toList.length=a1.size:=Array.length_toList
  unfold In Aj at*
  rw[List.length_append,hs]
  omega) Ad))
 have ho:Le a0 a1=Kh a0 a1:=by unfold Le Kh VD In Asf;rw[List.append_assoc]
 rw[ho] at h
 exact h
def Pf:List A→Nat→Objs→Option BP
 | [y0,y1],nx,o=>match A3 .bytes y0,A3 .str y1 with
  |some (a0,p0),some (a1,p1)=>some (1,(Tx a0 a1).pk (AH nx),nx+1,AG nx (Kh a0 a1)++o,p0++(p1++(RP a0 a1)))
  |_,_=>none
 |_,_,_=>none
theorem Agj:HO Try.prog 122 Pf:=fun args nx o k x nx' o' ps h=>by
 unfold Pf at h
 split at h<;>first|(cases h;done)|skip
 split at h<;>first|(cases h;done)|skip
 rename_i a0 p0 a1 p1 e0 e1
 cases h
 refine⟨fun hp=>?_,_,rfl⟩
 have q0:=fun p hm=>hp p (List.mem_append.2 (.inl hm))
 have r0:=fun p hm=>hp p (List.mem_append.2 (.inr hm))
 have q1:=fun p hm=>r0 p (List.mem_append.2 (.inl hm))
 have r1:=fun p hm=>r0 p (List.mem_append.2 (.inr hm))
 refine Ao (Ai (Tw a0 a1 r1) (Nat.le_refl _) (Af (Ag _ _) (Af (Ag _ _) Au)) nx o) fun F N R vs hl=>?_
 obtain⟨v0,w0,rfl,h0,hl⟩:=hl.inv
 obtain⟨v1,w1,rfl,h1,hl⟩:=hl.inv
 exact HL.cons (Ar e0 q0 h0) (HL.cons (Ar e1 q1 h1) (hl))
noncomputable def Bdt:=B5 122 Pf Bds
theorem A2f:Gg Try.prog Bdt:=Ax Agj A2e
def CK (_a0:List UInt8) (_a1:Int) (a2:TCell):Int:=bif a2.3 then IntKind.i64.wrap (↑(BitVec.ofInt (64:Nat) (bif ES a2 then(1:Int) else(0:Int)) ||| BitVec.ofInt (64:Nat) (2:Int)).toNat:Int) else bif ES a2 then(1:Int) else(0:Int)
def GE (a0:List UInt8) (a1:Int) (a2:TCell):List UInt8:=a0++LI (bif !(a2.5.1==(0:Int)&&a2.5.2==(0:Int)) then IntKind.i64.wrap (↑(BitVec.ofInt (64:Nat) (CK a0 a1 a2) ||| BitVec.ofInt (64:Nat) (4:Int)).toNat:Int) else(CK a0 a1 a2))++A0a a2.1
def Dz (a0:List UInt8) (a1:Int) (a2:TCell):Bool:=decide (IntKind.i64.wrap (↑(BitVec.ofInt (64:Nat) (bif !(a2.5.1==(0:Int)&&a2.5.2==(0:Int)) then IntKind.i64.wrap (↑(BitVec.ofInt (64:Nat) (CK a0 a1 a2) ||| BitVec.ofInt (64:Nat) (4:Int)).toNat:Int) else(CK a0 a1 a2)) &&& BitVec.ofInt (64:Nat) (1:Int)).toNat:Int) >(0:Int))
def Lv (a0:List UInt8) (a1:Int) (a2:TCell):Bool:=decide (IntKind.i64.wrap (↑(BitVec.ofInt (64:Nat) (bif !(a2.5.1==(0:Int)&&a2.5.2==(0:Int)) then IntKind.i64.wrap (↑(BitVec.ofInt (64:Nat) (CK a0 a1 a2) ||| BitVec.ofInt (64:Nat) (4:Int)).toNat:Int) else(CK a0 a1 a2)) &&& BitVec.ofInt (64:Nat) (4:Int)).toNat:Int) >(0:Int))
def H8 (a0:List UInt8) (a1:Int) (a2:TCell):List UInt8:=bif(Dz a0 a1 a2) then bif !a2.3 then(GE a0 a1 a2)++Ago a2.2++Asf a2.4 else(GE a0 a1 a2)++Ago a2.2 else a0++LI (bif !(a2.5.1==(0:Int)&&a2.5.2==(0:Int)) then IntKind.i64.wrap (↑(BitVec.ofInt (64:Nat) (CK a0 a1 a2) ||| BitVec.ofInt (64:Nat) (4:Int)).toNat:Int) else(CK a0 a1 a2))
def Wn (a0:List UInt8) (a1:Int) (a2:TCell):List UInt8:=bif !Bx a1 a2 then[]++a0 else bif(Lv a0 a1 a2) then(H8 a0 a1 a2)++Ago (TVec.mk (bif(Dz a0 a1 a2) then bif !a2.3 then a2.5.1 else a2.5.1 else a2.5.1) (bif(Dz a0 a1 a2) then bif !a2.3 then a2.5.2 else a2.5.2 else a2.5.2)) else(H8 a0 a1 a2)
def Ais (_a0:List UInt8) (_a1:Int) (_a2:TCell):A:=.sq 0
def Q4 (a0:List UInt8) (a1:Int) (a2:TCell):Objs:=[(0,some (.arr 5 1 (.ty .u8 (Wn a0 a1 a2))))]
def Au9 (a0:List UInt8) (a1:Int) (a2:TCell):List Prop:=[((!Bx a1 a2)=true→Aj ((0:Nat)+a0.length)),((!!Bx a1 a2)=true→Aj (a0.length+(8:Nat))),((!!Bx a1 a2)=true→(Dz a0 a1 a2)=true→Aj ((a0++LI (bif !(a2.5.1==(0:Int)&&a2.5.2==(0:Int)) then IntKind.i64.wrap (↑(BitVec.ofInt (64:Nat) (CK a0 a1 a2) ||| BitVec.ofInt (64:Nat) (4:Int)).toNat:Int) else(CK a0 a1 a2))).length+(8:Nat))),((!!Bx a1 a2)=true→(Dz a0 a1 a2)=true→Aj ((GE a0 a1 a2).length+(16:Nat))),((!!Bx a1 a2)=true→(Dz a0 a1 a2)=true→(!a2.3)=true→Aj (((GE a0 a1 a2)++Ago a2.2).length+(8:Nat)+a2.4.size)),((!!Bx a1 a2)=true→(Lv a0 a1 a2)=true→Aj ((H8 a0 a1 a2).length+(16:Nat)))]
set_option maxRecDepth 100000 in
theorem Au8 (a0:List UInt8) (a1:Int) (a2:TCell):Hx (Ay Bdt L0) 9 56 [Aq .bytes a0,Aq .i64 a1,Aq .cell a2] 0 []=some (1,Ais a0 a1 a2,1,Q4 a0 a1 a2,[((!Bx a1 a2)=true→Aj ((0:Nat)+a0.length)),((!!Bx a1 a2)=true→Aj (a0.length+(8:Nat))),((!!Bx a1 a2)=true→(Dz a0 a1 a2)=true→Aj ((a0++LI (bif !(a2.5.1==(0:Int)&&a2.5.2==(0:Int)) then IntKind.i64.wrap (↑(BitVec.ofInt (64:Nat) (CK a0 a1 a2) ||| BitVec.ofInt (64:Nat) (4:Int)).toNat:Int) else(CK a0 a1 a2))).length+(8:Nat))),((!!Bx a1 a2)=true→(Dz a0 a1 a2)=true→Aj ((GE a0 a1 a2).length+(16:Nat))),((!!Bx a1 a2)=true→(Dz a0 a1 a2)=true→(!a2.3)=true→Aj (((GE a0 a1 a2)++Ago a2.2).length+(8:Nat)+a2.4.size)),((!!Bx a1 a2)=true→(Lv a0 a1 a2)=true→Aj ((H8 a0 a1 a2).length+(16:Nat)))]):=by kernel_rfl
set_option maxRecDepth 100000 in
theorem Azb (a0:List UInt8) (a1:Int) (a2:TCell) (hp:∀p∈Au9 a0 a1 a2,p):CallOk Try.prog 56 [Aq .bytes a0,Aq .i64 a1,Aq .cell a2] 0 [] 1 (Ais a0 a1 a2) 1 (Q4 a0 a1 a2):=by
 have n0:=N0 hp
 have n1:=N0 (N1 hp)
 have n2:=N0 (N1 (N1 hp))
 have n3:=N0 (N1 (N1 (N1 hp)))
 have n4:=N0 (N1 (N1 (N1 (N1 hp))))
 have n5:=N0 (N1 (N1 (N1 (N1 (N1 hp)))))
 exact AJ (Aw A2f AM) (Au8 a0 a1 a2) (Aa n0 (Aa n1 (Aa n2 (Aa n3 (Aa n4 (Aa n5 Ad))))))
def Adf (_a0:List UInt8) (_a1:Int) (_a2:TCell):A:=.sq 0
def NX (a0:List UInt8) (a1:Int) (a2:TCell):Objs:=[(0,some (.arr 5 1 (.ty .u8 (a0++Awr a1 a2))))]
def Yf (a0:List UInt8) (_a1:Int) (_a2:TCell):List Prop:=[Aj (a0.length+128)]
theorem KE (a0:List UInt8) (a1:Int) (c:TCell):(bif !(c.5.1==(0:Int)&&c.5.2==(0:Int)) then IntKind.i64.wrap (↑(BitVec.ofInt (64:Nat) (CK a0 a1 c) ||| BitVec.ofInt (64:Nat) (4:Int)).toNat:Int) else(CK a0 a1 c))=ML c:=by
 unfold CK ML
 rw[Je]
 show(bif !(JM c.dead) then _ else _)=_
 cases DL c<;>cases c.gone<;>cases JM c.dead<;>rfl
theorem Adc (a0:List UInt8) (a1:Int) (c:TCell):Dz a0 a1 c=DL c:=by
 unfold Dz
 obtain⟨h1,_,h3,_⟩:=Avt c
 rw[KE,X7 h1 0 1 rfl (by decide)]
 exact h3
theorem Au6 (a0:List UInt8) (a1:Int) (c:TCell):Lv a0 a1 c=!JM c.dead:=by
 unfold Lv
 obtain⟨h1,_,_,_,h5⟩:=Avt c
 rw[KE,X7 h1 2 4 rfl (by decide)]
 exact h5
theorem Au7 (a0:List UInt8) (a1:Int) (c:TCell):Wn a0 a1 c=a0++Awr a1 c:=by
 unfold Wn H8 GE Awr A67
 rw[IB,KE,Adc,Au6]
 have hd:∀w g:Bool,(TVec.mk (bif w then bif !g then c.5.1 else c.5.1 else c.5.1) (bif w then bif !g then c.5.2 else c.5.2 else c.5.2))=c.dead:=by intro w g;cases w<;>cases g<;>rfl
 rw[hd]
 cases EZ a1 c<;>cases DL c<;>cases c.gone<;>cases JM c.dead<;>simp
theorem Ade (a0:List UInt8) (a1:Int) (a2:TCell) (hp:∀p∈Yf a0 a1 a2,p):CallOk Try.prog 56 [Aq .bytes a0,Aq .i64 a1,Aq .cell a2] 0 [] 1 (Adf a0 a1 a2) 1 (NX a0 a1 a2):=by
 have hb:Aj (a0.length+128):=hp _ (List.mem_cons_self ..)
 unfold Aj at hb
 have n8:=TN (ML a2)
 have s8:=A8y a2.stamp
 have v16:=Asg a2.vec
 have t8:=A0b a2.value
 have k3:(GE a0 a1 a2).length≤a0.length+16:=by
  unfold GE
  rw[KE,List.length_append,List.length_append]
  omega
 have sz:(!!Bx a1 a2)=true→Dz a0 a1 a2=true→a2.value.size≤64:=fun h1 h2=>by
  rw[IB,Bool.not_not] at h1
  rw[Adc] at h2
  have:=((Ape.1 h1).st h2).2.2.2.1
  omega
 have h:=Azb a0 a1 a2 (Aa (fun _=>by unfold Aj;omega) (Aa (fun _=>by unfold Aj;omega) (Aa (fun _ _=>by rw[KE,List.length_append];unfold Aj;omega) (Aa (fun _ _=>by unfold Aj;omega) (Aa (fun h1 h2 _=>by
   have:=sz h1 h2
   rw[List.length_append];unfold Aj;omega) (Aa (fun h1 _=>by
   have:(H8 a0 a1 a2).length≤a0.length+112:=by
    unfold H8
    rw[KE]
    cases hw:Dz a0 a1 a2 with
    |false=>rw[cond_false,List.length_append];omega
    |true=>
     have:=sz h1 hw
     rw[cond_true]
     cases a2.3 with
     |true=>simp only[Bool.not_true,cond_false,List.length_append];omega
     |false=>simp only[Bool.not_false,cond_true,List.length_append];omega
   unfold Aj;omega) Ad))))))
 have ho:Q4 a0 a1 a2=NX a0 a1 a2:=by unfold Q4 NX;rw[Au7]
 rw[ho] at h
 exact h
def Wo:List A→Nat→Objs→Option BP
 | [y0,y1,y2],nx,o=>match A3 .bytes y0,A3 .i64 y1,A3 .cell y2 with
  |some (a0,p0),some (a1,p1),some (a2,p2)=>some (1,(Adf a0 a1 a2).pk (AH nx),nx+1,AG nx (NX a0 a1 a2)++o,p0++(p1++(p2++(Yf a0 a1 a2))))
  |_,_,_=>none
 |_,_,_=>none
theorem Are:HO Try.prog 56 Wo:=fun args nx o k x nx' o' ps h=>by
 unfold Wo at h
 split at h<;>first|(cases h;done)|skip
 split at h<;>first|(cases h;done)|skip
 rename_i a0 p0 a1 p1 a2 p2 e0 e1 e2
 cases h
 refine⟨fun hp=>?_,_,rfl⟩
 have q0:=fun p hm=>hp p (List.mem_append.2 (.inl hm))
 have r0:=fun p hm=>hp p (List.mem_append.2 (.inr hm))
 have q1:=fun p hm=>r0 p (List.mem_append.2 (.inl hm))
 have r1:=fun p hm=>r0 p (List.mem_append.2 (.inr hm))
 have q2:=fun p hm=>r1 p (List.mem_append.2 (.inl hm))
 have r2:=fun p hm=>r1 p (List.mem_append.2 (.inr hm))
 refine Ao (Ai (Ade a0 a1 a2 r2) (Nat.le_refl _) (Af (Ag _ _) (Af (Ag _ _) (Af (Ag _ _) Au))) nx o) fun F N R vs hl=>?_
 obtain⟨v0,w0,rfl,h0,hl⟩:=hl.inv
 obtain⟨v1,w1,rfl,h1,hl⟩:=hl.inv
 obtain⟨v2,w2,rfl,h2,hl⟩:=hl.inv
 exact HL.cons (Ar e0 q0 h0) (HL.cons (Ar e1 q1 h1) (HL.cons (Ar e2 q2 h2) (hl)))
noncomputable def Bdu:=B5 56 Wo Bdt
theorem A2g:Gg Try.prog Bdu:=Ax Are A2f
def Kt (a0:List UInt8):Bool:=(Am a0).fst==(0:Int)
def Ks (a0:List UInt8):Bool:=(Am a0).snd.snd !=(0:Int)
def Kr (a0:List UInt8):Bool:=!GM (TStamp.mk ((Am a0).fst.fdiv (2:Int)) (IntKind.i64.wrap (IntKind.i64.wrap (↑(BitVec.ofInt (64:Nat) (Am a0).fst &&& BitVec.ofInt (64:Nat) (1:Int)).toNat:Int)+(1:Int))))
def OJ (a0:List UInt8):TStamp:=TStamp.mk (bif(Ks a0) then(0:Int) else bif(Kt a0) then(0:Int) else bif(Kr a0) then(0:Int) else(Am a0).fst.fdiv (2:Int)) (bif(Ks a0) then(0:Int) else bif(Kt a0) then(0:Int) else bif(Kr a0) then(0:Int) else IntKind.i64.wrap (IntKind.i64.wrap (↑(BitVec.ofInt (64:Nat) (Am a0).fst &&& BitVec.ofInt (64:Nat) (1:Int)).toNat:Int)+(1:Int)))
def Ut (a0:List UInt8):Int:=bif(Ks a0) then(0:Int) else bif(Kt a0) then(Am a0).snd.fst else bif(Kr a0) then(0:Int) else(Am a0).snd.fst
def Uu (a0:List UInt8):Int:=bif(Ks a0) then(Am a0).snd.snd else bif(Kt a0) then(0:Int) else bif(Kr a0) then(11:Int) else(0:Int)
def OK (a0:List UInt8):A:=.v (.tuple ⟨[.agg ⟨[.int .i64 ((OJ a0).n),.int .i64 ((OJ a0).site)]⟩,.int .i64 (Ut a0),.int .i64 (Uu a0)]⟩)
def Afn (_a0:List UInt8):Objs:=[]
def Atp (_a0:List UInt8):List Prop:=[]
set_option maxRecDepth 100000 in
theorem Ato (a0:List UInt8):Hx (Ay Bdu L0) 9 115 [Aq .bytes a0] 0 []=some (1,OK a0,0,Afn a0,[]):=by kernel_rfl
set_option maxRecDepth 100000 in
theorem Ayb (a0:List UInt8) (_hp:∀p∈Atp a0,p):CallOk Try.prog 115 [Aq .bytes a0] 0 [] 1 (OK a0) 0 (Afn a0):=by
 exact AJ (Aw A2g AM) (Ato a0) Ad
def Mu (a0:List UInt8):A:=.v (.tuple ⟨[.agg ⟨[.int .i64 (FH a0).1.n,.int .i64 (FH a0).1.site]⟩,.int .i64 (FH a0).2.1,.int .i64 (FH a0).2.2]⟩)
def ZL (_a0:List UInt8):Objs:=[]
def Wa (_a0:List UInt8):List Prop:=[]
theorem Atn (b:List UInt8):(OJ b,Ut b,Uu b)=FH b:=by
 obtain⟨_,_,_,hn0,hn1⟩:=GG b
 have hok:okN (Am b).1:=⟨hn0,hn1⟩
 unfold OJ Ut Uu Kr Ks Kt FH Beb
 rw[Baw hok,Pr,Int.fdiv_eq_ediv_of_nonneg _ (by decide)]
 by_cases he:(Am b).2.2=0
 ·have e1:((Am b).2.2 !=(0:Int))=false:=by rw[he];rfl
  rw[e1,if_neg (by rw[he];simp)]
  by_cases hz:(Am b).1=0
  ·have e2:((Am b).1==(0:Int))=true:=by rw[hz];rfl
   rw[e2,if_pos hz]
   rfl
  ·have e2:((Am b).1==(0:Int))=false:=by simpa using hz
   rw[e2,if_neg hz]
   cases hg:Mf ⟨(Am b).1 / 2,1+(Am b).1 % 2⟩ with
   |true=>rfl
   |false=>rfl
 ·have e1:((Am b).2.2 !=(0:Int))=true:=by simpa using he
  rw[e1,if_pos he]
  rfl
theorem Atm (a0:List UInt8) (_hp:∀p∈Wa a0,p):CallOk Try.prog 115 [Aq .bytes a0] 0 [] 1 (Mu a0) 0 (ZL a0):=by
 have h:=Ayb a0 Ad
 have hr:OK a0=Mu a0:=by unfold OK Mu;rw[←Atn]
 rw[hr] at h
 exact h
def Uv:List A→Nat→Objs→Option BP
 | [y0],nx,o=>match A3 .bytes y0 with
  |some (a0,p0)=>some (1,(Mu a0).pk (AH nx),nx+0,AG nx (ZL a0)++o,p0++(Wa a0))
  |_=>none
 |_,_,_=>none
theorem Aol:HO Try.prog 115 Uv:=fun args nx o k x nx' o' ps h=>by
 unfold Uv at h
 split at h<;>first|(cases h;done)|skip
 split at h<;>first|(cases h;done)|skip
 rename_i a0 p0 e0
 cases h
 refine⟨fun hp=>?_,_,rfl⟩
 have q0:=fun p hm=>hp p (List.mem_append.2 (.inl hm))
 have r0:=fun p hm=>hp p (List.mem_append.2 (.inr hm))
 refine Ao (Ai (Atm a0 r0) (Nat.le_refl _) (Af (Ag _ _) Au) nx o) fun F N R vs hl=>?_
 obtain⟨v0,w0,rfl,h0,hl⟩:=hl.inv
 exact HL.cons (Ar e0 q0 h0) (hl)
noncomputable def Bdv:=B5 115 Uv Bdu
theorem A2h:Gg Try.prog Bdv:=Ax Aol A2g
def D7 (a0:List UInt8):Bool:=(Am (List.take ((↑a0.length:Int).toNat - (0:Nat)) (List.drop (0:Nat) a0))).snd.snd !=(0:Int)
def Dy (a0:List UInt8):Int:=IntKind.i64.wrap ((0:Int)+(Am (List.take ((↑a0.length:Int).toNat - (0:Nat)) (List.drop (0:Nat) a0))).snd.fst)
def RA (a0:List UInt8):Int:=bif(D7 a0) then(0:Int) else(0:Int)
def Jw (a0:List UInt8):Int:=(Am (List.take ((↑a0.length:Int).toNat - (Dy a0).toNat) (List.drop (Dy a0).toNat a0))).snd.snd
def NG (a0:List UInt8):Bool:=!Bk (TVec.mk (Am (List.take ((↑a0.length:Int).toNat - (0:Nat)) (List.drop (0:Nat) a0))).fst (Am (List.take ((↑a0.length:Int).toNat - (Dy a0).toNat) (List.drop (Dy a0).toNat a0))).fst)
def NF (a0:List UInt8):Bool:=(D7 a0)||(Jw a0) !=(0:Int)
def UZ (a0:List UInt8):TVec:=TVec.mk (bif(NF a0) then(RA a0) else bif(NG a0) then(0:Int) else(Am (List.take ((↑a0.length:Int).toNat - (0:Nat)) (List.drop (0:Nat) a0))).fst) (bif(NF a0) then(RA a0) else bif(NG a0) then(0:Int) else(Am (List.take ((↑a0.length:Int).toNat - (Dy a0).toNat) (List.drop (Dy a0).toNat a0))).fst)
def Acy (a0:List UInt8):Int:=bif(NF a0) then(RA a0) else bif(NG a0) then(0:Int) else IntKind.i64.wrap ((Dy a0)+(Am (List.take ((↑a0.length:Int).toNat - (Dy a0).toNat) (List.drop (Dy a0).toNat a0))).snd.fst)
def Acz (a0:List UInt8):Int:=bif(NF a0) then bif(D7 a0) then(Am (List.take ((↑a0.length:Int).toNat - (0:Nat)) (List.drop (0:Nat) a0))).snd.snd else(Jw a0) else bif(NG a0) then(11:Int) else(0:Int)
def U0 (a0:List UInt8):A:=.v (.tuple ⟨[.agg ⟨[.int .i64 ((UZ a0).a),.int .i64 ((UZ a0).b)]⟩,.int .i64 (Acy a0),.int .i64 (Acz a0)]⟩)
def Aqg (_a0:List UInt8):Objs:=[]
def Amz (a0:List UInt8):List Prop:=[((!(D7 a0))=true→(0:Int)≤(Dy a0)∧(Dy a0)≤(↑a0.length:Int)∧(↑a0.length:Int)≤(↑a0.length:Int))]
set_option maxRecDepth 100000 in
theorem A1s (a0:List UInt8):Hx (Ay Bdv L0) 9 116 [Aq .bytes a0] 0 []=some (1,U0 a0,0,Aqg a0,[((0:Int)≤(0:Int)∧(0:Int)≤(↑a0.length:Int)∧(↑a0.length:Int)≤(↑a0.length:Int)),((!(D7 a0))=true→(0:Int)≤(0:Int)∧(0:Int) <(2:Int)),((!(D7 a0))=true→(0:Nat) <(2:Nat)),((!(D7 a0))=true→(0:Int)≤(Dy a0)∧(Dy a0)≤(↑a0.length:Int)∧(↑a0.length:Int)≤(↑a0.length:Int)),((!(D7 a0))=true→(!(Jw a0) !=(0:Int))=true→(0:Int)≤(1:Int)∧(1:Int) <(2:Int)),((!(D7 a0))=true→(!(Jw a0) !=(0:Int))=true→(1:Nat) <(2:Nat))]):=by kernel_rfl
set_option maxRecDepth 100000 in
theorem A5y (a0:List UInt8) (hp:∀p∈Amz a0,p):CallOk Try.prog 116 [Aq .bytes a0] 0 [] 1 (U0 a0) 0 (Aqg a0):=by
 have n0:((0:Int)≤(0:Int)∧(0:Int)≤(↑a0.length:Int)∧(↑a0.length:Int)≤(↑a0.length:Int)):=by omega
 have n1:((!(D7 a0))=true→(0:Int)≤(0:Int)∧(0:Int) <(2:Int)):=by omega
 have n2:((!(D7 a0))=true→(0:Nat) <(2:Nat)):=by omega
 have n3:=N0 hp
 have n4:((!(D7 a0))=true→(!(Jw a0) !=(0:Int))=true→(0:Int)≤(1:Int)∧(1:Int) <(2:Int)):=by omega
 have n5:((!(D7 a0))=true→(!(Jw a0) !=(0:Int))=true→(1:Nat) <(2:Nat)):=by omega
 exact AJ (Aw A2h AM) (A1s a0) (Aa n0 (Aa n1 (Aa n2 (Aa n3 (Aa n4 (Aa n5 Ad))))))
def RB (a0:List UInt8):A:=.v (.tuple ⟨[.agg ⟨[.int .i64 (Fq a0).1.a,.int .i64 (Fq a0).1.b]⟩,.int .i64 (Fq a0).2.1,.int .i64 (Fq a0).2.2]⟩)
def Amy (_a0:List UInt8):Objs:=[]
def Afr (_a0:List UInt8):List Prop:=[]
theorem Ea {b:List UInt8} {k:Int}:List.take (((b.length:Nat):Int).toNat - k.toNat) (List.drop k.toNat b)=b.drop k.toNat:=by
 rw[Int.toNat_natCast]
 exact List.take_of_length_le (by rw[List.length_drop];exact Nat.le_refl _)
theorem A1r (b:List UInt8):(∀p∈Amz b,p)∧(UZ b,Acy b,Acz b)=Fq b:=by
 obtain⟨hk0,hk1,hk2,hn0,hn1⟩:=GG b
 have e0:List.take (((b.length:Nat):Int).toNat - (0:Nat)) (List.drop (0:Nat) b)=b:=by
  simp
 have k4:Dy b=(Am b).2.1:=by
  unfold Dy
  rw[e0,i64_in (by omega)]
  omega
 refine⟨Aa (fun _=>?_) Ad,?_⟩
 ·rw[k4];omega
 ·unfold UZ Acy Acz NF NG Jw RA D7 Fq
  rw[k4,e0,Ea,LO]
  obtain⟨hj0,hj1,hj2,hm0,hm1⟩:=GG (b.drop (Am b).2.1.toNat)
  rw[i64_in (n:=(Am b).2.1+_) (by omega)]
  by_cases he:(Am b).2.2=0
  ·have e1:((Am b).2.2 !=(0:Int))=false:=by rw[he];rfl
   rw[e1,if_neg (by rw[he];simp)]
   by_cases he2:(Am (b.drop (Am b).2.1.toNat)).2.2=0
   ·have e2:((Am (b.drop (Am b).2.1.toNat)).2.2 !=(0:Int))=false:=by rw[he2];rfl
    rw[e2,if_neg (by rw[he2];simp)]
    cases hg:GY ⟨(Am b).1,(Am (b.drop (Am b).2.1.toNat)).1⟩ with
    |true=>rfl
    |false=>rfl
   ·have e2:((Am (b.drop (Am b).2.1.toNat)).2.2 !=(0:Int))=true:=by simpa using he2
    rw[e2,if_pos he2]
    rfl
  ·have e1:((Am b).2.2 !=(0:Int))=true:=by simpa using he
   rw[e1,if_pos he]
   rfl
theorem A1q (a0:List UInt8) (_hp:∀p∈Afr a0,p):CallOk Try.prog 116 [Aq .bytes a0] 0 [] 1 (RB a0) 0 (Amy a0):=by
 obtain⟨h1,h2⟩:=A1r a0
 have h:=A5y a0 h1
 have hr:U0 a0=RB a0:=by unfold U0 RB;rw[←h2]
 rw[hr] at h
 exact h
def Ac0:List A→Nat→Objs→Option BP
 | [y0],nx,o=>match A3 .bytes y0 with
  |some (a0,p0)=>some (1,(RB a0).pk (AH nx),nx+0,AG nx (Amy a0)++o,p0++(Afr a0))
  |_=>none
 |_,_,_=>none
theorem Ayi:HO Try.prog 116 Ac0:=fun args nx o k x nx' o' ps h=>by
 unfold Ac0 at h
 split at h<;>first|(cases h;done)|skip
 split at h<;>first|(cases h;done)|skip
 rename_i a0 p0 e0
 cases h
 refine⟨fun hp=>?_,_,rfl⟩
 have q0:=fun p hm=>hp p (List.mem_append.2 (.inl hm))
 have r0:=fun p hm=>hp p (List.mem_append.2 (.inr hm))
 refine Ao (Ai (A1q a0 r0) (Nat.le_refl _) (Af (Ag _ _) Au) nx o) fun F N R vs hl=>?_
 obtain⟨v0,w0,rfl,h0,hl⟩:=hl.inv
 exact HL.cons (Ar e0 q0 h0) (hl)
noncomputable def A6g:=B5 116 Ac0 Bdv
theorem Auf:Gg Try.prog A6g:=Ax Ayi A2h
def G7 (a0:List UInt8) (_a1:Int):Bool:=(Am a0).snd.snd !=(0:Int)
def ET (a0:List UInt8) (_a1:Int):Int:=IntKind.i64.wrap ((Am a0).snd.fst+(Am a0).fst)
def G6 (a0:List UInt8) (a1:Int):Bool:=decide ((Am a0).fst >a1)
def Gl (a0:List UInt8) (a1:Int):Bool:=(G7 a0 a1)||((G6 a0 a1)||decide (IntKind.i64.wrap ((↑a0.length:Int) - (Am a0).snd.fst) <(Am a0).fst))
def Pa (a0:List UInt8) (a1:Int):ByteArray:=bif(Gl a0 a1) then bif(G7 a0 a1) then ByteArray.mk #[] else bif(G6 a0 a1) then ByteArray.mk #[] else ByteArray.mk #[] else ByteArray.mk (List.take ((ET a0 a1).toNat - (Am a0).snd.fst.toNat) (List.drop (Am a0).snd.fst.toNat a0)).toArray
def Pb (a0:List UInt8) (a1:Int):Int:=bif(Gl a0 a1) then bif(G7 a0 a1) then(0:Int) else bif(G6 a0 a1) then(0:Int) else(0:Int) else(ET a0 a1)
def Pc (a0:List UInt8) (a1:Int):Int:=bif(Gl a0 a1) then bif(G7 a0 a1) then(Am a0).snd.snd else bif(G6 a0 a1) then(3:Int) else(10:Int) else(0:Int)
def Ld (a0:List UInt8) (a1:Int):A:=.v (.tuple ⟨[.string (Pa a0 a1),.int .i64 (Pb a0 a1),.int .i64 (Pc a0 a1)]⟩)
def VC (_a0:List UInt8) (_a1:Int):Objs:=[]
def Tt (a0:List UInt8) (a1:Int):List Prop:=[((!(Gl a0 a1))=true→(0:Int)≤(Am a0).snd.fst∧(Am a0).snd.fst≤(ET a0 a1)∧(ET a0 a1)≤(↑a0.length:Int))]
set_option maxRecDepth 100000 in
theorem Aj8 (a0:List UInt8) (a1:Int):Hx (Ay A6g L0) 9 117 [Aq .bytes a0,Aq .i64 a1] 0 []=some (1,Ld a0 a1,0,VC a0 a1,[((!(Gl a0 a1))=true→(0:Int)≤(Am a0).snd.fst∧(Am a0).snd.fst≤(ET a0 a1)∧(ET a0 a1)≤(↑a0.length:Int))]):=by kernel_rfl
set_option maxRecDepth 100000 in
theorem Anq (a0:List UInt8) (a1:Int) (hp:∀p∈Tt a0 a1,p):CallOk Try.prog 117 [Aq .bytes a0,Aq .i64 a1] 0 [] 1 (Ld a0 a1) 0 (VC a0 a1):=by
 have n0:=N0 hp
 exact AJ (Aw Auf AM) (Aj8 a0 a1) (Aa n0 Ad)
def Kf (a0:List UInt8) (a1:Int):A:=.v (.tuple ⟨[.string (S2 a0 a1).1,.int .i64 (S2 a0 a1).2.1,.int .i64 (S2 a0 a1).2.2]⟩)
def Ts (_a0:List UInt8) (_a1:Int):Objs:=[]
def RN (a0:List UInt8) (_a1:Int):List Prop:=[Aj a0.length]
theorem Aj7 (b:List UInt8) (m:Int) (hb:Aj b.length):(∀p∈Tt b m,p)∧(Pa b m,Pb b m,Pc b m)=S2 b m:=by
 obtain⟨hk0,hk1,hk2,hn0,hn1⟩:=GG b
 unfold Aj at hb
 have k2:ET b m=(Am b).2.1+(Am b).1:=by
  unfold ET
  exact i64_in (by omega)
 have k0:Gl b m=((Am b).2.2 !=0||(decide ((Am b).1 >m)||decide ((b.length:Int) - (Am b).2.1 <(Am b).1))):=by
  unfold Gl G6 G7
  rw[i64_in (by omega)]
 refine⟨Aa (fun h=>?_) Ad,?_⟩
 ·rw[k0] at h
  rw[k2]
  simp only[Bool.not_eq_true',Bool.or_eq_false_iff,decide_eq_false_iff_not] at h
  omega
 ·unfold Pa Pb Pc G6 G7 S2
  rw[k0,k2]
  by_cases he:(Am b).2.2=0
  ·have e1:((Am b).2.2 !=(0:Int))=false:=by rw[he];rfl
   rw[e1,if_neg (by rw[he];simp)]
   by_cases hm:(Am b).1 >m
   ·rw[decide_eq_true hm,if_pos hm];rfl
   ·rw[decide_eq_false hm,if_neg hm]
    by_cases hc:(b.length:Int) - (Am b).2.1 <(Am b).1
    ·rw[decide_eq_true hc,if_pos hc];rfl
    ·rw[decide_eq_false hc,if_neg hc]
     have e3:((Am b).2.1+(Am b).1).toNat - (Am b).2.1.toNat=(Am b).1.toNat:=by omega
     rw[e3]
     rfl
  ·have e1:((Am b).2.2 !=(0:Int))=true:=by simpa using he
   rw[e1,if_pos he]
   rfl
theorem Aj6 (a0:List UInt8) (a1:Int) (hp:∀p∈RN a0 a1,p):CallOk Try.prog 117 [Aq .bytes a0,Aq .i64 a1] 0 [] 1 (Kf a0 a1) 0 (Ts a0 a1):=by
 obtain⟨h1,h2⟩:=Aj7 a0 a1 (hp _ (List.mem_cons_self ..))
 have h:=Anq a0 a1 h1
 have hr:Ld a0 a1=Kf a0 a1:=by unfold Ld Kf;rw[←h2]
 rw[hr] at h
 exact h
def Pd:List A→Nat→Objs→Option BP
 | [y0,y1],nx,o=>match A3 .bytes y0,A3 .i64 y1 with
  |some (a0,p0),some (a1,p1)=>some (1,(Kf a0 a1).pk (AH nx),nx+0,AG nx (Ts a0 a1)++o,p0++(p1++(RN a0 a1)))
  |_,_=>none
 |_,_,_=>none
theorem Agh:HO Try.prog 117 Pd:=fun args nx o k x nx' o' ps h=>by
 unfold Pd at h
 split at h<;>first|(cases h;done)|skip
 split at h<;>first|(cases h;done)|skip
 rename_i a0 p0 a1 p1 e0 e1
 cases h
 refine⟨fun hp=>?_,_,rfl⟩
 have q0:=fun p hm=>hp p (List.mem_append.2 (.inl hm))
 have r0:=fun p hm=>hp p (List.mem_append.2 (.inr hm))
 have q1:=fun p hm=>r0 p (List.mem_append.2 (.inl hm))
 have r1:=fun p hm=>r0 p (List.mem_append.2 (.inr hm))
 refine Ao (Ai (Aj6 a0 a1 r1) (Nat.le_refl _) (Af (Ag _ _) (Af (Ag _ _) Au)) nx o) fun F N R vs hl=>?_
 obtain⟨v0,w0,rfl,h0,hl⟩:=hl.inv
 obtain⟨v1,w1,rfl,h1,hl⟩:=hl.inv
 exact HL.cons (Ar e0 q0 h0) (HL.cons (Ar e1 q1 h1) (hl))
noncomputable def A6h:=B5 117 Pd A6g
theorem Aug:Gg Try.prog A6h:=Ax Agh Auf
noncomputable def A6i:=B5 113 (inl (Ay A6h L0) 9 113) A6h
theorem Auh:Gg Try.prog A6i:=Ax (Arp (Aw Aug AM) 9 113) Aug
def AI (a0:List UInt8) (_a1:Int):Int:=IntKind.i64.wrap ((0:Int)+(Am a0).snd.fst)
def AN (a0:List UInt8) (a1:Int):Int:=IntKind.i64.wrap ((AI a0 a1)+(FH (List.take ((↑a0.length:Int).toNat - (AI a0 a1).toNat) (List.drop (AI a0 a1).toNat a0))).snd.fst)
def EP (a0:List UInt8) (a1:Int):Int:=bif(Am a0).snd.snd==(0:Int)&&decide (IntKind.i64.wrap (↑(BitVec.ofInt (64:Nat) (Am a0).fst &&& BitVec.ofInt (64:Nat) (1:Int)).toNat:Int) >(0:Int)) then bif !decide (IntKind.i64.wrap (↑(BitVec.ofInt (64:Nat) (Am a0).fst &&& BitVec.ofInt (64:Nat) (2:Int)).toNat:Int) >(0:Int)) then(Fq (List.take ((↑a0.length:Int).toNat - (AN a0 a1).toNat) (List.drop (AN a0 a1).toNat a0))).fst.2 else(Fq (List.take ((↑a0.length:Int).toNat - (AN a0 a1).toNat) (List.drop (AN a0 a1).toNat a0))).fst.2 else(0:Int)
def FP (a0:List UInt8) (a1:Int):Int:=bif(Am a0).snd.snd==(0:Int)&&decide (IntKind.i64.wrap (↑(BitVec.ofInt (64:Nat) (Am a0).fst &&& BitVec.ofInt (64:Nat) (1:Int)).toNat:Int) >(0:Int)) then bif !decide (IntKind.i64.wrap (↑(BitVec.ofInt (64:Nat) (Am a0).fst &&& BitVec.ofInt (64:Nat) (2:Int)).toNat:Int) >(0:Int)) then(Fq (List.take ((↑a0.length:Int).toNat - (AN a0 a1).toNat) (List.drop (AN a0 a1).toNat a0))).fst.1 else(Fq (List.take ((↑a0.length:Int).toNat - (AN a0 a1).toNat) (List.drop (AN a0 a1).toNat a0))).fst.1 else(0:Int)
def FO (a0:List UInt8) (a1:Int):Int:=bif(Am a0).snd.snd==(0:Int)&&decide (IntKind.i64.wrap (↑(BitVec.ofInt (64:Nat) (Am a0).fst &&& BitVec.ofInt (64:Nat) (1:Int)).toNat:Int) >(0:Int)) then bif !decide (IntKind.i64.wrap (↑(BitVec.ofInt (64:Nat) (Am a0).fst &&& BitVec.ofInt (64:Nat) (2:Int)).toNat:Int) >(0:Int)) then(FH (List.take ((↑a0.length:Int).toNat - (AI a0 a1).toNat) (List.drop (AI a0 a1).toNat a0))).fst.2 else(FH (List.take ((↑a0.length:Int).toNat - (AI a0 a1).toNat) (List.drop (AI a0 a1).toNat a0))).fst.2 else(0:Int)
def FN (a0:List UInt8) (a1:Int):Int:=bif(Am a0).snd.snd==(0:Int)&&decide (IntKind.i64.wrap (↑(BitVec.ofInt (64:Nat) (Am a0).fst &&& BitVec.ofInt (64:Nat) (1:Int)).toNat:Int) >(0:Int)) then bif !decide (IntKind.i64.wrap (↑(BitVec.ofInt (64:Nat) (Am a0).fst &&& BitVec.ofInt (64:Nat) (2:Int)).toNat:Int) >(0:Int)) then(FH (List.take ((↑a0.length:Int).toNat - (AI a0 a1).toNat) (List.drop (AI a0 a1).toNat a0))).fst.1 else(FH (List.take ((↑a0.length:Int).toNat - (AI a0 a1).toNat) (List.drop (AI a0 a1).toNat a0))).fst.1 else(0:Int)
def Ed (a0:List UInt8) (_a1:Int):Int:=bif(Am a0).snd.snd==(0:Int)&&decide (IntKind.i64.wrap (↑(BitVec.ofInt (64:Nat) (Am a0).fst &&& BitVec.ofInt (64:Nat) (1:Int)).toNat:Int) >(0:Int)) then bif !decide (IntKind.i64.wrap (↑(BitVec.ofInt (64:Nat) (Am a0).fst &&& BitVec.ofInt (64:Nat) (2:Int)).toNat:Int) >(0:Int)) then(0:Int) else(0:Int) else(0:Int)
def Bj (a0:List UInt8) (a1:Int):Int:=IntKind.i64.wrap ((AN a0 a1)+(Fq (List.take ((↑a0.length:Int).toNat - (AN a0 a1).toNat) (List.drop (AN a0 a1).toNat a0))).snd.fst)
def Ec (a0:List UInt8) (_a1:Int):Bool:=bif(Am a0).snd.snd==(0:Int)&&decide (IntKind.i64.wrap (↑(BitVec.ofInt (64:Nat) (Am a0).fst &&& BitVec.ofInt (64:Nat) (1:Int)).toNat:Int) >(0:Int)) then bif !decide (IntKind.i64.wrap (↑(BitVec.ofInt (64:Nat) (Am a0).fst &&& BitVec.ofInt (64:Nat) (2:Int)).toNat:Int) >(0:Int)) then decide (IntKind.i64.wrap (↑(BitVec.ofInt (64:Nat) (Am a0).fst &&& BitVec.ofInt (64:Nat) (2:Int)).toNat:Int) >(0:Int)) else decide (IntKind.i64.wrap (↑(BitVec.ofInt (64:Nat) (Am a0).fst &&& BitVec.ofInt (64:Nat) (2:Int)).toNat:Int) >(0:Int)) else false
def FM (a0:List UInt8) (a1:Int):ByteArray:=bif(Am a0).snd.snd==(0:Int)&&decide (IntKind.i64.wrap (↑(BitVec.ofInt (64:Nat) (Am a0).fst &&& BitVec.ofInt (64:Nat) (1:Int)).toNat:Int) >(0:Int)) then bif !decide (IntKind.i64.wrap (↑(BitVec.ofInt (64:Nat) (Am a0).fst &&& BitVec.ofInt (64:Nat) (2:Int)).toNat:Int) >(0:Int)) then(S2 (List.take ((↑a0.length:Int).toNat - (Bj a0 a1).toNat) (List.drop (Bj a0 a1).toNat a0)) (64:Int)).fst else ByteArray.mk #[] else ByteArray.mk #[]
def AT (a0:List UInt8) (a1:Int):Int:=bif(Am a0).snd.snd==(0:Int)&&decide (IntKind.i64.wrap (↑(BitVec.ofInt (64:Nat) (Am a0).fst &&& BitVec.ofInt (64:Nat) (1:Int)).toNat:Int) >(0:Int)) then bif !decide (IntKind.i64.wrap (↑(BitVec.ofInt (64:Nat) (Am a0).fst &&& BitVec.ofInt (64:Nat) (2:Int)).toNat:Int) >(0:Int)) then IntKind.i64.wrap ((Bj a0 a1)+(S2 (List.take ((↑a0.length:Int).toNat - (Bj a0 a1).toNat) (List.drop (Bj a0 a1).toNat a0)) (64:Int)).snd.fst) else(Bj a0 a1) else(AI a0 a1)
def Av (a0:List UInt8) (a1:Int):Bool:=(bif(Am a0).snd.snd==(0:Int)&&decide (IntKind.i64.wrap (↑(BitVec.ofInt (64:Nat) (Am a0).fst &&& BitVec.ofInt (64:Nat) (1:Int)).toNat:Int) >(0:Int)) then bif !decide (IntKind.i64.wrap (↑(BitVec.ofInt (64:Nat) (Am a0).fst &&& BitVec.ofInt (64:Nat) (2:Int)).toNat:Int) >(0:Int)) then(Am a0).snd.snd==(0:Int)&&(FH (List.take ((↑a0.length:Int).toNat - (AI a0 a1).toNat) (List.drop (AI a0 a1).toNat a0))).snd.snd==(0:Int)&&(Fq (List.take ((↑a0.length:Int).toNat - (AN a0 a1).toNat) (List.drop (AN a0 a1).toNat a0))).snd.snd==(0:Int)&&(S2 (List.take ((↑a0.length:Int).toNat - (Bj a0 a1).toNat) (List.drop (Bj a0 a1).toNat a0)) (64:Int)).snd.snd==(0:Int) else(Am a0).snd.snd==(0:Int)&&(FH (List.take ((↑a0.length:Int).toNat - (AI a0 a1).toNat) (List.drop (AI a0 a1).toNat a0))).snd.snd==(0:Int)&&(Fq (List.take ((↑a0.length:Int).toNat - (AN a0 a1).toNat) (List.drop (AN a0 a1).toNat a0))).snd.snd==(0:Int) else(Am a0).snd.snd==(0:Int))&&decide (IntKind.i64.wrap (↑(BitVec.ofInt (64:Nat) (Am a0).fst &&& BitVec.ofInt (64:Nat) (4:Int)).toNat:Int) >(0:Int))
def Eb (a0:List UInt8) (a1:Int):Bool:=(!bif(Av a0 a1) then(bif(Am a0).snd.snd==(0:Int)&&decide (IntKind.i64.wrap (↑(BitVec.ofInt (64:Nat) (Am a0).fst &&& BitVec.ofInt (64:Nat) (1:Int)).toNat:Int) >(0:Int)) then bif !decide (IntKind.i64.wrap (↑(BitVec.ofInt (64:Nat) (Am a0).fst &&& BitVec.ofInt (64:Nat) (2:Int)).toNat:Int) >(0:Int)) then(Am a0).snd.snd==(0:Int)&&(FH (List.take ((↑a0.length:Int).toNat - (AI a0 a1).toNat) (List.drop (AI a0 a1).toNat a0))).snd.snd==(0:Int)&&(Fq (List.take ((↑a0.length:Int).toNat - (AN a0 a1).toNat) (List.drop (AN a0 a1).toNat a0))).snd.snd==(0:Int)&&(S2 (List.take ((↑a0.length:Int).toNat - (Bj a0 a1).toNat) (List.drop (Bj a0 a1).toNat a0)) (64:Int)).snd.snd==(0:Int) else(Am a0).snd.snd==(0:Int)&&(FH (List.take ((↑a0.length:Int).toNat - (AI a0 a1).toNat) (List.drop (AI a0 a1).toNat a0))).snd.snd==(0:Int)&&(Fq (List.take ((↑a0.length:Int).toNat - (AN a0 a1).toNat) (List.drop (AN a0 a1).toNat a0))).snd.snd==(0:Int) else(Am a0).snd.snd==(0:Int))&&(Fq (List.take ((↑a0.length:Int).toNat - (AT a0 a1).toNat) (List.drop (AT a0 a1).toNat a0))).snd.snd==(0:Int) else bif(Am a0).snd.snd==(0:Int)&&decide (IntKind.i64.wrap (↑(BitVec.ofInt (64:Nat) (Am a0).fst &&& BitVec.ofInt (64:Nat) (1:Int)).toNat:Int) >(0:Int)) then bif !decide (IntKind.i64.wrap (↑(BitVec.ofInt (64:Nat) (Am a0).fst &&& BitVec.ofInt (64:Nat) (2:Int)).toNat:Int) >(0:Int)) then(Am a0).snd.snd==(0:Int)&&(FH (List.take ((↑a0.length:Int).toNat - (AI a0 a1).toNat) (List.drop (AI a0 a1).toNat a0))).snd.snd==(0:Int)&&(Fq (List.take ((↑a0.length:Int).toNat - (AN a0 a1).toNat) (List.drop (AN a0 a1).toNat a0))).snd.snd==(0:Int)&&(S2 (List.take ((↑a0.length:Int).toNat - (Bj a0 a1).toNat) (List.drop (Bj a0 a1).toNat a0)) (64:Int)).snd.snd==(0:Int) else(Am a0).snd.snd==(0:Int)&&(FH (List.take ((↑a0.length:Int).toNat - (AI a0 a1).toNat) (List.drop (AI a0 a1).toNat a0))).snd.snd==(0:Int)&&(Fq (List.take ((↑a0.length:Int).toNat - (AN a0 a1).toNat) (List.drop (AN a0 a1).toNat a0))).snd.snd==(0:Int) else(Am a0).snd.snd==(0:Int))||!((decide ((Am a0).fst≤(7:Int))&&decide (IntKind.i64.wrap (↑(BitVec.ofInt (64:Nat) (Am a0).fst &&& BitVec.ofInt (64:Nat) (1:Int)).toNat:Int) >(0:Int))==ES (TCell.mk (TStamp.mk (bif(Av a0 a1) then(FN a0 a1) else(FN a0 a1)) (bif(Av a0 a1) then(FO a0 a1) else(FO a0 a1))) (TVec.mk (bif(Av a0 a1) then(FP a0 a1) else(FP a0 a1)) (bif(Av a0 a1) then(EP a0 a1) else(EP a0 a1))) (bif(Av a0 a1) then(Ec a0 a1) else(Ec a0 a1)) (bif(Av a0 a1) then(FM a0 a1) else(FM a0 a1)) (TVec.mk (bif(Av a0 a1) then(Fq (List.take ((↑a0.length:Int).toNat - (AT a0 a1).toNat) (List.drop (AT a0 a1).toNat a0))).fst.1 else(Ed a0 a1)) (bif(Av a0 a1) then(Fq (List.take ((↑a0.length:Int).toNat - (AT a0 a1).toNat) (List.drop (AT a0 a1).toNat a0))).fst.2 else(Ed a0 a1))))&&decide (IntKind.i64.wrap (↑(BitVec.ofInt (64:Nat) (Am a0).fst &&& BitVec.ofInt (64:Nat) (2:Int)).toNat:Int) >(0:Int))==bif(Av a0 a1) then(Ec a0 a1) else(Ec a0 a1))&&decide (IntKind.i64.wrap (↑(BitVec.ofInt (64:Nat) (Am a0).fst &&& BitVec.ofInt (64:Nat) (4:Int)).toNat:Int) >(0:Int))==!((bif(Av a0 a1) then(Fq (List.take ((↑a0.length:Int).toNat - (AT a0 a1).toNat) (List.drop (AT a0 a1).toNat a0))).fst.1 else(Ed a0 a1))==(0:Int)&&(bif(Av a0 a1) then(Fq (List.take ((↑a0.length:Int).toNat - (AT a0 a1).toNat) (List.drop (AT a0 a1).toNat a0))).fst.2 else(Ed a0 a1))==(0:Int)))||!Bx a1 (TCell.mk (TStamp.mk (bif(Av a0 a1) then(FN a0 a1) else(FN a0 a1)) (bif(Av a0 a1) then(FO a0 a1) else(FO a0 a1))) (TVec.mk (bif(Av a0 a1) then(FP a0 a1) else(FP a0 a1)) (bif(Av a0 a1) then(EP a0 a1) else(EP a0 a1))) (bif(Av a0 a1) then(Ec a0 a1) else(Ec a0 a1)) (bif(Av a0 a1) then(FM a0 a1) else(FM a0 a1)) (TVec.mk (bif(Av a0 a1) then(Fq (List.take ((↑a0.length:Int).toNat - (AT a0 a1).toNat) (List.drop (AT a0 a1).toNat a0))).fst.1 else(Ed a0 a1)) (bif(Av a0 a1) then(Fq (List.take ((↑a0.length:Int).toNat - (AT a0 a1).toNat) (List.drop (AT a0 a1).toNat a0))).fst.2 else(Ed a0 a1))))
def GN (a0:List UInt8) (a1:Int):TCell:=TCell.mk (TStamp.mk (bif(Eb a0 a1) then(0:Int) else bif(Av a0 a1) then(FN a0 a1) else(FN a0 a1)) (bif(Eb a0 a1) then(0:Int) else bif(Av a0 a1) then(FO a0 a1) else(FO a0 a1))) (TVec.mk (bif(Eb a0 a1) then(0:Int) else bif(Av a0 a1) then(FP a0 a1) else(FP a0 a1)) (bif(Eb a0 a1) then(0:Int) else bif(Av a0 a1) then(EP a0 a1) else(EP a0 a1))) (bif(Eb a0 a1) then false else bif(Av a0 a1) then(Ec a0 a1) else(Ec a0 a1)) (bif(Eb a0 a1) then ByteArray.mk #[] else bif(Av a0 a1) then(FM a0 a1) else(FM a0 a1)) (TVec.mk (bif(Eb a0 a1) then(0:Int) else bif(Av a0 a1) then(Fq (List.take ((↑a0.length:Int).toNat - (AT a0 a1).toNat) (List.drop (AT a0 a1).toNat a0))).fst.1 else(Ed a0 a1)) (bif(Eb a0 a1) then(0:Int) else bif(Av a0 a1) then(Fq (List.take ((↑a0.length:Int).toNat - (AT a0 a1).toNat) (List.drop (AT a0 a1).toNat a0))).fst.2 else(Ed a0 a1)))
def Wk (a0:List UInt8) (a1:Int):Int:=bif(Eb a0 a1) then(0:Int) else bif(Av a0 a1) then IntKind.i64.wrap ((AT a0 a1)+(Fq (List.take ((↑a0.length:Int).toNat - (AT a0 a1).toNat) (List.drop (AT a0 a1).toNat a0))).snd.fst) else(AT a0 a1)
def Wl (a0:List UInt8) (a1:Int):Int:=bif(Eb a0 a1) then(80:Int) else(0:Int)
def QZ (a0:List UInt8) (a1:Int):A:=.v (.tuple ⟨[.agg ⟨[.int .i64 ((GN a0 a1).stamp.n),.int .i64 ((GN a0 a1).stamp.site),.int .i64 ((GN a0 a1).vec.a),.int .i64 ((GN a0 a1).vec.b),.bool ((GN a0 a1).gone),.string ((GN a0 a1).value),.int .i64 ((GN a0 a1).dead.a),.int .i64 ((GN a0 a1).dead.b)]⟩,.int .i64 (Wk a0 a1),.int .i64 (Wl a0 a1)]⟩)
def Aip (_a0:List UInt8) (_a1:Int):Objs:=[]
def Ada (a0:List UInt8) (a1:Int):List Prop:=[(((Am a0).snd.snd==(0:Int)&&decide (IntKind.i64.wrap (↑(BitVec.ofInt (64:Nat) (Am a0).fst &&& BitVec.ofInt (64:Nat) (1:Int)).toNat:Int) >(0:Int)))=true→(0:Int)≤(AI a0 a1)∧(AI a0 a1)≤(↑a0.length:Int)∧(↑a0.length:Int)≤(↑a0.length:Int)),(((Am a0).snd.snd==(0:Int)&&decide (IntKind.i64.wrap (↑(BitVec.ofInt (64:Nat) (Am a0).fst &&& BitVec.ofInt (64:Nat) (1:Int)).toNat:Int) >(0:Int)))=true→(0:Int)≤(AN a0 a1)∧(AN a0 a1)≤(↑a0.length:Int)∧(↑a0.length:Int)≤(↑a0.length:Int)),(((Am a0).snd.snd==(0:Int)&&decide (IntKind.i64.wrap (↑(BitVec.ofInt (64:Nat) (Am a0).fst &&& BitVec.ofInt (64:Nat) (1:Int)).toNat:Int) >(0:Int)))=true→(!decide (IntKind.i64.wrap (↑(BitVec.ofInt (64:Nat) (Am a0).fst &&& BitVec.ofInt (64:Nat) (2:Int)).toNat:Int) >(0:Int)))=true→(0:Int)≤(Bj a0 a1)∧(Bj a0 a1)≤(↑a0.length:Int)∧(↑a0.length:Int)≤(↑a0.length:Int)),(((Am a0).snd.snd==(0:Int)&&decide (IntKind.i64.wrap (↑(BitVec.ofInt (64:Nat) (Am a0).fst &&& BitVec.ofInt (64:Nat) (1:Int)).toNat:Int) >(0:Int)))=true→(!decide (IntKind.i64.wrap (↑(BitVec.ofInt (64:Nat) (Am a0).fst &&& BitVec.ofInt (64:Nat) (2:Int)).toNat:Int) >(0:Int)))=true→Aj (List.take ((↑a0.length:Int).toNat - (Bj a0 a1).toNat) (List.drop (Bj a0 a1).toNat a0)).length),((Av a0 a1)=true→(0:Int)≤(AT a0 a1)∧(AT a0 a1)≤(↑a0.length:Int)∧(↑a0.length:Int)≤(↑a0.length:Int))]
set_option maxRecDepth 100000 in
theorem Au4 (a0:List UInt8) (a1:Int):Hx (Ay A6i L0) 9 54 [Aq .bytes a0,Aq .i64 a1] 0 []=some (1,QZ a0 a1,0,Aip a0 a1,[(((Am a0).snd.snd==(0:Int)&&decide (IntKind.i64.wrap (↑(BitVec.ofInt (64:Nat) (Am a0).fst &&& BitVec.ofInt (64:Nat) (1:Int)).toNat:Int) >(0:Int)))=true→(0:Int)≤(AI a0 a1)∧(AI a0 a1)≤(↑a0.length:Int)∧(↑a0.length:Int)≤(↑a0.length:Int)),(((Am a0).snd.snd==(0:Int)&&decide (IntKind.i64.wrap (↑(BitVec.ofInt (64:Nat) (Am a0).fst &&& BitVec.ofInt (64:Nat) (1:Int)).toNat:Int) >(0:Int)))=true→(0:Int)≤(AN a0 a1)∧(AN a0 a1)≤(↑a0.length:Int)∧(↑a0.length:Int)≤(↑a0.length:Int)),(((Am a0).snd.snd==(0:Int)&&decide (IntKind.i64.wrap (↑(BitVec.ofInt (64:Nat) (Am a0).fst &&& BitVec.ofInt (64:Nat) (1:Int)).toNat:Int) >(0:Int)))=true→(!decide (IntKind.i64.wrap (↑(BitVec.ofInt (64:Nat) (Am a0).fst &&& BitVec.ofInt (64:Nat) (2:Int)).toNat:Int) >(0:Int)))=true→(0:Int)≤(Bj a0 a1)∧(Bj a0 a1)≤(↑a0.length:Int)∧(↑a0.length:Int)≤(↑a0.length:Int)),(((Am a0).snd.snd==(0:Int)&&decide (IntKind.i64.wrap (↑(BitVec.ofInt (64:Nat) (Am a0).fst &&& BitVec.ofInt (64:Nat) (1:Int)).toNat:Int) >(0:Int)))=true→(!decide (IntKind.i64.wrap (↑(BitVec.ofInt (64:Nat) (Am a0).fst &&& BitVec.ofInt (64:Nat) (2:Int)).toNat:Int) >(0:Int)))=true→Aj (List.take ((↑a0.length:Int).toNat - (Bj a0 a1).toNat) (List.drop (Bj a0 a1).toNat a0)).length),((Av a0 a1)=true→(0:Int)≤(AT a0 a1)∧(AT a0 a1)≤(↑a0.length:Int)∧(↑a0.length:Int)≤(↑a0.length:Int))]):=by kernel_rfl
set_option maxRecDepth 100000 in
theorem Ay9 (a0:List UInt8) (a1:Int) (hp:∀p∈Ada a0 a1,p):CallOk Try.prog 54 [Aq .bytes a0,Aq .i64 a1] 0 [] 1 (QZ a0 a1) 0 (Aip a0 a1):=by
 have n0:=N0 hp
 have n1:=N0 (N1 hp)
 have n2:=N0 (N1 (N1 hp))
 have n3:=N0 (N1 (N1 (N1 hp)))
 have n4:=N0 (N1 (N1 (N1 (N1 hp))))
 exact AJ (Aw Auh AM) (Au4 a0 a1) (Aa n0 (Aa n1 (Aa n2 (Aa n3 (Aa n4 Ad)))))
def NW (a0:List UInt8) (a1:Int):A:=.v (.tuple ⟨[.agg ⟨[.int .i64 (Af3 a0 a1).1.stamp.n,.int .i64 (Af3 a0 a1).1.stamp.site,.int .i64 (Af3 a0 a1).1.vec.a,.int .i64 (Af3 a0 a1).1.vec.b,.bool (Af3 a0 a1).1.gone,.string (Af3 a0 a1).1.value,.int .i64 (Af3 a0 a1).1.dead.a,.int .i64 (Af3 a0 a1).1.dead.b]⟩,.int .i64 (Af3 a0 a1).2.1,.int .i64 (Af3 a0 a1).2.2]⟩)
def Ac9 (_a0:List UInt8) (_a1:Int):Objs:=[]
def Yd (a0:List UInt8) (_a1:Int):List Prop:=[Aj a0.length]
theorem Avz (b:List UInt8):0≤(FH b).2.1∧(FH b).2.1≤(b.length:Int):=by
 obtain⟨h1,h2,_⟩:=GG b
 unfold FH
 split
 ·exact⟨Int.le_refl _,by show(0:Int)≤(b.length:Int);omega⟩
 ·split
  ·exact⟨h1,h2⟩
  ·exact⟨Int.le_refl _,by show(0:Int)≤(b.length:Int);omega⟩
theorem Adi (b:List UInt8):0≤(Fq b).2.1∧(Fq b).2.1≤(b.length:Int):=by
 obtain⟨h1,h2,_⟩:=GG b
 obtain⟨h3,h4,_⟩:=GG (b.drop (Am b).2.1.toNat)
 rw[List.length_drop] at h4
 unfold Fq
 split
 ·exact⟨Int.le_refl _,by show(0:Int)≤(b.length:Int);omega⟩
 ·split
  ·exact⟨Int.le_refl _,by show(0:Int)≤(b.length:Int);omega⟩
  ·split
   ·exact⟨by show 0≤(Am b).2.1+_;omega,by show(Am b).2.1+_≤(b.length:Int);omega⟩
   ·exact⟨Int.le_refl _,by show(0:Int)≤(b.length:Int);omega⟩
theorem Av0 (b:List UInt8) (m:Int):0≤(S2 b m).2.1∧(S2 b m).2.1≤(b.length:Int):=by
 obtain⟨h1,h2,_,h3,_⟩:=GG b
 unfold S2
 split
 ·exact⟨Int.le_refl _,by show(0:Int)≤(b.length:Int);omega⟩
 ·split
  ·exact⟨Int.le_refl _,by show(0:Int)≤(b.length:Int);omega⟩
  ·split
   ·exact⟨Int.le_refl _,by show(0:Int)≤(b.length:Int);omega⟩
   ·exact⟨by show 0≤(Am b).2.1+_;omega,by show(Am b).2.1+_≤(b.length:Int);omega⟩
theorem Au3 (b:List UInt8) (p:Int) (hb:Aj b.length):(∀q∈Ada b p,q)∧(GN b p,Wk b p,Wl b p)=Af3 b p:=by
 unfold Aj at hb
 obtain⟨a1,a2,_,a3,a4⟩:=GG b
 have hok:okN (Am b).1:=⟨a3,a4⟩
 have B1:=X7 hok 0 1 rfl (by decide)
 have B2:=X7 hok 1 2 rfl (by decide)
 have B4:=X7 hok 2 4 rfl (by decide)
 have e12:AI b p=(Am b).2.1:=by
  unfold AI
  rw[i64_in (by omega)];omega
 obtain⟨s1,s2⟩:=Avz (b.drop (Am b).2.1.toNat)
 rw[List.length_drop] at s2
 have e11:AN b p=(Am b).2.1+(FH (b.drop (Am b).2.1.toNat)).2.1:=by
  unfold AN
  rw[e12,Ea,i64_in (by omega)]
 obtain⟨v1,v2⟩:=Adi (b.drop ((Am b).2.1+(FH (b.drop (Am b).2.1.toNat)).2.1).toNat)
 rw[List.length_drop] at v2
 have e5:Bj b p=(Am b).2.1+(FH (b.drop (Am b).2.1.toNat)).2.1+(Fq (b.drop ((Am b).2.1+(FH (b.drop (Am b).2.1.toNat)).2.1).toNat)).2.1:=by
  unfold Bj
  rw[e11,Ea,i64_in (by omega)]
 obtain⟨t1,t2⟩:=Av0 (b.drop ((Am b).2.1+(FH (b.drop (Am b).2.1.toNat)).2.1+(Fq (b.drop ((Am b).2.1+(FH (b.drop (Am b).2.1.toNat)).2.1).toNat)).2.1).toNat) 64
 rw[List.length_drop] at t2
 have e2:AT b p=(X3 b).2.2∧0≤(X3 b).2.2∧(X3 b).2.2≤(b.length:Int):=by
  unfold AT X3
  rw[e5,e12,Ea,B1,B2]
  show(bif(Am b).2.2==0&&FT (Am b).1 0 then bif !FT (Am b).1 1 then _ else _ else _)=_∧_
  rw[i64_in (by omega)]
  cases((Am b).2.2==0&&FT (Am b).1 0)<;>cases FT (Am b).1 1<;>refine⟨rfl,?_,?_⟩<;>(first|exact a1|exact a2|(simp only[cond_true,cond_false,Bool.not_true,Bool.not_false];omega))
 obtain⟨e2,e2a,e2b⟩:=e2
 obtain⟨d1,d2⟩:=Adi (b.drop (X3 b).2.2.toNat)
 rw[List.length_drop] at d2
 have hcell:(X3 b).2.1=⟨⟨FN b p,FO b p⟩,⟨FP b p,EP b p⟩,Ec b p,FM b p,⟨0,0⟩⟩:=by
  unfold FN FO FP EP Ec FM X3
  rw[e11,e5,e12,Ea,Ea,Ea,B1,B2]
  show _=TCell.mk (TStamp.mk (bif(Am b).2.2==0&&FT (Am b).1 0 then bif !FT (Am b).1 1 then _ else _ else _) _) _ _ _ _
  show(bif(Am b).2.2==0&&FT (Am b).1 0 then bif !FT (Am b).1 1 then _ else _ else _:Bool×TCell×Int).2.1=TCell.mk (TStamp.mk (bif(Am b).2.2==0&&FT (Am b).1 0 then bif !FT (Am b).1 1 then _ else _ else _) (bif(Am b).2.2==0&&FT (Am b).1 0 then bif !FT (Am b).1 1 then _ else _ else _)) (TVec.mk (bif(Am b).2.2==0&&FT (Am b).1 0 then bif !FT (Am b).1 1 then _ else _ else _) (bif(Am b).2.2==0&&FT (Am b).1 0 then bif !FT (Am b).1 1 then _ else _ else _)) (bif(Am b).2.2==0&&FT (Am b).1 0 then bif !FT (Am b).1 1 then FT (Am b).1 1 else FT (Am b).1 1 else _) (bif(Am b).2.2==0&&FT (Am b).1 0 then bif !FT (Am b).1 1 then _ else _ else _) _
  cases((Am b).2.2==0&&FT (Am b).1 0)<;>cases FT (Am b).1 1<;>rfl
 have hok1:(bif(Am b).2.2==0&&FT (Am b).1 0 then bif !FT (Am b).1 1 then(Am b).2.2==0&&(FH (b.drop (Am b).2.1.toNat)).2.2==0&&(Fq (b.drop ((Am b).2.1+(FH (b.drop (Am b).2.1.toNat)).2.1).toNat)).2.2==0&&(S2 (b.drop ((Am b).2.1+(FH (b.drop (Am b).2.1.toNat)).2.1+(Fq (b.drop ((Am b).2.1+(FH (b.drop (Am b).2.1.toNat)).2.1).toNat)).2.1).toNat) 64).2.2==0
   else(Am b).2.2==0&&(FH (b.drop (Am b).2.1.toNat)).2.2==0&&(Fq (b.drop ((Am b).2.1+(FH (b.drop (Am b).2.1.toNat)).2.1).toNat)).2.2==0 else(Am b).2.2==0)=(X3 b).1:=by
  unfold X3
  cases((Am b).2.2==0&&FT (Am b).1 0)<;>cases FT (Am b).1 1<;>rfl
 have e1:Av b p=((X3 b).1&&FT (Am b).1 2):=by
  unfold Av
  rw[e11,e5,e12,Ea,Ea,Ea,B1,B2,B4]
  show((bif(Am b).2.2==0&&FT (Am b).1 0 then bif !FT (Am b).1 1 then _ else _ else _)&&FT (Am b).1 2)=_
  rw[hok1]
 have e6:Ed b p=0:=by
  unfold Ed
  cases((Am b).2.2==0&&decide (IntKind.i64.wrap (↑(BitVec.ofInt (64:Nat) (Am b).1 &&& BitVec.ofInt (64:Nat) (1:Int)).toNat:Int) >(0:Int)))<;>cases decide (IntKind.i64.wrap (↑(BitVec.ofInt (64:Nat) (Am b).1 &&& BitVec.ofInt (64:Nat) (2:Int)).toNat:Int) >(0:Int))<;>rfl
 refine⟨Aa (fun _=>by rw[e12];omega) (Aa (fun _=>by rw[e11];omega) (Aa (fun _ _=>by rw[e5];omega) (Aa (fun _ _=>by rw[e5,Ea,List.length_drop];unfold Aj;omega) (Aa (fun _=>by rw[e2];omega) Ad)))),?_⟩
 have hB1:(stB b).1=bif(X3 b).1&&FT (Am b).1 2 then(X3 b).1&&(Fq (b.drop (X3 b).2.2.toNat)).2.2==0 else(X3 b).1:=by unfold stB;cases((X3 b).1&&FT (Am b).1 2)<;>rfl
 have hB2:(stB b).2.1=TCell.mk (TStamp.mk (bif Av b p then FN b p else FN b p) (bif Av b p then FO b p else FO b p)) (TVec.mk (bif Av b p then FP b p else FP b p) (bif Av b p then EP b p else EP b p)) (bif Av b p then Ec b p else Ec b p) (bif Av b p then FM b p else FM b p) (TVec.mk (bif Av b p then(Fq (b.drop (X3 b).2.2.toNat)).1.1 else Ed b p) (bif Av b p then(Fq (b.drop (X3 b).2.2.toNat)).1.2 else Ed b p)):=by
  rw[e1]
  unfold stB
  cases((X3 b).1&&FT (Am b).1 2) with
  |true=>simp only[cond_true];rw[hcell]
  |false=>simp only[cond_false];rw[hcell,e6]
 have hB3:(stB b).2.2=bif Av b p then(X3 b).2.2+(Fq (b.drop (X3 b).2.2.toNat)).2.1 else(X3 b).2.2:=by
  rw[e1]
  unfold stB
  cases((X3 b).1&&FT (Am b).1 2)<;>rfl
 have e0:Eb b p=(!(stB b).1||!Atb (Am b).1 (stB b).2.1||!EZ p (stB b).2.1):=by
  unfold Eb
  rw[e2,e11,e5,e12,Ea,Ea,Ea,Ea,IB,Je,←hB2]
  rw[B1,B2,B4]
  show((!bif Av b p then(bif(Am b).2.2==0&&FT (Am b).1 0 then bif !FT (Am b).1 1 then _ else _ else _)&&_ else(bif(Am b).2.2==0&&FT (Am b).1 0 then bif !FT (Am b).1 1 then _ else _ else _))||_||_)=_
  rw[hok1,hB1,←e1]
  unfold Atb
  rw[hB2]
  rfl
 unfold GN Wk Wl Af3
 rw[e0]
 cases(!(stB b).1||!Atb (Am b).1 (stB b).2.1||!EZ p (stB b).2.1) with
 |true=>rfl
 |false=>
  simp only[cond_false]
  rw[hB3,e2,Ea,hB2,i64_in (by omega)]
theorem Au2 (a0:List UInt8) (a1:Int) (hp:∀p∈Yd a0 a1,p):CallOk Try.prog 54 [Aq .bytes a0,Aq .i64 a1] 0 [] 1 (NW a0 a1) 0 (Ac9 a0 a1):=by
 obtain⟨h1,h2⟩:=Au3 a0 a1 (hp _ (List.mem_cons_self ..))
 have h:=Ay9 a0 a1 h1
 have hr:QZ a0 a1=NW a0 a1:=by unfold QZ NW;rw[←h2]
 rw[hr] at h
 exact h
def Wm:List A→Nat→Objs→Option BP
 | [y0,y1],nx,o=>match A3 .bytes y0,A3 .i64 y1 with
  |some (a0,p0),some (a1,p1)=>some (1,(NW a0 a1).pk (AH nx),nx+0,AG nx (Ac9 a0 a1)++o,p0++(p1++(Yd a0 a1)))
  |_,_=>none
 |_,_,_=>none
theorem Arb:HO Try.prog 54 Wm:=fun args nx o k x nx' o' ps h=>by
 unfold Wm at h
 split at h<;>first|(cases h;done)|skip
 split at h<;>first|(cases h;done)|skip
 rename_i a0 p0 a1 p1 e0 e1
 cases h
 refine⟨fun hp=>?_,_,rfl⟩
 have q0:=fun p hm=>hp p (List.mem_append.2 (.inl hm))
 have r0:=fun p hm=>hp p (List.mem_append.2 (.inr hm))
 have q1:=fun p hm=>r0 p (List.mem_append.2 (.inl hm))
 have r1:=fun p hm=>r0 p (List.mem_append.2 (.inr hm))
 refine Ao (Ai (Au2 a0 a1 r1) (Nat.le_refl _) (Af (Ag _ _) (Af (Ag _ _) Au)) nx o) fun F N R vs hl=>?_
 obtain⟨v0,w0,rfl,h0,hl⟩:=hl.inv
 obtain⟨v1,w1,rfl,h1,hl⟩:=hl.inv
 exact HL.cons (Ar e0 q0 h0) (HL.cons (Ar e1 q1 h1) (hl))
noncomputable def Bcx:=B5 54 Wm A6i
theorem A6j:Gg Try.prog Bcx:=Ax Arb Auh
noncomputable def Cd:=Bcx
theorem Bcy:Gg Try.prog Cd:=A6j
end Go.Proofs.Yteebobbhhgmeiaa
namespace Go.Proofs.Yteebobbhhgmeiaa
open Go.RowKit
def Xg (a0:TVec):A:=.v (.bool (a0.1==(0:Int)&&a0.2==(0:Int)))
def Xf (_a0:TVec):Objs:=[]
def Aeh (_a0:TVec):List Prop:=[]
set_option maxRecDepth 100000 in
theorem Aw9 (a0:TVec):Hx (Ay Cd L0) 9 108 [Aq .vec a0] 0 []=some (1,Xg a0,0,Xf a0,[]):=by kernel_rfl
set_option maxRecDepth 100000 in
theorem A0m (a0:TVec) (_hp:∀p∈Aeh a0,p):CallOk Try.prog 108 [Aq .vec a0] 0 [] 1 (Xg a0) 0 (Xf a0):=by
 exact AJ (Aw Bcy AM) (Aw9 a0) Ad
def Xh:List A→Nat→Objs→Option BP
 | [y0],nx,o=>match A3 .vec y0 with
  |some (a0,p0)=>some (1,(Xg a0).pk (AH nx),nx+0,AG nx (Xf a0)++o,p0++(Aeh a0))
  |_=>none
 |_,_,_=>none
theorem Ass:HO Try.prog 108 Xh:=fun args nx o k x nx' o' ps h=>by
 unfold Xh at h
 split at h<;>first|(cases h;done)|skip
 split at h<;>first|(cases h;done)|skip
 rename_i a0 p0 e0
 cases h
 refine⟨fun hp=>?_,_,rfl⟩
 have q0:=fun p hm=>hp p (List.mem_append.2 (.inl hm))
 have r0:=fun p hm=>hp p (List.mem_append.2 (.inr hm))
 refine Ao (Ai (A0m a0 r0) (Nat.le_refl _) (Af (Ag _ _) Au) nx o) fun F N R vs hl=>?_
 obtain⟨v0,w0,rfl,h0,hl⟩:=hl.inv
 exact HL.cons (Ar e0 q0 h0) (hl)
noncomputable def Bdw:=B5 108 Xh Cd
theorem A2i:Gg Try.prog Bdw:=Ax Ass Bcy
def Jb (a0:TCell):Bool:=a0.1.1 !=(0:Int)||a0.1.2 !=(0:Int)||a0.2.1 !=(0:Int)||a0.2.2 !=(0:Int)||a0.3||!a0.4.toList==(ByteArray.mk #[]).toList
def Pm (a0:TCell):A:=.v (.bool (Jb a0))
def Pl (_a0:TCell):Objs:=[]
def TX (_a0:TCell):List Prop:=[]
set_option maxRecDepth 100000 in
theorem Alc (a0:TCell):Hx (Ay Bdw L0) 9 106 [Aq .cell a0] 0 []=some (1,Pm a0,0,Pl a0,[]):=by kernel_rfl
set_option maxRecDepth 100000 in
theorem An2 (a0:TCell) (_hp:∀p∈TX a0,p):CallOk Try.prog 106 [Aq .cell a0] 0 [] 1 (Pm a0) 0 (Pl a0):=by
 exact AJ (Aw A2i AM) (Alc a0) Ad
def Pn:List A→Nat→Objs→Option BP
 | [y0],nx,o=>match A3 .cell y0 with
  |some (a0,p0)=>some (1,(Pm a0).pk (AH nx),nx+0,AG nx (Pl a0)++o,p0++(TX a0))
  |_=>none
 |_,_,_=>none
theorem Agx:HO Try.prog 106 Pn:=fun args nx o k x nx' o' ps h=>by
 unfold Pn at h
 split at h<;>first|(cases h;done)|skip
 split at h<;>first|(cases h;done)|skip
 rename_i a0 p0 e0
 cases h
 refine⟨fun hp=>?_,_,rfl⟩
 have q0:=fun p hm=>hp p (List.mem_append.2 (.inl hm))
 have r0:=fun p hm=>hp p (List.mem_append.2 (.inr hm))
 refine Ao (Ai (An2 a0 r0) (Nat.le_refl _) (Af (Ag _ _) Au) nx o) fun F N R vs hl=>?_
 obtain⟨v0,w0,rfl,h0,hl⟩:=hl.inv
 exact HL.cons (Ar e0 q0 h0) (hl)
noncomputable def Bdx:=B5 106 Pn Bdw
theorem A2j:Gg Try.prog Bdx:=Ax Agx A2i
def K2 (a0:Int) (a1:TCell):Bool:=bif a0==(1:Int)&&!(a1.5.1==(0:Int)&&a1.5.2==(0:Int))||a0==(2:Int)&&(a1.3||!Ep a1.5)||a0 !=(1:Int)&&a0 !=(2:Int) then false else bif !Jb a1 then true else WQ a1.1&&decide (a1.1.1 >(0:Int))&&Ep a1.2&&decide ((↑a1.4.size:Int)≤(64:Int))&&(!a1.3||a1.4.toList==(ByteArray.mk #[]).toList)
def W7 (a0:Int) (a1:TCell):A:=.v (.bool (K2 a0 a1))
def W6 (_a0:Int) (_a1:TCell):Objs:=[]
def Aec (_a0:Int) (_a1:TCell):List Prop:=[]
set_option maxRecDepth 100000 in
theorem Aw3 (a0:Int) (a1:TCell):Hx (Ay Bdx L0) 9 42 [Aq .i64 a0,Aq .cell a1] 0 []=some (1,W7 a0 a1,0,W6 a0 a1,[]):=by kernel_rfl
set_option maxRecDepth 100000 in
theorem A0j (a0:Int) (a1:TCell) (_hp:∀p∈Aec a0 a1,p):CallOk Try.prog 42 [Aq .i64 a0,Aq .cell a1] 0 [] 1 (W7 a0 a1) 0 (W6 a0 a1):=by
 exact AJ (Aw A2j AM) (Aw3 a0 a1) Ad
def W8:List A→Nat→Objs→Option BP
 | [y0,y1],nx,o=>match A3 .i64 y0,A3 .cell y1 with
  |some (a0,p0),some (a1,p1)=>some (1,(W7 a0 a1).pk (AH nx),nx+0,AG nx (W6 a0 a1)++o,p0++(p1++(Aec a0 a1)))
  |_,_=>none
 |_,_,_=>none
theorem Aso:HO Try.prog 42 W8:=fun args nx o k x nx' o' ps h=>by
 unfold W8 at h
 split at h<;>first|(cases h;done)|skip
 split at h<;>first|(cases h;done)|skip
 rename_i a0 p0 a1 p1 e0 e1
 cases h
 refine⟨fun hp=>?_,_,rfl⟩
 have q0:=fun p hm=>hp p (List.mem_append.2 (.inl hm))
 have r0:=fun p hm=>hp p (List.mem_append.2 (.inr hm))
 have q1:=fun p hm=>r0 p (List.mem_append.2 (.inl hm))
 have r1:=fun p hm=>r0 p (List.mem_append.2 (.inr hm))
 refine Ao (Ai (A0j a0 a1 r1) (Nat.le_refl _) (Af (Ag _ _) (Af (Ag _ _) Au)) nx o) fun F N R vs hl=>?_
 obtain⟨v0,w0,rfl,h0,hl⟩:=hl.inv
 obtain⟨v1,w1,rfl,h1,hl⟩:=hl.inv
 exact HL.cons (Ar e0 q0 h0) (HL.cons (Ar e1 q1 h1) (hl))
noncomputable def Be4:=B5 42 W8 Bdx
theorem Baf:Gg Try.prog Be4:=Ax Aso A2j
theorem Awv (s:TStamp):WQ s=Mf s:=rfl
theorem TP (v:TVec):Ep v=GY v:=by
 unfold Ep GY
 rw[Bool.and_assoc]
theorem TW (c:TCell):Jb c=DL c:=by
 unfold Jb DL bne
 rw[Aa4]
 generalize (c.1.1==(0:Int))=a
 generalize (c.1.2==(0:Int))=b
 generalize (c.2.1==(0:Int))=d
 generalize (c.2.2==(0:Int))=e
 show(!a||!b||!d||!e||c.gone||!(c.4.size==0))=!(a&&b&&(d&&e)&&(!c.gone&&c.value.size==0))
 cases a<;>cases b<;>cases d<;>cases e<;>cases c.gone<;>simp
theorem TS (p:Int) (c:TCell):K2 p c=EZ p c:=by
 unfold K2 EZ bne
 rw[TW,TP,TP,Awv,Aa4]
 have h1:(p==(1:Int)&&!(c.5.1==(0:Int)&&c.5.2==(0:Int))||p==(2:Int)&&(c.3||!GY c.5)||!(p==(1:Int))&&!(p==(2:Int)))=(p==1&&!JM c.dead||(p==2&&(c.gone||!GY c.dead)||!(p==1||p==2))):=by
  rw[Bool.or_assoc,Bool.not_or]
  rfl
 have h2:(!c.3||c.4.size==0)=!(c.gone&&!(c.value.size==0)):=by rw[Bool.not_and,Bool.not_not]
 rw[h1,h2]
noncomputable def Cf:=Be4
theorem A6k:Gg Try.prog Cf:=Baf
end Go.Proofs.Yteebobbhhgmeiaa
namespace Go.Proofs.Yteebobbhhgmeiaa
open Go.RowKit
theorem Ap5 {X:Type} (mk:Nat→X) (n:Nat) (stop:Nat→Bool) (next:X→X) (goes:X→Cnd) (ps:X→List Prop)
  (hg:∀i,i≤n→(∀j,j <i→stop j=false)→By (goes (mk i))=(decide (i <n)&&!stop i)) (hn:∀i,i <n→(∀j,j <i+1→stop j=false)→next (mk i)=mk (i+1)) (hp:∀i,i≤n→(∀j,j <i→stop j=false)→∀p∈ps (mk i),p):
  ∀(f i:Nat),i≤n→n≤i+f→(∀j,j <i→stop j=false)→
  AE next goes ps f (mk i)∧∃k,k≤n∧BA next goes f (mk i)=mk k∧(∀j,j <k→stop j=false)∧(k <n→stop k=true)
 |0,i,hi,hf,hs=>by
  have hc:=hg i hi hs
  have:i=n:=by omega
  rw[decide_eq_false (by omega),Bool.false_and] at hc
  exact⟨⟨hp i hi hs,hc⟩,i,hi,rfl,hs,fun h=>by omega⟩
 | f +1,i,hi,hf,hs=>by
  have hc:=hg i hi hs
  cases hb:By (goes (mk i)) with
  | false=>
   have e:BA next goes (f+1) (mk i)=mk i:=by
    show(bif By (goes (mk i)) then _ else mk i)=mk i
    rw[hb];rfl
   rw[e]
   refine⟨⟨hp i hi hs,fun h=>by rw[hb] at h;cases h⟩,i,hi,rfl,hs,fun h=>?_⟩
   rw[hb,decide_eq_true h,Bool.true_and] at hc
   cases hst:stop i with
   |true=>rfl
   |false=>rw[hst] at hc;cases hc
  | true=>
   rw[hb] at hc
   have h1:i <n:=by
    cases hd:decide (i <n) with
    |true=>exact of_decide_eq_true hd
    |false=>rw[hd] at hc;cases hc
   have h2:stop i=false:=by
    cases hst:stop i with
    |false=>rfl
    |true=>rw[hst,Bool.and_comm] at hc;cases hc
   have hs':∀j,j <i+1→stop j=false:=fun j hj=>by
    by_cases h:j <i
    ·exact hs j h
    ·obtain rfl:j=i:=by omega
     exact h2
   have e:BA next goes (f+1) (mk i)=BA next goes f (mk (i+1)):=by
    show(bif By (goes (mk i)) then BA next goes f (next (mk i)) else mk i)=_
    rw[hb,hn i h1 hs'];rfl
   obtain⟨g1,g2⟩:=Ap5 mk n stop next goes ps hg hn hp f (i+1) h1 (by omega) hs'
   rw[e]
   exact⟨⟨hp i hi hs,fun _=>by rw[hn i h1 hs'];exact g1⟩,g2⟩
theorem A5i {X:Type} (mk:Nat→X) (n:Nat) (stop:Nat→Bool) (next:X→X) (goes:X→Cnd) (ps:X→List Prop) (f:Nat) (x:X) (hx:x=mk 0) (hf:n≤f)
  (hg:∀i,i≤n→(∀j,j <i→stop j=false)→By (goes (mk i))=(decide (i <n)&&!stop i)) (hn:∀i,i <n→(∀j,j <i+1→stop j=false)→next (mk i)=mk (i+1)) (hp:∀i,i≤n→(∀j,j <i→stop j=false)→∀p∈ps (mk i),p):
  AE next goes ps f x∧∃k,k≤n∧BA next goes f x=mk k∧(∀j,j <k→stop j=false)∧(k <n→stop k=true):=by
 subst hx
 exact Ap5 mk n stop next goes ps hg hn hp f 0 (Nat.zero_le _) (by omega) fun j h=>absurd h (Nat.not_lt_zero _)
theorem FS {i:Nat} (h:i <9223372036854775807):IntKind.i64.wrap ((i:Int)+1)=((i+1:Nat):Int):=by rw[i64_in (by omega)];omega
theorem PE {i n:Nat}:decide ((i:Int) <(n:Int))=decide (i <n):=by
 by_cases h:i <n
 ·rw[decide_eq_true h,decide_eq_true (by omega)]
 ·rw[decide_eq_false h,decide_eq_false (by omega)]
theorem nn (b:Bool):(!!b)=b:=Bool.not_not b
theorem Aun {α:Type} (l:List α) (d:α) (p:α→Bool) (k:Nat) (hk:k≤l.length) (h1:∀j,j <k→p (l.getD j d)=true) (h2:k <l.length→p (l.getD k d)=false):l.all p=decide (¬k <l.length):=by
 by_cases h:k <l.length
 ·rw[decide_eq_false (by omega)]
  have:=h2 h
  rw[List.getD_eq_getElem?_getD,List.getElem?_eq_getElem h,Option.getD_some] at this
  cases ha:l.all p with
  |false=>rfl
  |true=>rw[List.all_eq_true.1 ha _ (List.getElem_mem h)] at this;cases this
 ·rw[decide_eq_true (by omega)]
  refine List.all_eq_true.2 fun x hx=>?_
  obtain⟨i,hi,rfl⟩:=List.mem_iff_getElem.1 hx
  have:=h1 i (by omega)
  rw[List.getD_eq_getElem?_getD,List.getElem?_eq_getElem hi,Option.getD_some] at this
  exact this
def AC (n:Nat):Prop:=n≤9223372036854775807
def Sv (n:Nat) (p:Nat→Bool):Bool:=(List.range n).all p
theorem Lt {n:Nat} {p:Nat→Bool}:Sv n p=true↔∀i,i <n→p i=true:=by
 unfold Sv
 rw[List.all_eq_true]
 exact⟨fun h i hi=>h i (List.mem_range.2 hi),fun h i hi=>h i (List.mem_range.1 hi)⟩
theorem Jl {n:Nat} {p q:Nat→Bool} (h:∀i,i <n→p i=q i):Sv n p=Sv n q:=by
 rw[Bool.eq_iff_iff,Lt,Lt]
 exact⟨fun g i hi=>(h i hi)▸g i hi,fun g i hi=>(h i hi).symm▸g i hi⟩
theorem JJ {X:Type} (mk:Nat→X) (n:Nat) (bad:Nat→Bool) (next:X→X) (goes:X→Cnd) (ps:X→List Prop) (f:Nat) (x:X) (hx:x=mk 0) (hf:n≤f)
  (hg:∀i,i≤n→(∀j,j <i→bad j=false)→By (goes (mk i))=(decide (i <n)&&!bad i)) (hn:∀i,i <n→(∀j,j <i+1→bad j=false)→next (mk i)=mk (i+1)) (hp:∀i,i≤n→(∀j,j <i→bad j=false)→∀p∈ps (mk i),p):
  AE next goes ps f x∧∃k,k≤n∧BA next goes f x=mk k∧(∀j,j <k→bad j=false)∧(k <n→bad k=true)∧(decide (k <n)&&bad k)=!Sv n (fun i=>!bad i):=by
 obtain⟨h1,k,hk,h2,h3,h4⟩:=A5i mk n bad next goes ps f x hx hf hg hn hp
 refine⟨h1,k,hk,h2,h3,h4,?_⟩
 by_cases h:k <n
 ·rw[decide_eq_true h,h4 h]
  cases ha:Sv n (fun i=>!bad i) with
  |false=>rfl
  |true=>have:=Lt.1 ha k h;rw[h4 h] at this;cases this
 ·rw[decide_eq_false h,Lt.2 (fun i hi=>by rw[h3 i (by omega)];rfl)]
  rfl
theorem A64 {α:Type} (l:List α) (d:α) (p:α→Bool):l.all p=Sv l.length (fun i=>p (l.getD i d)):=by
 rw[Bool.eq_iff_iff,List.all_eq_true,Lt]
 constructor
 ·intro h i hi
  rw[List.getD_eq_getElem?_getD,List.getElem?_eq_getElem hi,Option.getD_some]
  exact h _ (List.getElem_mem hi)
 ·intro h x hx
  obtain⟨i,hi,rfl⟩:=List.mem_iff_getElem.1 hx
  have:=h i hi
  rw[List.getD_eq_getElem?_getD,List.getElem?_eq_getElem hi,Option.getD_some] at this
  exact this
theorem Bgd {α β:Type} (l:List α) (r:List β) (d:α) (e:β) (p:α→β→Bool) (h:r.length=l.length):(l.zip r).all (fun x=>p x.1 x.2)=Sv l.length (fun i=>p (l.getD i d) (r.getD i e)):=by
 rw[A64 (l.zip r) (d,e),List.length_zip,h,Nat.min_self]
 refine Jl fun i hi=>?_
 rw[List.getD_eq_getElem?_getD,List.getD_eq_getElem?_getD,List.getD_eq_getElem?_getD,List.getElem?_eq_getElem (by rw[List.length_zip];omega),List.getElem?_eq_getElem hi,List.getElem?_eq_getElem (by omega),List.getElem_zip]
 rfl
theorem Bgh (n:Nat):(n==0)=!decide (1≤n):=by cases n<;>simp
theorem Ac4 (n:Nat):((n:Int)==0)=(n==0):=by cases n<;>simp;omega
theorem dgt (n k:Nat):decide ((n:Int) >(k:Int))=decide (k <n):=decide_eq_decide.2 (by omega)
instance:LawfulBEq ByteArray where
 rfl:=fun {a}=>by cases a with|mk a=>exact beq_self_eq_true a
 eq_of_beq:=fun {a b} h=>by
  cases a with|mk a=>cases b with|mk b=>exact congrArg ByteArray.mk (eq_of_beq (α:=Array UInt8) h)
theorem Ai4:∀(m:List (ByteArray×Int)) (b:ByteArray) (v:Int) (x:ByteArray),I7 (Vo m b v) x=if x=b then v else I7 m x
 | [],b,v,x=>by
  by_cases h:x=b
  ·subst h;simp[Vo,I7]
  ·simp[Vo,I7,h,show(x==b)=false from beq_eq_false_iff_ne.2 h]
 | (a,n)::r,b,v,x=>by
  unfold Vo
  by_cases h:b=a
  ·subst h
   rw[show(b==b)=true from beq_self_eq_true b,cond_true]
   by_cases hx:x=b
   ·subst hx;simp[I7]
   ·simp[I7,hx,show(x==b)=false from beq_eq_false_iff_ne.2 hx]
  ·rw[show(b==a)=false from beq_eq_false_iff_ne.2 h,cond_false]
   by_cases hx:x=a
   ·subst hx
    rw[if_neg (fun e=>h e.symm)]
    simp[I7]
   ·simp only[I7,show(x==a)=false from beq_eq_false_iff_ne.2 hx,cond_false]
    exact Ai4 r b v x
def To (b:UInt8):Bool:=decide (97≤b.toNat)&&decide (b.toNat≤122)
def Hm (s:ByteArray):Bool:=s.data.toList.all To&&(decide (1≤s.size)&&decide (s.size≤12))
def M9 (p:Int):Bool:=p==1||p==2
def OR:List ByteArray→List Ab→Int
 |_,[]=>0
 |seen,g::r=>bif !(Hm g.name&&M9 g.policy) then 2 else bif seen.any (fun s=>s==g.name) then 70 else OR (seen++[g.name]) r
def CI (l:List Ab):Int:=bif l.length==0 then 2 else bif decide (4 <l.length) then 3 else OR [] l
theorem JK (s:ByteArray):s.data.toList.length=s.size:=by show s.data.toList.length=s.data.size;exact Array.length_toList
theorem A7w (s:ByteArray) (i:Nat) (h:i <s.size):s.data.toList.getD i 0=s[i]'h:=by
 rw[List.getD_eq_getElem?_getD,List.getElem?_eq_getElem (by rw[JK];exact h)]
 rfl
theorem Ax5 (s:ByteArray) (i:Nat) (h:i <s.size):(decide (((Utf8.decode s i).1:Int) <97)||decide (((Utf8.decode s i).1:Int) >122))=!To (s.data.toList.getD i 0)∧(To (s.data.toList.getD i 0)=true→(Utf8.decode s i).2=1):=by
 rw[A7w s i h]
 by_cases hb:(s[i]'h).toNat <128
 ·rw[decode_ascii s i h hb]
  refine⟨?_,fun _=>rfl⟩
  unfold To
  rw[Bool.not_and,←decide_not,←decide_not]
  congr 1<;>exact decide_eq_decide.2 (by omega)
 ·have h2:=(decode_high s i h (by omega)).1
  have hl:To (s[i]'h)=false:=by unfold To;rw[decide_eq_false (p:=(s[i]'h).toNat≤122) (by omega),Bool.and_false]
  rw[hl]
  refine⟨?_,fun h=>by cases h⟩
  rw[decide_eq_true (p:=((Utf8.decode s i).1:Int) >122) (by omega),Bool.or_true]
  rfl
theorem J4 {l:List Ab} (h:CI l=0):1≤l.length∧l.length≤4:=by
 unfold CI at h
 cases h1:l.length==0 with
 |true=>rw[h1] at h;cases h
 | false=>
  rw[h1] at h
  cases h2:decide (4 <l.length) with
  |true=>rw[h2] at h;cases h
  |false=>
   have:=of_decide_eq_false h2
   have h3:l.length≠0:=by simpa using h1
   omega
theorem Apf (l:List Ab) (k:Nat) (seen:List ByteArray):(∀j,j <k→j <l.length→(Hm (l.getD j (Ae TC.group)).name&&M9 (l.getD j (Ae TC.group)).policy)=true∧(seen++(l.take j).map (·.name)).any (fun s=>s==(l.getD j (Ae TC.group)).name)=false)→
  OR seen l=OR (seen++(l.take k).map (·.name)) (l.drop k):=by
 induction l generalizing k seen with
 |nil=>intro _;simp[OR]
 | cons g r ih=>
  intro h
  cases k with
  |zero=>simp
  | succ k=>
   obtain⟨h1,h2⟩:=h 0 (Nat.succ_pos _) (Nat.succ_pos _)
   have h1':(Hm g.name&&M9 g.policy)=true:=h1
   have h2':seen.any (fun s=>s==g.name)=false:=by simpa using h2
   rw[OR,h1',h2',Bool.not_true,cond_false,cond_false]
   rw[ih k (seen++[g.name]) (fun j hj hl=>by
    have:=h (j+1) (by omega) (by simpa using hl)
    simpa[List.append_assoc] using this)]
   simp[List.append_assoc]
def Ql (l:List Ab):Nat→List (ByteArray×Int)
 |0=>[]
 |i+1=>Vo (Ql l i) (l.getD i (Ae TC.group)).1 (IntKind.i64.wrap (I7 (Ql l i) (l.getD i (Ae TC.group)).1+1))
def Sq (l:List Ab) (i:Nat):Bool:=!(Hm (l.getD i (Ae TC.group)).1&&M9 (l.getD i (Ae TC.group)).2)||((l.take i).map (·.name)).any (fun s=>s==(l.getD i (Ae TC.group)).1)
theorem A1m (l:List Ab) (i:Nat) (h:i <l.length):(l.take (i+1)).map (·.name)=(l.take i).map (·.name)++[(l.getD i (Ae TC.group)).1]:=by
 rw[List.take_add_one,List.getD_eq_getElem?_getD,List.getElem?_eq_getElem h,List.map_append]
 rfl
theorem Ai3 (l:List Ab):∀(i:Nat),i≤l.length→(∀j,j <i→Sq l j=false)→∀x,I7 (Ql l i) x=bif((l.take i).map (·.name)).any (fun s=>s==x) then 1 else 0
 |0,_,_,x=>by simp[Ql,I7]
 | i+1,hi,hs,x=>by
  have ih:=Ai3 l i (by omega) (fun j hj=>hs j (by omega))
  have h:=hs i (Nat.lt_succ_self i)
  unfold Sq at h
  have h2:=(Bool.or_eq_false_iff.1 h).2
  unfold Ql
  rw[Ai4,ih,h2,A1m l i (by omega),List.any_append,ih]
  by_cases hx:x=(l.getD i (Ae TC.group)).1
  ·subst hx
   rw[if_pos rfl]
   simp
   decide
  ·rw[if_neg hx]
   have:([(l.getD i (Ae TC.group)).1].any fun s=>s==x)=false:=by
    simp only[List.any_cons,List.any_nil,Bool.or_false]
    exact beq_eq_false_iff_ne.2 fun e=>hx e.symm
   rw[this,Bool.or_false]
end Go.Proofs.Yteebobbhhgmeiaa
