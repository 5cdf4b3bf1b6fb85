/- == on the program's structs and arrays -/
import Derived.Test.YteebobbhhgmeiaaProg
import Derived.Test.YteebobbhhgmeiaaParC
namespace Go.Proofs.Yteebobbhhgmeiaa
open Go.RowKit

theorem eqi (d : Nat) (a b : Int) (w : World) : (Op.equalIn (d + 1) 3 (.int .i64 a) (.int .i64 b)).run Try.prog w = .ok (a == b) w := run_equalIn_int w d 3 .i64 .i64 a b Try.underlying3
theorem eqb (d : Nat) (a b : Bool) (w : World) : (Op.equalIn (d + 1) 4 (.bool a) (.bool b)).run Try.prog w = .ok (a == b) w := run_equalIn_bool' w d 4 a b Try.underlying4
theorem eqs (d : Nat) (a b : ByteArray) (w : World) : (Op.equalIn (d + 1) 9 (.string a) (.string b)).run Try.prog w = .ok (a.toList == b.toList) w := run_equalIn_string w d 9 a b Try.underlying9
theorem size3 (w : World) : (Go.sizeOf 3).run Try.prog w = Result.ok 1 w := by kernel_rfl

@[go_sem] theorem eqVec (d : Nat) (a b x y : Int) (w : World) : (Op.equalIn (d + 2) 31 (.agg #[.int .i64 a, .int .i64 b]) (.agg #[.int .i64 x, .int .i64 y])).run Try.prog w = .ok (a == x && b == y) w := by
  have p0 : ∀ a b w, (part 3 #[.int .i64 a, .int .i64 b] 0).run Try.prog w = Result.ok (.int .i64 a) w := fun a b w => by kernel_rfl
  have p1 : ∀ a b w, (part 3 #[.int .i64 a, .int .i64 b] 1).run Try.prog w = Result.ok (.int .i64 b) w := fun a b w => by kernel_rfl
  unfold Op.equalIn
  cases h : a == x
  · simp [Sem.run_bind, run_underlying Try.underlying31, List.range', p0, eqi, h]
  · cases h' : b == y <;> simp [Sem.run_bind, run_underlying Try.underlying31, List.range', p0, p1, eqi, h, h']
@[go_sem] theorem eqInt2 (d : Nat) (a b x y : Int) (w : World) : (Op.equalIn (d + 2) 30 (.agg #[.int .i64 a, .int .i64 b]) (.agg #[.int .i64 x, .int .i64 y])).run Try.prog w = .ok (a == x && b == y) w := by
  have p0 : ∀ a b w, (part 3 #[.int .i64 a, .int .i64 b] 0).run Try.prog w = Result.ok (.int .i64 a) w := fun a b w => by kernel_rfl
  have p1 : ∀ a b w, (part 3 #[.int .i64 a, .int .i64 b] 1).run Try.prog w = Result.ok (.int .i64 b) w := fun a b w => by kernel_rfl
  unfold Op.equalIn
  cases h : a == x
  · simp [Sem.run_bind, run_underlying Try.underlying30, List.range', p0, eqi, h]
  · cases h' : b == y <;> simp [Sem.run_bind, run_underlying Try.underlying30, List.range', p0, p1, eqi, h, h']
@[go_sem] theorem eqStamp (d : Nat) (a b x y : Int) (w : World) : (Op.equalIn (d + 2) 51 (.agg #[.int .i64 a, .int .i64 b]) (.agg #[.int .i64 x, .int .i64 y])).run Try.prog w = .ok (a == x && b == y) w := by
  rw [run_equalIn_struct w (d + 1) 51 _ _ (by kernel_rfl) (by kernel_rfl)]
  have p0 : ∀ a b w, (part 3 #[.int .i64 a, .int .i64 b] 0).run Try.prog w = Result.ok (.int .i64 a) w := fun a b w => by kernel_rfl
  have p1 : ∀ a b w, (part 3 #[.int .i64 a, .int .i64 b] 1).run Try.prog w = Result.ok (.int .i64 b) w := fun a b w => by kernel_rfl
  cases h : a == x
  · simp [Program.fieldsOf, Try.underlying51, Op.eqFields, Sem.run_bind, p0, eqi, h]
  · cases h' : b == y <;> simp [Program.fieldsOf, Try.underlying51, Op.eqFields, Sem.run_bind, p0, p1, eqi, h, h']
@[go_sem] theorem eqFront (d : Nat) (a b c e f u v x y z : Int) (w : World) : (Op.equalIn (d + 2) 25 (.agg #[.int .i64 a, .int .i64 b, .int .i64 c, .int .i64 e, .int .i64 f]) (.agg #[.int .i64 u, .int .i64 v, .int .i64 x, .int .i64 y, .int .i64 z])).run Try.prog w = .ok (a == u && (b == v && (c == x && (e == y && (f == z))))) w := by
  rw [run_equalIn_struct w (d + 1) 25 _ _ (by kernel_rfl) (by kernel_rfl)]
  have p0 : ∀ a b c e f w, (part 3 #[.int .i64 a, .int .i64 b, .int .i64 c, .int .i64 e, .int .i64 f] 0).run Try.prog w = Result.ok (.int .i64 a) w := fun a b c e f w => by kernel_rfl
  have p1 : ∀ a b c e f w, (part 3 #[.int .i64 a, .int .i64 b, .int .i64 c, .int .i64 e, .int .i64 f] 1).run Try.prog w = Result.ok (.int .i64 b) w := fun a b c e f w => by kernel_rfl
  have p2 : ∀ a b c e f w, (part 3 #[.int .i64 a, .int .i64 b, .int .i64 c, .int .i64 e, .int .i64 f] 2).run Try.prog w = Result.ok (.int .i64 c) w := fun a b c e f w => by kernel_rfl
  have p3 : ∀ a b c e f w, (part 3 #[.int .i64 a, .int .i64 b, .int .i64 c, .int .i64 e, .int .i64 f] 3).run Try.prog w = Result.ok (.int .i64 e) w := fun a b c e f w => by kernel_rfl
  have p4 : ∀ a b c e f w, (part 3 #[.int .i64 a, .int .i64 b, .int .i64 c, .int .i64 e, .int .i64 f] 4).run Try.prog w = Result.ok (.int .i64 f) w := fun a b c e f w => by kernel_rfl
  cases h0 : a == u
  · simp [Program.fieldsOf, Try.underlying25, Op.eqFields, Sem.run_bind, p0, eqi, h0]
  · cases h1 : b == v
    · simp [Program.fieldsOf, Try.underlying25, Op.eqFields, Sem.run_bind, p0, p1, eqi, h0, h1]
    · cases h2 : c == x
      · simp [Program.fieldsOf, Try.underlying25, Op.eqFields, Sem.run_bind, p0, p1, p2, eqi, h0, h1, h2]
      · cases h3 : e == y
        · simp [Program.fieldsOf, Try.underlying25, Op.eqFields, Sem.run_bind, p0, p1, p2, p3, eqi, h0, h1, h2, h3]
        · cases h4 : f == z
          · simp [Program.fieldsOf, Try.underlying25, Op.eqFields, Sem.run_bind, p0, p1, p2, p3, p4, eqi, h0, h1, h2, h3, h4]
          · simp [Program.fieldsOf, Try.underlying25, Op.eqFields, Sem.run_bind, p0, p1, p2, p3, p4, eqi, h0, h1, h2, h3, h4]

@[go_sem] theorem eqRFront (d : Nat) (a b c e f u v x y z : Int) (w : World) : (Op.equalIn (d + 2) 37 (.agg #[.int .i64 a, .int .i64 b, .int .i64 c, .int .i64 e, .int .i64 f]) (.agg #[.int .i64 u, .int .i64 v, .int .i64 x, .int .i64 y, .int .i64 z])).run Try.prog w = .ok (a == u && (b == v && (c == x && (e == y && (f == z))))) w := by
  rw [run_equalIn_struct w (d + 1) 37 _ _ (by kernel_rfl) (by kernel_rfl)]
  have p0 : ∀ a b c e f w, (part 3 #[.int .i64 a, .int .i64 b, .int .i64 c, .int .i64 e, .int .i64 f] 0).run Try.prog w = Result.ok (.int .i64 a) w := fun a b c e f w => by kernel_rfl
  have p1 : ∀ a b c e f w, (part 3 #[.int .i64 a, .int .i64 b, .int .i64 c, .int .i64 e, .int .i64 f] 1).run Try.prog w = Result.ok (.int .i64 b) w := fun a b c e f w => by kernel_rfl
  have p2 : ∀ a b c e f w, (part 3 #[.int .i64 a, .int .i64 b, .int .i64 c, .int .i64 e, .int .i64 f] 2).run Try.prog w = Result.ok (.int .i64 c) w := fun a b c e f w => by kernel_rfl
  have p3 : ∀ a b c e f w, (part 3 #[.int .i64 a, .int .i64 b, .int .i64 c, .int .i64 e, .int .i64 f] 3).run Try.prog w = Result.ok (.int .i64 e) w := fun a b c e f w => by kernel_rfl
  have p4 : ∀ a b c e f w, (part 3 #[.int .i64 a, .int .i64 b, .int .i64 c, .int .i64 e, .int .i64 f] 4).run Try.prog w = Result.ok (.int .i64 f) w := fun a b c e f w => by kernel_rfl
  cases h0 : a == u
  · simp [Program.fieldsOf, Try.underlying37, Op.eqFields, Sem.run_bind, p0, eqi, h0]
  · cases h1 : b == v
    · simp [Program.fieldsOf, Try.underlying37, Op.eqFields, Sem.run_bind, p0, p1, eqi, h0, h1]
    · cases h2 : c == x
      · simp [Program.fieldsOf, Try.underlying37, Op.eqFields, Sem.run_bind, p0, p1, p2, eqi, h0, h1, h2]
      · cases h3 : e == y
        · simp [Program.fieldsOf, Try.underlying37, Op.eqFields, Sem.run_bind, p0, p1, p2, p3, eqi, h0, h1, h2, h3]
        · cases h4 : f == z
          · simp [Program.fieldsOf, Try.underlying37, Op.eqFields, Sem.run_bind, p0, p1, p2, p3, p4, eqi, h0, h1, h2, h3, h4]
          · simp [Program.fieldsOf, Try.underlying37, Op.eqFields, Sem.run_bind, p0, p1, p2, p3, p4, eqi, h0, h1, h2, h3, h4]

@[go_sem] theorem eqCell (d : Nat) (a0 a1 a2 a3 a6 a7 b0 b1 b2 b3 b6 b7 : Int) (a4 b4 : Bool) (a5 b5 : ByteArray) (w : World) : (Op.equalIn (d + 3) 55 (.agg #[.int .i64 a0, .int .i64 a1, .int .i64 a2, .int .i64 a3, .bool a4, .string a5, .int .i64 a6, .int .i64 a7]) (.agg #[.int .i64 b0, .int .i64 b1, .int .i64 b2, .int .i64 b3, .bool b4, .string b5, .int .i64 b6, .int .i64 b7])).run Try.prog w = .ok ((a0 == b0 && a1 == b1) && ((a2 == b2 && a3 == b3) && ((a4 == b4) && ((a5.toList == b5.toList) && (a6 == b6 && a7 == b7))))) w := by
  rw [run_equalIn_struct w (d + 2) 55 _ _ (by kernel_rfl) (by kernel_rfl)]
  have p0 : ∀ (a0 a1 a2 a3 a6 a7 : Int) (a4 : Bool) (a5 : ByteArray) (w : World), (part 51 #[.int .i64 a0, .int .i64 a1, .int .i64 a2, .int .i64 a3, .bool a4, .string a5, .int .i64 a6, .int .i64 a7] 0).run Try.prog w = Result.ok (.agg #[.int .i64 a0, .int .i64 a1]) w := fun _ _ _ _ _ _ _ _ _ => by kernel_rfl
  have p1 : ∀ (a0 a1 a2 a3 a6 a7 : Int) (a4 : Bool) (a5 : ByteArray) (w : World), (part 31 #[.int .i64 a0, .int .i64 a1, .int .i64 a2, .int .i64 a3, .bool a4, .string a5, .int .i64 a6, .int .i64 a7] 2).run Try.prog w = Result.ok (.agg #[.int .i64 a2, .int .i64 a3]) w := fun _ _ _ _ _ _ _ _ _ => by kernel_rfl
  have p2 : ∀ (a0 a1 a2 a3 a6 a7 : Int) (a4 : Bool) (a5 : ByteArray) (w : World), (part 4 #[.int .i64 a0, .int .i64 a1, .int .i64 a2, .int .i64 a3, .bool a4, .string a5, .int .i64 a6, .int .i64 a7] 4).run Try.prog w = Result.ok (.bool a4) w := fun _ _ _ _ _ _ _ _ _ => by kernel_rfl
  have p3 : ∀ (a0 a1 a2 a3 a6 a7 : Int) (a4 : Bool) (a5 : ByteArray) (w : World), (part 9 #[.int .i64 a0, .int .i64 a1, .int .i64 a2, .int .i64 a3, .bool a4, .string a5, .int .i64 a6, .int .i64 a7] 5).run Try.prog w = Result.ok (.string a5) w := fun _ _ _ _ _ _ _ _ _ => by kernel_rfl
  have p4 : ∀ (a0 a1 a2 a3 a6 a7 : Int) (a4 : Bool) (a5 : ByteArray) (w : World), (part 31 #[.int .i64 a0, .int .i64 a1, .int .i64 a2, .int .i64 a3, .bool a4, .string a5, .int .i64 a6, .int .i64 a7] 6).run Try.prog w = Result.ok (.agg #[.int .i64 a6, .int .i64 a7]) w := fun _ _ _ _ _ _ _ _ _ => by kernel_rfl
  cases h0 : (a0 == b0 && a1 == b1)
  · simp only [Program.fieldsOf, Try.underlying55, Op.eqFields, Sem.run_bind, Sem.run_ite, Sem.run_pure, Result.andThen_ok, p0, eqStamp, h0]; simp
  · cases h1 : (a2 == b2 && a3 == b3)
    · simp only [Program.fieldsOf, Try.underlying55, Op.eqFields, Sem.run_bind, Sem.run_ite, Sem.run_pure, Result.andThen_ok, p0, p1, eqStamp, eqVec, h0, h1]; simp
    · cases h2 : (a4 == b4)
      · simp only [Program.fieldsOf, Try.underlying55, Op.eqFields, Sem.run_bind, Sem.run_ite, Sem.run_pure, Result.andThen_ok, p0, p1, p2, eqStamp, eqVec, eqb, h0, h1, h2]; simp
      · cases h3 : (a5.toList == b5.toList)
        · simp only [Program.fieldsOf, Try.underlying55, Op.eqFields, Sem.run_bind, Sem.run_ite, Sem.run_pure, Result.andThen_ok, p0, p1, p2, p3, eqStamp, eqVec, eqb, eqs, h0, h1, h2, h3]; simp
        · cases h4 : (a6 == b6 && a7 == b7)
          · simp only [Program.fieldsOf, Try.underlying55, Op.eqFields, Sem.run_bind, Sem.run_ite, Sem.run_pure, Result.andThen_ok, p0, p1, p2, p3, p4, eqStamp, eqVec, eqb, eqs, h0, h1, h2, h3, h4]; simp
          · simp only [Program.fieldsOf, Try.underlying55, Op.eqFields, Sem.run_bind, Sem.run_ite, Sem.run_pure, Result.andThen_ok, p0, p1, p2, p3, p4, eqStamp, eqVec, eqb, eqs, h0, h1, h2, h3, h4]; simp

theorem guardVec : Try.prog.eqGuardType Try.prog.depth 31 = false := by kernel_rfl
@[go_sem] theorem grdVec (op : BinOp) (x y : Operand) (xs ys : Array Value) (w : World) : (eqGuard op 31 x y (.agg xs) (.agg ys)).run Try.prog w = .ok () w := run_eqGuard_agg w op 31 x y xs ys guardVec
theorem guardInt2 : Try.prog.eqGuardType Try.prog.depth 30 = false := by kernel_rfl
@[go_sem] theorem grdInt2 (op : BinOp) (x y : Operand) (xs ys : Array Value) (w : World) : (eqGuard op 30 x y (.agg xs) (.agg ys)).run Try.prog w = .ok () w := run_eqGuard_agg w op 30 x y xs ys guardInt2
theorem guardStamp : Try.prog.eqGuardType Try.prog.depth 51 = false := by kernel_rfl
@[go_sem] theorem grdStamp (op : BinOp) (x y : Operand) (xs ys : Array Value) (w : World) : (eqGuard op 51 x y (.agg xs) (.agg ys)).run Try.prog w = .ok () w := run_eqGuard_agg w op 51 x y xs ys guardStamp
theorem guardFront : Try.prog.eqGuardType Try.prog.depth 25 = false := by kernel_rfl
@[go_sem] theorem grdFront (op : BinOp) (x y : Operand) (xs ys : Array Value) (w : World) : (eqGuard op 25 x y (.agg xs) (.agg ys)).run Try.prog w = .ok () w := run_eqGuard_agg w op 25 x y xs ys guardFront
theorem guardRFront : Try.prog.eqGuardType Try.prog.depth 37 = false := by kernel_rfl
@[go_sem] theorem grdRFront (op : BinOp) (x y : Operand) (xs ys : Array Value) (w : World) : (eqGuard op 37 x y (.agg xs) (.agg ys)).run Try.prog w = .ok () w := run_eqGuard_agg w op 37 x y xs ys guardRFront
theorem guardCell : Try.prog.eqGuardType Try.prog.depth 55 = false := by kernel_rfl
@[go_sem] theorem grdCell (op : BinOp) (x y : Operand) (xs ys : Array Value) (w : World) : (eqGuard op 55 x y (.agg xs) (.agg ys)).run Try.prog w = .ok () w := run_eqGuard_agg w op 55 x y xs ys guardCell
end Go.Proofs.Yteebobbhhgmeiaa
