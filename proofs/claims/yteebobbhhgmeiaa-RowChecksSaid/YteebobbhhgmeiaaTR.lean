/- Tables: the program's own '==' on structs; the surroundings of a run. -/
import Derived.Test.YteebobbhhgmeiaaTS
import Derived.Test.YteebobbhhgmeiaaEq
namespace Go.Proofs.Yteebobbhhgmeiaa
open Go.RowKit

instance (n : Nat) : Decidable (Stuck n) := .isFalse id
theorem wideP : Try.prog.follows .mixedOrders = true := by kernel_rfl

theorem guardField : Try.prog.eqGuardType Try.prog.depth 142 = false := by kernel_rfl
theorem eqField (d : Nat) (a x : Int) (b y : ByteArray) (w : World) : (Op.equalIn (d + 2) 142 (.agg #[.int .i64 a, .string b]) (.agg #[.int .i64 x, .string y])).run Try.prog w = .ok (a == x && b.toList == y.toList) w := by
  rw [run_equalIn_struct w (d + 1) 142 _ _ (by kernel_rfl) (by kernel_rfl)]
  have p0 : ∀ a b w, (part 3 #[.int .i64 a, .string b] 0).run Try.prog w = Result.ok (.int .i64 a) w := fun a b w => by kernel_rfl
  have p1 : ∀ a b w, (part 9 #[.int .i64 a, .string b] 1).run Try.prog w = Result.ok (.string b) w := fun a b w => by kernel_rfl
  cases h : a == x
  · simp [Program.fieldsOf, Try.underlying142, Op.eqFields, Sem.run_bind, p0, eqi, h]
  · cases h' : b.toList == y.toList <;> simp [Program.fieldsOf, Try.underlying142, Op.eqFields, Sem.run_bind, p0, p1, eqi, eqs, h, h']

def eqV2 : List Value → List Value → Option Bool
  | [.int .i64 a, .int .i64 b], [.int .i64 x, .int .i64 y] => some (a == x && b == y)
  | _, _ => none
def eqF2 : List Value → List Value → Option Bool
  | [.int .i64 a, .string b], [.int .i64 x, .string y] => some (a == x && b.toList == y.toList)
  | _, _ => none
def eqF5 : List Value → List Value → Option Bool
  | [.int .i64 a, .int .i64 b, .int .i64 c, .int .i64 e, .int .i64 f], [.int .i64 u, .int .i64 v, .int .i64 x, .int .i64 y, .int .i64 z] => some (a == u && (b == v && (c == x && (e == y && f == z))))
  | _, _ => none
def eqC8 : List Value → List Value → Option Bool
  | [.int .i64 a0, .int .i64 a1, .int .i64 a2, .int .i64 a3, .bool a4, .string a5, .int .i64 a6, .int .i64 a7], [.int .i64 b0, .int .i64 b1, .int .i64 b2, .int .i64 b3, .bool b4, .string b5, .int .i64 b6, .int .i64 b7] =>
    some ((a0 == b0 && a1 == b1) && ((a2 == b2 && a3 == b3) && ((a4 == b4) && ((a5.toList == b5.toList) && (a6 == b6 && a7 == b7)))))
  | _, _ => none
def eqTab (t : TypeId) (xs ys : List Value) : Option Bool :=
  bif Nat.beq t 31 then eqV2 xs ys else bif Nat.beq t 51 then eqV2 xs ys else bif Nat.beq t 55 then eqC8 xs ys else bif Nat.beq t 142 then eqF2 xs ys else bif Nat.beq t 37 then eqF5 xs ys else none

theorem eqTab_ok : EqOk Try.prog eqTab := fun t xs ys b h => by
  unfold eqTab at h
  cases h1 : Nat.beq t 31 with
  | true =>
    rw [h1] at h
    rw [Nat.eq_of_beq_eq_true h1]
    refine ⟨guardVec, fun R => ?_⟩
    unfold eqV2 at h
    simp only [cond_true] at h
    split at h <;> first | (cases h; done) | skip
    cases h
    exact eqVec 9998 _ _ _ _ R
  | false =>
  cases h2 : Nat.beq t 51 with
  | true =>
    rw [h1, h2] at h
    rw [Nat.eq_of_beq_eq_true h2]
    refine ⟨guardStamp, fun R => ?_⟩
    unfold eqV2 at h
    simp only [cond_true, cond_false] at h
    split at h <;> first | (cases h; done) | skip
    cases h
    exact eqStamp 9998 _ _ _ _ R
  | false =>
  cases h3 : Nat.beq t 55 with
  | true =>
    rw [h1, h2, h3] at h
    rw [Nat.eq_of_beq_eq_true h3]
    refine ⟨guardCell, fun R => ?_⟩
    unfold eqC8 at h
    simp only [cond_true, cond_false] at h
    split at h <;> first | (cases h; done) | skip
    cases h
    exact eqCell 9997 _ _ _ _ _ _ _ _ _ _ _ _ _ _ _ _ R
  | false =>
  cases h4 : Nat.beq t 142 with
  | true =>
    rw [h1, h2, h3, h4] at h
    rw [Nat.eq_of_beq_eq_true h4]
    refine ⟨guardField, fun R => ?_⟩
    unfold eqF2 at h
    simp only [cond_true, cond_false] at h
    split at h <;> first | (cases h; done) | skip
    cases h
    exact eqField 9998 _ _ _ _ R
  | false =>
  cases h5 : Nat.beq t 37 with
  | true =>
    rw [h1, h2, h3, h4, h5] at h
    rw [Nat.eq_of_beq_eq_true h5]
    refine ⟨guardRFront, fun R => ?_⟩
    unfold eqF5 at h
    simp only [cond_true, cond_false] at h
    split at h <;> first | (cases h; done) | skip
    cases h
    rw [eqRFront 9998]
  | false =>
    rw [h1, h2, h3, h4, h5] at h
    cases h

/-- The surroundings of a run: the calls' table, the loops' table. -/
noncomputable def envT (C : Tab) (L : LTab) : Env := ⟨Try.prog, eqTab, C, false, tcTab, L⟩
/-- A run at literals. -/
noncomputable def envL (C : Tab) : Env := ⟨Try.prog, eqTab, C, true, tcTab, L0⟩
theorem envT_ok {C : Tab} {L : LTab} (hC : COk Try.prog C) (hL : ∀ l s b ps outs, L l s = some (b, ps, outs) → Wf s ⟨ps, outs, none⟩ ∧ LoopOk (envT C L) b s ps outs) : CodeOk (envT C L) where
  suf f args nx o k x nx' o' ps h := (hC f args nx o k x nx' o' ps h).2
  wide := wideP
  eq := eqTab_ok
  C f args nx o k x nx' o' ps h := (hC f args nx o k x nx' o' ps h).1
  tc := tcTab_ok
  loops := hL
theorem envL_ok {C : Tab} (hC : COk Try.prog C) : CodeOk (envL C) where
  suf f args nx o k x nx' o' ps h := (hC f args nx o k x nx' o' ps h).2
  wide := wideP
  eq := eqTab_ok
  C f args nx o k x nx' o' ps h := (hC f args nx o k x nx' o' ps h).1
  tc := tcTab_ok
  loops _ _ _ _ _ h := by cases h
end Go.Proofs.Yteebobbhhgmeiaa
