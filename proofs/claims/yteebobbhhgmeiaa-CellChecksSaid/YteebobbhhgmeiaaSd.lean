/- made by a program (gen.py): what functions come to, by their symbolic run. -/
import Derived.Test.YteebobbhhgmeiaaSc
namespace Go.Proofs.Yteebobbhhgmeiaa
open Go.RowKit

def l08_CellWrites (a : Int) (b0 : Int) (b1 : Int) (b2 : Int) (b3 : Int) (b4 : Bool) (b5 : ByteArray) : Bool := cell_Of_0 a b0 b1 b2 b3 b4 b5 == r08_Of_0 a b0 b1 b2 b3 b4 b5 && cell_Of_1 a b0 b1 b2 b3 b4 b5 == r08_Of_1 a b0 b1 b2 b3 b4 b5 && (cell_Of_2 a b0 b1 b2 b3 b4 b5 == r08_Of_2 a b0 b1 b2 b3 b4 b5 && cell_Of_3 a b0 b1 b2 b3 b4 b5 == r08_Of_3 a b0 b1 b2 b3 b4 b5 && (cell_Of_4 a b0 b1 b2 b3 b4 b5 == r08_Of_4 a b0 b1 b2 b3 b4 b5 && ((cell_Of_5 a b0 b1 b2 b3 b4 b5).toList == (r08_Of_5 a b0 b1 b2 b3 b4 b5).toList && (cell_Of_6 a b0 b1 b2 b3 b4 b5 == r08_Of_6 a b0 b1 b2 b3 b4 b5 && cell_Of_7 a b0 b1 b2 b3 b4 b5 == r08_Of_7 a b0 b1 b2 b3 b4 b5)))) && cell_Of_8 a b0 b1 b2 b3 b4 b5 == r08_Of_8 a b0 b1 b2 b3 b4 b5 && (cell_Of_8 a b0 b1 b2 b3 b4 b5 != (0 : Int) || cell_Good a (cell_Of_0 a b0 b1 b2 b3 b4 b5) (cell_Of_1 a b0 b1 b2 b3 b4 b5) (cell_Of_2 a b0 b1 b2 b3 b4 b5) (cell_Of_3 a b0 b1 b2 b3 b4 b5) (cell_Of_4 a b0 b1 b2 b3 b4 b5) (cell_Of_5 a b0 b1 b2 b3 b4 b5) (cell_Of_6 a b0 b1 b2 b3 b4 b5) (cell_Of_7 a b0 b1 b2 b3 b4 b5)) && true
theorem l08_CellWrites_ev (a : Int) (b0 : Int) (b1 : Int) (b2 : Int) (b3 : Int) (b4 : Bool) (b5 : ByteArray) (w : World) : evF (envAt Try.prog eqTab Cc w) 6 5 (rawAVs [.int .i64 a, .agg #[.int .i64 b0, .int .i64 b1, .int .i64 b2, .int .i64 b3, .bool b4, .string b5]]) [] = some (.v (.bool (l08_CellWrites a b0 b1 b2 b3 b4 b5)), [], []) := by kernel_rfl
theorem l08_CellWrites_c (a : Int) (b0 : Int) (b1 : Int) (b2 : Int) (b3 : Int) (b4 : Bool) (b5 : ByteArray) (w : World) : Calls Try.prog 5 #[.int .i64 a, .agg #[.int .i64 b0, .int .i64 b1, .int .i64 b2, .int .i64 b3, .bool b4, .string b5]] w fun r' w' => r' = .returned (.bool (l08_CellWrites a b0 b1 b2 b3 b4 b5)) ∧ Below w.heap.size w w' :=
  fun_ok0 wideP eqTab_ok Cc_ok 6 w (l08_CellWrites_ev a b0 b1 b2 b3 b4 b5 w) needs_nil
def l08_CellWrites_t : World → List AV → Boxes → Seqs → Option CRes
  | _, [.v (.int .i64 a), .v (.agg ⟨[.int .i64 b0, .int .i64 b1, .int .i64 b2, .int .i64 b3, .bool b4, .string b5]⟩)], _, _ => some (.v (.bool (l08_CellWrites a b0 b1 b2 b3 b4 b5)), [], [])
  | _, _, _, _ => none
theorem l08_CellWrites_tok : TOk Try.prog 5 l08_CellWrites_t := by
  intro w args bx sq c news ps h hp
  unfold l08_CellWrites_t at h
  split at h <;> first | (cases h; done) | skip
  cases h
  exact tok0 (args := [_, _]) fun R => l08_CellWrites_c _ _ _ _ _ _ _ R
noncomputable def Cd_1 := addC 5 l08_CellWrites_t Cc
theorem Cd_1_ok : COk Try.prog Cd_1 := addC_ok l08_CellWrites_tok Cc_ok

noncomputable def Cd := Cd_1
theorem Cd_ok : COk Try.prog Cd := Cd_1_ok
end Go.Proofs.Yteebobbhhgmeiaa
