/- made by a program (gen.py): what functions come to, by their symbolic run. -/
import Derived.Test.YteebobbhhgmeiaaSd
namespace Go.Proofs.Yteebobbhhgmeiaa
open Go.RowKit

def l08_CellSeen_k0 (a : Int) (b0 : Int) (b1 : Int) (b2 : Int) (b3 : Int) (b4 : Bool) (b5 : ByteArray) (_c0 : Int) (_c1 : Int) : Bool := cell_Seen_1 a (cell_Of_0 a b0 b1 b2 b3 b4 b5) (cell_Of_1 a b0 b1 b2 b3 b4 b5) (cell_Of_2 a b0 b1 b2 b3 b4 b5) (cell_Of_3 a b0 b1 b2 b3 b4 b5) (cell_Of_4 a b0 b1 b2 b3 b4 b5) (cell_Of_5 a b0 b1 b2 b3 b4 b5) (cell_Of_6 a b0 b1 b2 b3 b4 b5) (cell_Of_7 a b0 b1 b2 b3 b4 b5)
def l08_CellSeen (a : Int) (b0 : Int) (b1 : Int) (b2 : Int) (b3 : Int) (b4 : Bool) (b5 : ByteArray) (c0 : Int) (c1 : Int) : Bool := bif cell_Of_8 a b0 b1 b2 b3 b4 b5 != (0 : Int) then cell_Of_0 a b0 b1 b2 b3 b4 b5 == (0 : Int) && cell_Of_1 a b0 b1 b2 b3 b4 b5 == (0 : Int) && (cell_Of_2 a b0 b1 b2 b3 b4 b5 == (0 : Int) && cell_Of_3 a b0 b1 b2 b3 b4 b5 == (0 : Int) && (cell_Of_4 a b0 b1 b2 b3 b4 b5 == false && ((cell_Of_5 a b0 b1 b2 b3 b4 b5).toList == (ByteArray.mk #[]).toList && (cell_Of_6 a b0 b1 b2 b3 b4 b5 == (0 : Int) && cell_Of_7 a b0 b1 b2 b3 b4 b5 == (0 : Int))))) && true else bif (l08_CellSeen_k0 a b0 b1 b2 b3 b4 b5 c0 c1) == b4 || (l08_CellSeen_k0 a b0 b1 b2 b3 b4 b5 c0 c1) && !(cell_Seen_0 a (cell_Of_0 a b0 b1 b2 b3 b4 b5) (cell_Of_1 a b0 b1 b2 b3 b4 b5) (cell_Of_2 a b0 b1 b2 b3 b4 b5) (cell_Of_3 a b0 b1 b2 b3 b4 b5) (cell_Of_4 a b0 b1 b2 b3 b4 b5) (cell_Of_5 a b0 b1 b2 b3 b4 b5) (cell_Of_6 a b0 b1 b2 b3 b4 b5) (cell_Of_7 a b0 b1 b2 b3 b4 b5)).toList == b5.toList then false else bif a == (2 : Int) && decide (c0 ≥ (0 : Int)) && decide (c1 ≥ (0 : Int)) && decide (c0 ≤ (1099511627776 : Int)) && decide (c1 ≤ (1099511627776 : Int)) && !cell_Seen_1 a (cell_Of_0 a b0 b1 b2 b3 b4 b5) (cell_Of_1 a b0 b1 b2 b3 b4 b5) (cell_Of_2 a b0 b1 b2 b3 b4 b5) (cell_Of_3 a b0 b1 b2 b3 b4 b5) (cell_Of_4 a b0 b1 b2 b3 b4 b5) (cell_Of_5 a b0 b1 b2 b3 b4 b5) c0 c1 == (!b4 && decide (b2 ≥ c0) && decide (b3 ≥ c1)) then false else true
theorem l08_CellSeen_ev (a : Int) (b0 : Int) (b1 : Int) (b2 : Int) (b3 : Int) (b4 : Bool) (b5 : ByteArray) (c0 : Int) (c1 : Int) (w : World) : evF (envAt Try.prog eqTab Cd w) 6 6 (rawAVs [.int .i64 a, .agg #[.int .i64 b0, .int .i64 b1, .int .i64 b2, .int .i64 b3, .bool b4, .string b5], .agg #[.int .i64 c0, .int .i64 c1]]) [] = some (.v (.bool (l08_CellSeen a b0 b1 b2 b3 b4 b5 c0 c1)), [], []) := by kernel_rfl
theorem l08_CellSeen_c (a : Int) (b0 : Int) (b1 : Int) (b2 : Int) (b3 : Int) (b4 : Bool) (b5 : ByteArray) (c0 : Int) (c1 : Int) (w : World) : Calls Try.prog 6 #[.int .i64 a, .agg #[.int .i64 b0, .int .i64 b1, .int .i64 b2, .int .i64 b3, .bool b4, .string b5], .agg #[.int .i64 c0, .int .i64 c1]] w fun r' w' => r' = .returned (.bool (l08_CellSeen a b0 b1 b2 b3 b4 b5 c0 c1)) ∧ Below w.heap.size w w' :=
  fun_ok0 wideP eqTab_ok Cd_ok 6 w (l08_CellSeen_ev a b0 b1 b2 b3 b4 b5 c0 c1 w) needs_nil
def l08_CellSeen_t : World → List AV → Boxes → Seqs → Option CRes
  | _, [.v (.int .i64 a), .v (.agg ⟨[.int .i64 b0, .int .i64 b1, .int .i64 b2, .int .i64 b3, .bool b4, .string b5]⟩), .v (.agg ⟨[.int .i64 c0, .int .i64 c1]⟩)], _, _ => some (.v (.bool (l08_CellSeen a b0 b1 b2 b3 b4 b5 c0 c1)), [], [])
  | _, _, _, _ => none
theorem l08_CellSeen_tok : TOk Try.prog 6 l08_CellSeen_t := by
  intro w args bx sq c news ps h hp
  unfold l08_CellSeen_t at h
  split at h <;> first | (cases h; done) | skip
  cases h
  exact tok0 (args := [_, _, _]) fun R => l08_CellSeen_c _ _ _ _ _ _ _ _ _ R
noncomputable def Ce_1 := addC 6 l08_CellSeen_t Cd
theorem Ce_1_ok : COk Try.prog Ce_1 := addC_ok l08_CellSeen_tok Cd_ok

noncomputable def Ce := Ce_1
theorem Ce_ok : COk Try.prog Ce := Ce_1_ok
end Go.Proofs.Yteebobbhhgmeiaa
