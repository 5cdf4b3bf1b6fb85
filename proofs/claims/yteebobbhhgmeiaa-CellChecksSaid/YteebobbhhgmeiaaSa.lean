/- made by a program (gen.py): what functions come to, by their symbolic run. -/
import Derived.Test.YteebobbhhgmeiaaSyK
namespace Go.Proofs.Yteebobbhhgmeiaa
open Go.RowKit

def stamp_known (a : Int) : Bool := bif !(!a == (1 : Int) && !(!a == (1 : Int) && a == (2 : Int))) then true else false
theorem stamp_known_ev (a : Int) (w : World) : evF (envAt Try.prog eqTab C0 w) 6 151 (rawAVs [.int .i64 a]) [] = some (.v (.bool (stamp_known a)), [], []) := by kernel_rfl
theorem stamp_known_c (a : Int) (w : World) : Calls Try.prog 151 #[.int .i64 a] w fun r' w' => r' = .returned (.bool (stamp_known a)) ∧ Below w.heap.size w w' :=
  fun_ok0 wideP eqTab_ok C0_ok 6 w (stamp_known_ev a w) needs_nil
def stamp_known_t : World → List AV → Boxes → Seqs → Option CRes
  | _, [.v (.int .i64 a)], _, _ => some (.v (.bool (stamp_known a)), [], [])
  | _, _, _, _ => none
theorem stamp_known_tok : TOk Try.prog 151 stamp_known_t := by
  intro w args bx sq c news ps h hp
  unfold stamp_known_t at h
  split at h <;> first | (cases h; done) | skip
  cases h
  exact tok0 (args := [_]) fun R => stamp_known_c _ R
noncomputable def Ca_1 := addC 151 stamp_known_t C0
theorem Ca_1_ok : COk Try.prog Ca_1 := addC_ok stamp_known_tok C0_ok

def stamp_Good (a0 : Int) (a1 : Int) : Bool := bif a0 == (0 : Int) && a1 == (0 : Int) then true else decide (a0 > (0 : Int)) && decide (a0 ≤ (281474976710656 : Int)) && stamp_known a1
theorem stamp_Good_ev (a0 : Int) (a1 : Int) (w : World) : evF (envAt Try.prog eqTab Ca_1 w) 6 102 (rawAVs [.agg #[.int .i64 a0, .int .i64 a1]]) [] = some (.v (.bool (stamp_Good a0 a1)), [], []) := by kernel_rfl
theorem stamp_Good_c (a0 : Int) (a1 : Int) (w : World) : Calls Try.prog 102 #[.agg #[.int .i64 a0, .int .i64 a1]] w fun r' w' => r' = .returned (.bool (stamp_Good a0 a1)) ∧ Below w.heap.size w w' :=
  fun_ok0 wideP eqTab_ok Ca_1_ok 6 w (stamp_Good_ev a0 a1 w) needs_nil
def stamp_Good_t : World → List AV → Boxes → Seqs → Option CRes
  | _, [.v (.agg ⟨[.int .i64 a0, .int .i64 a1]⟩)], _, _ => some (.v (.bool (stamp_Good a0 a1)), [], [])
  | _, _, _, _ => none
theorem stamp_Good_tok : TOk Try.prog 102 stamp_Good_t := by
  intro w args bx sq c news ps h hp
  unfold stamp_Good_t at h
  split at h <;> first | (cases h; done) | skip
  cases h
  exact tok0 (args := [_]) fun R => stamp_Good_c _ _ R
noncomputable def Ca_2 := addC 102 stamp_Good_t Ca_1
theorem Ca_2_ok : COk Try.prog Ca_2 := addC_ok stamp_Good_tok Ca_1_ok

def r05_Good (a0 : Int) (a1 : Int) : Bool := bif a0 == (0 : Int) && a1 == (0 : Int) then true else decide (a0 ≥ (1 : Int)) && decide (a0 ≤ (281474976710656 : Int)) && (a1 == (1 : Int) || a1 == (2 : Int))
theorem r05_Good_ev (a0 : Int) (a1 : Int) (w : World) : evF (envAt Try.prog eqTab Ca_2 w) 6 104 (rawAVs [.agg #[.int .i64 a0, .int .i64 a1]]) [] = some (.v (.bool (r05_Good a0 a1)), [], []) := by kernel_rfl
theorem r05_Good_c (a0 : Int) (a1 : Int) (w : World) : Calls Try.prog 104 #[.agg #[.int .i64 a0, .int .i64 a1]] w fun r' w' => r' = .returned (.bool (r05_Good a0 a1)) ∧ Below w.heap.size w w' :=
  fun_ok0 wideP eqTab_ok Ca_2_ok 6 w (r05_Good_ev a0 a1 w) needs_nil
def r05_Good_t : World → List AV → Boxes → Seqs → Option CRes
  | _, [.v (.agg ⟨[.int .i64 a0, .int .i64 a1]⟩)], _, _ => some (.v (.bool (r05_Good a0 a1)), [], [])
  | _, _, _, _ => none
theorem r05_Good_tok : TOk Try.prog 104 r05_Good_t := by
  intro w args bx sq c news ps h hp
  unfold r05_Good_t at h
  split at h <;> first | (cases h; done) | skip
  cases h
  exact tok0 (args := [_]) fun R => r05_Good_c _ _ R
noncomputable def Ca_3 := addC 104 r05_Good_t Ca_2
theorem Ca_3_ok : COk Try.prog Ca_3 := addC_ok r05_Good_tok Ca_2_ok

def vec_Good_f1 (a : Int) (_b : Int) : Int := min (max a (0 : Int)) (1099511627776 : Int)
theorem vec_Good_f1_ev (a : Int) (b : Int) (w : World) : evF (envAt Try.prog eqTab Ca_3 w) 6 153 (rawAVs [.int .i64 a, .int .i64 b]) [] = some (.v (.int .i64 (vec_Good_f1 a b)), [], []) := by kernel_rfl
theorem vec_Good_f1_c (a : Int) (b : Int) (w : World) : Calls Try.prog 153 #[.int .i64 a, .int .i64 b] w fun r' w' => r' = .returned (.int .i64 (vec_Good_f1 a b)) ∧ Below w.heap.size w w' :=
  fun_ok0 wideP eqTab_ok Ca_3_ok 6 w (vec_Good_f1_ev a b w) needs_nil
def vec_Good_f1_t : World → List AV → Boxes → Seqs → Option CRes
  | _, [.v (.int .i64 a), .v (.int .i64 b)], _, _ => some (.v (.int .i64 (vec_Good_f1 a b)), [], [])
  | _, _, _, _ => none
theorem vec_Good_f1_tok : TOk Try.prog 153 vec_Good_f1_t := by
  intro w args bx sq c news ps h hp
  unfold vec_Good_f1_t at h
  split at h <;> first | (cases h; done) | skip
  cases h
  exact tok0 (args := [_, _]) fun R => vec_Good_f1_c _ _ R
noncomputable def Ca_4 := addC 153 vec_Good_f1_t Ca_3
theorem Ca_4_ok : COk Try.prog Ca_4 := addC_ok vec_Good_f1_tok Ca_3_ok

def vec_Join_f1 (a : Int) (b : Int) : Int := max a b
theorem vec_Join_f1_ev (a : Int) (b : Int) (w : World) : evF (envAt Try.prog eqTab Ca_4 w) 6 154 (rawAVs [.int .i64 a, .int .i64 b]) [] = some (.v (.int .i64 (vec_Join_f1 a b)), [], []) := by kernel_rfl
theorem vec_Join_f1_c (a : Int) (b : Int) (w : World) : Calls Try.prog 154 #[.int .i64 a, .int .i64 b] w fun r' w' => r' = .returned (.int .i64 (vec_Join_f1 a b)) ∧ Below w.heap.size w w' :=
  fun_ok0 wideP eqTab_ok Ca_4_ok 6 w (vec_Join_f1_ev a b w) needs_nil
def vec_Join_f1_t : World → List AV → Boxes → Seqs → Option CRes
  | _, [.v (.int .i64 a), .v (.int .i64 b)], _, _ => some (.v (.int .i64 (vec_Join_f1 a b)), [], [])
  | _, _, _, _ => none
theorem vec_Join_f1_tok : TOk Try.prog 154 vec_Join_f1_t := by
  intro w args bx sq c news ps h hp
  unfold vec_Join_f1_t at h
  split at h <;> first | (cases h; done) | skip
  cases h
  exact tok0 (args := [_, _]) fun R => vec_Join_f1_c _ _ R
noncomputable def Ca_5 := addC 154 vec_Join_f1_t Ca_4
theorem Ca_5_ok : COk Try.prog Ca_5 := addC_ok vec_Join_f1_tok Ca_4_ok

def vec_Meet_f1 (a : Int) (b : Int) : Int := min a b
theorem vec_Meet_f1_ev (a : Int) (b : Int) (w : World) : evF (envAt Try.prog eqTab Ca_5 w) 6 156 (rawAVs [.int .i64 a, .int .i64 b]) [] = some (.v (.int .i64 (vec_Meet_f1 a b)), [], []) := by kernel_rfl
theorem vec_Meet_f1_c (a : Int) (b : Int) (w : World) : Calls Try.prog 156 #[.int .i64 a, .int .i64 b] w fun r' w' => r' = .returned (.int .i64 (vec_Meet_f1 a b)) ∧ Below w.heap.size w w' :=
  fun_ok0 wideP eqTab_ok Ca_5_ok 6 w (vec_Meet_f1_ev a b w) needs_nil
def vec_Meet_f1_t : World → List AV → Boxes → Seqs → Option CRes
  | _, [.v (.int .i64 a), .v (.int .i64 b)], _, _ => some (.v (.int .i64 (vec_Meet_f1 a b)), [], [])
  | _, _, _, _ => none
theorem vec_Meet_f1_tok : TOk Try.prog 156 vec_Meet_f1_t := by
  intro w args bx sq c news ps h hp
  unfold vec_Meet_f1_t at h
  split at h <;> first | (cases h; done) | skip
  cases h
  exact tok0 (args := [_, _]) fun R => vec_Meet_f1_c _ _ R
noncomputable def Ca_6 := addC 156 vec_Meet_f1_t Ca_5
theorem Ca_6_ok : COk Try.prog Ca_6 := addC_ok vec_Meet_f1_tok Ca_5_ok

noncomputable def Ca := Ca_6
theorem Ca_ok : COk Try.prog Ca := Ca_6_ok
end Go.Proofs.Yteebobbhhgmeiaa
