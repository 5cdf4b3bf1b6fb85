/- made by a program (gen.py): what functions come to, by their symbolic run. -/
import Derived.Test.YteebobbhhgmeiaaSa
namespace Go.Proofs.Yteebobbhhgmeiaa
open Go.RowKit

def each_good_0 (a0 : Int) (_a1 : Int) (b0 : Int) (_b1 : Int) : Int := vec_Good_f1 a0 b0
def each_good_1 (_a0 : Int) (a1 : Int) (_b0 : Int) (b1 : Int) : Int := vec_Good_f1 a1 b1
theorem each_good_ev (a0 : Int) (a1 : Int) (b0 : Int) (b1 : Int) (w : World) : evF (envAt Try.prog eqTab Ca w) 3 152 (rawAVs [.agg #[.int .i64 a0, .int .i64 a1], .agg #[.int .i64 b0, .int .i64 b1], .func (.func 153) #[] #[]]) [] = some (.v (.agg #[.int .i64 (each_good_0 a0 a1 b0 b1), .int .i64 (each_good_1 a0 a1 b0 b1)]), [], [(0 : Int) ≤ (0 : Int) ∧ (0 : Int) < (2 : Int), (0 : Nat) < (2 : Nat), (0 : Int) ≤ (0 : Int) ∧ (0 : Int) < (2 : Int), (0 : Nat) < (2 : Nat), (0 : Int) ≤ (0 : Int) ∧ (0 : Int) < (2 : Int), (0 : Nat) < (2 : Nat), (0 : Int) ≤ (1 : Int) ∧ (1 : Int) < (2 : Int), (1 : Nat) < (2 : Nat), (0 : Int) ≤ (1 : Int) ∧ (1 : Int) < (2 : Int), (1 : Nat) < (2 : Nat), (0 : Int) ≤ (1 : Int) ∧ (1 : Int) < (2 : Int), (1 : Nat) < (2 : Nat)]) := by kernel_rfl
theorem each_good_c (a0 : Int) (a1 : Int) (b0 : Int) (b1 : Int) (w : World) : Calls Try.prog 152 #[.agg #[.int .i64 a0, .int .i64 a1], .agg #[.int .i64 b0, .int .i64 b1], .func (.func 153) #[] #[]] w fun r' w' => r' = .returned (.agg #[.int .i64 (each_good_0 a0 a1 b0 b1), .int .i64 (each_good_1 a0 a1 b0 b1)]) ∧ Below w.heap.size w w' :=
  fun_ok0 wideP eqTab_ok Ca_ok 3 w (each_good_ev a0 a1 b0 b1 w) (needs_cons (by first | decide +kernel | (intros; kernel_rfl) | exact ⟨by kernel_rfl, by kernel_rfl⟩) (needs_cons (by first | decide +kernel | (intros; kernel_rfl) | exact ⟨by kernel_rfl, by kernel_rfl⟩) (needs_cons (by first | decide +kernel | (intros; kernel_rfl) | exact ⟨by kernel_rfl, by kernel_rfl⟩) (needs_cons (by first | decide +kernel | (intros; kernel_rfl) | exact ⟨by kernel_rfl, by kernel_rfl⟩) (needs_cons (by first | decide +kernel | (intros; kernel_rfl) | exact ⟨by kernel_rfl, by kernel_rfl⟩) (needs_cons (by first | decide +kernel | (intros; kernel_rfl) | exact ⟨by kernel_rfl, by kernel_rfl⟩) (needs_cons (by first | decide +kernel | (intros; kernel_rfl) | exact ⟨by kernel_rfl, by kernel_rfl⟩) (needs_cons (by first | decide +kernel | (intros; kernel_rfl) | exact ⟨by kernel_rfl, by kernel_rfl⟩) (needs_cons (by first | decide +kernel | (intros; kernel_rfl) | exact ⟨by kernel_rfl, by kernel_rfl⟩) (needs_cons (by first | decide +kernel | (intros; kernel_rfl) | exact ⟨by kernel_rfl, by kernel_rfl⟩) (needs_cons (by first | decide +kernel | (intros; kernel_rfl) | exact ⟨by kernel_rfl, by kernel_rfl⟩) (needs_cons (by first | decide +kernel | (intros; kernel_rfl) | exact ⟨by kernel_rfl, by kernel_rfl⟩) needs_nil))))))))))))
def each_good_t : World → List AV → Boxes → Seqs → Option CRes
  | _, [.v (.agg ⟨[.int .i64 a0, .int .i64 a1]⟩), .v (.agg ⟨[.int .i64 b0, .int .i64 b1]⟩), .v (.func (.func 153) ⟨[]⟩ ⟨[]⟩)], _, _ => some (.v (.agg #[.int .i64 (each_good_0 a0 a1 b0 b1), .int .i64 (each_good_1 a0 a1 b0 b1)]), [], [])
  | _, _, _, _ => none
theorem each_good_tok : TOk Try.prog 152 each_good_t := by
  intro w args bx sq c news ps h hp
  unfold each_good_t at h
  split at h <;> first | (cases h; done) | skip
  cases h
  exact tok0 (args := [_, _, _]) fun R => each_good_c _ _ _ _ R
noncomputable def Cb_1 := addC 152 each_good_t Ca
theorem Cb_1_ok : COk Try.prog Cb_1 := addC_ok each_good_tok Ca_ok

def each_join_0 (a0 : Int) (_a1 : Int) (b0 : Int) (_b1 : Int) : Int := vec_Join_f1 a0 b0
def each_join_1 (_a0 : Int) (a1 : Int) (_b0 : Int) (b1 : Int) : Int := vec_Join_f1 a1 b1
theorem each_join_ev (a0 : Int) (a1 : Int) (b0 : Int) (b1 : Int) (w : World) : evF (envAt Try.prog eqTab Cb_1 w) 3 152 (rawAVs [.agg #[.int .i64 a0, .int .i64 a1], .agg #[.int .i64 b0, .int .i64 b1], .func (.func 154) #[] #[]]) [] = some (.v (.agg #[.int .i64 (each_join_0 a0 a1 b0 b1), .int .i64 (each_join_1 a0 a1 b0 b1)]), [], [(0 : Int) ≤ (0 : Int) ∧ (0 : Int) < (2 : Int), (0 : Nat) < (2 : Nat), (0 : Int) ≤ (0 : Int) ∧ (0 : Int) < (2 : Int), (0 : Nat) < (2 : Nat), (0 : Int) ≤ (0 : Int) ∧ (0 : Int) < (2 : Int), (0 : Nat) < (2 : Nat), (0 : Int) ≤ (1 : Int) ∧ (1 : Int) < (2 : Int), (1 : Nat) < (2 : Nat), (0 : Int) ≤ (1 : Int) ∧ (1 : Int) < (2 : Int), (1 : Nat) < (2 : Nat), (0 : Int) ≤ (1 : Int) ∧ (1 : Int) < (2 : Int), (1 : Nat) < (2 : Nat)]) := by kernel_rfl
theorem each_join_c (a0 : Int) (a1 : Int) (b0 : Int) (b1 : Int) (w : World) : Calls Try.prog 152 #[.agg #[.int .i64 a0, .int .i64 a1], .agg #[.int .i64 b0, .int .i64 b1], .func (.func 154) #[] #[]] w fun r' w' => r' = .returned (.agg #[.int .i64 (each_join_0 a0 a1 b0 b1), .int .i64 (each_join_1 a0 a1 b0 b1)]) ∧ Below w.heap.size w w' :=
  fun_ok0 wideP eqTab_ok Cb_1_ok 3 w (each_join_ev a0 a1 b0 b1 w) (needs_cons (by first | decide +kernel | (intros; kernel_rfl) | exact ⟨by kernel_rfl, by kernel_rfl⟩) (needs_cons (by first | decide +kernel | (intros; kernel_rfl) | exact ⟨by kernel_rfl, by kernel_rfl⟩) (needs_cons (by first | decide +kernel | (intros; kernel_rfl) | exact ⟨by kernel_rfl, by kernel_rfl⟩) (needs_cons (by first | decide +kernel | (intros; kernel_rfl) | exact ⟨by kernel_rfl, by kernel_rfl⟩) (needs_cons (by first | decide +kernel | (intros; kernel_rfl) | exact ⟨by kernel_rfl, by kernel_rfl⟩) (needs_cons (by first | decide +kernel | (intros; kernel_rfl) | exact ⟨by kernel_rfl, by kernel_rfl⟩) (needs_cons (by first | decide +kernel | (intros; kernel_rfl) | exact ⟨by kernel_rfl, by kernel_rfl⟩) (needs_cons (by first | decide +kernel | (intros; kernel_rfl) | exact ⟨by kernel_rfl, by kernel_rfl⟩) (needs_cons (by first | decide +kernel | (intros; kernel_rfl) | exact ⟨by kernel_rfl, by kernel_rfl⟩) (needs_cons (by first | decide +kernel | (intros; kernel_rfl) | exact ⟨by kernel_rfl, by kernel_rfl⟩) (needs_cons (by first | decide +kernel | (intros; kernel_rfl) | exact ⟨by kernel_rfl, by kernel_rfl⟩) (needs_cons (by first | decide +kernel | (intros; kernel_rfl) | exact ⟨by kernel_rfl, by kernel_rfl⟩) needs_nil))))))))))))
def each_join_t : World → List AV → Boxes → Seqs → Option CRes
  | _, [.v (.agg ⟨[.int .i64 a0, .int .i64 a1]⟩), .v (.agg ⟨[.int .i64 b0, .int .i64 b1]⟩), .v (.func (.func 154) ⟨[]⟩ ⟨[]⟩)], _, _ => some (.v (.agg #[.int .i64 (each_join_0 a0 a1 b0 b1), .int .i64 (each_join_1 a0 a1 b0 b1)]), [], [])
  | _, _, _, _ => none
theorem each_join_tok : TOk Try.prog 152 each_join_t := by
  intro w args bx sq c news ps h hp
  unfold each_join_t at h
  split at h <;> first | (cases h; done) | skip
  cases h
  exact tok0 (args := [_, _, _]) fun R => each_join_c _ _ _ _ R
def each_join_t2 := orT each_join_t each_good_t
theorem each_join_tok2 : TOk Try.prog 152 each_join_t2 := orT_ok each_join_tok each_good_tok
noncomputable def Cb_2 := addC 152 each_join_t2 Cb_1
theorem Cb_2_ok : COk Try.prog Cb_2 := addC_ok each_join_tok2 Cb_1_ok

def each_meet_0 (a0 : Int) (_a1 : Int) (b0 : Int) (_b1 : Int) : Int := vec_Meet_f1 a0 b0
def each_meet_1 (_a0 : Int) (a1 : Int) (_b0 : Int) (b1 : Int) : Int := vec_Meet_f1 a1 b1
theorem each_meet_ev (a0 : Int) (a1 : Int) (b0 : Int) (b1 : Int) (w : World) : evF (envAt Try.prog eqTab Cb_2 w) 3 152 (rawAVs [.agg #[.int .i64 a0, .int .i64 a1], .agg #[.int .i64 b0, .int .i64 b1], .func (.func 156) #[] #[]]) [] = some (.v (.agg #[.int .i64 (each_meet_0 a0 a1 b0 b1), .int .i64 (each_meet_1 a0 a1 b0 b1)]), [], [(0 : Int) ≤ (0 : Int) ∧ (0 : Int) < (2 : Int), (0 : Nat) < (2 : Nat), (0 : Int) ≤ (0 : Int) ∧ (0 : Int) < (2 : Int), (0 : Nat) < (2 : Nat), (0 : Int) ≤ (0 : Int) ∧ (0 : Int) < (2 : Int), (0 : Nat) < (2 : Nat), (0 : Int) ≤ (1 : Int) ∧ (1 : Int) < (2 : Int), (1 : Nat) < (2 : Nat), (0 : Int) ≤ (1 : Int) ∧ (1 : Int) < (2 : Int), (1 : Nat) < (2 : Nat), (0 : Int) ≤ (1 : Int) ∧ (1 : Int) < (2 : Int), (1 : Nat) < (2 : Nat)]) := by kernel_rfl
theorem each_meet_c (a0 : Int) (a1 : Int) (b0 : Int) (b1 : Int) (w : World) : Calls Try.prog 152 #[.agg #[.int .i64 a0, .int .i64 a1], .agg #[.int .i64 b0, .int .i64 b1], .func (.func 156) #[] #[]] w fun r' w' => r' = .returned (.agg #[.int .i64 (each_meet_0 a0 a1 b0 b1), .int .i64 (each_meet_1 a0 a1 b0 b1)]) ∧ Below w.heap.size w w' :=
  fun_ok0 wideP eqTab_ok Cb_2_ok 3 w (each_meet_ev a0 a1 b0 b1 w) (needs_cons (by first | decide +kernel | (intros; kernel_rfl) | exact ⟨by kernel_rfl, by kernel_rfl⟩) (needs_cons (by first | decide +kernel | (intros; kernel_rfl) | exact ⟨by kernel_rfl, by kernel_rfl⟩) (needs_cons (by first | decide +kernel | (intros; kernel_rfl) | exact ⟨by kernel_rfl, by kernel_rfl⟩) (needs_cons (by first | decide +kernel | (intros; kernel_rfl) | exact ⟨by kernel_rfl, by kernel_rfl⟩) (needs_cons (by first | decide +kernel | (intros; kernel_rfl) | exact ⟨by kernel_rfl, by kernel_rfl⟩) (needs_cons (by first | decide +kernel | (intros; kernel_rfl) | exact ⟨by kernel_rfl, by kernel_rfl⟩) (needs_cons (by first | decide +kernel | (intros; kernel_rfl) | exact ⟨by kernel_rfl, by kernel_rfl⟩) (needs_cons (by first | decide +kernel | (intros; kernel_rfl) | exact ⟨by kernel_rfl, by kernel_rfl⟩) (needs_cons (by first | decide +kernel | (intros; kernel_rfl) | exact ⟨by kernel_rfl, by kernel_rfl⟩) (needs_cons (by first | decide +kernel | (intros; kernel_rfl) | exact ⟨by kernel_rfl, by kernel_rfl⟩) (needs_cons (by first | decide +kernel | (intros; kernel_rfl) | exact ⟨by kernel_rfl, by kernel_rfl⟩) (needs_cons (by first | decide +kernel | (intros; kernel_rfl) | exact ⟨by kernel_rfl, by kernel_rfl⟩) needs_nil))))))))))))
def each_meet_t : World → List AV → Boxes → Seqs → Option CRes
  | _, [.v (.agg ⟨[.int .i64 a0, .int .i64 a1]⟩), .v (.agg ⟨[.int .i64 b0, .int .i64 b1]⟩), .v (.func (.func 156) ⟨[]⟩ ⟨[]⟩)], _, _ => some (.v (.agg #[.int .i64 (each_meet_0 a0 a1 b0 b1), .int .i64 (each_meet_1 a0 a1 b0 b1)]), [], [])
  | _, _, _, _ => none
theorem each_meet_tok : TOk Try.prog 152 each_meet_t := by
  intro w args bx sq c news ps h hp
  unfold each_meet_t at h
  split at h <;> first | (cases h; done) | skip
  cases h
  exact tok0 (args := [_, _, _]) fun R => each_meet_c _ _ _ _ R
def each_meet_t2 := orT each_meet_t each_join_t2
theorem each_meet_tok2 : TOk Try.prog 152 each_meet_t2 := orT_ok each_meet_tok each_join_tok2
noncomputable def Cb_3 := addC 152 each_meet_t2 Cb_2
theorem Cb_3_ok : COk Try.prog Cb_3 := addC_ok each_meet_tok2 Cb_2_ok

def vec_Good (a0 : Int) (a1 : Int) : Bool := each_good_0 a0 a1 (0 : Int) (0 : Int) == a0 && each_good_1 a0 a1 (0 : Int) (0 : Int) == a1
theorem vec_Good_ev (a0 : Int) (a1 : Int) (w : World) : evF (envAt Try.prog eqTab Cb_3 w) 6 103 (rawAVs [.agg #[.int .i64 a0, .int .i64 a1]]) [] = some (.v (.bool (vec_Good a0 a1)), [], []) := by kernel_rfl
theorem vec_Good_c (a0 : Int) (a1 : Int) (w : World) : Calls Try.prog 103 #[.agg #[.int .i64 a0, .int .i64 a1]] w fun r' w' => r' = .returned (.bool (vec_Good a0 a1)) ∧ Below w.heap.size w w' :=
  fun_ok0 wideP eqTab_ok Cb_3_ok 6 w (vec_Good_ev a0 a1 w) needs_nil
def vec_Good_t : World → List AV → Boxes → Seqs → Option CRes
  | _, [.v (.agg ⟨[.int .i64 a0, .int .i64 a1]⟩)], _, _ => some (.v (.bool (vec_Good a0 a1)), [], [])
  | _, _, _, _ => none
theorem vec_Good_tok : TOk Try.prog 103 vec_Good_t := by
  intro w args bx sq c news ps h hp
  unfold vec_Good_t at h
  split at h <;> first | (cases h; done) | skip
  cases h
  exact tok0 (args := [_]) fun R => vec_Good_c _ _ R
noncomputable def Cb_4 := addC 103 vec_Good_t Cb_3
theorem Cb_4_ok : COk Try.prog Cb_4 := addC_ok vec_Good_tok Cb_3_ok

def vec_Meet_0 (a0 : Int) (a1 : Int) (b0 : Int) (b1 : Int) : Int := each_meet_0 a0 a1 b0 b1
def vec_Meet_1 (a0 : Int) (a1 : Int) (b0 : Int) (b1 : Int) : Int := each_meet_1 a0 a1 b0 b1
theorem vec_Meet_ev (a0 : Int) (a1 : Int) (b0 : Int) (b1 : Int) (w : World) : evF (envAt Try.prog eqTab Cb_4 w) 6 112 (rawAVs [.agg #[.int .i64 a0, .int .i64 a1], .agg #[.int .i64 b0, .int .i64 b1]]) [] = some (.v (.agg #[.int .i64 (vec_Meet_0 a0 a1 b0 b1), .int .i64 (vec_Meet_1 a0 a1 b0 b1)]), [], []) := by kernel_rfl
theorem vec_Meet_c (a0 : Int) (a1 : Int) (b0 : Int) (b1 : Int) (w : World) : Calls Try.prog 112 #[.agg #[.int .i64 a0, .int .i64 a1], .agg #[.int .i64 b0, .int .i64 b1]] w fun r' w' => r' = .returned (.agg #[.int .i64 (vec_Meet_0 a0 a1 b0 b1), .int .i64 (vec_Meet_1 a0 a1 b0 b1)]) ∧ Below w.heap.size w w' :=
  fun_ok0 wideP eqTab_ok Cb_4_ok 6 w (vec_Meet_ev a0 a1 b0 b1 w) needs_nil
def vec_Meet_t : World → List AV → Boxes → Seqs → Option CRes
  | _, [.v (.agg ⟨[.int .i64 a0, .int .i64 a1]⟩), .v (.agg ⟨[.int .i64 b0, .int .i64 b1]⟩)], _, _ => some (.v (.agg #[.int .i64 (vec_Meet_0 a0 a1 b0 b1), .int .i64 (vec_Meet_1 a0 a1 b0 b1)]), [], [])
  | _, _, _, _ => none
theorem vec_Meet_tok : TOk Try.prog 112 vec_Meet_t := by
  intro w args bx sq c news ps h hp
  unfold vec_Meet_t at h
  split at h <;> first | (cases h; done) | skip
  cases h
  exact tok0 (args := [_, _]) fun R => vec_Meet_c _ _ _ _ R
noncomputable def Cb_5 := addC 112 vec_Meet_t Cb_4
theorem Cb_5_ok : COk Try.prog Cb_5 := addC_ok vec_Meet_tok Cb_4_ok

def vec_Covers (a0 : Int) (a1 : Int) (b0 : Int) (b1 : Int) : Bool := vec_Meet_0 a0 a1 b0 b1 == b0 && vec_Meet_1 a0 a1 b0 b1 == b1
theorem vec_Covers_ev (a0 : Int) (a1 : Int) (b0 : Int) (b1 : Int) (w : World) : evF (envAt Try.prog eqTab Cb_5 w) 6 53 (rawAVs [.agg #[.int .i64 a0, .int .i64 a1], .agg #[.int .i64 b0, .int .i64 b1]]) [] = some (.v (.bool (vec_Covers a0 a1 b0 b1)), [], []) := by kernel_rfl
theorem vec_Covers_c (a0 : Int) (a1 : Int) (b0 : Int) (b1 : Int) (w : World) : Calls Try.prog 53 #[.agg #[.int .i64 a0, .int .i64 a1], .agg #[.int .i64 b0, .int .i64 b1]] w fun r' w' => r' = .returned (.bool (vec_Covers a0 a1 b0 b1)) ∧ Below w.heap.size w w' :=
  fun_ok0 wideP eqTab_ok Cb_5_ok 6 w (vec_Covers_ev a0 a1 b0 b1 w) needs_nil
def vec_Covers_t : World → List AV → Boxes → Seqs → Option CRes
  | _, [.v (.agg ⟨[.int .i64 a0, .int .i64 a1]⟩), .v (.agg ⟨[.int .i64 b0, .int .i64 b1]⟩)], _, _ => some (.v (.bool (vec_Covers a0 a1 b0 b1)), [], [])
  | _, _, _, _ => none
theorem vec_Covers_tok : TOk Try.prog 53 vec_Covers_t := by
  intro w args bx sq c news ps h hp
  unfold vec_Covers_t at h
  split at h <;> first | (cases h; done) | skip
  cases h
  exact tok0 (args := [_, _]) fun R => vec_Covers_c _ _ _ _ R
noncomputable def Cb_6 := addC 53 vec_Covers_t Cb_5
theorem Cb_6_ok : COk Try.prog Cb_6 := addC_ok vec_Covers_tok Cb_5_ok

def r06_Good (a0 : Int) (a1 : Int) : Bool := decide (a0 ≥ (0 : Int)) && decide (a0 ≤ (1099511627776 : Int)) && decide (a1 ≥ (0 : Int)) && decide (a1 ≤ (1099511627776 : Int))
theorem r06_Good_ev (a0 : Int) (a1 : Int) (w : World) : evF (envAt Try.prog eqTab Cb_6 w) 6 100 (rawAVs [.agg #[.int .i64 a0, .int .i64 a1]]) [] = some (.v (.bool (r06_Good a0 a1)), [], []) := by kernel_rfl
theorem r06_Good_c (a0 : Int) (a1 : Int) (w : World) : Calls Try.prog 100 #[.agg #[.int .i64 a0, .int .i64 a1]] w fun r' w' => r' = .returned (.bool (r06_Good a0 a1)) ∧ Below w.heap.size w w' :=
  fun_ok0 wideP eqTab_ok Cb_6_ok 6 w (r06_Good_ev a0 a1 w) needs_nil
def r06_Good_t : World → List AV → Boxes → Seqs → Option CRes
  | _, [.v (.agg ⟨[.int .i64 a0, .int .i64 a1]⟩)], _, _ => some (.v (.bool (r06_Good a0 a1)), [], [])
  | _, _, _, _ => none
theorem r06_Good_tok : TOk Try.prog 100 r06_Good_t := by
  intro w args bx sq c news ps h hp
  unfold r06_Good_t at h
  split at h <;> first | (cases h; done) | skip
  cases h
  exact tok0 (args := [_]) fun R => r06_Good_c _ _ R
noncomputable def Cb_7 := addC 100 r06_Good_t Cb_6
theorem Cb_7_ok : COk Try.prog Cb_7 := addC_ok r06_Good_tok Cb_6_ok

def r06_Covers (a0 : Int) (a1 : Int) (b0 : Int) (b1 : Int) : Bool := decide (a0 ≥ b0) && decide (a1 ≥ b1)
theorem r06_Covers_ev (a0 : Int) (a1 : Int) (b0 : Int) (b1 : Int) (w : World) : evF (envAt Try.prog eqTab Cb_7 w) 6 107 (rawAVs [.agg #[.int .i64 a0, .int .i64 a1], .agg #[.int .i64 b0, .int .i64 b1]]) [] = some (.v (.bool (r06_Covers a0 a1 b0 b1)), [], []) := by kernel_rfl
theorem r06_Covers_c (a0 : Int) (a1 : Int) (b0 : Int) (b1 : Int) (w : World) : Calls Try.prog 107 #[.agg #[.int .i64 a0, .int .i64 a1], .agg #[.int .i64 b0, .int .i64 b1]] w fun r' w' => r' = .returned (.bool (r06_Covers a0 a1 b0 b1)) ∧ Below w.heap.size w w' :=
  fun_ok0 wideP eqTab_ok Cb_7_ok 6 w (r06_Covers_ev a0 a1 b0 b1 w) needs_nil
def r06_Covers_t : World → List AV → Boxes → Seqs → Option CRes
  | _, [.v (.agg ⟨[.int .i64 a0, .int .i64 a1]⟩), .v (.agg ⟨[.int .i64 b0, .int .i64 b1]⟩)], _, _ => some (.v (.bool (r06_Covers a0 a1 b0 b1)), [], [])
  | _, _, _, _ => none
theorem r06_Covers_tok : TOk Try.prog 107 r06_Covers_t := by
  intro w args bx sq c news ps h hp
  unfold r06_Covers_t at h
  split at h <;> first | (cases h; done) | skip
  cases h
  exact tok0 (args := [_, _]) fun R => r06_Covers_c _ _ _ _ R
noncomputable def Cb_8 := addC 107 r06_Covers_t Cb_7
theorem Cb_8_ok : COk Try.prog Cb_8 := addC_ok r06_Covers_tok Cb_7_ok

def cell_written (a0 : Int) (a1 : Int) (a2 : Int) (a3 : Int) (a4 : Bool) (a5 : ByteArray) (_a6 : Int) (_a7 : Int) : Bool := !(a0 == (0 : Int) && a1 == (0 : Int) && (a2 == (0 : Int) && a3 == (0 : Int) && (a4 == false && (a5.toList == (ByteArray.mk #[]).toList && true))))
theorem cell_written_ev (a0 : Int) (a1 : Int) (a2 : Int) (a3 : Int) (a4 : Bool) (a5 : ByteArray) (a6 : Int) (a7 : Int) (w : World) : evF (envAt Try.prog eqTab Cb_8 w) 6 105 (rawAVs [.agg #[.int .i64 a0, .int .i64 a1, .int .i64 a2, .int .i64 a3, .bool a4, .string a5, .int .i64 a6, .int .i64 a7]]) [] = some (.v (.bool (cell_written a0 a1 a2 a3 a4 a5 a6 a7)), [], []) := by kernel_rfl
theorem cell_written_c (a0 : Int) (a1 : Int) (a2 : Int) (a3 : Int) (a4 : Bool) (a5 : ByteArray) (a6 : Int) (a7 : Int) (w : World) : Calls Try.prog 105 #[.agg #[.int .i64 a0, .int .i64 a1, .int .i64 a2, .int .i64 a3, .bool a4, .string a5, .int .i64 a6, .int .i64 a7]] w fun r' w' => r' = .returned (.bool (cell_written a0 a1 a2 a3 a4 a5 a6 a7)) ∧ Below w.heap.size w w' :=
  fun_ok0 wideP eqTab_ok Cb_8_ok 6 w (cell_written_ev a0 a1 a2 a3 a4 a5 a6 a7 w) needs_nil
def cell_written_t : World → List AV → Boxes → Seqs → Option CRes
  | _, [.v (.agg ⟨[.int .i64 a0, .int .i64 a1, .int .i64 a2, .int .i64 a3, .bool a4, .string a5, .int .i64 a6, .int .i64 a7]⟩)], _, _ => some (.v (.bool (cell_written a0 a1 a2 a3 a4 a5 a6 a7)), [], [])
  | _, _, _, _ => none
theorem cell_written_tok : TOk Try.prog 105 cell_written_t := by
  intro w args bx sq c news ps h hp
  unfold cell_written_t at h
  split at h <;> first | (cases h; done) | skip
  cases h
  exact tok0 (args := [_]) fun R => cell_written_c _ _ _ _ _ _ _ _ R
noncomputable def Cb_9 := addC 105 cell_written_t Cb_8
theorem Cb_9_ok : COk Try.prog Cb_9 := addC_ok cell_written_tok Cb_8_ok

def cell_Good (a : Int) (b0 : Int) (b1 : Int) (b2 : Int) (b3 : Int) (b4 : Bool) (b5 : ByteArray) (b6 : Int) (b7 : Int) : Bool := bif bif a == (1 : Int) then !(b6 == (0 : Int) && b7 == (0 : Int)) else !a == (2 : Int) || (b4 || !vec_Good b6 b7) then bif a == (1 : Int) then false else bif a == (2 : Int) then false else false else bif !cell_written b0 b1 b2 b3 b4 b5 b6 b7 then true else decide (b0 > (0 : Int)) && stamp_Good b0 b1 && vec_Good b2 b3 && decide ((↑b5.size : Int) ≤ (64 : Int)) && !(b4 && !b5.toList == (ByteArray.mk #[]).toList)
theorem cell_Good_ev (a : Int) (b0 : Int) (b1 : Int) (b2 : Int) (b3 : Int) (b4 : Bool) (b5 : ByteArray) (b6 : Int) (b7 : Int) (w : World) : evF (envAt Try.prog eqTab Cb_9 w) 6 38 (rawAVs [.int .i64 a, .agg #[.int .i64 b0, .int .i64 b1, .int .i64 b2, .int .i64 b3, .bool b4, .string b5, .int .i64 b6, .int .i64 b7]]) [] = some (.v (.bool (cell_Good a b0 b1 b2 b3 b4 b5 b6 b7)), [], []) := by kernel_rfl
theorem cell_Good_c (a : Int) (b0 : Int) (b1 : Int) (b2 : Int) (b3 : Int) (b4 : Bool) (b5 : ByteArray) (b6 : Int) (b7 : Int) (w : World) : Calls Try.prog 38 #[.int .i64 a, .agg #[.int .i64 b0, .int .i64 b1, .int .i64 b2, .int .i64 b3, .bool b4, .string b5, .int .i64 b6, .int .i64 b7]] w fun r' w' => r' = .returned (.bool (cell_Good a b0 b1 b2 b3 b4 b5 b6 b7)) ∧ Below w.heap.size w w' :=
  fun_ok0 wideP eqTab_ok Cb_9_ok 6 w (cell_Good_ev a b0 b1 b2 b3 b4 b5 b6 b7 w) needs_nil
def cell_Good_t : World → List AV → Boxes → Seqs → Option CRes
  | _, [.v (.int .i64 a), .v (.agg ⟨[.int .i64 b0, .int .i64 b1, .int .i64 b2, .int .i64 b3, .bool b4, .string b5, .int .i64 b6, .int .i64 b7]⟩)], _, _ => some (.v (.bool (cell_Good a b0 b1 b2 b3 b4 b5 b6 b7)), [], [])
  | _, _, _, _ => none
theorem cell_Good_tok : TOk Try.prog 38 cell_Good_t := by
  intro w args bx sq c news ps h hp
  unfold cell_Good_t at h
  split at h <;> first | (cases h; done) | skip
  cases h
  exact tok0 (args := [_, _]) fun R => cell_Good_c _ _ _ _ _ _ _ _ _ R
noncomputable def Cb_10 := addC 38 cell_Good_t Cb_9
theorem Cb_10_ok : COk Try.prog Cb_10 := addC_ok cell_Good_tok Cb_9_ok

def cell_Of_k3 (_a : Int) (_b0 : Int) (_b1 : Int) (_c0 : Int) (_c1 : Int) (_d : Bool) (e : ByteArray) : Bool := decide ((↑e.size : Int) > (64 : Int))
def cell_Of_k2 (a : Int) (b0 : Int) (b1 : Int) (c0 : Int) (c1 : Int) (d : Bool) (e : ByteArray) : Bool := bif a != (1 : Int) && a != (2 : Int) then a != (1 : Int) && a != (2 : Int) else bif b0 == (0 : Int) && b1 == (0 : Int) then b0 == (0 : Int) && b1 == (0 : Int) else bif !stamp_Good b0 b1 then !stamp_Good b0 b1 else bif !vec_Good c0 c1 then !vec_Good c0 c1 else d && !e.toList == (ByteArray.mk #[]).toList
def cell_Of_k1 (a : Int) (b0 : Int) (b1 : Int) (c0 : Int) (c1 : Int) (d : Bool) (e : ByteArray) : Bool := (cell_Of_k2 a b0 b1 c0 c1 d e) || ((cell_Of_k3 a b0 b1 c0 c1 d e) || d && a == (2 : Int))
def cell_Of_k0 (a : Int) (b0 : Int) (b1 : Int) (c0 : Int) (c1 : Int) (d : Bool) (e : ByteArray) : Int := bif (cell_Of_k2 a b0 b1 c0 c1 d e) then (0 : Int) else bif (cell_Of_k3 a b0 b1 c0 c1 d e) then (0 : Int) else (0 : Int)
def cell_Of_0 (a : Int) (b0 : Int) (b1 : Int) (c0 : Int) (c1 : Int) (d : Bool) (e : ByteArray) : Int := bif (cell_Of_k1 a b0 b1 c0 c1 d e) then (cell_Of_k0 a b0 b1 c0 c1 d e) else b0
def cell_Of_1 (a : Int) (b0 : Int) (b1 : Int) (c0 : Int) (c1 : Int) (d : Bool) (e : ByteArray) : Int := bif (cell_Of_k1 a b0 b1 c0 c1 d e) then (cell_Of_k0 a b0 b1 c0 c1 d e) else b1
def cell_Of_2 (a : Int) (b0 : Int) (b1 : Int) (c0 : Int) (c1 : Int) (d : Bool) (e : ByteArray) : Int := bif (cell_Of_k1 a b0 b1 c0 c1 d e) then (cell_Of_k0 a b0 b1 c0 c1 d e) else c0
def cell_Of_3 (a : Int) (b0 : Int) (b1 : Int) (c0 : Int) (c1 : Int) (d : Bool) (e : ByteArray) : Int := bif (cell_Of_k1 a b0 b1 c0 c1 d e) then (cell_Of_k0 a b0 b1 c0 c1 d e) else c1
def cell_Of_4 (a : Int) (b0 : Int) (b1 : Int) (c0 : Int) (c1 : Int) (d : Bool) (e : ByteArray) : Bool := bif (cell_Of_k1 a b0 b1 c0 c1 d e) then bif (cell_Of_k2 a b0 b1 c0 c1 d e) then false else bif (cell_Of_k3 a b0 b1 c0 c1 d e) then false else false else d
def cell_Of_5 (a : Int) (b0 : Int) (b1 : Int) (c0 : Int) (c1 : Int) (d : Bool) (e : ByteArray) : ByteArray := bif (cell_Of_k1 a b0 b1 c0 c1 d e) then bif (cell_Of_k2 a b0 b1 c0 c1 d e) then ByteArray.mk #[] else bif (cell_Of_k3 a b0 b1 c0 c1 d e) then ByteArray.mk #[] else ByteArray.mk #[] else e
def cell_Of_6 (a : Int) (b0 : Int) (b1 : Int) (c0 : Int) (c1 : Int) (d : Bool) (e : ByteArray) : Int := bif (cell_Of_k1 a b0 b1 c0 c1 d e) then bif (cell_Of_k2 a b0 b1 c0 c1 d e) then (0 : Int) else bif (cell_Of_k3 a b0 b1 c0 c1 d e) then (0 : Int) else c0 else (0 : Int)
def cell_Of_7 (a : Int) (b0 : Int) (b1 : Int) (c0 : Int) (c1 : Int) (d : Bool) (e : ByteArray) : Int := bif (cell_Of_k1 a b0 b1 c0 c1 d e) then bif (cell_Of_k2 a b0 b1 c0 c1 d e) then (0 : Int) else bif (cell_Of_k3 a b0 b1 c0 c1 d e) then (0 : Int) else c1 else (0 : Int)
def cell_Of_8 (a : Int) (b0 : Int) (b1 : Int) (c0 : Int) (c1 : Int) (d : Bool) (e : ByteArray) : Int := bif (cell_Of_k1 a b0 b1 c0 c1 d e) then bif (cell_Of_k2 a b0 b1 c0 c1 d e) then (2 : Int) else bif (cell_Of_k3 a b0 b1 c0 c1 d e) then (3 : Int) else (0 : Int) else (0 : Int)
theorem cell_Of_ev (a : Int) (b0 : Int) (b1 : Int) (c0 : Int) (c1 : Int) (d : Bool) (e : ByteArray) (w : World) : evF (envAt Try.prog eqTab Cb_10 w) 6 36 (rawAVs [.int .i64 a, .agg #[.int .i64 b0, .int .i64 b1], .agg #[.int .i64 c0, .int .i64 c1], .bool d, .string e]) [] = some (.v (.tuple #[.agg #[.int .i64 (cell_Of_0 a b0 b1 c0 c1 d e), .int .i64 (cell_Of_1 a b0 b1 c0 c1 d e), .int .i64 (cell_Of_2 a b0 b1 c0 c1 d e), .int .i64 (cell_Of_3 a b0 b1 c0 c1 d e), .bool (cell_Of_4 a b0 b1 c0 c1 d e), .string (cell_Of_5 a b0 b1 c0 c1 d e), .int .i64 (cell_Of_6 a b0 b1 c0 c1 d e), .int .i64 (cell_Of_7 a b0 b1 c0 c1 d e)], .int .i64 (cell_Of_8 a b0 b1 c0 c1 d e)]), [], []) := by kernel_rfl
theorem cell_Of_c (a : Int) (b0 : Int) (b1 : Int) (c0 : Int) (c1 : Int) (d : Bool) (e : ByteArray) (w : World) : Calls Try.prog 36 #[.int .i64 a, .agg #[.int .i64 b0, .int .i64 b1], .agg #[.int .i64 c0, .int .i64 c1], .bool d, .string e] w fun r' w' => r' = .returned (.tuple #[.agg #[.int .i64 (cell_Of_0 a b0 b1 c0 c1 d e), .int .i64 (cell_Of_1 a b0 b1 c0 c1 d e), .int .i64 (cell_Of_2 a b0 b1 c0 c1 d e), .int .i64 (cell_Of_3 a b0 b1 c0 c1 d e), .bool (cell_Of_4 a b0 b1 c0 c1 d e), .string (cell_Of_5 a b0 b1 c0 c1 d e), .int .i64 (cell_Of_6 a b0 b1 c0 c1 d e), .int .i64 (cell_Of_7 a b0 b1 c0 c1 d e)], .int .i64 (cell_Of_8 a b0 b1 c0 c1 d e)]) ∧ Below w.heap.size w w' :=
  fun_ok0 wideP eqTab_ok Cb_10_ok 6 w (cell_Of_ev a b0 b1 c0 c1 d e w) needs_nil
def cell_Of_t : World → List AV → Boxes → Seqs → Option CRes
  | _, [.v (.int .i64 a), .v (.agg ⟨[.int .i64 b0, .int .i64 b1]⟩), .v (.agg ⟨[.int .i64 c0, .int .i64 c1]⟩), .v (.bool d), .v (.string e)], _, _ => some (.v (.tuple #[.agg #[.int .i64 (cell_Of_0 a b0 b1 c0 c1 d e), .int .i64 (cell_Of_1 a b0 b1 c0 c1 d e), .int .i64 (cell_Of_2 a b0 b1 c0 c1 d e), .int .i64 (cell_Of_3 a b0 b1 c0 c1 d e), .bool (cell_Of_4 a b0 b1 c0 c1 d e), .string (cell_Of_5 a b0 b1 c0 c1 d e), .int .i64 (cell_Of_6 a b0 b1 c0 c1 d e), .int .i64 (cell_Of_7 a b0 b1 c0 c1 d e)], .int .i64 (cell_Of_8 a b0 b1 c0 c1 d e)]), [], [])
  | _, _, _, _ => none
theorem cell_Of_tok : TOk Try.prog 36 cell_Of_t := by
  intro w args bx sq c news ps h hp
  unfold cell_Of_t at h
  split at h <;> first | (cases h; done) | skip
  cases h
  exact tok0 (args := [_, _, _, _, _]) fun R => cell_Of_c _ _ _ _ _ _ _ R
noncomputable def Cb_11 := addC 36 cell_Of_t Cb_10
theorem Cb_11_ok : COk Try.prog Cb_11 := addC_ok cell_Of_tok Cb_10_ok

def cell_Seen_k0 (a : Int) (b0 : Int) (b1 : Int) (b2 : Int) (b3 : Int) (b4 : Bool) (b5 : ByteArray) (b6 : Int) (b7 : Int) : Bool := !cell_Good a b0 b1 b2 b3 b4 b5 b6 b7 || !cell_written b0 b1 b2 b3 b4 b5 b6 b7 || b4 || !vec_Covers b2 b3 b6 b7
def cell_Seen_0 (a : Int) (b0 : Int) (b1 : Int) (b2 : Int) (b3 : Int) (b4 : Bool) (b5 : ByteArray) (b6 : Int) (b7 : Int) : ByteArray := bif (cell_Seen_k0 a b0 b1 b2 b3 b4 b5 b6 b7) then ByteArray.mk #[] else b5
def cell_Seen_1 (a : Int) (b0 : Int) (b1 : Int) (b2 : Int) (b3 : Int) (b4 : Bool) (b5 : ByteArray) (b6 : Int) (b7 : Int) : Bool := bif (cell_Seen_k0 a b0 b1 b2 b3 b4 b5 b6 b7) then false else true
theorem cell_Seen_ev (a : Int) (b0 : Int) (b1 : Int) (b2 : Int) (b3 : Int) (b4 : Bool) (b5 : ByteArray) (b6 : Int) (b7 : Int) (w : World) : evF (envAt Try.prog eqTab Cb_11 w) 6 40 (rawAVs [.int .i64 a, .agg #[.int .i64 b0, .int .i64 b1, .int .i64 b2, .int .i64 b3, .bool b4, .string b5, .int .i64 b6, .int .i64 b7]]) [] = some (.v (.tuple #[.string (cell_Seen_0 a b0 b1 b2 b3 b4 b5 b6 b7), .bool (cell_Seen_1 a b0 b1 b2 b3 b4 b5 b6 b7)]), [], []) := by kernel_rfl
theorem cell_Seen_c (a : Int) (b0 : Int) (b1 : Int) (b2 : Int) (b3 : Int) (b4 : Bool) (b5 : ByteArray) (b6 : Int) (b7 : Int) (w : World) : Calls Try.prog 40 #[.int .i64 a, .agg #[.int .i64 b0, .int .i64 b1, .int .i64 b2, .int .i64 b3, .bool b4, .string b5, .int .i64 b6, .int .i64 b7]] w fun r' w' => r' = .returned (.tuple #[.string (cell_Seen_0 a b0 b1 b2 b3 b4 b5 b6 b7), .bool (cell_Seen_1 a b0 b1 b2 b3 b4 b5 b6 b7)]) ∧ Below w.heap.size w w' :=
  fun_ok0 wideP eqTab_ok Cb_11_ok 6 w (cell_Seen_ev a b0 b1 b2 b3 b4 b5 b6 b7 w) needs_nil
def cell_Seen_t : World → List AV → Boxes → Seqs → Option CRes
  | _, [.v (.int .i64 a), .v (.agg ⟨[.int .i64 b0, .int .i64 b1, .int .i64 b2, .int .i64 b3, .bool b4, .string b5, .int .i64 b6, .int .i64 b7]⟩)], _, _ => some (.v (.tuple #[.string (cell_Seen_0 a b0 b1 b2 b3 b4 b5 b6 b7), .bool (cell_Seen_1 a b0 b1 b2 b3 b4 b5 b6 b7)]), [], [])
  | _, _, _, _ => none
theorem cell_Seen_tok : TOk Try.prog 40 cell_Seen_t := by
  intro w args bx sq c news ps h hp
  unfold cell_Seen_t at h
  split at h <;> first | (cases h; done) | skip
  cases h
  exact tok0 (args := [_, _]) fun R => cell_Seen_c _ _ _ _ _ _ _ _ _ R
noncomputable def Cb_12 := addC 40 cell_Seen_t Cb_11
theorem Cb_12_ok : COk Try.prog Cb_12 := addC_ok cell_Seen_tok Cb_11_ok

def r08_Zero (a0 : Int) (a1 : Int) : Bool := a0 == (0 : Int) && a1 == (0 : Int)
theorem r08_Zero_ev (a0 : Int) (a1 : Int) (w : World) : evF (envAt Try.prog eqTab Cb_12 w) 6 108 (rawAVs [.agg #[.int .i64 a0, .int .i64 a1]]) [] = some (.v (.bool (r08_Zero a0 a1)), [], []) := by kernel_rfl
theorem r08_Zero_c (a0 : Int) (a1 : Int) (w : World) : Calls Try.prog 108 #[.agg #[.int .i64 a0, .int .i64 a1]] w fun r' w' => r' = .returned (.bool (r08_Zero a0 a1)) ∧ Below w.heap.size w w' :=
  fun_ok0 wideP eqTab_ok Cb_12_ok 6 w (r08_Zero_ev a0 a1 w) needs_nil
def r08_Zero_t : World → List AV → Boxes → Seqs → Option CRes
  | _, [.v (.agg ⟨[.int .i64 a0, .int .i64 a1]⟩)], _, _ => some (.v (.bool (r08_Zero a0 a1)), [], [])
  | _, _, _, _ => none
theorem r08_Zero_tok : TOk Try.prog 108 r08_Zero_t := by
  intro w args bx sq c news ps h hp
  unfold r08_Zero_t at h
  split at h <;> first | (cases h; done) | skip
  cases h
  exact tok0 (args := [_]) fun R => r08_Zero_c _ _ R
noncomputable def Cb_13 := addC 108 r08_Zero_t Cb_12
theorem Cb_13_ok : COk Try.prog Cb_13 := addC_ok r08_Zero_tok Cb_12_ok

def r08_Written (a0 : Int) (a1 : Int) (a2 : Int) (a3 : Int) (a4 : Bool) (a5 : ByteArray) (_a6 : Int) (_a7 : Int) : Bool := a0 != (0 : Int) || a1 != (0 : Int) || a2 != (0 : Int) || a3 != (0 : Int) || a4 || !a5.toList == (ByteArray.mk #[]).toList
theorem r08_Written_ev (a0 : Int) (a1 : Int) (a2 : Int) (a3 : Int) (a4 : Bool) (a5 : ByteArray) (a6 : Int) (a7 : Int) (w : World) : evF (envAt Try.prog eqTab Cb_13 w) 6 106 (rawAVs [.agg #[.int .i64 a0, .int .i64 a1, .int .i64 a2, .int .i64 a3, .bool a4, .string a5, .int .i64 a6, .int .i64 a7]]) [] = some (.v (.bool (r08_Written a0 a1 a2 a3 a4 a5 a6 a7)), [], []) := by kernel_rfl
theorem r08_Written_c (a0 : Int) (a1 : Int) (a2 : Int) (a3 : Int) (a4 : Bool) (a5 : ByteArray) (a6 : Int) (a7 : Int) (w : World) : Calls Try.prog 106 #[.agg #[.int .i64 a0, .int .i64 a1, .int .i64 a2, .int .i64 a3, .bool a4, .string a5, .int .i64 a6, .int .i64 a7]] w fun r' w' => r' = .returned (.bool (r08_Written a0 a1 a2 a3 a4 a5 a6 a7)) ∧ Below w.heap.size w w' :=
  fun_ok0 wideP eqTab_ok Cb_13_ok 6 w (r08_Written_ev a0 a1 a2 a3 a4 a5 a6 a7 w) needs_nil
def r08_Written_t : World → List AV → Boxes → Seqs → Option CRes
  | _, [.v (.agg ⟨[.int .i64 a0, .int .i64 a1, .int .i64 a2, .int .i64 a3, .bool a4, .string a5, .int .i64 a6, .int .i64 a7]⟩)], _, _ => some (.v (.bool (r08_Written a0 a1 a2 a3 a4 a5 a6 a7)), [], [])
  | _, _, _, _ => none
theorem r08_Written_tok : TOk Try.prog 106 r08_Written_t := by
  intro w args bx sq c news ps h hp
  unfold r08_Written_t at h
  split at h <;> first | (cases h; done) | skip
  cases h
  exact tok0 (args := [_]) fun R => r08_Written_c _ _ _ _ _ _ _ _ R
noncomputable def Cb_14 := addC 106 r08_Written_t Cb_13
theorem Cb_14_ok : COk Try.prog Cb_14 := addC_ok r08_Written_tok Cb_13_ok

def r08_Good (a : Int) (b0 : Int) (b1 : Int) (b2 : Int) (b3 : Int) (b4 : Bool) (b5 : ByteArray) (b6 : Int) (b7 : Int) : Bool := bif a == (1 : Int) && !r08_Zero b6 b7 || a == (2 : Int) && (b4 || !r06_Good b6 b7) || a != (1 : Int) && a != (2 : Int) then false else bif !r08_Written b0 b1 b2 b3 b4 b5 b6 b7 then true else r05_Good b0 b1 && decide (b0 > (0 : Int)) && r06_Good b2 b3 && decide ((↑b5.size : Int) ≤ (64 : Int)) && (!b4 || b5.toList == (ByteArray.mk #[]).toList)
theorem r08_Good_ev (a : Int) (b0 : Int) (b1 : Int) (b2 : Int) (b3 : Int) (b4 : Bool) (b5 : ByteArray) (b6 : Int) (b7 : Int) (w : World) : evF (envAt Try.prog eqTab Cb_14 w) 6 42 (rawAVs [.int .i64 a, .agg #[.int .i64 b0, .int .i64 b1, .int .i64 b2, .int .i64 b3, .bool b4, .string b5, .int .i64 b6, .int .i64 b7]]) [] = some (.v (.bool (r08_Good a b0 b1 b2 b3 b4 b5 b6 b7)), [], []) := by kernel_rfl
theorem r08_Good_c (a : Int) (b0 : Int) (b1 : Int) (b2 : Int) (b3 : Int) (b4 : Bool) (b5 : ByteArray) (b6 : Int) (b7 : Int) (w : World) : Calls Try.prog 42 #[.int .i64 a, .agg #[.int .i64 b0, .int .i64 b1, .int .i64 b2, .int .i64 b3, .bool b4, .string b5, .int .i64 b6, .int .i64 b7]] w fun r' w' => r' = .returned (.bool (r08_Good a b0 b1 b2 b3 b4 b5 b6 b7)) ∧ Below w.heap.size w w' :=
  fun_ok0 wideP eqTab_ok Cb_14_ok 6 w (r08_Good_ev a b0 b1 b2 b3 b4 b5 b6 b7 w) needs_nil
def r08_Good_t : World → List AV → Boxes → Seqs → Option CRes
  | _, [.v (.int .i64 a), .v (.agg ⟨[.int .i64 b0, .int .i64 b1, .int .i64 b2, .int .i64 b3, .bool b4, .string b5, .int .i64 b6, .int .i64 b7]⟩)], _, _ => some (.v (.bool (r08_Good a b0 b1 b2 b3 b4 b5 b6 b7)), [], [])
  | _, _, _, _ => none
theorem r08_Good_tok : TOk Try.prog 42 r08_Good_t := by
  intro w args bx sq c news ps h hp
  unfold r08_Good_t at h
  split at h <;> first | (cases h; done) | skip
  cases h
  exact tok0 (args := [_, _]) fun R => r08_Good_c _ _ _ _ _ _ _ _ _ R
noncomputable def Cb_15 := addC 42 r08_Good_t Cb_14
theorem Cb_15_ok : COk Try.prog Cb_15 := addC_ok r08_Good_tok Cb_14_ok

def r08_Of_k1 (_a : Int) (_b0 : Int) (_b1 : Int) (_c0 : Int) (_c1 : Int) (_d : Bool) (e : ByteArray) : Bool := decide ((↑e.size : Int) > (64 : Int))
def r08_Of_k0 (a : Int) (b0 : Int) (b1 : Int) (c0 : Int) (c1 : Int) (d : Bool) (e : ByteArray) : Bool := a != (1 : Int) && a != (2 : Int) || !r05_Good b0 b1 || b0 == (0 : Int) || !r06_Good c0 c1 || d && !e.toList == (ByteArray.mk #[]).toList
def r08_Of_0 (a : Int) (b0 : Int) (b1 : Int) (c0 : Int) (c1 : Int) (d : Bool) (e : ByteArray) : Int := bif (r08_Of_k0 a b0 b1 c0 c1 d e) then (0 : Int) else bif (r08_Of_k1 a b0 b1 c0 c1 d e) then (0 : Int) else bif a == (2 : Int) && d then (0 : Int) else b0
def r08_Of_1 (a : Int) (b0 : Int) (b1 : Int) (c0 : Int) (c1 : Int) (d : Bool) (e : ByteArray) : Int := bif (r08_Of_k0 a b0 b1 c0 c1 d e) then (0 : Int) else bif (r08_Of_k1 a b0 b1 c0 c1 d e) then (0 : Int) else bif a == (2 : Int) && d then (0 : Int) else b1
def r08_Of_2 (a : Int) (b0 : Int) (b1 : Int) (c0 : Int) (c1 : Int) (d : Bool) (e : ByteArray) : Int := bif (r08_Of_k0 a b0 b1 c0 c1 d e) then (0 : Int) else bif (r08_Of_k1 a b0 b1 c0 c1 d e) then (0 : Int) else bif a == (2 : Int) && d then (0 : Int) else c0
def r08_Of_3 (a : Int) (b0 : Int) (b1 : Int) (c0 : Int) (c1 : Int) (d : Bool) (e : ByteArray) : Int := bif (r08_Of_k0 a b0 b1 c0 c1 d e) then (0 : Int) else bif (r08_Of_k1 a b0 b1 c0 c1 d e) then (0 : Int) else bif a == (2 : Int) && d then (0 : Int) else c1
def r08_Of_4 (a : Int) (b0 : Int) (b1 : Int) (c0 : Int) (c1 : Int) (d : Bool) (e : ByteArray) : Bool := bif (r08_Of_k0 a b0 b1 c0 c1 d e) then false else bif (r08_Of_k1 a b0 b1 c0 c1 d e) then false else bif a == (2 : Int) && d then false else d
def r08_Of_5 (a : Int) (b0 : Int) (b1 : Int) (c0 : Int) (c1 : Int) (d : Bool) (e : ByteArray) : ByteArray := bif (r08_Of_k0 a b0 b1 c0 c1 d e) then ByteArray.mk #[] else bif (r08_Of_k1 a b0 b1 c0 c1 d e) then ByteArray.mk #[] else bif a == (2 : Int) && d then ByteArray.mk #[] else e
def r08_Of_6 (a : Int) (b0 : Int) (b1 : Int) (c0 : Int) (c1 : Int) (d : Bool) (e : ByteArray) : Int := bif (r08_Of_k0 a b0 b1 c0 c1 d e) then (0 : Int) else bif (r08_Of_k1 a b0 b1 c0 c1 d e) then (0 : Int) else bif a == (2 : Int) && d then c0 else (0 : Int)
def r08_Of_7 (a : Int) (b0 : Int) (b1 : Int) (c0 : Int) (c1 : Int) (d : Bool) (e : ByteArray) : Int := bif (r08_Of_k0 a b0 b1 c0 c1 d e) then (0 : Int) else bif (r08_Of_k1 a b0 b1 c0 c1 d e) then (0 : Int) else bif a == (2 : Int) && d then c1 else (0 : Int)
def r08_Of_8 (a : Int) (b0 : Int) (b1 : Int) (c0 : Int) (c1 : Int) (d : Bool) (e : ByteArray) : Int := bif (r08_Of_k0 a b0 b1 c0 c1 d e) then (2 : Int) else bif (r08_Of_k1 a b0 b1 c0 c1 d e) then (3 : Int) else bif a == (2 : Int) && d then (0 : Int) else (0 : Int)
theorem r08_Of_ev (a : Int) (b0 : Int) (b1 : Int) (c0 : Int) (c1 : Int) (d : Bool) (e : ByteArray) (w : World) : evF (envAt Try.prog eqTab Cb_15 w) 6 37 (rawAVs [.int .i64 a, .agg #[.int .i64 b0, .int .i64 b1], .agg #[.int .i64 c0, .int .i64 c1], .bool d, .string e]) [] = some (.v (.tuple #[.agg #[.int .i64 (r08_Of_0 a b0 b1 c0 c1 d e), .int .i64 (r08_Of_1 a b0 b1 c0 c1 d e), .int .i64 (r08_Of_2 a b0 b1 c0 c1 d e), .int .i64 (r08_Of_3 a b0 b1 c0 c1 d e), .bool (r08_Of_4 a b0 b1 c0 c1 d e), .string (r08_Of_5 a b0 b1 c0 c1 d e), .int .i64 (r08_Of_6 a b0 b1 c0 c1 d e), .int .i64 (r08_Of_7 a b0 b1 c0 c1 d e)], .int .i64 (r08_Of_8 a b0 b1 c0 c1 d e)]), [], []) := by kernel_rfl
theorem r08_Of_c (a : Int) (b0 : Int) (b1 : Int) (c0 : Int) (c1 : Int) (d : Bool) (e : ByteArray) (w : World) : Calls Try.prog 37 #[.int .i64 a, .agg #[.int .i64 b0, .int .i64 b1], .agg #[.int .i64 c0, .int .i64 c1], .bool d, .string e] w fun r' w' => r' = .returned (.tuple #[.agg #[.int .i64 (r08_Of_0 a b0 b1 c0 c1 d e), .int .i64 (r08_Of_1 a b0 b1 c0 c1 d e), .int .i64 (r08_Of_2 a b0 b1 c0 c1 d e), .int .i64 (r08_Of_3 a b0 b1 c0 c1 d e), .bool (r08_Of_4 a b0 b1 c0 c1 d e), .string (r08_Of_5 a b0 b1 c0 c1 d e), .int .i64 (r08_Of_6 a b0 b1 c0 c1 d e), .int .i64 (r08_Of_7 a b0 b1 c0 c1 d e)], .int .i64 (r08_Of_8 a b0 b1 c0 c1 d e)]) ∧ Below w.heap.size w w' :=
  fun_ok0 wideP eqTab_ok Cb_15_ok 6 w (r08_Of_ev a b0 b1 c0 c1 d e w) needs_nil
def r08_Of_t : World → List AV → Boxes → Seqs → Option CRes
  | _, [.v (.int .i64 a), .v (.agg ⟨[.int .i64 b0, .int .i64 b1]⟩), .v (.agg ⟨[.int .i64 c0, .int .i64 c1]⟩), .v (.bool d), .v (.string e)], _, _ => some (.v (.tuple #[.agg #[.int .i64 (r08_Of_0 a b0 b1 c0 c1 d e), .int .i64 (r08_Of_1 a b0 b1 c0 c1 d e), .int .i64 (r08_Of_2 a b0 b1 c0 c1 d e), .int .i64 (r08_Of_3 a b0 b1 c0 c1 d e), .bool (r08_Of_4 a b0 b1 c0 c1 d e), .string (r08_Of_5 a b0 b1 c0 c1 d e), .int .i64 (r08_Of_6 a b0 b1 c0 c1 d e), .int .i64 (r08_Of_7 a b0 b1 c0 c1 d e)], .int .i64 (r08_Of_8 a b0 b1 c0 c1 d e)]), [], [])
  | _, _, _, _ => none
theorem r08_Of_tok : TOk Try.prog 37 r08_Of_t := by
  intro w args bx sq c news ps h hp
  unfold r08_Of_t at h
  split at h <;> first | (cases h; done) | skip
  cases h
  exact tok0 (args := [_, _, _, _, _]) fun R => r08_Of_c _ _ _ _ _ _ _ R
noncomputable def Cb_16 := addC 37 r08_Of_t Cb_15
theorem Cb_16_ok : COk Try.prog Cb_16 := addC_ok r08_Of_tok Cb_15_ok

def r08_Seen_k0 (a : Int) (b0 : Int) (b1 : Int) (b2 : Int) (b3 : Int) (b4 : Bool) (b5 : ByteArray) (b6 : Int) (b7 : Int) : Bool := !r08_Good a b0 b1 b2 b3 b4 b5 b6 b7 || !r08_Written b0 b1 b2 b3 b4 b5 b6 b7 || b4 || !r06_Covers b2 b3 b6 b7
def r08_Seen_0 (a : Int) (b0 : Int) (b1 : Int) (b2 : Int) (b3 : Int) (b4 : Bool) (b5 : ByteArray) (b6 : Int) (b7 : Int) : ByteArray := bif (r08_Seen_k0 a b0 b1 b2 b3 b4 b5 b6 b7) then ByteArray.mk #[] else b5
def r08_Seen_1 (a : Int) (b0 : Int) (b1 : Int) (b2 : Int) (b3 : Int) (b4 : Bool) (b5 : ByteArray) (b6 : Int) (b7 : Int) : Bool := bif (r08_Seen_k0 a b0 b1 b2 b3 b4 b5 b6 b7) then false else true
theorem r08_Seen_ev (a : Int) (b0 : Int) (b1 : Int) (b2 : Int) (b3 : Int) (b4 : Bool) (b5 : ByteArray) (b6 : Int) (b7 : Int) (w : World) : evF (envAt Try.prog eqTab Cb_16 w) 6 41 (rawAVs [.int .i64 a, .agg #[.int .i64 b0, .int .i64 b1, .int .i64 b2, .int .i64 b3, .bool b4, .string b5, .int .i64 b6, .int .i64 b7]]) [] = some (.v (.tuple #[.string (r08_Seen_0 a b0 b1 b2 b3 b4 b5 b6 b7), .bool (r08_Seen_1 a b0 b1 b2 b3 b4 b5 b6 b7)]), [], []) := by kernel_rfl
theorem r08_Seen_c (a : Int) (b0 : Int) (b1 : Int) (b2 : Int) (b3 : Int) (b4 : Bool) (b5 : ByteArray) (b6 : Int) (b7 : Int) (w : World) : Calls Try.prog 41 #[.int .i64 a, .agg #[.int .i64 b0, .int .i64 b1, .int .i64 b2, .int .i64 b3, .bool b4, .string b5, .int .i64 b6, .int .i64 b7]] w fun r' w' => r' = .returned (.tuple #[.string (r08_Seen_0 a b0 b1 b2 b3 b4 b5 b6 b7), .bool (r08_Seen_1 a b0 b1 b2 b3 b4 b5 b6 b7)]) ∧ Below w.heap.size w w' :=
  fun_ok0 wideP eqTab_ok Cb_16_ok 6 w (r08_Seen_ev a b0 b1 b2 b3 b4 b5 b6 b7 w) needs_nil
def r08_Seen_t : World → List AV → Boxes → Seqs → Option CRes
  | _, [.v (.int .i64 a), .v (.agg ⟨[.int .i64 b0, .int .i64 b1, .int .i64 b2, .int .i64 b3, .bool b4, .string b5, .int .i64 b6, .int .i64 b7]⟩)], _, _ => some (.v (.tuple #[.string (r08_Seen_0 a b0 b1 b2 b3 b4 b5 b6 b7), .bool (r08_Seen_1 a b0 b1 b2 b3 b4 b5 b6 b7)]), [], [])
  | _, _, _, _ => none
theorem r08_Seen_tok : TOk Try.prog 41 r08_Seen_t := by
  intro w args bx sq c news ps h hp
  unfold r08_Seen_t at h
  split at h <;> first | (cases h; done) | skip
  cases h
  exact tok0 (args := [_, _]) fun R => r08_Seen_c _ _ _ _ _ _ _ _ _ R
noncomputable def Cb_17 := addC 41 r08_Seen_t Cb_16
theorem Cb_17_ok : COk Try.prog Cb_17 := addC_ok r08_Seen_tok Cb_16_ok

def r08_Same (a0 : Int) (a1 : Int) (a2 : Int) (a3 : Int) (a4 : Bool) (a5 : ByteArray) (a6 : Int) (a7 : Int) (b0 : Int) (b1 : Int) (b2 : Int) (b3 : Int) (b4 : Bool) (b5 : ByteArray) (b6 : Int) (b7 : Int) : Bool := a0 == b0 && a1 == b1 && (a2 == b2 && a3 == b3) && a4 == b4 && a5.toList == b5.toList && (a6 == b6 && a7 == b7)
theorem r08_Same_ev (a0 : Int) (a1 : Int) (a2 : Int) (a3 : Int) (a4 : Bool) (a5 : ByteArray) (a6 : Int) (a7 : Int) (b0 : Int) (b1 : Int) (b2 : Int) (b3 : Int) (b4 : Bool) (b5 : ByteArray) (b6 : Int) (b7 : Int) (w : World) : evF (envAt Try.prog eqTab Cb_17 w) 6 76 (rawAVs [.agg #[.int .i64 a0, .int .i64 a1, .int .i64 a2, .int .i64 a3, .bool a4, .string a5, .int .i64 a6, .int .i64 a7], .agg #[.int .i64 b0, .int .i64 b1, .int .i64 b2, .int .i64 b3, .bool b4, .string b5, .int .i64 b6, .int .i64 b7]]) [] = some (.v (.bool (r08_Same a0 a1 a2 a3 a4 a5 a6 a7 b0 b1 b2 b3 b4 b5 b6 b7)), [], []) := by kernel_rfl
theorem r08_Same_c (a0 : Int) (a1 : Int) (a2 : Int) (a3 : Int) (a4 : Bool) (a5 : ByteArray) (a6 : Int) (a7 : Int) (b0 : Int) (b1 : Int) (b2 : Int) (b3 : Int) (b4 : Bool) (b5 : ByteArray) (b6 : Int) (b7 : Int) (w : World) : Calls Try.prog 76 #[.agg #[.int .i64 a0, .int .i64 a1, .int .i64 a2, .int .i64 a3, .bool a4, .string a5, .int .i64 a6, .int .i64 a7], .agg #[.int .i64 b0, .int .i64 b1, .int .i64 b2, .int .i64 b3, .bool b4, .string b5, .int .i64 b6, .int .i64 b7]] w fun r' w' => r' = .returned (.bool (r08_Same a0 a1 a2 a3 a4 a5 a6 a7 b0 b1 b2 b3 b4 b5 b6 b7)) ∧ Below w.heap.size w w' :=
  fun_ok0 wideP eqTab_ok Cb_17_ok 6 w (r08_Same_ev a0 a1 a2 a3 a4 a5 a6 a7 b0 b1 b2 b3 b4 b5 b6 b7 w) needs_nil
def r08_Same_t : World → List AV → Boxes → Seqs → Option CRes
  | _, [.v (.agg ⟨[.int .i64 a0, .int .i64 a1, .int .i64 a2, .int .i64 a3, .bool a4, .string a5, .int .i64 a6, .int .i64 a7]⟩), .v (.agg ⟨[.int .i64 b0, .int .i64 b1, .int .i64 b2, .int .i64 b3, .bool b4, .string b5, .int .i64 b6, .int .i64 b7]⟩)], _, _ => some (.v (.bool (r08_Same a0 a1 a2 a3 a4 a5 a6 a7 b0 b1 b2 b3 b4 b5 b6 b7)), [], [])
  | _, _, _, _ => none
theorem r08_Same_tok : TOk Try.prog 76 r08_Same_t := by
  intro w args bx sq c news ps h hp
  unfold r08_Same_t at h
  split at h <;> first | (cases h; done) | skip
  cases h
  exact tok0 (args := [_, _]) fun R => r08_Same_c _ _ _ _ _ _ _ _ _ _ _ _ _ _ _ _ R
noncomputable def Cb_18 := addC 76 r08_Same_t Cb_17
theorem Cb_18_ok : COk Try.prog Cb_18 := addC_ok r08_Same_tok Cb_17_ok

noncomputable def Cb := Cb_18
theorem Cb_ok : COk Try.prog Cb := Cb_18_ok
end Go.Proofs.Yteebobbhhgmeiaa
