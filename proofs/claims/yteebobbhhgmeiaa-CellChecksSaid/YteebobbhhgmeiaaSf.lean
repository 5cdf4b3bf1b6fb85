/- made by a program (gen.py): what functions come to, by their symbolic run. -/
import Derived.Test.YteebobbhhgmeiaaSe
namespace Go.Proofs.Yteebobbhhgmeiaa
open Go.RowKit

noncomputable def Cf_1 := addC 109 (inl Try.prog eqTab Ce 1040 109) Ce
theorem Cf_1_ok : COk Try.prog Cf_1 := addC_ok (inl_ok wideP eqTab_ok Ce_ok 1040 109) Ce_ok

noncomputable def Cf_2 := addC 155 (inl Try.prog eqTab Cf_1 1040 155) Cf_1
theorem Cf_2_ok : COk Try.prog Cf_2 := addC_ok (inl_ok wideP eqTab_ok Cf_1_ok 1040 155) Cf_1_ok

noncomputable def Cf_3 := addC 110 (inl Try.prog eqTab Cf_2 1040 110) Cf_2
theorem Cf_3_ok : COk Try.prog Cf_3 := addC_ok (inl_ok wideP eqTab_ok Cf_2_ok 1040 110) Cf_2_ok

def cell_Known_0 (_a0 : Int) (_a1 : Int) (a2 : Int) (a3 : Int) (_a4 : Bool) (_a5 : ByteArray) (a6 : Int) (a7 : Int) : Int := each_join_0 (each_join_0 (0 : Int) (0 : Int) a2 a3) (each_join_1 (0 : Int) (0 : Int) a2 a3) a6 a7
def cell_Known_1 (_a0 : Int) (_a1 : Int) (a2 : Int) (a3 : Int) (_a4 : Bool) (_a5 : ByteArray) (a6 : Int) (a7 : Int) : Int := each_join_1 (each_join_0 (0 : Int) (0 : Int) a2 a3) (each_join_1 (0 : Int) (0 : Int) a2 a3) a6 a7
theorem cell_Known_ev (a0 : Int) (a1 : Int) (a2 : Int) (a3 : Int) (a4 : Bool) (a5 : ByteArray) (a6 : Int) (a7 : Int) (w : World) : evF (envAt Try.prog eqTab Cf_3 w) 6 43 (rawAVs [.agg #[.int .i64 a0, .int .i64 a1, .int .i64 a2, .int .i64 a3, .bool a4, .string a5, .int .i64 a6, .int .i64 a7]]) [] = some (.v (.agg #[.int .i64 (cell_Known_0 a0 a1 a2 a3 a4 a5 a6 a7), .int .i64 (cell_Known_1 a0 a1 a2 a3 a4 a5 a6 a7)]), [], [(0 : Int) ≤ (0 : Int) ∧ (0 : Int) < (↑(2 : Nat) : Int), some (Value.int IntKind.i64 a2) = some (Value.int IntKind.i64 a2) ∧ isKid (Sq.mk false (31 : Nat) (2 : Nat) (2 : Nat) [Value.int IntKind.i64 a2, Value.int IntKind.i64 a3, Value.int IntKind.i64 a6, Value.int IntKind.i64 a7] none) (0 : Nat) = false, some (Value.int IntKind.i64 a3) = some (Value.int IntKind.i64 a3) ∧ isKid (Sq.mk false (31 : Nat) (2 : Nat) (2 : Nat) [Value.int IntKind.i64 a2, Value.int IntKind.i64 a3, Value.int IntKind.i64 a6, Value.int IntKind.i64 a7] none) (1 : Nat) = false, (0 : Int) ≤ (1 : Int) ∧ (1 : Int) < (↑(2 : Nat) : Int), some (Value.int IntKind.i64 a6) = some (Value.int IntKind.i64 a6) ∧ isKid (Sq.mk false (31 : Nat) (2 : Nat) (2 : Nat) [Value.int IntKind.i64 a2, Value.int IntKind.i64 a3, Value.int IntKind.i64 a6, Value.int IntKind.i64 a7] none) (2 : Nat) = false, some (Value.int IntKind.i64 a7) = some (Value.int IntKind.i64 a7) ∧ isKid (Sq.mk false (31 : Nat) (2 : Nat) (2 : Nat) [Value.int IntKind.i64 a2, Value.int IntKind.i64 a3, Value.int IntKind.i64 a6, Value.int IntKind.i64 a7] none) (3 : Nat) = false]) := by kernel_rfl
theorem cell_Known_c (a0 : Int) (a1 : Int) (a2 : Int) (a3 : Int) (a4 : Bool) (a5 : ByteArray) (a6 : Int) (a7 : Int) (w : World) : Calls Try.prog 43 #[.agg #[.int .i64 a0, .int .i64 a1, .int .i64 a2, .int .i64 a3, .bool a4, .string a5, .int .i64 a6, .int .i64 a7]] w fun r' w' => r' = .returned (.agg #[.int .i64 (cell_Known_0 a0 a1 a2 a3 a4 a5 a6 a7), .int .i64 (cell_Known_1 a0 a1 a2 a3 a4 a5 a6 a7)]) ∧ Below w.heap.size w w' :=
  fun_ok0 wideP eqTab_ok Cf_3_ok 6 w (cell_Known_ev a0 a1 a2 a3 a4 a5 a6 a7 w) (needs_cons (by first | decide +kernel | (intros; kernel_rfl) | exact ⟨by kernel_rfl, by kernel_rfl⟩) (needs_cons (by first | decide +kernel | (intros; kernel_rfl) | exact ⟨by kernel_rfl, by kernel_rfl⟩) (needs_cons (by first | decide +kernel | (intros; kernel_rfl) | exact ⟨by kernel_rfl, by kernel_rfl⟩) (needs_cons (by first | decide +kernel | (intros; kernel_rfl) | exact ⟨by kernel_rfl, by kernel_rfl⟩) (needs_cons (by first | decide +kernel | (intros; kernel_rfl) | exact ⟨by kernel_rfl, by kernel_rfl⟩) (needs_cons (by first | decide +kernel | (intros; kernel_rfl) | exact ⟨by kernel_rfl, by kernel_rfl⟩) needs_nil))))))
def cell_Known_t : World → List AV → Boxes → Seqs → Option CRes
  | _, [.v (.agg ⟨[.int .i64 a0, .int .i64 a1, .int .i64 a2, .int .i64 a3, .bool a4, .string a5, .int .i64 a6, .int .i64 a7]⟩)], _, _ => some (.v (.agg #[.int .i64 (cell_Known_0 a0 a1 a2 a3 a4 a5 a6 a7), .int .i64 (cell_Known_1 a0 a1 a2 a3 a4 a5 a6 a7)]), [], [])
  | _, _, _, _ => none
theorem cell_Known_tok : TOk Try.prog 43 cell_Known_t := by
  intro w args bx sq c news ps h hp
  unfold cell_Known_t at h
  split at h <;> first | (cases h; done) | skip
  cases h
  exact tok0 (args := [_]) fun R => cell_Known_c _ _ _ _ _ _ _ _ R
noncomputable def Cf_4 := addC 43 cell_Known_t Cf_3
theorem Cf_4_ok : COk Try.prog Cf_4 := addC_ok cell_Known_tok Cf_3_ok

def r08_Known_0 (_a0 : Int) (_a1 : Int) (a2 : Int) (_a3 : Int) (_a4 : Bool) (_a5 : ByteArray) (a6 : Int) (_a7 : Int) : Int := max (max (0 : Int) a2) a6
def r08_Known_1 (_a0 : Int) (_a1 : Int) (_a2 : Int) (a3 : Int) (_a4 : Bool) (_a5 : ByteArray) (_a6 : Int) (a7 : Int) : Int := max (max (0 : Int) a3) a7
theorem r08_Known_ev (a0 : Int) (a1 : Int) (a2 : Int) (a3 : Int) (a4 : Bool) (a5 : ByteArray) (a6 : Int) (a7 : Int) (w : World) : evF (envAt Try.prog eqTab Cf_4 w) 6 44 (rawAVs [.agg #[.int .i64 a0, .int .i64 a1, .int .i64 a2, .int .i64 a3, .bool a4, .string a5, .int .i64 a6, .int .i64 a7]]) [] = some (.v (.agg #[.int .i64 (r08_Known_0 a0 a1 a2 a3 a4 a5 a6 a7), .int .i64 (r08_Known_1 a0 a1 a2 a3 a4 a5 a6 a7)]), [], [(0 : Int) ≤ (0 : Int) ∧ (0 : Int) < (↑(2 : Nat) : Int), (0 : Int) ≤ (0 : Int) ∧ (0 : Int) < (2 : Int), some (Value.int IntKind.i64 a2) = some (Value.int IntKind.i64 a2) ∧ isKid (Sq.mk false (31 : Nat) (2 : Nat) (2 : Nat) [Value.int IntKind.i64 a2, Value.int IntKind.i64 a3, Value.int IntKind.i64 a6, Value.int IntKind.i64 a7] none) (0 : Nat) = false, (0 : Int) ≤ (0 : Int) ∧ (0 : Int) < (↑(2 : Nat) : Int), (0 : Int) ≤ (1 : Int) ∧ (1 : Int) < (2 : Int), some (Value.int IntKind.i64 a3) = some (Value.int IntKind.i64 a3) ∧ isKid (Sq.mk false (31 : Nat) (2 : Nat) (2 : Nat) [Value.int IntKind.i64 a2, Value.int IntKind.i64 a3, Value.int IntKind.i64 a6, Value.int IntKind.i64 a7] none) (1 : Nat) = false, (0 : Int) ≤ (1 : Int) ∧ (1 : Int) < (↑(2 : Nat) : Int), (0 : Int) ≤ (0 : Int) ∧ (0 : Int) < (2 : Int), some (Value.int IntKind.i64 a6) = some (Value.int IntKind.i64 a6) ∧ isKid (Sq.mk false (31 : Nat) (2 : Nat) (2 : Nat) [Value.int IntKind.i64 a2, Value.int IntKind.i64 a3, Value.int IntKind.i64 a6, Value.int IntKind.i64 a7] none) (2 : Nat) = false, (0 : Int) ≤ (1 : Int) ∧ (1 : Int) < (↑(2 : Nat) : Int), (0 : Int) ≤ (1 : Int) ∧ (1 : Int) < (2 : Int), some (Value.int IntKind.i64 a7) = some (Value.int IntKind.i64 a7) ∧ isKid (Sq.mk false (31 : Nat) (2 : Nat) (2 : Nat) [Value.int IntKind.i64 a2, Value.int IntKind.i64 a3, Value.int IntKind.i64 a6, Value.int IntKind.i64 a7] none) (3 : Nat) = false]) := by kernel_rfl
theorem r08_Known_c (a0 : Int) (a1 : Int) (a2 : Int) (a3 : Int) (a4 : Bool) (a5 : ByteArray) (a6 : Int) (a7 : Int) (w : World) : Calls Try.prog 44 #[.agg #[.int .i64 a0, .int .i64 a1, .int .i64 a2, .int .i64 a3, .bool a4, .string a5, .int .i64 a6, .int .i64 a7]] w fun r' w' => r' = .returned (.agg #[.int .i64 (r08_Known_0 a0 a1 a2 a3 a4 a5 a6 a7), .int .i64 (r08_Known_1 a0 a1 a2 a3 a4 a5 a6 a7)]) ∧ Below w.heap.size w w' :=
  fun_ok0 wideP eqTab_ok Cf_4_ok 6 w (r08_Known_ev a0 a1 a2 a3 a4 a5 a6 a7 w) (needs_cons (by first | decide +kernel | (intros; kernel_rfl) | exact ⟨by kernel_rfl, by kernel_rfl⟩) (needs_cons (by first | decide +kernel | (intros; kernel_rfl) | exact ⟨by kernel_rfl, by kernel_rfl⟩) (needs_cons (by first | decide +kernel | (intros; kernel_rfl) | exact ⟨by kernel_rfl, by kernel_rfl⟩) (needs_cons (by first | decide +kernel | (intros; kernel_rfl) | exact ⟨by kernel_rfl, by kernel_rfl⟩) (needs_cons (by first | decide +kernel | (intros; kernel_rfl) | exact ⟨by kernel_rfl, by kernel_rfl⟩) (needs_cons (by first | decide +kernel | (intros; kernel_rfl) | exact ⟨by kernel_rfl, by kernel_rfl⟩) (needs_cons (by first | decide +kernel | (intros; kernel_rfl) | exact ⟨by kernel_rfl, by kernel_rfl⟩) (needs_cons (by first | decide +kernel | (intros; kernel_rfl) | exact ⟨by kernel_rfl, by kernel_rfl⟩) (needs_cons (by first | decide +kernel | (intros; kernel_rfl) | exact ⟨by kernel_rfl, by kernel_rfl⟩) (needs_cons (by first | decide +kernel | (intros; kernel_rfl) | exact ⟨by kernel_rfl, by kernel_rfl⟩) (needs_cons (by first | decide +kernel | (intros; kernel_rfl) | exact ⟨by kernel_rfl, by kernel_rfl⟩) (needs_cons (by first | decide +kernel | (intros; kernel_rfl) | exact ⟨by kernel_rfl, by kernel_rfl⟩) needs_nil))))))))))))
def r08_Known_t : World → List AV → Boxes → Seqs → Option CRes
  | _, [.v (.agg ⟨[.int .i64 a0, .int .i64 a1, .int .i64 a2, .int .i64 a3, .bool a4, .string a5, .int .i64 a6, .int .i64 a7]⟩)], _, _ => some (.v (.agg #[.int .i64 (r08_Known_0 a0 a1 a2 a3 a4 a5 a6 a7), .int .i64 (r08_Known_1 a0 a1 a2 a3 a4 a5 a6 a7)]), [], [])
  | _, _, _, _ => none
theorem r08_Known_tok : TOk Try.prog 44 r08_Known_t := by
  intro w args bx sq c news ps h hp
  unfold r08_Known_t at h
  split at h <;> first | (cases h; done) | skip
  cases h
  exact tok0 (args := [_]) fun R => r08_Known_c _ _ _ _ _ _ _ _ R
noncomputable def Cf_5 := addC 44 r08_Known_t Cf_4
theorem Cf_5_ok : COk Try.prog Cf_5 := addC_ok r08_Known_tok Cf_4_ok

def l08_CellChecks (a : Int) (b0 : Int) (b1 : Int) (b2 : Int) (b3 : Int) (b4 : Bool) (b5 : ByteArray) (b6 : Int) (b7 : Int) : Bool := cell_Good a b0 b1 b2 b3 b4 b5 b6 b7 == r08_Good a b0 b1 b2 b3 b4 b5 b6 b7 && (cell_Seen_0 a b0 b1 b2 b3 b4 b5 b6 b7).toList == (r08_Seen_0 a b0 b1 b2 b3 b4 b5 b6 b7).toList && cell_Seen_1 a b0 b1 b2 b3 b4 b5 b6 b7 == r08_Seen_1 a b0 b1 b2 b3 b4 b5 b6 b7 && (cell_Known_0 b0 b1 b2 b3 b4 b5 b6 b7 == r08_Known_0 b0 b1 b2 b3 b4 b5 b6 b7 && cell_Known_1 b0 b1 b2 b3 b4 b5 b6 b7 == r08_Known_1 b0 b1 b2 b3 b4 b5 b6 b7) && true
theorem l08_CellChecks_ev (a : Int) (b0 : Int) (b1 : Int) (b2 : Int) (b3 : Int) (b4 : Bool) (b5 : ByteArray) (b6 : Int) (b7 : Int) (w : World) : evF (envAt Try.prog eqTab Cf_5 w) 6 7 (rawAVs [.int .i64 a, .agg #[.int .i64 b0, .int .i64 b1, .int .i64 b2, .int .i64 b3, .bool b4, .string b5, .int .i64 b6, .int .i64 b7]]) [] = some (.v (.bool (l08_CellChecks a b0 b1 b2 b3 b4 b5 b6 b7)), [], []) := by kernel_rfl
theorem l08_CellChecks_c (a : Int) (b0 : Int) (b1 : Int) (b2 : Int) (b3 : Int) (b4 : Bool) (b5 : ByteArray) (b6 : Int) (b7 : Int) (w : World) : Calls Try.prog 7 #[.int .i64 a, .agg #[.int .i64 b0, .int .i64 b1, .int .i64 b2, .int .i64 b3, .bool b4, .string b5, .int .i64 b6, .int .i64 b7]] w fun r' w' => r' = .returned (.bool (l08_CellChecks a b0 b1 b2 b3 b4 b5 b6 b7)) ∧ Below w.heap.size w w' :=
  fun_ok0 wideP eqTab_ok Cf_5_ok 6 w (l08_CellChecks_ev a b0 b1 b2 b3 b4 b5 b6 b7 w) needs_nil
def l08_CellChecks_t : World → List AV → Boxes → Seqs → Option CRes
  | _, [.v (.int .i64 a), .v (.agg ⟨[.int .i64 b0, .int .i64 b1, .int .i64 b2, .int .i64 b3, .bool b4, .string b5, .int .i64 b6, .int .i64 b7]⟩)], _, _ => some (.v (.bool (l08_CellChecks a b0 b1 b2 b3 b4 b5 b6 b7)), [], [])
  | _, _, _, _ => none
theorem l08_CellChecks_tok : TOk Try.prog 7 l08_CellChecks_t := by
  intro w args bx sq c news ps h hp
  unfold l08_CellChecks_t at h
  split at h <;> first | (cases h; done) | skip
  cases h
  exact tok0 (args := [_, _]) fun R => l08_CellChecks_c _ _ _ _ _ _ _ _ _ R
noncomputable def Cf_6 := addC 7 l08_CellChecks_t Cf_5
theorem Cf_6_ok : COk Try.prog Cf_6 := addC_ok l08_CellChecks_tok Cf_5_ok

noncomputable def Cf := Cf_6
theorem Cf_ok : COk Try.prog Cf := Cf_6_ok
end Go.Proofs.Yteebobbhhgmeiaa
