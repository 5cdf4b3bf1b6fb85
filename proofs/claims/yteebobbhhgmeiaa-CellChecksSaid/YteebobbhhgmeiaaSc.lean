/- made by a program (gen.py): what functions come to, by their symbolic run. -/
import Derived.Test.YteebobbhhgmeiaaSb
namespace Go.Proofs.Yteebobbhhgmeiaa
open Go.RowKit

def num_Size_k2 (a : Int) : Bool := !(decide (a < (0 : Int)) || decide (a > (4611686018427387903 : Int))) && (!decide (a ≥ (1073741824 : Int)) && decide (a ≥ (16384 : Int)))
def num_Size_k1 (a : Int) : Bool := !(decide (a < (0 : Int)) || decide (a > (4611686018427387903 : Int))) && (!decide (a ≥ (1073741824 : Int)) && (!decide (a ≥ (16384 : Int)) && decide (a ≥ (64 : Int))))
def num_Size_k0 (a : Int) : Bool := !(decide (a < (0 : Int)) || decide (a > (4611686018427387903 : Int))) && (!(!(decide (a < (0 : Int)) || decide (a > (4611686018427387903 : Int))) && decide (a ≥ (1073741824 : Int))) && (!(num_Size_k2 a) && !(num_Size_k1 a)))
def num_Size (a : Int) : Int := bif !(!(decide (a < (0 : Int)) || decide (a > (4611686018427387903 : Int))) && decide (a ≥ (1073741824 : Int))) && (!(num_Size_k2 a) && (!(num_Size_k1 a) && !(num_Size_k0 a))) then (0 : Int) else IntKind.i64.wrap ((bif (num_Size_k0 a) then (0 : Int) else IntKind.i64.wrap ((bif (num_Size_k1 a) then (0 : Int) else IntKind.i64.wrap ((bif (num_Size_k2 a) then (0 : Int) else (4 : Int)) + (2 : Int))) + (1 : Int))) + (1 : Int))
theorem num_Size_ev (a : Int) (w : World) : evF (envAt Try.prog eqTab Cb w) 6 157 (rawAVs [.int .i64 a]) [] = some (.v (.int .i64 (num_Size a)), [], []) := by kernel_rfl
theorem num_Size_c (a : Int) (w : World) : Calls Try.prog 157 #[.int .i64 a] w fun r' w' => r' = .returned (.int .i64 (num_Size a)) ∧ Below w.heap.size w w' :=
  fun_ok0 wideP eqTab_ok Cb_ok 6 w (num_Size_ev a w) needs_nil
def num_Size_t : World → List AV → Boxes → Seqs → Option CRes
  | _, [.v (.int .i64 a)], _, _ => some (.v (.int .i64 (num_Size a)), [], [])
  | _, _, _, _ => none
theorem num_Size_tok : TOk Try.prog 157 num_Size_t := by
  intro w args bx sq c news ps h hp
  unfold num_Size_t at h
  split at h <;> first | (cases h; done) | skip
  cases h
  exact tok0 (args := [_]) fun R => num_Size_c _ R
noncomputable def Cc_1 := addC 157 num_Size_t Cb
theorem Cc_1_ok : COk Try.prog Cc_1 := addC_ok num_Size_tok Cb_ok

noncomputable def Cc_2 := addC 119 (inl Try.prog eqTab Cc_1 1040 119) Cc_1
theorem Cc_2_ok : COk Try.prog Cc_2 := addC_ok (inl_ok wideP eqTab_ok Cc_1_ok 1040 119) Cc_1_ok

noncomputable def Cc_3 := addC 121 (inl Try.prog eqTab Cc_2 1040 121) Cc_2
theorem Cc_3_ok : COk Try.prog Cc_3 := addC_ok (inl_ok wideP eqTab_ok Cc_2_ok 1040 121) Cc_2_ok

noncomputable def Cc_4 := addC 120 (inl Try.prog eqTab Cc_3 1040 120) Cc_3
theorem Cc_4_ok : COk Try.prog Cc_4 := addC_ok (inl_ok wideP eqTab_ok Cc_3_ok 1040 120) Cc_3_ok

noncomputable def Cc_5 := addC 122 (inl Try.prog eqTab Cc_4 1040 122) Cc_4
theorem Cc_5_ok : COk Try.prog Cc_5 := addC_ok (inl_ok wideP eqTab_ok Cc_4_ok 1040 122) Cc_4_ok

noncomputable def Cc_6 := addC 56 (inl Try.prog eqTab Cc_5 1040 56) Cc_5
theorem Cc_6_ok : COk Try.prog Cc_6 := addC_ok (inl_ok wideP eqTab_ok Cc_5_ok 1040 56) Cc_5_ok

def l08_lives  : Bool := (strOfNums (List.map tyI [Value.int IntKind.u8 (1 : Int), Value.int IntKind.u8 (13 : Int), Value.int IntKind.u8 (0 : Int), Value.int IntKind.u8 (1 : Int), Value.int IntKind.u8 (1 : Int), Value.int IntKind.u8 (120 : Int)])).toList == (ByteArray.mk #[(1 : UInt8), (13 : UInt8), (0 : UInt8), (1 : UInt8), (1 : UInt8), (120 : UInt8)]).toList
theorem l08_lives_ev  (w : World) : evF (envAt Try.prog eqTab Cc_6 w) 1040 39 (rawAVs []) [] = some (.v (.bool l08_lives), [], [true = true, (0 : Nat) ≤ (9223372036854775807 : Nat) ∧ (0 : Nat) ≤ (140737488355328 : Nat), ∀ (u : Value), u ∈ [] → u.oneCell' = true, (1 : Nat) ≤ (9223372036854775807 : Nat) ∧ (1 : Nat) ≤ (140737488355328 : Nat), ∀ (u : Value), u ∈ [Value.int IntKind.u8 (1 : Int)] → u.oneCell' = true, (1 : Nat) ≤ (9223372036854775807 : Nat) ∧ (1 : Nat) ≤ (140737488355328 : Nat), ∀ (u : Value), u ∈ [Value.int IntKind.u8 (1 : Int)] → u.oneCell' = true, (2 : Nat) ≤ (9223372036854775807 : Nat) ∧ (2 : Nat) ≤ (140737488355328 : Nat), ∀ (u : Value), u ∈ [Value.int IntKind.u8 (13 : Int)] → u.oneCell' = true, (2 : Nat) ≤ (9223372036854775807 : Nat) ∧ (2 : Nat) ≤ (140737488355328 : Nat), ∀ (u : Value), u ∈ [Value.int IntKind.u8 (1 : Int), Value.int IntKind.u8 (13 : Int)] → u.oneCell' = true, (3 : Nat) ≤ (9223372036854775807 : Nat) ∧ (3 : Nat) ≤ (140737488355328 : Nat), ∀ (u : Value), u ∈ [Value.int IntKind.u8 (0 : Int)] → u.oneCell' = true, (3 : Nat) ≤ (9223372036854775807 : Nat) ∧ (3 : Nat) ≤ (140737488355328 : Nat), ∀ (u : Value), u ∈ [Value.int IntKind.u8 (1 : Int), Value.int IntKind.u8 (13 : Int), Value.int IntKind.u8 (0 : Int)] → u.oneCell' = true, (4 : Nat) ≤ (9223372036854775807 : Nat) ∧ (4 : Nat) ≤ (140737488355328 : Nat), ∀ (u : Value), u ∈ [Value.int IntKind.u8 (1 : Int)] → u.oneCell' = true, (4 : Nat) ≤ (9223372036854775807 : Nat) ∧ (4 : Nat) ≤ (140737488355328 : Nat), ∀ (u : Value), u ∈ [Value.int IntKind.u8 (1 : Int), Value.int IntKind.u8 (13 : Int), Value.int IntKind.u8 (0 : Int), Value.int IntKind.u8 (1 : Int)] → u.oneCell' = true, (5 : Nat) ≤ (9223372036854775807 : Nat) ∧ (5 : Nat) ≤ (140737488355328 : Nat), ∀ (u : Value), u ∈ [Value.int IntKind.u8 (1 : Int)] → u.oneCell' = true, (6 : Nat) ≤ (9223372036854775807 : Nat) ∧ (6 : Nat) ≤ (140737488355328 : Nat), true = true → [Value.int IntKind.u8 (1 : Int), Value.int IntKind.u8 (13 : Int), Value.int IntKind.u8 (0 : Int), Value.int IntKind.u8 (1 : Int), Value.int IntKind.u8 (1 : Int), Value.int IntKind.u8 (120 : Int)] = [Value.int IntKind.u8 (1 : Int), Value.int IntKind.u8 (13 : Int), Value.int IntKind.u8 (0 : Int), Value.int IntKind.u8 (1 : Int), Value.int IntKind.u8 (1 : Int), Value.int IntKind.u8 (120 : Int)]]) := by kernel_rfl
theorem l08_lives_c  (w : World) : Calls Try.prog 39 #[] w fun r' w' => r' = .returned (.bool l08_lives) ∧ Below w.heap.size w w' :=
  fun_ok0 wideP eqTab_ok Cc_6_ok 1040 w (l08_lives_ev  w) (needs_cons (by first | decide +kernel | (intros; kernel_rfl) | exact ⟨by kernel_rfl, by kernel_rfl⟩) (needs_cons (by first | decide +kernel | (intros; kernel_rfl) | exact ⟨by kernel_rfl, by kernel_rfl⟩) (needs_cons (by first | decide +kernel | (intros; kernel_rfl) | exact ⟨by kernel_rfl, by kernel_rfl⟩) (needs_cons (by first | decide +kernel | (intros; kernel_rfl) | exact ⟨by kernel_rfl, by kernel_rfl⟩) (needs_cons (by first | decide +kernel | (intros; kernel_rfl) | exact ⟨by kernel_rfl, by kernel_rfl⟩) (needs_cons (by first | decide +kernel | (intros; kernel_rfl) | exact ⟨by kernel_rfl, by kernel_rfl⟩) (needs_cons (by first | decide +kernel | (intros; kernel_rfl) | exact ⟨by kernel_rfl, by kernel_rfl⟩) (needs_cons (by first | decide +kernel | (intros; kernel_rfl) | exact ⟨by kernel_rfl, by kernel_rfl⟩) (needs_cons (by first | decide +kernel | (intros; kernel_rfl) | exact ⟨by kernel_rfl, by kernel_rfl⟩) (needs_cons (by first | decide +kernel | (intros; kernel_rfl) | exact ⟨by kernel_rfl, by kernel_rfl⟩) (needs_cons (by first | decide +kernel | (intros; kernel_rfl) | exact ⟨by kernel_rfl, by kernel_rfl⟩) (needs_cons (by first | decide +kernel | (intros; kernel_rfl) | exact ⟨by kernel_rfl, by kernel_rfl⟩) (needs_cons (by first | decide +kernel | (intros; kernel_rfl) | exact ⟨by kernel_rfl, by kernel_rfl⟩) (needs_cons (by first | decide +kernel | (intros; kernel_rfl) | exact ⟨by kernel_rfl, by kernel_rfl⟩) (needs_cons (by first | decide +kernel | (intros; kernel_rfl) | exact ⟨by kernel_rfl, by kernel_rfl⟩) (needs_cons (by first | decide +kernel | (intros; kernel_rfl) | exact ⟨by kernel_rfl, by kernel_rfl⟩) (needs_cons (by first | decide +kernel | (intros; kernel_rfl) | exact ⟨by kernel_rfl, by kernel_rfl⟩) (needs_cons (by first | decide +kernel | (intros; kernel_rfl) | exact ⟨by kernel_rfl, by kernel_rfl⟩) (needs_cons (by first | decide +kernel | (intros; kernel_rfl) | exact ⟨by kernel_rfl, by kernel_rfl⟩) (needs_cons (by first | decide +kernel | (intros; kernel_rfl) | exact ⟨by kernel_rfl, by kernel_rfl⟩) (needs_cons (by first | decide +kernel | (intros; kernel_rfl) | exact ⟨by kernel_rfl, by kernel_rfl⟩) (needs_cons (by first | decide +kernel | (intros; kernel_rfl) | exact ⟨by kernel_rfl, by kernel_rfl⟩) (needs_cons (by first | decide +kernel | (intros; kernel_rfl) | exact ⟨by kernel_rfl, by kernel_rfl⟩) needs_nil)))))))))))))))))))))))
def l08_lives_t : World → List AV → Boxes → Seqs → Option CRes
  | _, [], _, _ => some (.v (.bool l08_lives), [], [])
  | _, _, _, _ => none
theorem l08_lives_tok : TOk Try.prog 39 l08_lives_t := by
  intro w args bx sq c news ps h hp
  unfold l08_lives_t at h
  split at h <;> first | (cases h; done) | skip
  cases h
  exact tok0 (args := []) fun R => l08_lives_c R
noncomputable def Cc_7 := addC 39 l08_lives_t Cc_6
theorem Cc_7_ok : COk Try.prog Cc_7 := addC_ok l08_lives_tok Cc_6_ok

noncomputable def Cc := Cc_7
theorem Cc_ok : COk Try.prog Cc := Cc_7_ok
end Go.Proofs.Yteebobbhhgmeiaa
