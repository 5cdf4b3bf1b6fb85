/- made by a program (gent.py): what functions come to, by their symbolic run over typed data. -/
import Derived.Test.YteebobbhhgmeiaaTa
namespace Go.Proofs.Yteebobbhhgmeiaa
open Go.RowKit

def stamp_known_k0 (a0 : Int) : Bool := !a0 == (1 : Int)
def stamp_known_0 (a0 : Int) : Bool := bif !((stamp_known_k0 a0) && !((stamp_known_k0 a0) && a0 == (2 : Int))) then true else false
def stamp_known_r (a0 : Int) : A := .v (.bool (stamp_known_0 a0))
def stamp_known_o (_a0 : Int) : Objs := []
def stamp_known_ps (_a0 : Int) : List Prop := []
set_option maxRecDepth 100000 in
theorem stamp_known_ev (a0 : Int) : evF (envT Ca L0) 9 151 [valA .i64 a0] 0 [] = some (1, stamp_known_r a0, 0, stamp_known_o a0, []) := by kernel_rfl
set_option maxRecDepth 100000 in
theorem stamp_known_c (a0 : Int) (_hp : ∀ p ∈ stamp_known_ps a0, p) : CallOk Try.prog 151 [valA .i64 a0] 0 [] 1 (stamp_known_r a0) 0 (stamp_known_o a0) := by
  exact evF_ok (envP_ok Ca_ok L0_ok) (stamp_known_ev a0) needs_nil
def stamp_known_t : List A → Nat → Objs → Option CRes
  | [y0], nx, o => match argU .i64 y0 with
    | some (a0, p0) => some (1, (stamp_known_r a0).pk (shiftR nx), nx + 0, shiftO nx (stamp_known_o a0) ++ o, p0 ++ (stamp_known_ps a0))
    | _ => none
  | _, _, _ => none
theorem stamp_known_tok : TOk Try.prog 151 stamp_known_t := fun args nx o k x nx' o' ps h => by
  unfold stamp_known_t at h
  split at h <;> first | (cases h; done) | skip
  split at h <;> first | (cases h; done) | skip
  rename_i a0 p0 e0
  cases h
  refine ⟨fun hp => ?_, _, rfl⟩
  have q0 := fun p hm => hp p (List.mem_append.2 (.inl hm))
  have r0 := fun p hm => hp p (List.mem_append.2 (.inr hm))
  refine callOk_args (callOk_shift (stamp_known_c a0 r0) (Nat.le_refl _) (freeL_cons (valA_free _ _) freeL_nil) nx o) fun F N R vs hl => ?_
  obtain ⟨v0, w0, rfl, h0, hl⟩ := hl.inv
  exact HL.cons (argU_ok e0 q0 h0) (hl)
noncomputable def Cb_1 := addC 151 stamp_known_t Ca
theorem Cb_1_ok : COk Try.prog Cb_1 := addC_ok stamp_known_tok Ca_ok
def stamp_Good_0 (a0 : TStamp) : Bool := bif a0.1 == (0 : Int) && a0.2 == (0 : Int) then true else decide (a0.1 > (0 : Int)) && decide (a0.1 ≤ (281474976710656 : Int)) && stamp_known_0 a0.2
def stamp_Good_r (a0 : TStamp) : A := .v (.bool (stamp_Good_0 a0))
def stamp_Good_o (_a0 : TStamp) : Objs := []
def stamp_Good_ps (_a0 : TStamp) : List Prop := []
set_option maxRecDepth 100000 in
theorem stamp_Good_ev (a0 : TStamp) : evF (envT Cb_1 L0) 9 102 [valA .stamp a0] 0 [] = some (1, stamp_Good_r a0, 0, stamp_Good_o a0, []) := by kernel_rfl
set_option maxRecDepth 100000 in
theorem stamp_Good_c (a0 : TStamp) (_hp : ∀ p ∈ stamp_Good_ps a0, p) : CallOk Try.prog 102 [valA .stamp a0] 0 [] 1 (stamp_Good_r a0) 0 (stamp_Good_o a0) := by
  exact evF_ok (envP_ok Cb_1_ok L0_ok) (stamp_Good_ev a0) needs_nil
def stamp_Good_t : List A → Nat → Objs → Option CRes
  | [y0], nx, o => match argU .stamp y0 with
    | some (a0, p0) => some (1, (stamp_Good_r a0).pk (shiftR nx), nx + 0, shiftO nx (stamp_Good_o a0) ++ o, p0 ++ (stamp_Good_ps a0))
    | _ => none
  | _, _, _ => none
theorem stamp_Good_tok : TOk Try.prog 102 stamp_Good_t := fun args nx o k x nx' o' ps h => by
  unfold stamp_Good_t at h
  split at h <;> first | (cases h; done) | skip
  split at h <;> first | (cases h; done) | skip
  rename_i a0 p0 e0
  cases h
  refine ⟨fun hp => ?_, _, rfl⟩
  have q0 := fun p hm => hp p (List.mem_append.2 (.inl hm))
  have r0 := fun p hm => hp p (List.mem_append.2 (.inr hm))
  refine callOk_args (callOk_shift (stamp_Good_c a0 r0) (Nat.le_refl _) (freeL_cons (valA_free _ _) freeL_nil) nx o) fun F N R vs hl => ?_
  obtain ⟨v0, w0, rfl, h0, hl⟩ := hl.inv
  exact HL.cons (argU_ok e0 q0 h0) (hl)
noncomputable def Cb_2 := addC 102 stamp_Good_t Cb_1
theorem Cb_2_ok : COk Try.prog Cb_2 := addC_ok stamp_Good_tok Cb_1_ok
def r05_Good_0 (a0 : TStamp) : Bool := bif a0.1 == (0 : Int) && a0.2 == (0 : Int) then true else decide (a0.1 ≥ (1 : Int)) && decide (a0.1 ≤ (281474976710656 : Int)) && (a0.2 == (1 : Int) || a0.2 == (2 : Int))
def r05_Good_r (a0 : TStamp) : A := .v (.bool (r05_Good_0 a0))
def r05_Good_o (_a0 : TStamp) : Objs := []
def r05_Good_ps (_a0 : TStamp) : List Prop := []
set_option maxRecDepth 100000 in
theorem r05_Good_ev (a0 : TStamp) : evF (envT Cb_2 L0) 9 104 [valA .stamp a0] 0 [] = some (1, r05_Good_r a0, 0, r05_Good_o a0, []) := by kernel_rfl
set_option maxRecDepth 100000 in
theorem r05_Good_c (a0 : TStamp) (_hp : ∀ p ∈ r05_Good_ps a0, p) : CallOk Try.prog 104 [valA .stamp a0] 0 [] 1 (r05_Good_r a0) 0 (r05_Good_o a0) := by
  exact evF_ok (envP_ok Cb_2_ok L0_ok) (r05_Good_ev a0) needs_nil
def r05_Good_t : List A → Nat → Objs → Option CRes
  | [y0], nx, o => match argU .stamp y0 with
    | some (a0, p0) => some (1, (r05_Good_r a0).pk (shiftR nx), nx + 0, shiftO nx (r05_Good_o a0) ++ o, p0 ++ (r05_Good_ps a0))
    | _ => none
  | _, _, _ => none
theorem r05_Good_tok : TOk Try.prog 104 r05_Good_t := fun args nx o k x nx' o' ps h => by
  unfold r05_Good_t at h
  split at h <;> first | (cases h; done) | skip
  split at h <;> first | (cases h; done) | skip
  rename_i a0 p0 e0
  cases h
  refine ⟨fun hp => ?_, _, rfl⟩
  have q0 := fun p hm => hp p (List.mem_append.2 (.inl hm))
  have r0 := fun p hm => hp p (List.mem_append.2 (.inr hm))
  refine callOk_args (callOk_shift (r05_Good_c a0 r0) (Nat.le_refl _) (freeL_cons (valA_free _ _) freeL_nil) nx o) fun F N R vs hl => ?_
  obtain ⟨v0, w0, rfl, h0, hl⟩ := hl.inv
  exact HL.cons (argU_ok e0 q0 h0) (hl)
noncomputable def Cb_3 := addC 104 r05_Good_t Cb_2
theorem Cb_3_ok : COk Try.prog Cb_3 := addC_ok r05_Good_tok Cb_2_ok
def vec_Good_f1_0 (a0 : Int) (_a1 : Int) : Int := min (max a0 (0 : Int)) (1099511627776 : Int)
def vec_Good_f1_r (a0 : Int) (a1 : Int) : A := .v (.int .i64 (vec_Good_f1_0 a0 a1))
def vec_Good_f1_o (_a0 : Int) (_a1 : Int) : Objs := []
def vec_Good_f1_ps (_a0 : Int) (_a1 : Int) : List Prop := []
set_option maxRecDepth 100000 in
theorem vec_Good_f1_ev (a0 : Int) (a1 : Int) : evF (envT Cb_3 L0) 9 153 [valA .i64 a0, valA .i64 a1] 0 [] = some (1, vec_Good_f1_r a0 a1, 0, vec_Good_f1_o a0 a1, []) := by kernel_rfl
set_option maxRecDepth 100000 in
theorem vec_Good_f1_c (a0 : Int) (a1 : Int) (_hp : ∀ p ∈ vec_Good_f1_ps a0 a1, p) : CallOk Try.prog 153 [valA .i64 a0, valA .i64 a1] 0 [] 1 (vec_Good_f1_r a0 a1) 0 (vec_Good_f1_o a0 a1) := by
  exact evF_ok (envP_ok Cb_3_ok L0_ok) (vec_Good_f1_ev a0 a1) needs_nil
def vec_Good_f1_t : List A → Nat → Objs → Option CRes
  | [y0, y1], nx, o => match argU .i64 y0, argU .i64 y1 with
    | some (a0, p0), some (a1, p1) => some (1, (vec_Good_f1_r a0 a1).pk (shiftR nx), nx + 0, shiftO nx (vec_Good_f1_o a0 a1) ++ o, p0 ++ (p1 ++ (vec_Good_f1_ps a0 a1)))
    | _, _ => none
  | _, _, _ => none
theorem vec_Good_f1_tok : TOk Try.prog 153 vec_Good_f1_t := fun args nx o k x nx' o' ps h => by
  unfold vec_Good_f1_t at h
  split at h <;> first | (cases h; done) | skip
  split at h <;> first | (cases h; done) | skip
  rename_i a0 p0 a1 p1 e0 e1
  cases h
  refine ⟨fun hp => ?_, _, rfl⟩
  have q0 := fun p hm => hp p (List.mem_append.2 (.inl hm))
  have r0 := fun p hm => hp p (List.mem_append.2 (.inr hm))
  have q1 := fun p hm => r0 p (List.mem_append.2 (.inl hm))
  have r1 := fun p hm => r0 p (List.mem_append.2 (.inr hm))
  refine callOk_args (callOk_shift (vec_Good_f1_c a0 a1 r1) (Nat.le_refl _) (freeL_cons (valA_free _ _) (freeL_cons (valA_free _ _) freeL_nil)) nx o) fun F N R vs hl => ?_
  obtain ⟨v0, w0, rfl, h0, hl⟩ := hl.inv
  obtain ⟨v1, w1, rfl, h1, hl⟩ := hl.inv
  exact HL.cons (argU_ok e0 q0 h0) (HL.cons (argU_ok e1 q1 h1) (hl))
noncomputable def Cb_4 := addC 153 vec_Good_f1_t Cb_3
theorem Cb_4_ok : COk Try.prog Cb_4 := addC_ok vec_Good_f1_tok Cb_3_ok
def vec_Join_f1_r (a0 : Int) (a1 : Int) : A := .v (.int .i64 (max a0 a1))
def vec_Join_f1_o (_a0 : Int) (_a1 : Int) : Objs := []
def vec_Join_f1_ps (_a0 : Int) (_a1 : Int) : List Prop := []
set_option maxRecDepth 100000 in
theorem vec_Join_f1_ev (a0 : Int) (a1 : Int) : evF (envT Cb_4 L0) 9 154 [valA .i64 a0, valA .i64 a1] 0 [] = some (1, vec_Join_f1_r a0 a1, 0, vec_Join_f1_o a0 a1, []) := by kernel_rfl
set_option maxRecDepth 100000 in
theorem vec_Join_f1_c (a0 : Int) (a1 : Int) (_hp : ∀ p ∈ vec_Join_f1_ps a0 a1, p) : CallOk Try.prog 154 [valA .i64 a0, valA .i64 a1] 0 [] 1 (vec_Join_f1_r a0 a1) 0 (vec_Join_f1_o a0 a1) := by
  exact evF_ok (envP_ok Cb_4_ok L0_ok) (vec_Join_f1_ev a0 a1) needs_nil
def vec_Join_f1_t : List A → Nat → Objs → Option CRes
  | [y0, y1], nx, o => match argU .i64 y0, argU .i64 y1 with
    | some (a0, p0), some (a1, p1) => some (1, (vec_Join_f1_r a0 a1).pk (shiftR nx), nx + 0, shiftO nx (vec_Join_f1_o a0 a1) ++ o, p0 ++ (p1 ++ (vec_Join_f1_ps a0 a1)))
    | _, _ => none
  | _, _, _ => none
theorem vec_Join_f1_tok : TOk Try.prog 154 vec_Join_f1_t := fun args nx o k x nx' o' ps h => by
  unfold vec_Join_f1_t at h
  split at h <;> first | (cases h; done) | skip
  split at h <;> first | (cases h; done) | skip
  rename_i a0 p0 a1 p1 e0 e1
  cases h
  refine ⟨fun hp => ?_, _, rfl⟩
  have q0 := fun p hm => hp p (List.mem_append.2 (.inl hm))
  have r0 := fun p hm => hp p (List.mem_append.2 (.inr hm))
  have q1 := fun p hm => r0 p (List.mem_append.2 (.inl hm))
  have r1 := fun p hm => r0 p (List.mem_append.2 (.inr hm))
  refine callOk_args (callOk_shift (vec_Join_f1_c a0 a1 r1) (Nat.le_refl _) (freeL_cons (valA_free _ _) (freeL_cons (valA_free _ _) freeL_nil)) nx o) fun F N R vs hl => ?_
  obtain ⟨v0, w0, rfl, h0, hl⟩ := hl.inv
  obtain ⟨v1, w1, rfl, h1, hl⟩ := hl.inv
  exact HL.cons (argU_ok e0 q0 h0) (HL.cons (argU_ok e1 q1 h1) (hl))
noncomputable def Cb_5 := addC 154 vec_Join_f1_t Cb_4
theorem Cb_5_ok : COk Try.prog Cb_5 := addC_ok vec_Join_f1_tok Cb_4_ok
def vec_Meet_f1_r (a0 : Int) (a1 : Int) : A := .v (.int .i64 (min a0 a1))
def vec_Meet_f1_o (_a0 : Int) (_a1 : Int) : Objs := []
def vec_Meet_f1_ps (_a0 : Int) (_a1 : Int) : List Prop := []
set_option maxRecDepth 100000 in
theorem vec_Meet_f1_ev (a0 : Int) (a1 : Int) : evF (envT Cb_5 L0) 9 156 [valA .i64 a0, valA .i64 a1] 0 [] = some (1, vec_Meet_f1_r a0 a1, 0, vec_Meet_f1_o a0 a1, []) := by kernel_rfl
set_option maxRecDepth 100000 in
theorem vec_Meet_f1_c (a0 : Int) (a1 : Int) (_hp : ∀ p ∈ vec_Meet_f1_ps a0 a1, p) : CallOk Try.prog 156 [valA .i64 a0, valA .i64 a1] 0 [] 1 (vec_Meet_f1_r a0 a1) 0 (vec_Meet_f1_o a0 a1) := by
  exact evF_ok (envP_ok Cb_5_ok L0_ok) (vec_Meet_f1_ev a0 a1) needs_nil
def vec_Meet_f1_t : List A → Nat → Objs → Option CRes
  | [y0, y1], nx, o => match argU .i64 y0, argU .i64 y1 with
    | some (a0, p0), some (a1, p1) => some (1, (vec_Meet_f1_r a0 a1).pk (shiftR nx), nx + 0, shiftO nx (vec_Meet_f1_o a0 a1) ++ o, p0 ++ (p1 ++ (vec_Meet_f1_ps a0 a1)))
    | _, _ => none
  | _, _, _ => none
theorem vec_Meet_f1_tok : TOk Try.prog 156 vec_Meet_f1_t := fun args nx o k x nx' o' ps h => by
  unfold vec_Meet_f1_t at h
  split at h <;> first | (cases h; done) | skip
  split at h <;> first | (cases h; done) | skip
  rename_i a0 p0 a1 p1 e0 e1
  cases h
  refine ⟨fun hp => ?_, _, rfl⟩
  have q0 := fun p hm => hp p (List.mem_append.2 (.inl hm))
  have r0 := fun p hm => hp p (List.mem_append.2 (.inr hm))
  have q1 := fun p hm => r0 p (List.mem_append.2 (.inl hm))
  have r1 := fun p hm => r0 p (List.mem_append.2 (.inr hm))
  refine callOk_args (callOk_shift (vec_Meet_f1_c a0 a1 r1) (Nat.le_refl _) (freeL_cons (valA_free _ _) (freeL_cons (valA_free _ _) freeL_nil)) nx o) fun F N R vs hl => ?_
  obtain ⟨v0, w0, rfl, h0, hl⟩ := hl.inv
  obtain ⟨v1, w1, rfl, h1, hl⟩ := hl.inv
  exact HL.cons (argU_ok e0 q0 h0) (HL.cons (argU_ok e1 q1 h1) (hl))
noncomputable def Cb_6 := addC 156 vec_Meet_f1_t Cb_5
theorem Cb_6_ok : COk Try.prog Cb_6 := addC_ok vec_Meet_f1_tok Cb_5_ok
noncomputable def Cb_7 := addC 152 (inl (envT Cb_6 L0) 4 152) Cb_6
theorem Cb_7_ok : COk Try.prog Cb_7 := addC_ok (inl_ok (envP_ok Cb_6_ok L0_ok) 4 152) Cb_6_ok
def vec_Good_0 (a0 : TVec) : Bool := vec_Good_f1_0 a0.1 (0 : Int) == a0.1 && vec_Good_f1_0 a0.2 (0 : Int) == a0.2
def vec_Good_r (a0 : TVec) : A := .v (.bool (vec_Good_0 a0))
def vec_Good_o (_a0 : TVec) : Objs := []
def vec_Good_ps (_a0 : TVec) : List Prop := []
set_option maxRecDepth 100000 in
theorem vec_Good_ev (a0 : TVec) : evF (envT Cb_7 L0) 9 103 [valA .vec a0] 0 [] = some (1, vec_Good_r a0, 0, vec_Good_o a0, [((0 : Int) ≤ (0 : Int) ∧ (0 : Int) < (2 : Int)), ((0 : Nat) < (2 : Nat)), ((0 : Int) ≤ (0 : Int) ∧ (0 : Int) < (2 : Int)), ((0 : Nat) < (2 : Nat)), ((0 : Int) ≤ (0 : Int) ∧ (0 : Int) < (2 : Int)), ((0 : Nat) < (2 : Nat)), ((0 : Int) ≤ (1 : Int) ∧ (1 : Int) < (2 : Int)), ((1 : Nat) < (2 : Nat)), ((0 : Int) ≤ (1 : Int) ∧ (1 : Int) < (2 : Int)), ((1 : Nat) < (2 : Nat)), ((0 : Int) ≤ (1 : Int) ∧ (1 : Int) < (2 : Int)), ((1 : Nat) < (2 : Nat))]) := by kernel_rfl
set_option maxRecDepth 100000 in
theorem vec_Good_c (a0 : TVec) (_hp : ∀ p ∈ vec_Good_ps a0, p) : CallOk Try.prog 103 [valA .vec a0] 0 [] 1 (vec_Good_r a0) 0 (vec_Good_o a0) := by
  have n0 : ((0 : Int) ≤ (0 : Int) ∧ (0 : Int) < (2 : Int)) := by first | rfl | decide +kernel
  have n1 : ((0 : Nat) < (2 : Nat)) := by first | rfl | decide +kernel
  have n6 : ((0 : Int) ≤ (1 : Int) ∧ (1 : Int) < (2 : Int)) := by first | rfl | decide +kernel
  have n7 : ((1 : Nat) < (2 : Nat)) := by first | rfl | decide +kernel
  exact evF_ok (envP_ok Cb_7_ok L0_ok) (vec_Good_ev a0) (needs_cons n0 (needs_cons n1 (needs_cons n0 (needs_cons n1 (needs_cons n0 (needs_cons n1 (needs_cons n6 (needs_cons n7 (needs_cons n6 (needs_cons n7 (needs_cons n6 (needs_cons n7 needs_nil))))))))))))
def vec_Good_t : List A → Nat → Objs → Option CRes
  | [y0], nx, o => match argU .vec y0 with
    | some (a0, p0) => some (1, (vec_Good_r a0).pk (shiftR nx), nx + 0, shiftO nx (vec_Good_o a0) ++ o, p0 ++ (vec_Good_ps a0))
    | _ => none
  | _, _, _ => none
theorem vec_Good_tok : TOk Try.prog 103 vec_Good_t := fun args nx o k x nx' o' ps h => by
  unfold vec_Good_t at h
  split at h <;> first | (cases h; done) | skip
  split at h <;> first | (cases h; done) | skip
  rename_i a0 p0 e0
  cases h
  refine ⟨fun hp => ?_, _, rfl⟩
  have q0 := fun p hm => hp p (List.mem_append.2 (.inl hm))
  have r0 := fun p hm => hp p (List.mem_append.2 (.inr hm))
  refine callOk_args (callOk_shift (vec_Good_c a0 r0) (Nat.le_refl _) (freeL_cons (valA_free _ _) freeL_nil) nx o) fun F N R vs hl => ?_
  obtain ⟨v0, w0, rfl, h0, hl⟩ := hl.inv
  exact HL.cons (argU_ok e0 q0 h0) (hl)
noncomputable def Cb_8 := addC 103 vec_Good_t Cb_7
theorem Cb_8_ok : COk Try.prog Cb_8 := addC_ok vec_Good_tok Cb_7_ok
def vec_Meet_0 (a0 : TVec) (a1 : TVec) : TVec := TVec.mk (min a0.1 a1.1) (min a0.2 a1.2)
def vec_Meet_r (a0 : TVec) (a1 : TVec) : A := .v (.agg ⟨[.int .i64 ((vec_Meet_0 a0 a1).a), .int .i64 ((vec_Meet_0 a0 a1).b)]⟩)
def vec_Meet_o (_a0 : TVec) (_a1 : TVec) : Objs := []
def vec_Meet_ps (_a0 : TVec) (_a1 : TVec) : List Prop := []
set_option maxRecDepth 100000 in
theorem vec_Meet_ev (a0 : TVec) (a1 : TVec) : evF (envT Cb_8 L0) 9 112 [valA .vec a0, valA .vec a1] 0 [] = some (1, vec_Meet_r a0 a1, 0, vec_Meet_o a0 a1, [((0 : Int) ≤ (0 : Int) ∧ (0 : Int) < (2 : Int)), ((0 : Nat) < (2 : Nat)), ((0 : Int) ≤ (0 : Int) ∧ (0 : Int) < (2 : Int)), ((0 : Nat) < (2 : Nat)), ((0 : Int) ≤ (0 : Int) ∧ (0 : Int) < (2 : Int)), ((0 : Nat) < (2 : Nat)), ((0 : Int) ≤ (1 : Int) ∧ (1 : Int) < (2 : Int)), ((1 : Nat) < (2 : Nat)), ((0 : Int) ≤ (1 : Int) ∧ (1 : Int) < (2 : Int)), ((1 : Nat) < (2 : Nat)), ((0 : Int) ≤ (1 : Int) ∧ (1 : Int) < (2 : Int)), ((1 : Nat) < (2 : Nat))]) := by kernel_rfl
set_option maxRecDepth 100000 in
theorem vec_Meet_c (a0 : TVec) (a1 : TVec) (_hp : ∀ p ∈ vec_Meet_ps a0 a1, p) : CallOk Try.prog 112 [valA .vec a0, valA .vec a1] 0 [] 1 (vec_Meet_r a0 a1) 0 (vec_Meet_o a0 a1) := by
  have n0 : ((0 : Int) ≤ (0 : Int) ∧ (0 : Int) < (2 : Int)) := by first | rfl | decide +kernel
  have n1 : ((0 : Nat) < (2 : Nat)) := by first | rfl | decide +kernel
  have n6 : ((0 : Int) ≤ (1 : Int) ∧ (1 : Int) < (2 : Int)) := by first | rfl | decide +kernel
  have n7 : ((1 : Nat) < (2 : Nat)) := by first | rfl | decide +kernel
  exact evF_ok (envP_ok Cb_8_ok L0_ok) (vec_Meet_ev a0 a1) (needs_cons n0 (needs_cons n1 (needs_cons n0 (needs_cons n1 (needs_cons n0 (needs_cons n1 (needs_cons n6 (needs_cons n7 (needs_cons n6 (needs_cons n7 (needs_cons n6 (needs_cons n7 needs_nil))))))))))))
def vec_Meet_t : List A → Nat → Objs → Option CRes
  | [y0, y1], nx, o => match argU .vec y0, argU .vec y1 with
    | some (a0, p0), some (a1, p1) => some (1, (vec_Meet_r a0 a1).pk (shiftR nx), nx + 0, shiftO nx (vec_Meet_o a0 a1) ++ o, p0 ++ (p1 ++ (vec_Meet_ps a0 a1)))
    | _, _ => none
  | _, _, _ => none
theorem vec_Meet_tok : TOk Try.prog 112 vec_Meet_t := fun args nx o k x nx' o' ps h => by
  unfold vec_Meet_t at h
  split at h <;> first | (cases h; done) | skip
  split at h <;> first | (cases h; done) | skip
  rename_i a0 p0 a1 p1 e0 e1
  cases h
  refine ⟨fun hp => ?_, _, rfl⟩
  have q0 := fun p hm => hp p (List.mem_append.2 (.inl hm))
  have r0 := fun p hm => hp p (List.mem_append.2 (.inr hm))
  have q1 := fun p hm => r0 p (List.mem_append.2 (.inl hm))
  have r1 := fun p hm => r0 p (List.mem_append.2 (.inr hm))
  refine callOk_args (callOk_shift (vec_Meet_c a0 a1 r1) (Nat.le_refl _) (freeL_cons (valA_free _ _) (freeL_cons (valA_free _ _) freeL_nil)) nx o) fun F N R vs hl => ?_
  obtain ⟨v0, w0, rfl, h0, hl⟩ := hl.inv
  obtain ⟨v1, w1, rfl, h1, hl⟩ := hl.inv
  exact HL.cons (argU_ok e0 q0 h0) (HL.cons (argU_ok e1 q1 h1) (hl))
noncomputable def Cb_9 := addC 112 vec_Meet_t Cb_8
theorem Cb_9_ok : COk Try.prog Cb_9 := addC_ok vec_Meet_tok Cb_8_ok
def vec_Covers_0 (a0 : TVec) (a1 : TVec) : Bool := (vec_Meet_0 a0 a1).1 == a1.1 && (vec_Meet_0 a0 a1).2 == a1.2
def vec_Covers_r (a0 : TVec) (a1 : TVec) : A := .v (.bool (vec_Covers_0 a0 a1))
def vec_Covers_o (_a0 : TVec) (_a1 : TVec) : Objs := []
def vec_Covers_ps (_a0 : TVec) (_a1 : TVec) : List Prop := []
set_option maxRecDepth 100000 in
theorem vec_Covers_ev (a0 : TVec) (a1 : TVec) : evF (envT Cb_9 L0) 9 53 [valA .vec a0, valA .vec a1] 0 [] = some (1, vec_Covers_r a0 a1, 0, vec_Covers_o a0 a1, []) := by kernel_rfl
set_option maxRecDepth 100000 in
theorem vec_Covers_c (a0 : TVec) (a1 : TVec) (_hp : ∀ p ∈ vec_Covers_ps a0 a1, p) : CallOk Try.prog 53 [valA .vec a0, valA .vec a1] 0 [] 1 (vec_Covers_r a0 a1) 0 (vec_Covers_o a0 a1) := by
  exact evF_ok (envP_ok Cb_9_ok L0_ok) (vec_Covers_ev a0 a1) needs_nil
def vec_Covers_t : List A → Nat → Objs → Option CRes
  | [y0, y1], nx, o => match argU .vec y0, argU .vec y1 with
    | some (a0, p0), some (a1, p1) => some (1, (vec_Covers_r a0 a1).pk (shiftR nx), nx + 0, shiftO nx (vec_Covers_o a0 a1) ++ o, p0 ++ (p1 ++ (vec_Covers_ps a0 a1)))
    | _, _ => none
  | _, _, _ => none
theorem vec_Covers_tok : TOk Try.prog 53 vec_Covers_t := fun args nx o k x nx' o' ps h => by
  unfold vec_Covers_t at h
  split at h <;> first | (cases h; done) | skip
  split at h <;> first | (cases h; done) | skip
  rename_i a0 p0 a1 p1 e0 e1
  cases h
  refine ⟨fun hp => ?_, _, rfl⟩
  have q0 := fun p hm => hp p (List.mem_append.2 (.inl hm))
  have r0 := fun p hm => hp p (List.mem_append.2 (.inr hm))
  have q1 := fun p hm => r0 p (List.mem_append.2 (.inl hm))
  have r1 := fun p hm => r0 p (List.mem_append.2 (.inr hm))
  refine callOk_args (callOk_shift (vec_Covers_c a0 a1 r1) (Nat.le_refl _) (freeL_cons (valA_free _ _) (freeL_cons (valA_free _ _) freeL_nil)) nx o) fun F N R vs hl => ?_
  obtain ⟨v0, w0, rfl, h0, hl⟩ := hl.inv
  obtain ⟨v1, w1, rfl, h1, hl⟩ := hl.inv
  exact HL.cons (argU_ok e0 q0 h0) (HL.cons (argU_ok e1 q1 h1) (hl))
noncomputable def Cb_10 := addC 53 vec_Covers_t Cb_9
theorem Cb_10_ok : COk Try.prog Cb_10 := addC_ok vec_Covers_tok Cb_9_ok
def r06_Good_0 (a0 : TVec) : Bool := decide (a0.1 ≥ (0 : Int)) && decide (a0.1 ≤ (1099511627776 : Int)) && decide (a0.2 ≥ (0 : Int)) && decide (a0.2 ≤ (1099511627776 : Int))
def r06_Good_r (a0 : TVec) : A := .v (.bool (r06_Good_0 a0))
def r06_Good_o (_a0 : TVec) : Objs := []
def r06_Good_ps (_a0 : TVec) : List Prop := []
set_option maxRecDepth 100000 in
theorem r06_Good_ev (a0 : TVec) : evF (envT Cb_10 L0) 9 100 [valA .vec a0] 0 [] = some (1, r06_Good_r a0, 0, r06_Good_o a0, []) := by kernel_rfl
set_option maxRecDepth 100000 in
theorem r06_Good_c (a0 : TVec) (_hp : ∀ p ∈ r06_Good_ps a0, p) : CallOk Try.prog 100 [valA .vec a0] 0 [] 1 (r06_Good_r a0) 0 (r06_Good_o a0) := by
  exact evF_ok (envP_ok Cb_10_ok L0_ok) (r06_Good_ev a0) needs_nil
def r06_Good_t : List A → Nat → Objs → Option CRes
  | [y0], nx, o => match argU .vec y0 with
    | some (a0, p0) => some (1, (r06_Good_r a0).pk (shiftR nx), nx + 0, shiftO nx (r06_Good_o a0) ++ o, p0 ++ (r06_Good_ps a0))
    | _ => none
  | _, _, _ => none
theorem r06_Good_tok : TOk Try.prog 100 r06_Good_t := fun args nx o k x nx' o' ps h => by
  unfold r06_Good_t at h
  split at h <;> first | (cases h; done) | skip
  split at h <;> first | (cases h; done) | skip
  rename_i a0 p0 e0
  cases h
  refine ⟨fun hp => ?_, _, rfl⟩
  have q0 := fun p hm => hp p (List.mem_append.2 (.inl hm))
  have r0 := fun p hm => hp p (List.mem_append.2 (.inr hm))
  refine callOk_args (callOk_shift (r06_Good_c a0 r0) (Nat.le_refl _) (freeL_cons (valA_free _ _) freeL_nil) nx o) fun F N R vs hl => ?_
  obtain ⟨v0, w0, rfl, h0, hl⟩ := hl.inv
  exact HL.cons (argU_ok e0 q0 h0) (hl)
noncomputable def Cb_11 := addC 100 r06_Good_t Cb_10
theorem Cb_11_ok : COk Try.prog Cb_11 := addC_ok r06_Good_tok Cb_10_ok
def r06_Covers_0 (a0 : TVec) (a1 : TVec) : Bool := decide (a0.1 ≥ a1.1) && decide (a0.2 ≥ a1.2)
def r06_Covers_r (a0 : TVec) (a1 : TVec) : A := .v (.bool (r06_Covers_0 a0 a1))
def r06_Covers_o (_a0 : TVec) (_a1 : TVec) : Objs := []
def r06_Covers_ps (_a0 : TVec) (_a1 : TVec) : List Prop := []
set_option maxRecDepth 100000 in
theorem r06_Covers_ev (a0 : TVec) (a1 : TVec) : evF (envT Cb_11 L0) 9 107 [valA .vec a0, valA .vec a1] 0 [] = some (1, r06_Covers_r a0 a1, 0, r06_Covers_o a0 a1, []) := by kernel_rfl
set_option maxRecDepth 100000 in
theorem r06_Covers_c (a0 : TVec) (a1 : TVec) (_hp : ∀ p ∈ r06_Covers_ps a0 a1, p) : CallOk Try.prog 107 [valA .vec a0, valA .vec a1] 0 [] 1 (r06_Covers_r a0 a1) 0 (r06_Covers_o a0 a1) := by
  exact evF_ok (envP_ok Cb_11_ok L0_ok) (r06_Covers_ev a0 a1) needs_nil
def r06_Covers_t : List A → Nat → Objs → Option CRes
  | [y0, y1], nx, o => match argU .vec y0, argU .vec y1 with
    | some (a0, p0), some (a1, p1) => some (1, (r06_Covers_r a0 a1).pk (shiftR nx), nx + 0, shiftO nx (r06_Covers_o a0 a1) ++ o, p0 ++ (p1 ++ (r06_Covers_ps a0 a1)))
    | _, _ => none
  | _, _, _ => none
theorem r06_Covers_tok : TOk Try.prog 107 r06_Covers_t := fun args nx o k x nx' o' ps h => by
  unfold r06_Covers_t at h
  split at h <;> first | (cases h; done) | skip
  split at h <;> first | (cases h; done) | skip
  rename_i a0 p0 a1 p1 e0 e1
  cases h
  refine ⟨fun hp => ?_, _, rfl⟩
  have q0 := fun p hm => hp p (List.mem_append.2 (.inl hm))
  have r0 := fun p hm => hp p (List.mem_append.2 (.inr hm))
  have q1 := fun p hm => r0 p (List.mem_append.2 (.inl hm))
  have r1 := fun p hm => r0 p (List.mem_append.2 (.inr hm))
  refine callOk_args (callOk_shift (r06_Covers_c a0 a1 r1) (Nat.le_refl _) (freeL_cons (valA_free _ _) (freeL_cons (valA_free _ _) freeL_nil)) nx o) fun F N R vs hl => ?_
  obtain ⟨v0, w0, rfl, h0, hl⟩ := hl.inv
  obtain ⟨v1, w1, rfl, h1, hl⟩ := hl.inv
  exact HL.cons (argU_ok e0 q0 h0) (HL.cons (argU_ok e1 q1 h1) (hl))
noncomputable def Cb_12 := addC 107 r06_Covers_t Cb_11
theorem Cb_12_ok : COk Try.prog Cb_12 := addC_ok r06_Covers_tok Cb_11_ok
def frontier_known_r (a0 : Int) : A := .v (.bool (a0 == (1 : Int) || a0 == (2 : Int)))
def frontier_known_o (_a0 : Int) : Objs := []
def frontier_known_ps (_a0 : Int) : List Prop := []
set_option maxRecDepth 100000 in
theorem frontier_known_ev (a0 : Int) : evF (envT Cb_12 L0) 9 96 [valA .i64 a0] 0 [] = some (1, frontier_known_r a0, 0, frontier_known_o a0, []) := by kernel_rfl
set_option maxRecDepth 100000 in
theorem frontier_known_c (a0 : Int) (_hp : ∀ p ∈ frontier_known_ps a0, p) : CallOk Try.prog 96 [valA .i64 a0] 0 [] 1 (frontier_known_r a0) 0 (frontier_known_o a0) := by
  exact evF_ok (envP_ok Cb_12_ok L0_ok) (frontier_known_ev a0) needs_nil
def frontier_known_t : List A → Nat → Objs → Option CRes
  | [y0], nx, o => match argU .i64 y0 with
    | some (a0, p0) => some (1, (frontier_known_r a0).pk (shiftR nx), nx + 0, shiftO nx (frontier_known_o a0) ++ o, p0 ++ (frontier_known_ps a0))
    | _ => none
  | _, _, _ => none
theorem frontier_known_tok : TOk Try.prog 96 frontier_known_t := fun args nx o k x nx' o' ps h => by
  unfold frontier_known_t at h
  split at h <;> first | (cases h; done) | skip
  split at h <;> first | (cases h; done) | skip
  rename_i a0 p0 e0
  cases h
  refine ⟨fun hp => ?_, _, rfl⟩
  have q0 := fun p hm => hp p (List.mem_append.2 (.inl hm))
  have r0 := fun p hm => hp p (List.mem_append.2 (.inr hm))
  refine callOk_args (callOk_shift (frontier_known_c a0 r0) (Nat.le_refl _) (freeL_cons (valA_free _ _) freeL_nil) nx o) fun F N R vs hl => ?_
  obtain ⟨v0, w0, rfl, h0, hl⟩ := hl.inv
  exact HL.cons (argU_ok e0 q0 h0) (hl)
noncomputable def Cb_13 := addC 96 frontier_known_t Cb_12
theorem Cb_13_ok : COk Try.prog Cb_13 := addC_ok frontier_known_tok Cb_12_ok
def frontier_New_k1 (a0 : Int) : Bool := !(a0 == (1 : Int) || a0 == (2 : Int))
def frontier_New_k0 (a0 : Int) : Int := bif (frontier_New_k1 a0) then (0 : Int) else (0 : Int)
def frontier_New_0 (a0 : Int) : TFront := TFront.mk (bif (frontier_New_k1 a0) then (0 : Int) else a0) (frontier_New_k0 a0) (frontier_New_k0 a0) (frontier_New_k0 a0) (frontier_New_k0 a0)
def frontier_New_1 (a0 : Int) : Int := bif (frontier_New_k1 a0) then (2 : Int) else (0 : Int)
def frontier_New_r (a0 : Int) : A := .v (.tuple ⟨[.agg ⟨[.int .i64 ((frontier_New_0 a0).site), .int .i64 ((frontier_New_0 a0).acked), .int .i64 ((frontier_New_0 a0).stable), .int .i64 ((frontier_New_0 a0).wait), .int .i64 ((frontier_New_0 a0).til)]⟩, .int .i64 (frontier_New_1 a0)]⟩)
def frontier_New_o (_a0 : Int) : Objs := []
def frontier_New_ps (_a0 : Int) : List Prop := []
set_option maxRecDepth 100000 in
theorem frontier_New_ev (a0 : Int) : evF (envT Cb_13 L0) 9 24 [valA .i64 a0] 0 [] = some (1, frontier_New_r a0, 0, frontier_New_o a0, []) := by kernel_rfl
set_option maxRecDepth 100000 in
theorem frontier_New_c (a0 : Int) (_hp : ∀ p ∈ frontier_New_ps a0, p) : CallOk Try.prog 24 [valA .i64 a0] 0 [] 1 (frontier_New_r a0) 0 (frontier_New_o a0) := by
  exact evF_ok (envP_ok Cb_13_ok L0_ok) (frontier_New_ev a0) needs_nil
def frontier_New_t : List A → Nat → Objs → Option CRes
  | [y0], nx, o => match argU .i64 y0 with
    | some (a0, p0) => some (1, (frontier_New_r a0).pk (shiftR nx), nx + 0, shiftO nx (frontier_New_o a0) ++ o, p0 ++ (frontier_New_ps a0))
    | _ => none
  | _, _, _ => none
theorem frontier_New_tok : TOk Try.prog 24 frontier_New_t := fun args nx o k x nx' o' ps h => by
  unfold frontier_New_t at h
  split at h <;> first | (cases h; done) | skip
  split at h <;> first | (cases h; done) | skip
  rename_i a0 p0 e0
  cases h
  refine ⟨fun hp => ?_, _, rfl⟩
  have q0 := fun p hm => hp p (List.mem_append.2 (.inl hm))
  have r0 := fun p hm => hp p (List.mem_append.2 (.inr hm))
  refine callOk_args (callOk_shift (frontier_New_c a0 r0) (Nat.le_refl _) (freeL_cons (valA_free _ _) freeL_nil) nx o) fun F N R vs hl => ?_
  obtain ⟨v0, w0, rfl, h0, hl⟩ := hl.inv
  exact HL.cons (argU_ok e0 q0 h0) (hl)
noncomputable def Cb_14 := addC 24 frontier_New_t Cb_13
theorem Cb_14_ok : COk Try.prog Cb_14 := addC_ok frontier_New_tok Cb_13_ok
def frontier_Good_k2 (a0 : TFront) : Bool := decide (a0.4 < (0 : Int)) || decide (a0.4 > (1099511627776 : Int))
def frontier_Good_k1 (a0 : TFront) : Bool := decide (a0.3 < (0 : Int)) || decide (a0.3 > (1099511627776 : Int))
def frontier_Good_k0 (a0 : TFront) : Bool := decide (a0.2 < (0 : Int)) || decide (a0.2 > (1099511627776 : Int))
def frontier_Good_0 (a0 : TFront) : Bool := bif (frontier_Good_k0 a0) || ((frontier_Good_k1 a0) || ((frontier_Good_k2 a0) || (decide (a0.5 < (0 : Int)) || decide (a0.5 > (1099511627776 : Int))))) then bif (frontier_Good_k0 a0) then false else bif (frontier_Good_k1 a0) then false else bif (frontier_Good_k2 a0) then false else false else (a0.1 == (1 : Int) || a0.1 == (2 : Int)) && decide (max a0.3 a0.4 ≤ a0.2) && !(a0.5 == (0 : Int) && decide (a0.4 > (0 : Int)))
def frontier_Good_r (a0 : TFront) : A := .v (.bool (frontier_Good_0 a0))
def frontier_Good_o (_a0 : TFront) : Objs := []
def frontier_Good_ps (_a0 : TFront) : List Prop := []
set_option maxRecDepth 100000 in
theorem frontier_Good_ev (a0 : TFront) : evF (envT Cb_14 L0) 9 34 [valA .front a0] 0 [] = some (1, frontier_Good_r a0, 0, frontier_Good_o a0, []) := by kernel_rfl
set_option maxRecDepth 100000 in
theorem frontier_Good_c (a0 : TFront) (_hp : ∀ p ∈ frontier_Good_ps a0, p) : CallOk Try.prog 34 [valA .front a0] 0 [] 1 (frontier_Good_r a0) 0 (frontier_Good_o a0) := by
  exact evF_ok (envP_ok Cb_14_ok L0_ok) (frontier_Good_ev a0) needs_nil
def frontier_Good_t : List A → Nat → Objs → Option CRes
  | [y0], nx, o => match argU .front y0 with
    | some (a0, p0) => some (1, (frontier_Good_r a0).pk (shiftR nx), nx + 0, shiftO nx (frontier_Good_o a0) ++ o, p0 ++ (frontier_Good_ps a0))
    | _ => none
  | _, _, _ => none
theorem frontier_Good_tok : TOk Try.prog 34 frontier_Good_t := fun args nx o k x nx' o' ps h => by
  unfold frontier_Good_t at h
  split at h <;> first | (cases h; done) | skip
  split at h <;> first | (cases h; done) | skip
  rename_i a0 p0 e0
  cases h
  refine ⟨fun hp => ?_, _, rfl⟩
  have q0 := fun p hm => hp p (List.mem_append.2 (.inl hm))
  have r0 := fun p hm => hp p (List.mem_append.2 (.inr hm))
  refine callOk_args (callOk_shift (frontier_Good_c a0 r0) (Nat.le_refl _) (freeL_cons (valA_free _ _) freeL_nil) nx o) fun F N R vs hl => ?_
  obtain ⟨v0, w0, rfl, h0, hl⟩ := hl.inv
  exact HL.cons (argU_ok e0 q0 h0) (hl)
noncomputable def Cb_15 := addC 34 frontier_Good_t Cb_14
theorem Cb_15_ok : COk Try.prog Cb_15 := addC_ok frontier_Good_tok Cb_14_ok
def frontier_fault_0 (a0 : TFront) (a1 : TVec) : Int := bif !frontier_Good_0 a0 || !vec_Good_0 a1 then (2 : Int) else (0 : Int)
def frontier_fault_r (a0 : TFront) (a1 : TVec) : A := .v (.int .i64 (frontier_fault_0 a0 a1))
def frontier_fault_o (_a0 : TFront) (_a1 : TVec) : Objs := []
def frontier_fault_ps (_a0 : TFront) (_a1 : TVec) : List Prop := []
set_option maxRecDepth 100000 in
theorem frontier_fault_ev (a0 : TFront) (a1 : TVec) : evF (envT Cb_15 L0) 9 97 [valA .front a0, valA .vec a1] 0 [] = some (1, frontier_fault_r a0 a1, 0, frontier_fault_o a0 a1, []) := by kernel_rfl
set_option maxRecDepth 100000 in
theorem frontier_fault_c (a0 : TFront) (a1 : TVec) (_hp : ∀ p ∈ frontier_fault_ps a0 a1, p) : CallOk Try.prog 97 [valA .front a0, valA .vec a1] 0 [] 1 (frontier_fault_r a0 a1) 0 (frontier_fault_o a0 a1) := by
  exact evF_ok (envP_ok Cb_15_ok L0_ok) (frontier_fault_ev a0 a1) needs_nil
def frontier_fault_t : List A → Nat → Objs → Option CRes
  | [y0, y1], nx, o => match argU .front y0, argU .vec y1 with
    | some (a0, p0), some (a1, p1) => some (1, (frontier_fault_r a0 a1).pk (shiftR nx), nx + 0, shiftO nx (frontier_fault_o a0 a1) ++ o, p0 ++ (p1 ++ (frontier_fault_ps a0 a1)))
    | _, _ => none
  | _, _, _ => none
theorem frontier_fault_tok : TOk Try.prog 97 frontier_fault_t := fun args nx o k x nx' o' ps h => by
  unfold frontier_fault_t at h
  split at h <;> first | (cases h; done) | skip
  split at h <;> first | (cases h; done) | skip
  rename_i a0 p0 a1 p1 e0 e1
  cases h
  refine ⟨fun hp => ?_, _, rfl⟩
  have q0 := fun p hm => hp p (List.mem_append.2 (.inl hm))
  have r0 := fun p hm => hp p (List.mem_append.2 (.inr hm))
  have q1 := fun p hm => r0 p (List.mem_append.2 (.inl hm))
  have r1 := fun p hm => r0 p (List.mem_append.2 (.inr hm))
  refine callOk_args (callOk_shift (frontier_fault_c a0 a1 r1) (Nat.le_refl _) (freeL_cons (valA_free _ _) (freeL_cons (valA_free _ _) freeL_nil)) nx o) fun F N R vs hl => ?_
  obtain ⟨v0, w0, rfl, h0, hl⟩ := hl.inv
  obtain ⟨v1, w1, rfl, h1, hl⟩ := hl.inv
  exact HL.cons (argU_ok e0 q0 h0) (HL.cons (argU_ok e1 q1 h1) (hl))
noncomputable def Cb_16 := addC 97 frontier_fault_t Cb_15
theorem Cb_16_ok : COk Try.prog Cb_16 := addC_ok frontier_fault_tok Cb_15_ok
theorem ix21 {s : Int} (h : s = 1 ∨ s = 2) : 0 ≤ IntKind.i64.wrap (2 - s) ∧ IntKind.i64.wrap (2 - s) < 2 := by
  rcases h with rfl | rfl <;> decide
theorem ix12 {s : Int} (h : s = 1 ∨ s = 2) : 0 ≤ IntKind.i64.wrap (s - 1) ∧ IntKind.i64.wrap (s - 1) < 2 := by
  rcases h with rfl | rfl <;> decide
theorem fault_site {f : TFront} {v : TVec} (h : (!(frontier_fault_0 f v != 0)) = true) : f.site = 1 ∨ f.site = 2 := by
  have hg : frontier_Good_0 f = true := by
    unfold frontier_fault_0 at h
    cases hg : frontier_Good_0 f with
    | true => rfl
    | false => rw [hg] at h; cases h
  unfold frontier_Good_0 at hg
  rw [Bool.cond_eq_ite] at hg
  split at hg
  · repeat' (first | (cases hg; done) | (rw [Bool.cond_eq_ite] at hg; split at hg))
  · simp only [Bool.and_eq_true, Bool.or_eq_true, beq_iff_eq] at hg
    exact hg.1.1
theorem site3 {c d : Bool} {s : Int} : (bif c then s else bif d then s else s) = s := by cases c <;> cases d <;> rfl
def frontier_Front_came_k0 (a0 : TFront) (_a1 : TVec) : Int := IntKind.i64.wrap ((2 : Int) - a0.1)
def frontier_Front_came_0 (a0 : TFront) (a1 : TVec) : Int := bif (frontier_Front_came_k0 a0 a1).toNat.beq (0 : Nat) then a1.1 else a1.2
def frontier_Front_came_r (a0 : TFront) (a1 : TVec) : A := .v (.int .i64 (frontier_Front_came_0 a0 a1))
def frontier_Front_came_o (_a0 : TFront) (_a1 : TVec) : Objs := []
def frontier_Front_came_ps (a0 : TFront) (a1 : TVec) : List Prop := [((0 : Int) ≤ (frontier_Front_came_k0 a0 a1) ∧ (frontier_Front_came_k0 a0 a1) < (2 : Int))]
set_option maxRecDepth 100000 in
theorem frontier_Front_came_ev (a0 : TFront) (a1 : TVec) : evF (envT Cb_16 L0) 9 98 [valA .front a0, valA .vec a1] 0 [] = some (1, frontier_Front_came_r a0 a1, 0, frontier_Front_came_o a0 a1, [((0 : Int) ≤ (frontier_Front_came_k0 a0 a1) ∧ (frontier_Front_came_k0 a0 a1) < (2 : Int)), ((frontier_Front_came_k0 a0 a1).toNat < (2 : Nat))]) := by kernel_rfl
set_option maxRecDepth 100000 in
theorem frontier_Front_came_c (a0 : TFront) (a1 : TVec) (hp : ∀ p ∈ frontier_Front_came_ps a0 a1, p) : CallOk Try.prog 98 [valA .front a0, valA .vec a1] 0 [] 1 (frontier_Front_came_r a0 a1) 0 (frontier_Front_came_o a0 a1) := by
  have n0 : ((0 : Int) ≤ (frontier_Front_came_k0 a0 a1) ∧ (frontier_Front_came_k0 a0 a1) < (2 : Int)) := hp _ (List.mem_cons_self ..)
  have n1 : ((frontier_Front_came_k0 a0 a1).toNat < (2 : Nat)) := by omega
  exact evF_ok (envP_ok Cb_16_ok L0_ok) (frontier_Front_came_ev a0 a1) (needs_cons n0 (needs_cons n1 needs_nil))
def frontier_Front_came_t : List A → Nat → Objs → Option CRes
  | [y0, y1], nx, o => match argU .front y0, argU .vec y1 with
    | some (a0, p0), some (a1, p1) => some (1, (frontier_Front_came_r a0 a1).pk (shiftR nx), nx + 0, shiftO nx (frontier_Front_came_o a0 a1) ++ o, p0 ++ (p1 ++ (frontier_Front_came_ps a0 a1)))
    | _, _ => none
  | _, _, _ => none
theorem frontier_Front_came_tok : TOk Try.prog 98 frontier_Front_came_t := fun args nx o k x nx' o' ps h => by
  unfold frontier_Front_came_t at h
  split at h <;> first | (cases h; done) | skip
  split at h <;> first | (cases h; done) | skip
  rename_i a0 p0 a1 p1 e0 e1
  cases h
  refine ⟨fun hp => ?_, _, rfl⟩
  have q0 := fun p hm => hp p (List.mem_append.2 (.inl hm))
  have r0 := fun p hm => hp p (List.mem_append.2 (.inr hm))
  have q1 := fun p hm => r0 p (List.mem_append.2 (.inl hm))
  have r1 := fun p hm => r0 p (List.mem_append.2 (.inr hm))
  refine callOk_args (callOk_shift (frontier_Front_came_c a0 a1 r1) (Nat.le_refl _) (freeL_cons (valA_free _ _) (freeL_cons (valA_free _ _) freeL_nil)) nx o) fun F N R vs hl => ?_
  obtain ⟨v0, w0, rfl, h0, hl⟩ := hl.inv
  obtain ⟨v1, w1, rfl, h1, hl⟩ := hl.inv
  exact HL.cons (argU_ok e0 q0 h0) (HL.cons (argU_ok e1 q1 h1) (hl))
noncomputable def Cb_17 := addC 98 frontier_Front_came_t Cb_16
theorem Cb_17_ok : COk Try.prog Cb_17 := addC_ok frontier_Front_came_tok Cb_16_ok
def frontier_Front_settled_k0 (a0 : TFront) (a1 : TVec) : Bool := decide (a0.5 > (0 : Int)) && decide (frontier_Front_came_0 a0 a1 ≥ a0.5)
def frontier_Front_settled_0 (a0 : TFront) (a1 : TVec) : TFront := TFront.mk (bif (frontier_Front_settled_k0 a0 a1) then a0.1 else a0.1) (bif (frontier_Front_settled_k0 a0 a1) then a0.2 else a0.2) (bif (frontier_Front_settled_k0 a0 a1) then max a0.3 a0.4 else a0.3) (bif (frontier_Front_settled_k0 a0 a1) then (0 : Int) else a0.4) (bif (frontier_Front_settled_k0 a0 a1) then (0 : Int) else a0.5)
def frontier_Front_settled_r (a0 : TFront) (a1 : TVec) : A := .v (.agg ⟨[.int .i64 ((frontier_Front_settled_0 a0 a1).site), .int .i64 ((frontier_Front_settled_0 a0 a1).acked), .int .i64 ((frontier_Front_settled_0 a0 a1).stable), .int .i64 ((frontier_Front_settled_0 a0 a1).wait), .int .i64 ((frontier_Front_settled_0 a0 a1).til)]⟩)
def frontier_Front_settled_o (_a0 : TFront) (_a1 : TVec) : Objs := []
def frontier_Front_settled_ps (a0 : TFront) (a1 : TVec) : List Prop := [(decide (a0.5 > (0 : Int)) = true → (0 : Int) ≤ frontier_Front_came_k0 a0 a1 ∧ frontier_Front_came_k0 a0 a1 < (2 : Int))]
set_option maxRecDepth 100000 in
theorem frontier_Front_settled_ev (a0 : TFront) (a1 : TVec) : evF (envT Cb_17 L0) 9 99 [valA .front a0, valA .vec a1] 0 [] = some (1, frontier_Front_settled_r a0 a1, 0, frontier_Front_settled_o a0 a1, [(decide (a0.5 > (0 : Int)) = true → (0 : Int) ≤ frontier_Front_came_k0 a0 a1 ∧ frontier_Front_came_k0 a0 a1 < (2 : Int))]) := by kernel_rfl
set_option maxRecDepth 100000 in
theorem frontier_Front_settled_c (a0 : TFront) (a1 : TVec) (hp : ∀ p ∈ frontier_Front_settled_ps a0 a1, p) : CallOk Try.prog 99 [valA .front a0, valA .vec a1] 0 [] 1 (frontier_Front_settled_r a0 a1) 0 (frontier_Front_settled_o a0 a1) := by
  have n0 : (decide (a0.5 > (0 : Int)) = true → (0 : Int) ≤ frontier_Front_came_k0 a0 a1 ∧ frontier_Front_came_k0 a0 a1 < (2 : Int)) := hp _ (List.mem_cons_self ..)
  exact evF_ok (envP_ok Cb_17_ok L0_ok) (frontier_Front_settled_ev a0 a1) (needs_cons n0 needs_nil)
def frontier_Front_settled_t : List A → Nat → Objs → Option CRes
  | [y0, y1], nx, o => match argU .front y0, argU .vec y1 with
    | some (a0, p0), some (a1, p1) => some (1, (frontier_Front_settled_r a0 a1).pk (shiftR nx), nx + 0, shiftO nx (frontier_Front_settled_o a0 a1) ++ o, p0 ++ (p1 ++ (frontier_Front_settled_ps a0 a1)))
    | _, _ => none
  | _, _, _ => none
theorem frontier_Front_settled_tok : TOk Try.prog 99 frontier_Front_settled_t := fun args nx o k x nx' o' ps h => by
  unfold frontier_Front_settled_t at h
  split at h <;> first | (cases h; done) | skip
  split at h <;> first | (cases h; done) | skip
  rename_i a0 p0 a1 p1 e0 e1
  cases h
  refine ⟨fun hp => ?_, _, rfl⟩
  have q0 := fun p hm => hp p (List.mem_append.2 (.inl hm))
  have r0 := fun p hm => hp p (List.mem_append.2 (.inr hm))
  have q1 := fun p hm => r0 p (List.mem_append.2 (.inl hm))
  have r1 := fun p hm => r0 p (List.mem_append.2 (.inr hm))
  refine callOk_args (callOk_shift (frontier_Front_settled_c a0 a1 r1) (Nat.le_refl _) (freeL_cons (valA_free _ _) (freeL_cons (valA_free _ _) freeL_nil)) nx o) fun F N R vs hl => ?_
  obtain ⟨v0, w0, rfl, h0, hl⟩ := hl.inv
  obtain ⟨v1, w1, rfl, h1, hl⟩ := hl.inv
  exact HL.cons (argU_ok e0 q0 h0) (HL.cons (argU_ok e1 q1 h1) (hl))
noncomputable def Cb_18 := addC 99 frontier_Front_settled_t Cb_17
theorem Cb_18_ok : COk Try.prog Cb_18 := addC_ok frontier_Front_settled_tok Cb_17_ok
def frontier_Learn_k4 (a0 : TFront) (a1 : TVec) (a2 : Int) (_a3 : Int) : Int := frontier_Front_came_k0 (TFront.mk a0.1 (max a0.2 a2) a0.3 a0.4 a0.5) a1
def frontier_Learn_k3 (a0 : TFront) (a1 : TVec) (_a2 : Int) (_a3 : Int) : Bool := frontier_fault_0 a0 a1 != (0 : Int)
def frontier_Learn_k2 (a0 : TFront) (_a1 : TVec) (_a2 : Int) (_a3 : Int) : Int := IntKind.i64.wrap (a0.1 - (1 : Int))
def frontier_Learn_k1 (a0 : TFront) (a1 : TVec) (a2 : Int) (a3 : Int) : Bool := decide (a2 < (0 : Int)) || decide (a2 > bif (frontier_Learn_k2 a0 a1 a2 a3).toNat.beq (0 : Nat) then a1.1 else a1.2) || decide (a3 < (0 : Int)) || decide (a3 > (1099511627776 : Int))
def frontier_Learn_k0 (a0 : TFront) (a1 : TVec) (a2 : Int) (a3 : Int) : Int := frontier_Front_came_k0 (TFront.mk (bif decide (frontier_Front_came_0 (TFront.mk a0.1 (max a0.2 a2) a0.3 a0.4 a0.5) a1 ≥ a3) then a0.1 else bif a0.5 == (0 : Int) && decide (a2 > a0.3) then a0.1 else a0.1) (bif decide (frontier_Front_came_0 (TFront.mk a0.1 (max a0.2 a2) a0.3 a0.4 a0.5) a1 ≥ a3) then max a0.2 a2 else bif a0.5 == (0 : Int) && decide (a2 > a0.3) then max a0.2 a2 else max a0.2 a2) (bif decide (frontier_Front_came_0 (TFront.mk a0.1 (max a0.2 a2) a0.3 a0.4 a0.5) a1 ≥ a3) then max a0.3 a2 else bif a0.5 == (0 : Int) && decide (a2 > a0.3) then a0.3 else a0.3) (bif decide (frontier_Front_came_0 (TFront.mk a0.1 (max a0.2 a2) a0.3 a0.4 a0.5) a1 ≥ a3) then a0.4 else bif a0.5 == (0 : Int) && decide (a2 > a0.3) then a2 else a0.4) (bif decide (frontier_Front_came_0 (TFront.mk a0.1 (max a0.2 a2) a0.3 a0.4 a0.5) a1 ≥ a3) then a0.5 else bif a0.5 == (0 : Int) && decide (a2 > a0.3) then a3 else a0.5)) a1
def frontier_Learn_0 (a0 : TFront) (a1 : TVec) (a2 : Int) (a3 : Int) : TFront := TFront.mk (bif (frontier_Learn_k3 a0 a1 a2 a3) then (0 : Int) else bif (frontier_Learn_k1 a0 a1 a2 a3) then (0 : Int) else (frontier_Front_settled_0 (TFront.mk (bif decide (frontier_Front_came_0 (TFront.mk a0.1 (max a0.2 a2) a0.3 a0.4 a0.5) a1 ≥ a3) then a0.1 else bif a0.5 == (0 : Int) && decide (a2 > a0.3) then a0.1 else a0.1) (bif decide (frontier_Front_came_0 (TFront.mk a0.1 (max a0.2 a2) a0.3 a0.4 a0.5) a1 ≥ a3) then max a0.2 a2 else bif a0.5 == (0 : Int) && decide (a2 > a0.3) then max a0.2 a2 else max a0.2 a2) (bif decide (frontier_Front_came_0 (TFront.mk a0.1 (max a0.2 a2) a0.3 a0.4 a0.5) a1 ≥ a3) then max a0.3 a2 else bif a0.5 == (0 : Int) && decide (a2 > a0.3) then a0.3 else a0.3) (bif decide (frontier_Front_came_0 (TFront.mk a0.1 (max a0.2 a2) a0.3 a0.4 a0.5) a1 ≥ a3) then a0.4 else bif a0.5 == (0 : Int) && decide (a2 > a0.3) then a2 else a0.4) (bif decide (frontier_Front_came_0 (TFront.mk a0.1 (max a0.2 a2) a0.3 a0.4 a0.5) a1 ≥ a3) then a0.5 else bif a0.5 == (0 : Int) && decide (a2 > a0.3) then a3 else a0.5)) a1).1) (bif (frontier_Learn_k3 a0 a1 a2 a3) then (0 : Int) else bif (frontier_Learn_k1 a0 a1 a2 a3) then (0 : Int) else (frontier_Front_settled_0 (TFront.mk (bif decide (frontier_Front_came_0 (TFront.mk a0.1 (max a0.2 a2) a0.3 a0.4 a0.5) a1 ≥ a3) then a0.1 else bif a0.5 == (0 : Int) && decide (a2 > a0.3) then a0.1 else a0.1) (bif decide (frontier_Front_came_0 (TFront.mk a0.1 (max a0.2 a2) a0.3 a0.4 a0.5) a1 ≥ a3) then max a0.2 a2 else bif a0.5 == (0 : Int) && decide (a2 > a0.3) then max a0.2 a2 else max a0.2 a2) (bif decide (frontier_Front_came_0 (TFront.mk a0.1 (max a0.2 a2) a0.3 a0.4 a0.5) a1 ≥ a3) then max a0.3 a2 else bif a0.5 == (0 : Int) && decide (a2 > a0.3) then a0.3 else a0.3) (bif decide (frontier_Front_came_0 (TFront.mk a0.1 (max a0.2 a2) a0.3 a0.4 a0.5) a1 ≥ a3) then a0.4 else bif a0.5 == (0 : Int) && decide (a2 > a0.3) then a2 else a0.4) (bif decide (frontier_Front_came_0 (TFront.mk a0.1 (max a0.2 a2) a0.3 a0.4 a0.5) a1 ≥ a3) then a0.5 else bif a0.5 == (0 : Int) && decide (a2 > a0.3) then a3 else a0.5)) a1).2) (bif (frontier_Learn_k3 a0 a1 a2 a3) then (0 : Int) else bif (frontier_Learn_k1 a0 a1 a2 a3) then (0 : Int) else (frontier_Front_settled_0 (TFront.mk (bif decide (frontier_Front_came_0 (TFront.mk a0.1 (max a0.2 a2) a0.3 a0.4 a0.5) a1 ≥ a3) then a0.1 else bif a0.5 == (0 : Int) && decide (a2 > a0.3) then a0.1 else a0.1) (bif decide (frontier_Front_came_0 (TFront.mk a0.1 (max a0.2 a2) a0.3 a0.4 a0.5) a1 ≥ a3) then max a0.2 a2 else bif a0.5 == (0 : Int) && decide (a2 > a0.3) then max a0.2 a2 else max a0.2 a2) (bif decide (frontier_Front_came_0 (TFront.mk a0.1 (max a0.2 a2) a0.3 a0.4 a0.5) a1 ≥ a3) then max a0.3 a2 else bif a0.5 == (0 : Int) && decide (a2 > a0.3) then a0.3 else a0.3) (bif decide (frontier_Front_came_0 (TFront.mk a0.1 (max a0.2 a2) a0.3 a0.4 a0.5) a1 ≥ a3) then a0.4 else bif a0.5 == (0 : Int) && decide (a2 > a0.3) then a2 else a0.4) (bif decide (frontier_Front_came_0 (TFront.mk a0.1 (max a0.2 a2) a0.3 a0.4 a0.5) a1 ≥ a3) then a0.5 else bif a0.5 == (0 : Int) && decide (a2 > a0.3) then a3 else a0.5)) a1).3) (bif (frontier_Learn_k3 a0 a1 a2 a3) then (0 : Int) else bif (frontier_Learn_k1 a0 a1 a2 a3) then (0 : Int) else (frontier_Front_settled_0 (TFront.mk (bif decide (frontier_Front_came_0 (TFront.mk a0.1 (max a0.2 a2) a0.3 a0.4 a0.5) a1 ≥ a3) then a0.1 else bif a0.5 == (0 : Int) && decide (a2 > a0.3) then a0.1 else a0.1) (bif decide (frontier_Front_came_0 (TFront.mk a0.1 (max a0.2 a2) a0.3 a0.4 a0.5) a1 ≥ a3) then max a0.2 a2 else bif a0.5 == (0 : Int) && decide (a2 > a0.3) then max a0.2 a2 else max a0.2 a2) (bif decide (frontier_Front_came_0 (TFront.mk a0.1 (max a0.2 a2) a0.3 a0.4 a0.5) a1 ≥ a3) then max a0.3 a2 else bif a0.5 == (0 : Int) && decide (a2 > a0.3) then a0.3 else a0.3) (bif decide (frontier_Front_came_0 (TFront.mk a0.1 (max a0.2 a2) a0.3 a0.4 a0.5) a1 ≥ a3) then a0.4 else bif a0.5 == (0 : Int) && decide (a2 > a0.3) then a2 else a0.4) (bif decide (frontier_Front_came_0 (TFront.mk a0.1 (max a0.2 a2) a0.3 a0.4 a0.5) a1 ≥ a3) then a0.5 else bif a0.5 == (0 : Int) && decide (a2 > a0.3) then a3 else a0.5)) a1).4) (bif (frontier_Learn_k3 a0 a1 a2 a3) then (0 : Int) else bif (frontier_Learn_k1 a0 a1 a2 a3) then (0 : Int) else (frontier_Front_settled_0 (TFront.mk (bif decide (frontier_Front_came_0 (TFront.mk a0.1 (max a0.2 a2) a0.3 a0.4 a0.5) a1 ≥ a3) then a0.1 else bif a0.5 == (0 : Int) && decide (a2 > a0.3) then a0.1 else a0.1) (bif decide (frontier_Front_came_0 (TFront.mk a0.1 (max a0.2 a2) a0.3 a0.4 a0.5) a1 ≥ a3) then max a0.2 a2 else bif a0.5 == (0 : Int) && decide (a2 > a0.3) then max a0.2 a2 else max a0.2 a2) (bif decide (frontier_Front_came_0 (TFront.mk a0.1 (max a0.2 a2) a0.3 a0.4 a0.5) a1 ≥ a3) then max a0.3 a2 else bif a0.5 == (0 : Int) && decide (a2 > a0.3) then a0.3 else a0.3) (bif decide (frontier_Front_came_0 (TFront.mk a0.1 (max a0.2 a2) a0.3 a0.4 a0.5) a1 ≥ a3) then a0.4 else bif a0.5 == (0 : Int) && decide (a2 > a0.3) then a2 else a0.4) (bif decide (frontier_Front_came_0 (TFront.mk a0.1 (max a0.2 a2) a0.3 a0.4 a0.5) a1 ≥ a3) then a0.5 else bif a0.5 == (0 : Int) && decide (a2 > a0.3) then a3 else a0.5)) a1).5)
def frontier_Learn_1 (a0 : TFront) (a1 : TVec) (a2 : Int) (a3 : Int) : Int := bif (frontier_Learn_k3 a0 a1 a2 a3) then frontier_fault_0 a0 a1 else bif (frontier_Learn_k1 a0 a1 a2 a3) then (2 : Int) else (0 : Int)
def frontier_Learn_r (a0 : TFront) (a1 : TVec) (a2 : Int) (a3 : Int) : A := .v (.tuple ⟨[.agg ⟨[.int .i64 ((frontier_Learn_0 a0 a1 a2 a3).site), .int .i64 ((frontier_Learn_0 a0 a1 a2 a3).acked), .int .i64 ((frontier_Learn_0 a0 a1 a2 a3).stable), .int .i64 ((frontier_Learn_0 a0 a1 a2 a3).wait), .int .i64 ((frontier_Learn_0 a0 a1 a2 a3).til)]⟩, .int .i64 (frontier_Learn_1 a0 a1 a2 a3)]⟩)
def frontier_Learn_o (_a0 : TFront) (_a1 : TVec) (_a2 : Int) (_a3 : Int) : Objs := []
def frontier_Learn_ps (a0 : TFront) (a1 : TVec) (a2 : Int) (a3 : Int) : List Prop := [((!(frontier_Learn_k3 a0 a1 a2 a3)) = true → decide (a2 < (0 : Int)) = false → (0 : Int) ≤ (frontier_Learn_k2 a0 a1 a2 a3) ∧ (frontier_Learn_k2 a0 a1 a2 a3) < (2 : Int)), ((!(frontier_Learn_k3 a0 a1 a2 a3)) = true → (!(frontier_Learn_k1 a0 a1 a2 a3)) = true → (0 : Int) ≤ (frontier_Learn_k4 a0 a1 a2 a3) ∧ (frontier_Learn_k4 a0 a1 a2 a3) < (2 : Int)), ((!(frontier_Learn_k3 a0 a1 a2 a3)) = true → (!(frontier_Learn_k1 a0 a1 a2 a3)) = true → decide ((bif decide (frontier_Front_came_0 (TFront.mk a0.1 (max a0.2 a2) a0.3 a0.4 a0.5) a1 ≥ a3) then a0.5 else bif a0.5 == (0 : Int) && decide (a2 > a0.3) then a3 else a0.5) > (0 : Int)) = true → (0 : Int) ≤ (frontier_Learn_k0 a0 a1 a2 a3) ∧ (frontier_Learn_k0 a0 a1 a2 a3) < (2 : Int))]
set_option maxRecDepth 100000 in
theorem frontier_Learn_ev (a0 : TFront) (a1 : TVec) (a2 : Int) (a3 : Int) : evF (envT Cb_18 L0) 9 26 [valA .front a0, valA .vec a1, valA .i64 a2, valA .i64 a3] 0 [] = some (1, frontier_Learn_r a0 a1 a2 a3, 0, frontier_Learn_o a0 a1 a2 a3, [((!(frontier_Learn_k3 a0 a1 a2 a3)) = true → decide (a2 < (0 : Int)) = false → (0 : Int) ≤ (frontier_Learn_k2 a0 a1 a2 a3) ∧ (frontier_Learn_k2 a0 a1 a2 a3) < (2 : Int)), ((!(frontier_Learn_k3 a0 a1 a2 a3)) = true → decide (a2 < (0 : Int)) = false → (frontier_Learn_k2 a0 a1 a2 a3).toNat < (2 : Nat)), ((!(frontier_Learn_k3 a0 a1 a2 a3)) = true → (!(frontier_Learn_k1 a0 a1 a2 a3)) = true → (0 : Int) ≤ (frontier_Learn_k4 a0 a1 a2 a3) ∧ (frontier_Learn_k4 a0 a1 a2 a3) < (2 : Int)), ((!(frontier_Learn_k3 a0 a1 a2 a3)) = true → (!(frontier_Learn_k1 a0 a1 a2 a3)) = true → decide ((bif decide (frontier_Front_came_0 (TFront.mk a0.1 (max a0.2 a2) a0.3 a0.4 a0.5) a1 ≥ a3) then a0.5 else bif a0.5 == (0 : Int) && decide (a2 > a0.3) then a3 else a0.5) > (0 : Int)) = true → (0 : Int) ≤ (frontier_Learn_k0 a0 a1 a2 a3) ∧ (frontier_Learn_k0 a0 a1 a2 a3) < (2 : Int))]) := by kernel_rfl
set_option maxRecDepth 100000 in
theorem frontier_Learn_c (a0 : TFront) (a1 : TVec) (a2 : Int) (a3 : Int) (hp : ∀ p ∈ frontier_Learn_ps a0 a1 a2 a3, p) : CallOk Try.prog 26 [valA .front a0, valA .vec a1, valA .i64 a2, valA .i64 a3] 0 [] 1 (frontier_Learn_r a0 a1 a2 a3) 0 (frontier_Learn_o a0 a1 a2 a3) := by
  have n0 : ((!(frontier_Learn_k3 a0 a1 a2 a3)) = true → decide (a2 < (0 : Int)) = false → (0 : Int) ≤ (frontier_Learn_k2 a0 a1 a2 a3) ∧ (frontier_Learn_k2 a0 a1 a2 a3) < (2 : Int)) := hp _ (List.mem_cons_self ..)
  have n1 : ((!(frontier_Learn_k3 a0 a1 a2 a3)) = true → decide (a2 < (0 : Int)) = false → (frontier_Learn_k2 a0 a1 a2 a3).toNat < (2 : Nat)) := by intro h0 h1; have g := n0 h0 h1; omega
  have n2 : ((!(frontier_Learn_k3 a0 a1 a2 a3)) = true → (!(frontier_Learn_k1 a0 a1 a2 a3)) = true → (0 : Int) ≤ (frontier_Learn_k4 a0 a1 a2 a3) ∧ (frontier_Learn_k4 a0 a1 a2 a3) < (2 : Int)) := hp _ (List.mem_cons_of_mem _ (List.mem_cons_self ..))
  have n3 : ((!(frontier_Learn_k3 a0 a1 a2 a3)) = true → (!(frontier_Learn_k1 a0 a1 a2 a3)) = true → decide ((bif decide (frontier_Front_came_0 (TFront.mk a0.1 (max a0.2 a2) a0.3 a0.4 a0.5) a1 ≥ a3) then a0.5 else bif a0.5 == (0 : Int) && decide (a2 > a0.3) then a3 else a0.5) > (0 : Int)) = true → (0 : Int) ≤ (frontier_Learn_k0 a0 a1 a2 a3) ∧ (frontier_Learn_k0 a0 a1 a2 a3) < (2 : Int)) := hp _ (List.mem_cons_of_mem _ (List.mem_cons_of_mem _ (List.mem_cons_self ..)))
  exact evF_ok (envP_ok Cb_18_ok L0_ok) (frontier_Learn_ev a0 a1 a2 a3) (needs_cons n0 (needs_cons n1 (needs_cons n2 (needs_cons n3 needs_nil))))
theorem frontier_Learn_all (a0 : TFront) (a1 : TVec) (a2 : Int) (a3 : Int) : ∀ p ∈ frontier_Learn_ps a0 a1 a2 a3, p := by
  refine needs_cons (fun h _ => ix12 (fault_site (f := a0) (v := a1) h)) (needs_cons (fun h _ => ix21 (fault_site (f := a0) (v := a1) h)) (needs_cons (fun h _ _ => ?_) needs_nil))
  show 0 ≤ IntKind.i64.wrap (2 - (bif _ then a0.1 else bif _ then a0.1 else a0.1)) ∧ IntKind.i64.wrap (2 - (bif _ then a0.1 else bif _ then a0.1 else a0.1)) < 2
  rw [site3]
  exact ix21 (fault_site (f := a0) (v := a1) h)
def frontier_Learn_t : List A → Nat → Objs → Option CRes
  | [y0, y1, y2, y3], nx, o => match argU .front y0, argU .vec y1, argU .i64 y2, argU .i64 y3 with
    | some (a0, p0), some (a1, p1), some (a2, p2), some (a3, p3) => some (1, (frontier_Learn_r a0 a1 a2 a3).pk (shiftR nx), nx + 0, shiftO nx (frontier_Learn_o a0 a1 a2 a3) ++ o, p0 ++ (p1 ++ (p2 ++ (p3 ++ (([] : List Prop))))))
    | _, _, _, _ => none
  | _, _, _ => none
theorem frontier_Learn_tok : TOk Try.prog 26 frontier_Learn_t := fun args nx o k x nx' o' ps h => by
  unfold frontier_Learn_t at h
  split at h <;> first | (cases h; done) | skip
  split at h <;> first | (cases h; done) | skip
  rename_i a0 p0 a1 p1 a2 p2 a3 p3 e0 e1 e2 e3
  cases h
  refine ⟨fun hp => ?_, _, rfl⟩
  have q0 := fun p hm => hp p (List.mem_append.2 (.inl hm))
  have r0 := fun p hm => hp p (List.mem_append.2 (.inr hm))
  have q1 := fun p hm => r0 p (List.mem_append.2 (.inl hm))
  have r1 := fun p hm => r0 p (List.mem_append.2 (.inr hm))
  have q2 := fun p hm => r1 p (List.mem_append.2 (.inl hm))
  have r2 := fun p hm => r1 p (List.mem_append.2 (.inr hm))
  have q3 := fun p hm => r2 p (List.mem_append.2 (.inl hm))
  refine callOk_args (callOk_shift (frontier_Learn_c a0 a1 a2 a3  (frontier_Learn_all a0 a1 a2 a3)) (Nat.le_refl _) (freeL_cons (valA_free _ _) (freeL_cons (valA_free _ _) (freeL_cons (valA_free _ _) (freeL_cons (valA_free _ _) freeL_nil)))) nx o) fun F N R vs hl => ?_
  obtain ⟨v0, w0, rfl, h0, hl⟩ := hl.inv
  obtain ⟨v1, w1, rfl, h1, hl⟩ := hl.inv
  obtain ⟨v2, w2, rfl, h2, hl⟩ := hl.inv
  obtain ⟨v3, w3, rfl, h3, hl⟩ := hl.inv
  exact HL.cons (argU_ok e0 q0 h0) (HL.cons (argU_ok e1 q1 h1) (HL.cons (argU_ok e2 q2 h2) (HL.cons (argU_ok e3 q3 h3) (hl))))
noncomputable def Cb_19 := addC 26 frontier_Learn_t Cb_18
theorem Cb_19_ok : COk Try.prog Cb_19 := addC_ok frontier_Learn_tok Cb_18_ok
def frontier_Settle_k0 (a0 : TFront) (a1 : TVec) : Bool := frontier_fault_0 a0 a1 != (0 : Int)
def frontier_Settle_0 (a0 : TFront) (a1 : TVec) : TFront := TFront.mk (bif (frontier_Settle_k0 a0 a1) then (0 : Int) else (frontier_Front_settled_0 a0 a1).1) (bif (frontier_Settle_k0 a0 a1) then (0 : Int) else (frontier_Front_settled_0 a0 a1).2) (bif (frontier_Settle_k0 a0 a1) then (0 : Int) else (frontier_Front_settled_0 a0 a1).3) (bif (frontier_Settle_k0 a0 a1) then (0 : Int) else (frontier_Front_settled_0 a0 a1).4) (bif (frontier_Settle_k0 a0 a1) then (0 : Int) else (frontier_Front_settled_0 a0 a1).5)
def frontier_Settle_1 (a0 : TFront) (a1 : TVec) : Int := bif (frontier_Settle_k0 a0 a1) then frontier_fault_0 a0 a1 else (0 : Int)
def frontier_Settle_r (a0 : TFront) (a1 : TVec) : A := .v (.tuple ⟨[.agg ⟨[.int .i64 ((frontier_Settle_0 a0 a1).site), .int .i64 ((frontier_Settle_0 a0 a1).acked), .int .i64 ((frontier_Settle_0 a0 a1).stable), .int .i64 ((frontier_Settle_0 a0 a1).wait), .int .i64 ((frontier_Settle_0 a0 a1).til)]⟩, .int .i64 (frontier_Settle_1 a0 a1)]⟩)
def frontier_Settle_o (_a0 : TFront) (_a1 : TVec) : Objs := []
def frontier_Settle_ps (a0 : TFront) (a1 : TVec) : List Prop := [((!(frontier_Settle_k0 a0 a1)) = true → decide (a0.5 > (0 : Int)) = true → (0 : Int) ≤ frontier_Front_came_k0 a0 a1 ∧ frontier_Front_came_k0 a0 a1 < (2 : Int))]
set_option maxRecDepth 100000 in
theorem frontier_Settle_ev (a0 : TFront) (a1 : TVec) : evF (envT Cb_19 L0) 9 27 [valA .front a0, valA .vec a1] 0 [] = some (1, frontier_Settle_r a0 a1, 0, frontier_Settle_o a0 a1, [((!(frontier_Settle_k0 a0 a1)) = true → decide (a0.5 > (0 : Int)) = true → (0 : Int) ≤ frontier_Front_came_k0 a0 a1 ∧ frontier_Front_came_k0 a0 a1 < (2 : Int))]) := by kernel_rfl
set_option maxRecDepth 100000 in
theorem frontier_Settle_c (a0 : TFront) (a1 : TVec) (hp : ∀ p ∈ frontier_Settle_ps a0 a1, p) : CallOk Try.prog 27 [valA .front a0, valA .vec a1] 0 [] 1 (frontier_Settle_r a0 a1) 0 (frontier_Settle_o a0 a1) := by
  have n0 : ((!(frontier_Settle_k0 a0 a1)) = true → decide (a0.5 > (0 : Int)) = true → (0 : Int) ≤ frontier_Front_came_k0 a0 a1 ∧ frontier_Front_came_k0 a0 a1 < (2 : Int)) := hp _ (List.mem_cons_self ..)
  exact evF_ok (envP_ok Cb_19_ok L0_ok) (frontier_Settle_ev a0 a1) (needs_cons n0 needs_nil)
theorem frontier_Settle_all (a0 : TFront) (a1 : TVec) : ∀ p ∈ frontier_Settle_ps a0 a1, p :=
  needs_cons (fun h _ => ix21 (fault_site (f := a0) (v := a1) h)) needs_nil
def frontier_Settle_t : List A → Nat → Objs → Option CRes
  | [y0, y1], nx, o => match argU .front y0, argU .vec y1 with
    | some (a0, p0), some (a1, p1) => some (1, (frontier_Settle_r a0 a1).pk (shiftR nx), nx + 0, shiftO nx (frontier_Settle_o a0 a1) ++ o, p0 ++ (p1 ++ (([] : List Prop))))
    | _, _ => none
  | _, _, _ => none
theorem frontier_Settle_tok : TOk Try.prog 27 frontier_Settle_t := fun args nx o k x nx' o' ps h => by
  unfold frontier_Settle_t at h
  split at h <;> first | (cases h; done) | skip
  split at h <;> first | (cases h; done) | skip
  rename_i a0 p0 a1 p1 e0 e1
  cases h
  refine ⟨fun hp => ?_, _, rfl⟩
  have q0 := fun p hm => hp p (List.mem_append.2 (.inl hm))
  have r0 := fun p hm => hp p (List.mem_append.2 (.inr hm))
  have q1 := fun p hm => r0 p (List.mem_append.2 (.inl hm))
  refine callOk_args (callOk_shift (frontier_Settle_c a0 a1  (frontier_Settle_all a0 a1)) (Nat.le_refl _) (freeL_cons (valA_free _ _) (freeL_cons (valA_free _ _) freeL_nil)) nx o) fun F N R vs hl => ?_
  obtain ⟨v0, w0, rfl, h0, hl⟩ := hl.inv
  obtain ⟨v1, w1, rfl, h1, hl⟩ := hl.inv
  exact HL.cons (argU_ok e0 q0 h0) (HL.cons (argU_ok e1 q1 h1) (hl))
noncomputable def Cb_20 := addC 27 frontier_Settle_t Cb_19
theorem Cb_20_ok : COk Try.prog Cb_20 := addC_ok frontier_Settle_tok Cb_19_ok
def frontier_Stable_k1 (a0 : TFront) (a1 : TVec) : Bool := frontier_fault_0 a0 a1 != (0 : Int)
def frontier_Stable_k0 (a0 : TFront) (_a1 : TVec) : Int := IntKind.i64.wrap (a0.1 - (1 : Int))
def frontier_Stable_0 (a0 : TFront) (a1 : TVec) : TVec := TVec.mk (bif (frontier_Stable_k1 a0 a1) then (0 : Int) else bif (frontier_Stable_k0 a0 a1).toNat.beq (0 : Nat) then a0.3 else a1.1) (bif (frontier_Stable_k1 a0 a1) then (0 : Int) else bif (frontier_Stable_k0 a0 a1).toNat.beq (1 : Nat) then a0.3 else a1.2)
def frontier_Stable_1 (a0 : TFront) (a1 : TVec) : Int := bif (frontier_Stable_k1 a0 a1) then frontier_fault_0 a0 a1 else (0 : Int)
def frontier_Stable_r (a0 : TFront) (a1 : TVec) : A := .v (.tuple ⟨[.agg ⟨[.int .i64 ((frontier_Stable_0 a0 a1).a), .int .i64 ((frontier_Stable_0 a0 a1).b)]⟩, .int .i64 (frontier_Stable_1 a0 a1)]⟩)
def frontier_Stable_o (_a0 : TFront) (_a1 : TVec) : Objs := []
def frontier_Stable_ps (a0 : TFront) (a1 : TVec) : List Prop := [((!(frontier_Stable_k1 a0 a1)) = true → (0 : Int) ≤ (frontier_Stable_k0 a0 a1) ∧ (frontier_Stable_k0 a0 a1) < (2 : Int))]
set_option maxRecDepth 100000 in
theorem frontier_Stable_ev (a0 : TFront) (a1 : TVec) : evF (envT Cb_20 L0) 9 31 [valA .front a0, valA .vec a1] 0 [] = some (1, frontier_Stable_r a0 a1, 0, frontier_Stable_o a0 a1, [((!(frontier_Stable_k1 a0 a1)) = true → (0 : Int) ≤ (frontier_Stable_k0 a0 a1) ∧ (frontier_Stable_k0 a0 a1) < (2 : Int)), ((!(frontier_Stable_k1 a0 a1)) = true → (frontier_Stable_k0 a0 a1).toNat < (2 : Nat))]) := by kernel_rfl
set_option maxRecDepth 100000 in
theorem frontier_Stable_c (a0 : TFront) (a1 : TVec) (hp : ∀ p ∈ frontier_Stable_ps a0 a1, p) : CallOk Try.prog 31 [valA .front a0, valA .vec a1] 0 [] 1 (frontier_Stable_r a0 a1) 0 (frontier_Stable_o a0 a1) := by
  have n0 : ((!(frontier_Stable_k1 a0 a1)) = true → (0 : Int) ≤ (frontier_Stable_k0 a0 a1) ∧ (frontier_Stable_k0 a0 a1) < (2 : Int)) := hp _ (List.mem_cons_self ..)
  have n1 : ((!(frontier_Stable_k1 a0 a1)) = true → (frontier_Stable_k0 a0 a1).toNat < (2 : Nat)) := by intro h0; have g := n0 h0; omega
  exact evF_ok (envP_ok Cb_20_ok L0_ok) (frontier_Stable_ev a0 a1) (needs_cons n0 (needs_cons n1 needs_nil))
theorem frontier_Stable_all (a0 : TFront) (a1 : TVec) : ∀ p ∈ frontier_Stable_ps a0 a1, p :=
  needs_cons (fun h => ix12 (fault_site (f := a0) (v := a1) h)) needs_nil
def frontier_Stable_t : List A → Nat → Objs → Option CRes
  | [y0, y1], nx, o => match argU .front y0, argU .vec y1 with
    | some (a0, p0), some (a1, p1) => some (1, (frontier_Stable_r a0 a1).pk (shiftR nx), nx + 0, shiftO nx (frontier_Stable_o a0 a1) ++ o, p0 ++ (p1 ++ (([] : List Prop))))
    | _, _ => none
  | _, _, _ => none
theorem frontier_Stable_tok : TOk Try.prog 31 frontier_Stable_t := fun args nx o k x nx' o' ps h => by
  unfold frontier_Stable_t at h
  split at h <;> first | (cases h; done) | skip
  split at h <;> first | (cases h; done) | skip
  rename_i a0 p0 a1 p1 e0 e1
  cases h
  refine ⟨fun hp => ?_, _, rfl⟩
  have q0 := fun p hm => hp p (List.mem_append.2 (.inl hm))
  have r0 := fun p hm => hp p (List.mem_append.2 (.inr hm))
  have q1 := fun p hm => r0 p (List.mem_append.2 (.inl hm))
  refine callOk_args (callOk_shift (frontier_Stable_c a0 a1  (frontier_Stable_all a0 a1)) (Nat.le_refl _) (freeL_cons (valA_free _ _) (freeL_cons (valA_free _ _) freeL_nil)) nx o) fun F N R vs hl => ?_
  obtain ⟨v0, w0, rfl, h0, hl⟩ := hl.inv
  obtain ⟨v1, w1, rfl, h1, hl⟩ := hl.inv
  exact HL.cons (argU_ok e0 q0 h0) (HL.cons (argU_ok e1 q1 h1) (hl))
noncomputable def Cb_21 := addC 31 frontier_Stable_t Cb_20
theorem Cb_21_ok : COk Try.prog Cb_21 := addC_ok frontier_Stable_tok Cb_20_ok
def l23_lives_r  : A := .v (.bool (true))
def l23_lives_o  : Objs := []
def l23_lives_ps  : List Prop := []
set_option maxRecDepth 100000 in
theorem l23_lives_ev  : evF (envT Cb_21 L0) 1040 25 [] 0 [] = some (1, l23_lives_r , 0, l23_lives_o , []) := by kernel_rfl
set_option maxRecDepth 100000 in
theorem l23_lives_c  (_hp : ∀ p ∈ l23_lives_ps , p) : CallOk Try.prog 25 [] 0 [] 1 (l23_lives_r ) 0 (l23_lives_o ) := by
  exact evF_ok (envP_ok Cb_21_ok L0_ok) (l23_lives_ev ) needs_nil
def l23_lives_t : List A → Nat → Objs → Option CRes
  | [], nx, o => some (1, (l23_lives_r ).pk (shiftR nx), nx + 0, shiftO nx (l23_lives_o ) ++ o, l23_lives_ps )
  | _, _, _ => none
theorem l23_lives_tok : TOk Try.prog 25 l23_lives_t := fun args nx o k x nx' o' ps h => by
  unfold l23_lives_t at h
  split at h <;> first | (cases h; done) | skip
  cases h
  refine ⟨fun hp => ?_, _, rfl⟩
  refine callOk_args (callOk_shift (l23_lives_c  hp) (Nat.le_refl _) freeL_nil nx o) fun F N R vs hl => ?_
  exact hl
noncomputable def Cb_22 := addC 25 l23_lives_t Cb_21
theorem Cb_22_ok : COk Try.prog Cb_22 := addC_ok l23_lives_tok Cb_21_ok

noncomputable def Cb := Cb_22
theorem Cb_ok : COk Try.prog Cb := Cb_22_ok
end Go.Proofs.Yteebobbhhgmeiaa
