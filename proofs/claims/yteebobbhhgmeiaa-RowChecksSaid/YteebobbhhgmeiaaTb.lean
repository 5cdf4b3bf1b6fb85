/- made by a program (gent.py): what functions come to, by their symbolic run over typed data. -/
import Derived.Test.YteebobbhhgmeiaaTa
namespace Go.Proofs.Yteebobbhhgmeiaa
open Go.RowKit

def stamp_known_k0 (a0 : Int) : Bool := !a0 == (1 : Int)
def stamp_known_0 (a0 : Int) : Bool := bif !((stamp_known_k0 a0) && !((stamp_known_k0 a0) && a0 == (2 : Int))) then true else false
def stamp_known_r (a0 : Int) : A := .v (.bool (stamp_known_0 a0))
def stamp_known_o (_a0 : Int) : Objs := []
def stamp_known_ps (_a0 : Int) : List Prop := []
set_option maxRecDepth 100000 in
theorem stamp_known_ev (a0 : Int) : evF (envT Ca L0) 9 151 [valA .i64 a0] 0 [] = some (1, stamp_known_r a0, 0, stamp_known_o a0, []) := by kernel_rfl
set_option maxRecDepth 100000 in
theorem stamp_known_c (a0 : Int) (_hp : ∀ p ∈ stamp_known_ps a0, p) : CallOk Try.prog 151 [valA .i64 a0] 0 [] 1 (stamp_known_r a0) 0 (stamp_known_o a0) := by
  exact evF_ok (envP_ok Ca_ok L0_ok) (stamp_known_ev a0) needs_nil
def stamp_known_t : List A → Nat → Objs → Option CRes
  | [y0], nx, o => match argU .i64 y0 with
    | some (a0, p0) => some (1, (stamp_known_r a0).pk (shiftR nx), nx + 0, shiftO nx (stamp_known_o a0) ++ o, p0 ++ (stamp_known_ps a0))
    | _ => none
  | _, _, _ => none
theorem stamp_known_tok : TOk Try.prog 151 stamp_known_t := fun args nx o k x nx' o' ps h => by
  unfold stamp_known_t at h
  split at h <;> first | (cases h; done) | skip
  split at h <;> first | (cases h; done) | skip
  rename_i a0 p0 e0
  cases h
  refine ⟨fun hp => ?_, _, rfl⟩
  have q0 := fun p hm => hp p (List.mem_append.2 (.inl hm))
  have r0 := fun p hm => hp p (List.mem_append.2 (.inr hm))
  refine callOk_args (callOk_shift (stamp_known_c a0 r0) (Nat.le_refl _) (freeL_cons (valA_free _ _) freeL_nil) nx o) fun F N R vs hl => ?_
  obtain ⟨v0, w0, rfl, h0, hl⟩ := hl.inv
  exact HL.cons (argU_ok e0 q0 h0) (hl)
noncomputable def Cb_1 := addC 151 stamp_known_t Ca
theorem Cb_1_ok : COk Try.prog Cb_1 := addC_ok stamp_known_tok Ca_ok
def stamp_Good_0 (a0 : TStamp) : Bool := bif a0.1 == (0 : Int) && a0.2 == (0 : Int) then true else decide (a0.1 > (0 : Int)) && decide (a0.1 ≤ (281474976710656 : Int)) && stamp_known_0 a0.2
def stamp_Good_r (a0 : TStamp) : A := .v (.bool (stamp_Good_0 a0))
def stamp_Good_o (_a0 : TStamp) : Objs := []
def stamp_Good_ps (_a0 : TStamp) : List Prop := []
set_option maxRecDepth 100000 in
theorem stamp_Good_ev (a0 : TStamp) : evF (envT Cb_1 L0) 9 102 [valA .stamp a0] 0 [] = some (1, stamp_Good_r a0, 0, stamp_Good_o a0, []) := by kernel_rfl
set_option maxRecDepth 100000 in
theorem stamp_Good_c (a0 : TStamp) (_hp : ∀ p ∈ stamp_Good_ps a0, p) : CallOk Try.prog 102 [valA .stamp a0] 0 [] 1 (stamp_Good_r a0) 0 (stamp_Good_o a0) := by
  exact evF_ok (envP_ok Cb_1_ok L0_ok) (stamp_Good_ev a0) needs_nil
def stamp_Good_t : List A → Nat → Objs → Option CRes
  | [y0], nx, o => match argU .stamp y0 with
    | some (a0, p0) => some (1, (stamp_Good_r a0).pk (shiftR nx), nx + 0, shiftO nx (stamp_Good_o a0) ++ o, p0 ++ (stamp_Good_ps a0))
    | _ => none
  | _, _, _ => none
theorem stamp_Good_tok : TOk Try.prog 102 stamp_Good_t := fun args nx o k x nx' o' ps h => by
  unfold stamp_Good_t at h
  split at h <;> first | (cases h; done) | skip
  split at h <;> first | (cases h; done) | skip
  rename_i a0 p0 e0
  cases h
  refine ⟨fun hp => ?_, _, rfl⟩
  have q0 := fun p hm => hp p (List.mem_append.2 (.inl hm))
  have r0 := fun p hm => hp p (List.mem_append.2 (.inr hm))
  refine callOk_args (callOk_shift (stamp_Good_c a0 r0) (Nat.le_refl _) (freeL_cons (valA_free _ _) freeL_nil) nx o) fun F N R vs hl => ?_
  obtain ⟨v0, w0, rfl, h0, hl⟩ := hl.inv
  exact HL.cons (argU_ok e0 q0 h0) (hl)
noncomputable def Cb_2 := addC 102 stamp_Good_t Cb_1
theorem Cb_2_ok : COk Try.prog Cb_2 := addC_ok stamp_Good_tok Cb_1_ok
def r05_Good_0 (a0 : TStamp) : Bool := bif a0.1 == (0 : Int) && a0.2 == (0 : Int) then true else decide (a0.1 ≥ (1 : Int)) && decide (a0.1 ≤ (281474976710656 : Int)) && (a0.2 == (1 : Int) || a0.2 == (2 : Int))
def r05_Good_r (a0 : TStamp) : A := .v (.bool (r05_Good_0 a0))
def r05_Good_o (_a0 : TStamp) : Objs := []
def r05_Good_ps (_a0 : TStamp) : List Prop := []
set_option maxRecDepth 100000 in
theorem r05_Good_ev (a0 : TStamp) : evF (envT Cb_2 L0) 9 104 [valA .stamp a0] 0 [] = some (1, r05_Good_r a0, 0, r05_Good_o a0, []) := by kernel_rfl
set_option maxRecDepth 100000 in
theorem r05_Good_c (a0 : TStamp) (_hp : ∀ p ∈ r05_Good_ps a0, p) : CallOk Try.prog 104 [valA .stamp a0] 0 [] 1 (r05_Good_r a0) 0 (r05_Good_o a0) := by
  exact evF_ok (envP_ok Cb_2_ok L0_ok) (r05_Good_ev a0) needs_nil
def r05_Good_t : List A → Nat → Objs → Option CRes
  | [y0], nx, o => match argU .stamp y0 with
    | some (a0, p0) => some (1, (r05_Good_r a0).pk (shiftR nx), nx + 0, shiftO nx (r05_Good_o a0) ++ o, p0 ++ (r05_Good_ps a0))
    | _ => none
  | _, _, _ => none
theorem r05_Good_tok : TOk Try.prog 104 r05_Good_t := fun args nx o k x nx' o' ps h => by
  unfold r05_Good_t at h
  split at h <;> first | (cases h; done) | skip
  split at h <;> first | (cases h; done) | skip
  rename_i a0 p0 e0
  cases h
  refine ⟨fun hp => ?_, _, rfl⟩
  have q0 := fun p hm => hp p (List.mem_append.2 (.inl hm))
  have r0 := fun p hm => hp p (List.mem_append.2 (.inr hm))
  refine callOk_args (callOk_shift (r05_Good_c a0 r0) (Nat.le_refl _) (freeL_cons (valA_free _ _) freeL_nil) nx o) fun F N R vs hl => ?_
  obtain ⟨v0, w0, rfl, h0, hl⟩ := hl.inv
  exact HL.cons (argU_ok e0 q0 h0) (hl)
noncomputable def Cb_3 := addC 104 r05_Good_t Cb_2
theorem Cb_3_ok : COk Try.prog Cb_3 := addC_ok r05_Good_tok Cb_2_ok
def vec_Good_f1_0 (a0 : Int) (_a1 : Int) : Int := min (max a0 (0 : Int)) (1099511627776 : Int)
def vec_Good_f1_r (a0 : Int) (a1 : Int) : A := .v (.int .i64 (vec_Good_f1_0 a0 a1))
def vec_Good_f1_o (_a0 : Int) (_a1 : Int) : Objs := []
def vec_Good_f1_ps (_a0 : Int) (_a1 : Int) : List Prop := []
set_option maxRecDepth 100000 in
theorem vec_Good_f1_ev (a0 : Int) (a1 : Int) : evF (envT Cb_3 L0) 9 153 [valA .i64 a0, valA .i64 a1] 0 [] = some (1, vec_Good_f1_r a0 a1, 0, vec_Good_f1_o a0 a1, []) := by kernel_rfl
set_option maxRecDepth 100000 in
theorem vec_Good_f1_c (a0 : Int) (a1 : Int) (_hp : ∀ p ∈ vec_Good_f1_ps a0 a1, p) : CallOk Try.prog 153 [valA .i64 a0, valA .i64 a1] 0 [] 1 (vec_Good_f1_r a0 a1) 0 (vec_Good_f1_o a0 a1) := by
  exact evF_ok (envP_ok Cb_3_ok L0_ok) (vec_Good_f1_ev a0 a1) needs_nil
def vec_Good_f1_t : List A → Nat → Objs → Option CRes
  | [y0, y1], nx, o => match argU .i64 y0, argU .i64 y1 with
    | some (a0, p0), some (a1, p1) => some (1, (vec_Good_f1_r a0 a1).pk (shiftR nx), nx + 0, shiftO nx (vec_Good_f1_o a0 a1) ++ o, p0 ++ (p1 ++ (vec_Good_f1_ps a0 a1)))
    | _, _ => none
  | _, _, _ => none
theorem vec_Good_f1_tok : TOk Try.prog 153 vec_Good_f1_t := fun args nx o k x nx' o' ps h => by
  unfold vec_Good_f1_t at h
  split at h <;> first | (cases h; done) | skip
  split at h <;> first | (cases h; done) | skip
  rename_i a0 p0 a1 p1 e0 e1
  cases h
  refine ⟨fun hp => ?_, _, rfl⟩
  have q0 := fun p hm => hp p (List.mem_append.2 (.inl hm))
  have r0 := fun p hm => hp p (List.mem_append.2 (.inr hm))
  have q1 := fun p hm => r0 p (List.mem_append.2 (.inl hm))
  have r1 := fun p hm => r0 p (List.mem_append.2 (.inr hm))
  refine callOk_args (callOk_shift (vec_Good_f1_c a0 a1 r1) (Nat.le_refl _) (freeL_cons (valA_free _ _) (freeL_cons (valA_free _ _) freeL_nil)) nx o) fun F N R vs hl => ?_
  obtain ⟨v0, w0, rfl, h0, hl⟩ := hl.inv
  obtain ⟨v1, w1, rfl, h1, hl⟩ := hl.inv
  exact HL.cons (argU_ok e0 q0 h0) (HL.cons (argU_ok e1 q1 h1) (hl))
noncomputable def Cb_4 := addC 153 vec_Good_f1_t Cb_3
theorem Cb_4_ok : COk Try.prog Cb_4 := addC_ok vec_Good_f1_tok Cb_3_ok
def vec_Join_f1_r (a0 : Int) (a1 : Int) : A := .v (.int .i64 (max a0 a1))
def vec_Join_f1_o (_a0 : Int) (_a1 : Int) : Objs := []
def vec_Join_f1_ps (_a0 : Int) (_a1 : Int) : List Prop := []
set_option maxRecDepth 100000 in
theorem vec_Join_f1_ev (a0 : Int) (a1 : Int) : evF (envT Cb_4 L0) 9 154 [valA .i64 a0, valA .i64 a1] 0 [] = some (1, vec_Join_f1_r a0 a1, 0, vec_Join_f1_o a0 a1, []) := by kernel_rfl
set_option maxRecDepth 100000 in
theorem vec_Join_f1_c (a0 : Int) (a1 : Int) (_hp : ∀ p ∈ vec_Join_f1_ps a0 a1, p) : CallOk Try.prog 154 [valA .i64 a0, valA .i64 a1] 0 [] 1 (vec_Join_f1_r a0 a1) 0 (vec_Join_f1_o a0 a1) := by
  exact evF_ok (envP_ok Cb_4_ok L0_ok) (vec_Join_f1_ev a0 a1) needs_nil
def vec_Join_f1_t : List A → Nat → Objs → Option CRes
  | [y0, y1], nx, o => match argU .i64 y0, argU .i64 y1 with
    | some (a0, p0), some (a1, p1) => some (1, (vec_Join_f1_r a0 a1).pk (shiftR nx), nx + 0, shiftO nx (vec_Join_f1_o a0 a1) ++ o, p0 ++ (p1 ++ (vec_Join_f1_ps a0 a1)))
    | _, _ => none
  | _, _, _ => none
theorem vec_Join_f1_tok : TOk Try.prog 154 vec_Join_f1_t := fun args nx o k x nx' o' ps h => by
  unfold vec_Join_f1_t at h
  split at h <;> first | (cases h; done) | skip
  split at h <;> first | (cases h; done) | skip
  rename_i a0 p0 a1 p1 e0 e1
  cases h
  refine ⟨fun hp => ?_, _, rfl⟩
  have q0 := fun p hm => hp p (List.mem_append.2 (.inl hm))
  have r0 := fun p hm => hp p (List.mem_append.2 (.inr hm))
  have q1 := fun p hm => r0 p (List.mem_append.2 (.inl hm))
  have r1 := fun p hm => r0 p (List.mem_append.2 (.inr hm))
  refine callOk_args (callOk_shift (vec_Join_f1_c a0 a1 r1) (Nat.le_refl _) (freeL_cons (valA_free _ _) (freeL_cons (valA_free _ _) freeL_nil)) nx o) fun F N R vs hl => ?_
  obtain ⟨v0, w0, rfl, h0, hl⟩ := hl.inv
  obtain ⟨v1, w1, rfl, h1, hl⟩ := hl.inv
  exact HL.cons (argU_ok e0 q0 h0) (HL.cons (argU_ok e1 q1 h1) (hl))
noncomputable def Cb_5 := addC 154 vec_Join_f1_t Cb_4
theorem Cb_5_ok : COk Try.prog Cb_5 := addC_ok vec_Join_f1_tok Cb_4_ok
def vec_Meet_f1_r (a0 : Int) (a1 : Int) : A := .v (.int .i64 (min a0 a1))
def vec_Meet_f1_o (_a0 : Int) (_a1 : Int) : Objs := []
def vec_Meet_f1_ps (_a0 : Int) (_a1 : Int) : List Prop := []
set_option maxRecDepth 100000 in
theorem vec_Meet_f1_ev (a0 : Int) (a1 : Int) : evF (envT Cb_5 L0) 9 156 [valA .i64 a0, valA .i64 a1] 0 [] = some (1, vec_Meet_f1_r a0 a1, 0, vec_Meet_f1_o a0 a1, []) := by kernel_rfl
set_option maxRecDepth 100000 in
theorem vec_Meet_f1_c (a0 : Int) (a1 : Int) (_hp : ∀ p ∈ vec_Meet_f1_ps a0 a1, p) : CallOk Try.prog 156 [valA .i64 a0, valA .i64 a1] 0 [] 1 (vec_Meet_f1_r a0 a1) 0 (vec_Meet_f1_o a0 a1) := by
  exact evF_ok (envP_ok Cb_5_ok L0_ok) (vec_Meet_f1_ev a0 a1) needs_nil
def vec_Meet_f1_t : List A → Nat → Objs → Option CRes
  | [y0, y1], nx, o => match argU .i64 y0, argU .i64 y1 with
    | some (a0, p0), some (a1, p1) => some (1, (vec_Meet_f1_r a0 a1).pk (shiftR nx), nx + 0, shiftO nx (vec_Meet_f1_o a0 a1) ++ o, p0 ++ (p1 ++ (vec_Meet_f1_ps a0 a1)))
    | _, _ => none
  | _, _, _ => none
theorem vec_Meet_f1_tok : TOk Try.prog 156 vec_Meet_f1_t := fun args nx o k x nx' o' ps h => by
  unfold vec_Meet_f1_t at h
  split at h <;> first | (cases h; done) | skip
  split at h <;> first | (cases h; done) | skip
  rename_i a0 p0 a1 p1 e0 e1
  cases h
  refine ⟨fun hp => ?_, _, rfl⟩
  have q0 := fun p hm => hp p (List.mem_append.2 (.inl hm))
  have r0 := fun p hm => hp p (List.mem_append.2 (.inr hm))
  have q1 := fun p hm => r0 p (List.mem_append.2 (.inl hm))
  have r1 := fun p hm => r0 p (List.mem_append.2 (.inr hm))
  refine callOk_args (callOk_shift (vec_Meet_f1_c a0 a1 r1) (Nat.le_refl _) (freeL_cons (valA_free _ _) (freeL_cons (valA_free _ _) freeL_nil)) nx o) fun F N R vs hl => ?_
  obtain ⟨v0, w0, rfl, h0, hl⟩ := hl.inv
  obtain ⟨v1, w1, rfl, h1, hl⟩ := hl.inv
  exact HL.cons (argU_ok e0 q0 h0) (HL.cons (argU_ok e1 q1 h1) (hl))
noncomputable def Cb_6 := addC 156 vec_Meet_f1_t Cb_5
theorem Cb_6_ok : COk Try.prog Cb_6 := addC_ok vec_Meet_f1_tok Cb_5_ok
noncomputable def Cb_7 := addC 152 (inl (envT Cb_6 L0) 4 152) Cb_6
theorem Cb_7_ok : COk Try.prog Cb_7 := addC_ok (inl_ok (envP_ok Cb_6_ok L0_ok) 4 152) Cb_6_ok
def vec_Good_0 (a0 : TVec) : Bool := vec_Good_f1_0 a0.1 (0 : Int) == a0.1 && vec_Good_f1_0 a0.2 (0 : Int) == a0.2
def vec_Good_r (a0 : TVec) : A := .v (.bool (vec_Good_0 a0))
def vec_Good_o (_a0 : TVec) : Objs := []
def vec_Good_ps (_a0 : TVec) : List Prop := []
set_option maxRecDepth 100000 in
theorem vec_Good_ev (a0 : TVec) : evF (envT Cb_7 L0) 9 103 [valA .vec a0] 0 [] = some (1, vec_Good_r a0, 0, vec_Good_o a0, [((0 : Int) ≤ (0 : Int) ∧ (0 : Int) < (2 : Int)), ((0 : Nat) < (2 : Nat)), ((0 : Int) ≤ (0 : Int) ∧ (0 : Int) < (2 : Int)), ((0 : Nat) < (2 : Nat)), ((0 : Int) ≤ (0 : Int) ∧ (0 : Int) < (2 : Int)), ((0 : Nat) < (2 : Nat)), ((0 : Int) ≤ (1 : Int) ∧ (1 : Int) < (2 : Int)), ((1 : Nat) < (2 : Nat)), ((0 : Int) ≤ (1 : Int) ∧ (1 : Int) < (2 : Int)), ((1 : Nat) < (2 : Nat)), ((0 : Int) ≤ (1 : Int) ∧ (1 : Int) < (2 : Int)), ((1 : Nat) < (2 : Nat))]) := by kernel_rfl
set_option maxRecDepth 100000 in
theorem vec_Good_c (a0 : TVec) (_hp : ∀ p ∈ vec_Good_ps a0, p) : CallOk Try.prog 103 [valA .vec a0] 0 [] 1 (vec_Good_r a0) 0 (vec_Good_o a0) := by
  have n0 : ((0 : Int) ≤ (0 : Int) ∧ (0 : Int) < (2 : Int)) := by first | rfl | decide +kernel
  have n1 : ((0 : Nat) < (2 : Nat)) := by first | rfl | decide +kernel
  have n6 : ((0 : Int) ≤ (1 : Int) ∧ (1 : Int) < (2 : Int)) := by first | rfl | decide +kernel
  have n7 : ((1 : Nat) < (2 : Nat)) := by first | rfl | decide +kernel
  exact evF_ok (envP_ok Cb_7_ok L0_ok) (vec_Good_ev a0) (needs_cons n0 (needs_cons n1 (needs_cons n0 (needs_cons n1 (needs_cons n0 (needs_cons n1 (needs_cons n6 (needs_cons n7 (needs_cons n6 (needs_cons n7 (needs_cons n6 (needs_cons n7 needs_nil))))))))))))
def vec_Good_t : List A → Nat → Objs → Option CRes
  | [y0], nx, o => match argU .vec y0 with
    | some (a0, p0) => some (1, (vec_Good_r a0).pk (shiftR nx), nx + 0, shiftO nx (vec_Good_o a0) ++ o, p0 ++ (vec_Good_ps a0))
    | _ => none
  | _, _, _ => none
theorem vec_Good_tok : TOk Try.prog 103 vec_Good_t := fun args nx o k x nx' o' ps h => by
  unfold vec_Good_t at h
  split at h <;> first | (cases h; done) | skip
  split at h <;> first | (cases h; done) | skip
  rename_i a0 p0 e0
  cases h
  refine ⟨fun hp => ?_, _, rfl⟩
  have q0 := fun p hm => hp p (List.mem_append.2 (.inl hm))
  have r0 := fun p hm => hp p (List.mem_append.2 (.inr hm))
  refine callOk_args (callOk_shift (vec_Good_c a0 r0) (Nat.le_refl _) (freeL_cons (valA_free _ _) freeL_nil) nx o) fun F N R vs hl => ?_
  obtain ⟨v0, w0, rfl, h0, hl⟩ := hl.inv
  exact HL.cons (argU_ok e0 q0 h0) (hl)
noncomputable def Cb_8 := addC 103 vec_Good_t Cb_7
theorem Cb_8_ok : COk Try.prog Cb_8 := addC_ok vec_Good_tok Cb_7_ok
def vec_Meet_0 (a0 : TVec) (a1 : TVec) : TVec := TVec.mk (min a0.1 a1.1) (min a0.2 a1.2)
def vec_Meet_r (a0 : TVec) (a1 : TVec) : A := .v (.agg ⟨[.int .i64 ((vec_Meet_0 a0 a1).a), .int .i64 ((vec_Meet_0 a0 a1).b)]⟩)
def vec_Meet_o (_a0 : TVec) (_a1 : TVec) : Objs := []
def vec_Meet_ps (_a0 : TVec) (_a1 : TVec) : List Prop := []
set_option maxRecDepth 100000 in
theorem vec_Meet_ev (a0 : TVec) (a1 : TVec) : evF (envT Cb_8 L0) 9 112 [valA .vec a0, valA .vec a1] 0 [] = some (1, vec_Meet_r a0 a1, 0, vec_Meet_o a0 a1, [((0 : Int) ≤ (0 : Int) ∧ (0 : Int) < (2 : Int)), ((0 : Nat) < (2 : Nat)), ((0 : Int) ≤ (0 : Int) ∧ (0 : Int) < (2 : Int)), ((0 : Nat) < (2 : Nat)), ((0 : Int) ≤ (0 : Int) ∧ (0 : Int) < (2 : Int)), ((0 : Nat) < (2 : Nat)), ((0 : Int) ≤ (1 : Int) ∧ (1 : Int) < (2 : Int)), ((1 : Nat) < (2 : Nat)), ((0 : Int) ≤ (1 : Int) ∧ (1 : Int) < (2 : Int)), ((1 : Nat) < (2 : Nat)), ((0 : Int) ≤ (1 : Int) ∧ (1 : Int) < (2 : Int)), ((1 : Nat) < (2 : Nat))]) := by kernel_rfl
set_option maxRecDepth 100000 in
theorem vec_Meet_c (a0 : TVec) (a1 : TVec) (_hp : ∀ p ∈ vec_Meet_ps a0 a1, p) : CallOk Try.prog 112 [valA .vec a0, valA .vec a1] 0 [] 1 (vec_Meet_r a0 a1) 0 (vec_Meet_o a0 a1) := by
  have n0 : ((0 : Int) ≤ (0 : Int) ∧ (0 : Int) < (2 : Int)) := by first | rfl | decide +kernel
  have n1 : ((0 : Nat) < (2 : Nat)) := by first | rfl | decide +kernel
  have n6 : ((0 : Int) ≤ (1 : Int) ∧ (1 : Int) < (2 : Int)) := by first | rfl | decide +kernel
  have n7 : ((1 : Nat) < (2 : Nat)) := by first | rfl | decide +kernel
  exact evF_ok (envP_ok Cb_8_ok L0_ok) (vec_Meet_ev a0 a1) (needs_cons n0 (needs_cons n1 (needs_cons n0 (needs_cons n1 (needs_cons n0 (needs_cons n1 (needs_cons n6 (needs_cons n7 (needs_cons n6 (needs_cons n7 (needs_cons n6 (needs_cons n7 needs_nil))))))))))))
def vec_Meet_t : List A → Nat → Objs → Option CRes
  | [y0, y1], nx, o => match argU .vec y0, argU .vec y1 with
    | some (a0, p0), some (a1, p1) => some (1, (vec_Meet_r a0 a1).pk (shiftR nx), nx + 0, shiftO nx (vec_Meet_o a0 a1) ++ o, p0 ++ (p1 ++ (vec_Meet_ps a0 a1)))
    | _, _ => none
  | _, _, _ => none
theorem vec_Meet_tok : TOk Try.prog 112 vec_Meet_t := fun args nx o k x nx' o' ps h => by
  unfold vec_Meet_t at h
  split at h <;> first | (cases h; done) | skip
  split at h <;> first | (cases h; done) | skip
  rename_i a0 p0 a1 p1 e0 e1
  cases h
  refine ⟨fun hp => ?_, _, rfl⟩
  have q0 := fun p hm => hp p (List.mem_append.2 (.inl hm))
  have r0 := fun p hm => hp p (List.mem_append.2 (.inr hm))
  have q1 := fun p hm => r0 p (List.mem_append.2 (.inl hm))
  have r1 := fun p hm => r0 p (List.mem_append.2 (.inr hm))
  refine callOk_args (callOk_shift (vec_Meet_c a0 a1 r1) (Nat.le_refl _) (freeL_cons (valA_free _ _) (freeL_cons (valA_free _ _) freeL_nil)) nx o) fun F N R vs hl => ?_
  obtain ⟨v0, w0, rfl, h0, hl⟩ := hl.inv
  obtain ⟨v1, w1, rfl, h1, hl⟩ := hl.inv
  exact HL.cons (argU_ok e0 q0 h0) (HL.cons (argU_ok e1 q1 h1) (hl))
noncomputable def Cb_9 := addC 112 vec_Meet_t Cb_8
theorem Cb_9_ok : COk Try.prog Cb_9 := addC_ok vec_Meet_tok Cb_8_ok
def vec_Covers_0 (a0 : TVec) (a1 : TVec) : Bool := (vec_Meet_0 a0 a1).1 == a1.1 && (vec_Meet_0 a0 a1).2 == a1.2
def vec_Covers_r (a0 : TVec) (a1 : TVec) : A := .v (.bool (vec_Covers_0 a0 a1))
def vec_Covers_o (_a0 : TVec) (_a1 : TVec) : Objs := []
def vec_Covers_ps (_a0 : TVec) (_a1 : TVec) : List Prop := []
set_option maxRecDepth 100000 in
theorem vec_Covers_ev (a0 : TVec) (a1 : TVec) : evF (envT Cb_9 L0) 9 53 [valA .vec a0, valA .vec a1] 0 [] = some (1, vec_Covers_r a0 a1, 0, vec_Covers_o a0 a1, []) := by kernel_rfl
set_option maxRecDepth 100000 in
theorem vec_Covers_c (a0 : TVec) (a1 : TVec) (_hp : ∀ p ∈ vec_Covers_ps a0 a1, p) : CallOk Try.prog 53 [valA .vec a0, valA .vec a1] 0 [] 1 (vec_Covers_r a0 a1) 0 (vec_Covers_o a0 a1) := by
  exact evF_ok (envP_ok Cb_9_ok L0_ok) (vec_Covers_ev a0 a1) needs_nil
def vec_Covers_t : List A → Nat → Objs → Option CRes
  | [y0, y1], nx, o => match argU .vec y0, argU .vec y1 with
    | some (a0, p0), some (a1, p1) => some (1, (vec_Covers_r a0 a1).pk (shiftR nx), nx + 0, shiftO nx (vec_Covers_o a0 a1) ++ o, p0 ++ (p1 ++ (vec_Covers_ps a0 a1)))
    | _, _ => none
  | _, _, _ => none
theorem vec_Covers_tok : TOk Try.prog 53 vec_Covers_t := fun args nx o k x nx' o' ps h => by
  unfold vec_Covers_t at h
  split at h <;> first | (cases h; done) | skip
  split at h <;> first | (cases h; done) | skip
  rename_i a0 p0 a1 p1 e0 e1
  cases h
  refine ⟨fun hp => ?_, _, rfl⟩
  have q0 := fun p hm => hp p (List.mem_append.2 (.inl hm))
  have r0 := fun p hm => hp p (List.mem_append.2 (.inr hm))
  have q1 := fun p hm => r0 p (List.mem_append.2 (.inl hm))
  have r1 := fun p hm => r0 p (List.mem_append.2 (.inr hm))
  refine callOk_args (callOk_shift (vec_Covers_c a0 a1 r1) (Nat.le_refl _) (freeL_cons (valA_free _ _) (freeL_cons (valA_free _ _) freeL_nil)) nx o) fun F N R vs hl => ?_
  obtain ⟨v0, w0, rfl, h0, hl⟩ := hl.inv
  obtain ⟨v1, w1, rfl, h1, hl⟩ := hl.inv
  exact HL.cons (argU_ok e0 q0 h0) (HL.cons (argU_ok e1 q1 h1) (hl))
noncomputable def Cb_10 := addC 53 vec_Covers_t Cb_9
theorem Cb_10_ok : COk Try.prog Cb_10 := addC_ok vec_Covers_tok Cb_9_ok
def r06_Good_0 (a0 : TVec) : Bool := decide (a0.1 ≥ (0 : Int)) && decide (a0.1 ≤ (1099511627776 : Int)) && decide (a0.2 ≥ (0 : Int)) && decide (a0.2 ≤ (1099511627776 : Int))
def r06_Good_r (a0 : TVec) : A := .v (.bool (r06_Good_0 a0))
def r06_Good_o (_a0 : TVec) : Objs := []
def r06_Good_ps (_a0 : TVec) : List Prop := []
set_option maxRecDepth 100000 in
theorem r06_Good_ev (a0 : TVec) : evF (envT Cb_10 L0) 9 100 [valA .vec a0] 0 [] = some (1, r06_Good_r a0, 0, r06_Good_o a0, []) := by kernel_rfl
set_option maxRecDepth 100000 in
theorem r06_Good_c (a0 : TVec) (_hp : ∀ p ∈ r06_Good_ps a0, p) : CallOk Try.prog 100 [valA .vec a0] 0 [] 1 (r06_Good_r a0) 0 (r06_Good_o a0) := by
  exact evF_ok (envP_ok Cb_10_ok L0_ok) (r06_Good_ev a0) needs_nil
def r06_Good_t : List A → Nat → Objs → Option CRes
  | [y0], nx, o => match argU .vec y0 with
    | some (a0, p0) => some (1, (r06_Good_r a0).pk (shiftR nx), nx + 0, shiftO nx (r06_Good_o a0) ++ o, p0 ++ (r06_Good_ps a0))
    | _ => none
  | _, _, _ => none
theorem r06_Good_tok : TOk Try.prog 100 r06_Good_t := fun args nx o k x nx' o' ps h => by
  unfold r06_Good_t at h
  split at h <;> first | (cases h; done) | skip
  split at h <;> first | (cases h; done) | skip
  rename_i a0 p0 e0
  cases h
  refine ⟨fun hp => ?_, _, rfl⟩
  have q0 := fun p hm => hp p (List.mem_append.2 (.inl hm))
  have r0 := fun p hm => hp p (List.mem_append.2 (.inr hm))
  refine callOk_args (callOk_shift (r06_Good_c a0 r0) (Nat.le_refl _) (freeL_cons (valA_free _ _) freeL_nil) nx o) fun F N R vs hl => ?_
  obtain ⟨v0, w0, rfl, h0, hl⟩ := hl.inv
  exact HL.cons (argU_ok e0 q0 h0) (hl)
noncomputable def Cb_11 := addC 100 r06_Good_t Cb_10
theorem Cb_11_ok : COk Try.prog Cb_11 := addC_ok r06_Good_tok Cb_10_ok
def r06_Covers_0 (a0 : TVec) (a1 : TVec) : Bool := decide (a0.1 ≥ a1.1) && decide (a0.2 ≥ a1.2)
def r06_Covers_r (a0 : TVec) (a1 : TVec) : A := .v (.bool (r06_Covers_0 a0 a1))
def r06_Covers_o (_a0 : TVec) (_a1 : TVec) : Objs := []
def r06_Covers_ps (_a0 : TVec) (_a1 : TVec) : List Prop := []
set_option maxRecDepth 100000 in
theorem r06_Covers_ev (a0 : TVec) (a1 : TVec) : evF (envT Cb_11 L0) 9 107 [valA .vec a0, valA .vec a1] 0 [] = some (1, r06_Covers_r a0 a1, 0, r06_Covers_o a0 a1, []) := by kernel_rfl
set_option maxRecDepth 100000 in
theorem r06_Covers_c (a0 : TVec) (a1 : TVec) (_hp : ∀ p ∈ r06_Covers_ps a0 a1, p) : CallOk Try.prog 107 [valA .vec a0, valA .vec a1] 0 [] 1 (r06_Covers_r a0 a1) 0 (r06_Covers_o a0 a1) := by
  exact evF_ok (envP_ok Cb_11_ok L0_ok) (r06_Covers_ev a0 a1) needs_nil
def r06_Covers_t : List A → Nat → Objs → Option CRes
  | [y0, y1], nx, o => match argU .vec y0, argU .vec y1 with
    | some (a0, p0), some (a1, p1) => some (1, (r06_Covers_r a0 a1).pk (shiftR nx), nx + 0, shiftO nx (r06_Covers_o a0 a1) ++ o, p0 ++ (p1 ++ (r06_Covers_ps a0 a1)))
    | _, _ => none
  | _, _, _ => none
theorem r06_Covers_tok : TOk Try.prog 107 r06_Covers_t := fun args nx o k x nx' o' ps h => by
  unfold r06_Covers_t at h
  split at h <;> first | (cases h; done) | skip
  split at h <;> first | (cases h; done) | skip
  rename_i a0 p0 a1 p1 e0 e1
  cases h
  refine ⟨fun hp => ?_, _, rfl⟩
  have q0 := fun p hm => hp p (List.mem_append.2 (.inl hm))
  have r0 := fun p hm => hp p (List.mem_append.2 (.inr hm))
  have q1 := fun p hm => r0 p (List.mem_append.2 (.inl hm))
  have r1 := fun p hm => r0 p (List.mem_append.2 (.inr hm))
  refine callOk_args (callOk_shift (r06_Covers_c a0 a1 r1) (Nat.le_refl _) (freeL_cons (valA_free _ _) (freeL_cons (valA_free _ _) freeL_nil)) nx o) fun F N R vs hl => ?_
  obtain ⟨v0, w0, rfl, h0, hl⟩ := hl.inv
  obtain ⟨v1, w1, rfl, h1, hl⟩ := hl.inv
  exact HL.cons (argU_ok e0 q0 h0) (HL.cons (argU_ok e1 q1 h1) (hl))
noncomputable def Cb_12 := addC 107 r06_Covers_t Cb_11
theorem Cb_12_ok : COk Try.prog Cb_12 := addC_ok r06_Covers_tok Cb_11_ok

noncomputable def Cb := Cb_12
theorem Cb_ok : COk Try.prog Cb := Cb_12_ok
end Go.Proofs.Yteebobbhhgmeiaa
