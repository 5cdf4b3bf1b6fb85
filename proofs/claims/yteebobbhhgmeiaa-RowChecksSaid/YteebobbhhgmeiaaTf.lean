/- made by a program (gent.py): what functions come to, by their symbolic run over typed data. -/
import Derived.Test.YteebobbhhgmeiaaTd
namespace Go.Proofs.Yteebobbhhgmeiaa
open Go.RowKit

def r08_Zero_r (a0 : TVec) : A := .v (.bool (a0.1 == (0 : Int) && a0.2 == (0 : Int)))
def r08_Zero_o (_a0 : TVec) : Objs := []
def r08_Zero_ps (_a0 : TVec) : List Prop := []
set_option maxRecDepth 100000 in
theorem r08_Zero_ev (a0 : TVec) : evF (envT Cd L0) 9 108 [valA .vec a0] 0 [] = some (1, r08_Zero_r a0, 0, r08_Zero_o a0, []) := by kernel_rfl
set_option maxRecDepth 100000 in
theorem r08_Zero_c (a0 : TVec) (_hp : ∀ p ∈ r08_Zero_ps a0, p) : CallOk Try.prog 108 [valA .vec a0] 0 [] 1 (r08_Zero_r a0) 0 (r08_Zero_o a0) := by
  exact evF_ok (envP_ok Cd_ok L0_ok) (r08_Zero_ev a0) needs_nil
def r08_Zero_t : List A → Nat → Objs → Option CRes
  | [y0], nx, o => match argU .vec y0 with
    | some (a0, p0) => some (1, (r08_Zero_r a0).pk (shiftR nx), nx + 0, shiftO nx (r08_Zero_o a0) ++ o, p0 ++ (r08_Zero_ps a0))
    | _ => none
  | _, _, _ => none
theorem r08_Zero_tok : TOk Try.prog 108 r08_Zero_t := fun args nx o k x nx' o' ps h => by
  unfold r08_Zero_t at h
  split at h <;> first | (cases h; done) | skip
  split at h <;> first | (cases h; done) | skip
  rename_i a0 p0 e0
  cases h
  refine ⟨fun hp => ?_, _, rfl⟩
  have q0 := fun p hm => hp p (List.mem_append.2 (.inl hm))
  have r0 := fun p hm => hp p (List.mem_append.2 (.inr hm))
  refine callOk_args (callOk_shift (r08_Zero_c a0 r0) (Nat.le_refl _) (freeL_cons (valA_free _ _) freeL_nil) nx o) fun F N R vs hl => ?_
  obtain ⟨v0, w0, rfl, h0, hl⟩ := hl.inv
  exact HL.cons (argU_ok e0 q0 h0) (hl)
noncomputable def Cf_1 := addC 108 r08_Zero_t Cd
theorem Cf_1_ok : COk Try.prog Cf_1 := addC_ok r08_Zero_tok Cd_ok
def r08_Written_0 (a0 : TCell) : Bool := a0.1.1 != (0 : Int) || a0.1.2 != (0 : Int) || a0.2.1 != (0 : Int) || a0.2.2 != (0 : Int) || a0.3 || !a0.4.toList == (ByteArray.mk #[]).toList
def r08_Written_r (a0 : TCell) : A := .v (.bool (r08_Written_0 a0))
def r08_Written_o (_a0 : TCell) : Objs := []
def r08_Written_ps (_a0 : TCell) : List Prop := []
set_option maxRecDepth 100000 in
theorem r08_Written_ev (a0 : TCell) : evF (envT Cf_1 L0) 9 106 [valA .cell a0] 0 [] = some (1, r08_Written_r a0, 0, r08_Written_o a0, []) := by kernel_rfl
set_option maxRecDepth 100000 in
theorem r08_Written_c (a0 : TCell) (_hp : ∀ p ∈ r08_Written_ps a0, p) : CallOk Try.prog 106 [valA .cell a0] 0 [] 1 (r08_Written_r a0) 0 (r08_Written_o a0) := by
  exact evF_ok (envP_ok Cf_1_ok L0_ok) (r08_Written_ev a0) needs_nil
def r08_Written_t : List A → Nat → Objs → Option CRes
  | [y0], nx, o => match argU .cell y0 with
    | some (a0, p0) => some (1, (r08_Written_r a0).pk (shiftR nx), nx + 0, shiftO nx (r08_Written_o a0) ++ o, p0 ++ (r08_Written_ps a0))
    | _ => none
  | _, _, _ => none
theorem r08_Written_tok : TOk Try.prog 106 r08_Written_t := fun args nx o k x nx' o' ps h => by
  unfold r08_Written_t at h
  split at h <;> first | (cases h; done) | skip
  split at h <;> first | (cases h; done) | skip
  rename_i a0 p0 e0
  cases h
  refine ⟨fun hp => ?_, _, rfl⟩
  have q0 := fun p hm => hp p (List.mem_append.2 (.inl hm))
  have r0 := fun p hm => hp p (List.mem_append.2 (.inr hm))
  refine callOk_args (callOk_shift (r08_Written_c a0 r0) (Nat.le_refl _) (freeL_cons (valA_free _ _) freeL_nil) nx o) fun F N R vs hl => ?_
  obtain ⟨v0, w0, rfl, h0, hl⟩ := hl.inv
  exact HL.cons (argU_ok e0 q0 h0) (hl)
noncomputable def Cf_2 := addC 106 r08_Written_t Cf_1
theorem Cf_2_ok : COk Try.prog Cf_2 := addC_ok r08_Written_tok Cf_1_ok
def r08_Good_0 (a0 : Int) (a1 : TCell) : Bool := bif a0 == (1 : Int) && !(a1.5.1 == (0 : Int) && a1.5.2 == (0 : Int)) || a0 == (2 : Int) && (a1.3 || !r06_Good_0 a1.5) || a0 != (1 : Int) && a0 != (2 : Int) then false else bif !r08_Written_0 a1 then true else r05_Good_0 a1.1 && decide (a1.1.1 > (0 : Int)) && r06_Good_0 a1.2 && decide ((↑a1.4.size : Int) ≤ (64 : Int)) && (!a1.3 || a1.4.toList == (ByteArray.mk #[]).toList)
def r08_Good_r (a0 : Int) (a1 : TCell) : A := .v (.bool (r08_Good_0 a0 a1))
def r08_Good_o (_a0 : Int) (_a1 : TCell) : Objs := []
def r08_Good_ps (_a0 : Int) (_a1 : TCell) : List Prop := []
set_option maxRecDepth 100000 in
theorem r08_Good_ev (a0 : Int) (a1 : TCell) : evF (envT Cf_2 L0) 9 42 [valA .i64 a0, valA .cell a1] 0 [] = some (1, r08_Good_r a0 a1, 0, r08_Good_o a0 a1, []) := by kernel_rfl
set_option maxRecDepth 100000 in
theorem r08_Good_c (a0 : Int) (a1 : TCell) (_hp : ∀ p ∈ r08_Good_ps a0 a1, p) : CallOk Try.prog 42 [valA .i64 a0, valA .cell a1] 0 [] 1 (r08_Good_r a0 a1) 0 (r08_Good_o a0 a1) := by
  exact evF_ok (envP_ok Cf_2_ok L0_ok) (r08_Good_ev a0 a1) needs_nil
def r08_Good_t : List A → Nat → Objs → Option CRes
  | [y0, y1], nx, o => match argU .i64 y0, argU .cell y1 with
    | some (a0, p0), some (a1, p1) => some (1, (r08_Good_r a0 a1).pk (shiftR nx), nx + 0, shiftO nx (r08_Good_o a0 a1) ++ o, p0 ++ (p1 ++ (r08_Good_ps a0 a1)))
    | _, _ => none
  | _, _, _ => none
theorem r08_Good_tok : TOk Try.prog 42 r08_Good_t := fun args nx o k x nx' o' ps h => by
  unfold r08_Good_t at h
  split at h <;> first | (cases h; done) | skip
  split at h <;> first | (cases h; done) | skip
  rename_i a0 p0 a1 p1 e0 e1
  cases h
  refine ⟨fun hp => ?_, _, rfl⟩
  have q0 := fun p hm => hp p (List.mem_append.2 (.inl hm))
  have r0 := fun p hm => hp p (List.mem_append.2 (.inr hm))
  have q1 := fun p hm => r0 p (List.mem_append.2 (.inl hm))
  have r1 := fun p hm => r0 p (List.mem_append.2 (.inr hm))
  refine callOk_args (callOk_shift (r08_Good_c a0 a1 r1) (Nat.le_refl _) (freeL_cons (valA_free _ _) (freeL_cons (valA_free _ _) freeL_nil)) nx o) fun F N R vs hl => ?_
  obtain ⟨v0, w0, rfl, h0, hl⟩ := hl.inv
  obtain ⟨v1, w1, rfl, h1, hl⟩ := hl.inv
  exact HL.cons (argU_ok e0 q0 h0) (HL.cons (argU_ok e1 q1 h1) (hl))
noncomputable def Cf_3 := addC 42 r08_Good_t Cf_2
theorem Cf_3_ok : COk Try.prog Cf_3 := addC_ok r08_Good_tok Cf_2_ok
theorem r05_Good_eq (s : TStamp) : r05_Good_0 s = goodS s := rfl
theorem r06_Good_eq (v : TVec) : r06_Good_0 v = goodV v := by
  unfold r06_Good_0 goodV
  rw [Bool.and_assoc]
theorem r08_Written_eq (c : TCell) : r08_Written_0 c = written c := by
  unfold r08_Written_0 written bne
  rw [noB_eq]
  generalize (c.1.1 == (0 : Int)) = a
  generalize (c.1.2 == (0 : Int)) = b
  generalize (c.2.1 == (0 : Int)) = d
  generalize (c.2.2 == (0 : Int)) = e
  show (!a || !b || !d || !e || c.gone || !(c.4.size == 0)) = !(a && b && (d && e) && (!c.gone && c.value.size == 0))
  cases a <;> cases b <;> cases d <;> cases e <;> cases c.gone <;> simp
theorem r08_Good_eq (p : Int) (c : TCell) : r08_Good_0 p c = goodC p c := by
  unfold r08_Good_0 goodC bne
  rw [r08_Written_eq, r06_Good_eq, r06_Good_eq, r05_Good_eq, noB_eq]
  have h1 : (p == (1 : Int) && !(c.5.1 == (0 : Int) && c.5.2 == (0 : Int)) || p == (2 : Int) && (c.3 || !goodV c.5) || !(p == (1 : Int)) && !(p == (2 : Int))) = (p == 1 && !zeroV c.dead || (p == 2 && (c.gone || !goodV c.dead) || !(p == 1 || p == 2))) := by
    rw [Bool.or_assoc, Bool.not_or]
    rfl
  have h2 : (!c.3 || c.4.size == 0) = !(c.gone && !(c.value.size == 0)) := by rw [Bool.not_and, Bool.not_not]
  rw [h1, h2]

noncomputable def Cf := Cf_3
theorem Cf_ok : COk Try.prog Cf := Cf_3_ok
end Go.Proofs.Yteebobbhhgmeiaa
