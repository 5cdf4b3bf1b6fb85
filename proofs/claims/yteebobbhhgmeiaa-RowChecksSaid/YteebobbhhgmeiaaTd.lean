/- made by a program (gent.py): what functions come to, by their symbolic run over typed data. -/
import Derived.Test.YteebobbhhgmeiaaTb
import Derived.Test.YteebobbhhgmeiaaCf
namespace Go.Proofs.Yteebobbhhgmeiaa
open Go.RowKit

theorem stamp_known_eq (n : Int) : stamp_known_0 n = (n == 1 || n == 2) := by
  unfold stamp_known_0 stamp_known_k0
  cases n == 1 <;> cases n == 2 <;> rfl
theorem stamp_Good_eq (s : TStamp) : stamp_Good_0 s = goodS s := by
  unfold stamp_Good_0 goodS
  rw [stamp_known_eq]
  rfl
theorem vec_Good_f1_iff (x : Int) : (vec_Good_f1_0 x 0 == x) = (decide (0 ≤ x) && decide (x ≤ 1099511627776)) := by
  unfold vec_Good_f1_0
  rw [Bool.eq_iff_iff]
  simp only [beq_iff_eq, Bool.and_eq_true, decide_eq_true_eq]
  omega
theorem vec_Good_eq (v : TVec) : vec_Good_0 v = goodV v := by
  unfold vec_Good_0 goodV
  rw [vec_Good_f1_iff, vec_Good_f1_iff]
theorem bif_same {α : Type} (c : Bool) (x : α) : (bif c then x else x) = x := by cases c <;> rfl
theorem putN_8 (n : Int) : (putN n).length ≤ 8 := by
  rw [putN_length]
  rcases sz_cases n with h | ⟨_, _, h⟩
  · omega
  · unfold szs at h; omega
theorem putS_8 (s : TStamp) : (putS s).length ≤ 8 := by
  unfold putS
  cases goodS s with
  | true => exact putN_8 _
  | false => exact Nat.zero_le _
theorem putV_16 (v : TVec) : (putV v).length ≤ 16 := by
  unfold putV
  cases goodV v with
  | true =>
    rw [cond_true, List.length_append]
    have h1 := putN_8 v.a
    have h2 := putN_8 v.b
    omega
  | false => exact Nat.zero_le _
theorem putT_8 (t : ByteArray) : (putT t).length ≤ 8 + t.size := by
  unfold putT
  rw [List.length_append]
  have h1 := putN_8 (t.size : Int)
  have hs : t.data.toList.length = t.size := Array.length_toList
  omega
def cell_Of_k3 (_a0 : Int) (_a1 : TStamp) (_a2 : TVec) (_a3 : Bool) (a4 : ByteArray) : Bool := decide ((↑a4.size : Int) > (64 : Int))
def cell_Of_k2 (a0 : Int) (a1 : TStamp) (a2 : TVec) (a3 : Bool) (a4 : ByteArray) : Bool := bif a0 != (1 : Int) && a0 != (2 : Int) then a0 != (1 : Int) && a0 != (2 : Int) else bif a1.1 == (0 : Int) && a1.2 == (0 : Int) then a1.1 == (0 : Int) && a1.2 == (0 : Int) else bif !stamp_Good_0 a1 then !stamp_Good_0 a1 else bif !vec_Good_0 a2 then !vec_Good_0 a2 else a3 && !a4.toList == (ByteArray.mk #[]).toList
def cell_Of_k1 (a0 : Int) (a1 : TStamp) (a2 : TVec) (a3 : Bool) (a4 : ByteArray) : Bool := (cell_Of_k2 a0 a1 a2 a3 a4) || ((cell_Of_k3 a0 a1 a2 a3 a4) || a3 && a0 == (2 : Int))
def cell_Of_k0 (a0 : Int) (a1 : TStamp) (a2 : TVec) (a3 : Bool) (a4 : ByteArray) : Int := bif (cell_Of_k2 a0 a1 a2 a3 a4) then (0 : Int) else bif (cell_Of_k3 a0 a1 a2 a3 a4) then (0 : Int) else (0 : Int)
def cell_Of_0 (a0 : Int) (a1 : TStamp) (a2 : TVec) (a3 : Bool) (a4 : ByteArray) : TCell := TCell.mk (TStamp.mk (bif (cell_Of_k1 a0 a1 a2 a3 a4) then (cell_Of_k0 a0 a1 a2 a3 a4) else a1.1) (bif (cell_Of_k1 a0 a1 a2 a3 a4) then (cell_Of_k0 a0 a1 a2 a3 a4) else a1.2)) (TVec.mk (bif (cell_Of_k1 a0 a1 a2 a3 a4) then (cell_Of_k0 a0 a1 a2 a3 a4) else a2.1) (bif (cell_Of_k1 a0 a1 a2 a3 a4) then (cell_Of_k0 a0 a1 a2 a3 a4) else a2.2)) (bif (cell_Of_k1 a0 a1 a2 a3 a4) then bif (cell_Of_k2 a0 a1 a2 a3 a4) then false else bif (cell_Of_k3 a0 a1 a2 a3 a4) then false else false else a3) (bif (cell_Of_k1 a0 a1 a2 a3 a4) then bif (cell_Of_k2 a0 a1 a2 a3 a4) then ByteArray.mk #[] else bif (cell_Of_k3 a0 a1 a2 a3 a4) then ByteArray.mk #[] else ByteArray.mk #[] else a4) (TVec.mk (bif (cell_Of_k1 a0 a1 a2 a3 a4) then bif (cell_Of_k2 a0 a1 a2 a3 a4) then (0 : Int) else bif (cell_Of_k3 a0 a1 a2 a3 a4) then (0 : Int) else a2.1 else (0 : Int)) (bif (cell_Of_k1 a0 a1 a2 a3 a4) then bif (cell_Of_k2 a0 a1 a2 a3 a4) then (0 : Int) else bif (cell_Of_k3 a0 a1 a2 a3 a4) then (0 : Int) else a2.2 else (0 : Int)))
def cell_Of_1 (a0 : Int) (a1 : TStamp) (a2 : TVec) (a3 : Bool) (a4 : ByteArray) : Int := bif (cell_Of_k1 a0 a1 a2 a3 a4) then bif (cell_Of_k2 a0 a1 a2 a3 a4) then (2 : Int) else bif (cell_Of_k3 a0 a1 a2 a3 a4) then (3 : Int) else (0 : Int) else (0 : Int)
def cell_Of_r (a0 : Int) (a1 : TStamp) (a2 : TVec) (a3 : Bool) (a4 : ByteArray) : A := .v (.tuple ⟨[.agg ⟨[.int .i64 ((cell_Of_0 a0 a1 a2 a3 a4).stamp.n), .int .i64 ((cell_Of_0 a0 a1 a2 a3 a4).stamp.site), .int .i64 ((cell_Of_0 a0 a1 a2 a3 a4).vec.a), .int .i64 ((cell_Of_0 a0 a1 a2 a3 a4).vec.b), .bool ((cell_Of_0 a0 a1 a2 a3 a4).gone), .string ((cell_Of_0 a0 a1 a2 a3 a4).value), .int .i64 ((cell_Of_0 a0 a1 a2 a3 a4).dead.a), .int .i64 ((cell_Of_0 a0 a1 a2 a3 a4).dead.b)]⟩, .int .i64 (cell_Of_1 a0 a1 a2 a3 a4)]⟩)
def cell_Of_o (_a0 : Int) (_a1 : TStamp) (_a2 : TVec) (_a3 : Bool) (_a4 : ByteArray) : Objs := []
def cell_Of_ps (_a0 : Int) (_a1 : TStamp) (_a2 : TVec) (_a3 : Bool) (_a4 : ByteArray) : List Prop := []
set_option maxRecDepth 100000 in
theorem cell_Of_ev (a0 : Int) (a1 : TStamp) (a2 : TVec) (a3 : Bool) (a4 : ByteArray) : evF (envT Cb L0) 9 36 [valA .i64 a0, valA .stamp a1, valA .vec a2, valA .bool a3, valA .str a4] 0 [] = some (1, cell_Of_r a0 a1 a2 a3 a4, 0, cell_Of_o a0 a1 a2 a3 a4, []) := by kernel_rfl
set_option maxRecDepth 100000 in
theorem cell_Of_c (a0 : Int) (a1 : TStamp) (a2 : TVec) (a3 : Bool) (a4 : ByteArray) (_hp : ∀ p ∈ cell_Of_ps a0 a1 a2 a3 a4, p) : CallOk Try.prog 36 [valA .i64 a0, valA .stamp a1, valA .vec a2, valA .bool a3, valA .str a4] 0 [] 1 (cell_Of_r a0 a1 a2 a3 a4) 0 (cell_Of_o a0 a1 a2 a3 a4) := by
  exact evF_ok (envP_ok Cb_ok L0_ok) (cell_Of_ev a0 a1 a2 a3 a4) needs_nil
def cell_Of_t : List A → Nat → Objs → Option CRes
  | [y0, y1, y2, y3, y4], nx, o => match argU .i64 y0, argU .stamp y1, argU .vec y2, argU .bool y3, argU .str y4 with
    | some (a0, p0), some (a1, p1), some (a2, p2), some (a3, p3), some (a4, p4) => some (1, (cell_Of_r a0 a1 a2 a3 a4).pk (shiftR nx), nx + 0, shiftO nx (cell_Of_o a0 a1 a2 a3 a4) ++ o, p0 ++ (p1 ++ (p2 ++ (p3 ++ (p4 ++ (cell_Of_ps a0 a1 a2 a3 a4))))))
    | _, _, _, _, _ => none
  | _, _, _ => none
theorem cell_Of_tok : TOk Try.prog 36 cell_Of_t := fun args nx o k x nx' o' ps h => by
  unfold cell_Of_t at h
  split at h <;> first | (cases h; done) | skip
  split at h <;> first | (cases h; done) | skip
  rename_i a0 p0 a1 p1 a2 p2 a3 p3 a4 p4 e0 e1 e2 e3 e4
  cases h
  refine ⟨fun hp => ?_, _, rfl⟩
  have q0 := fun p hm => hp p (List.mem_append.2 (.inl hm))
  have r0 := fun p hm => hp p (List.mem_append.2 (.inr hm))
  have q1 := fun p hm => r0 p (List.mem_append.2 (.inl hm))
  have r1 := fun p hm => r0 p (List.mem_append.2 (.inr hm))
  have q2 := fun p hm => r1 p (List.mem_append.2 (.inl hm))
  have r2 := fun p hm => r1 p (List.mem_append.2 (.inr hm))
  have q3 := fun p hm => r2 p (List.mem_append.2 (.inl hm))
  have r3 := fun p hm => r2 p (List.mem_append.2 (.inr hm))
  have q4 := fun p hm => r3 p (List.mem_append.2 (.inl hm))
  have r4 := fun p hm => r3 p (List.mem_append.2 (.inr hm))
  refine callOk_args (callOk_shift (cell_Of_c a0 a1 a2 a3 a4 r4) (Nat.le_refl _) (freeL_cons (valA_free _ _) (freeL_cons (valA_free _ _) (freeL_cons (valA_free _ _) (freeL_cons (valA_free _ _) (freeL_cons (valA_free _ _) freeL_nil))))) nx o) fun F N R vs hl => ?_
  obtain ⟨v0, w0, rfl, h0, hl⟩ := hl.inv
  obtain ⟨v1, w1, rfl, h1, hl⟩ := hl.inv
  obtain ⟨v2, w2, rfl, h2, hl⟩ := hl.inv
  obtain ⟨v3, w3, rfl, h3, hl⟩ := hl.inv
  obtain ⟨v4, w4, rfl, h4, hl⟩ := hl.inv
  exact HL.cons (argU_ok e0 q0 h0) (HL.cons (argU_ok e1 q1 h1) (HL.cons (argU_ok e2 q2 h2) (HL.cons (argU_ok e3 q3 h3) (HL.cons (argU_ok e4 q4 h4) (hl)))))
noncomputable def Cd_1 := addC 36 cell_Of_t Cb
theorem Cd_1_ok : COk Try.prog Cd_1 := addC_ok cell_Of_tok Cb_ok
def cell_written_0 (a0 : TCell) : Bool := !(a0.1.1 == (0 : Int) && a0.1.2 == (0 : Int) && (a0.2.1 == (0 : Int) && a0.2.2 == (0 : Int) && (a0.3 == false && (a0.4.toList == (ByteArray.mk #[]).toList && true))))
def cell_written_r (a0 : TCell) : A := .v (.bool (cell_written_0 a0))
def cell_written_o (_a0 : TCell) : Objs := []
def cell_written_ps (_a0 : TCell) : List Prop := []
set_option maxRecDepth 100000 in
theorem cell_written_ev (a0 : TCell) : evF (envT Cd_1 L0) 9 105 [valA .cell a0] 0 [] = some (1, cell_written_r a0, 0, cell_written_o a0, []) := by kernel_rfl
set_option maxRecDepth 100000 in
theorem cell_written_c (a0 : TCell) (_hp : ∀ p ∈ cell_written_ps a0, p) : CallOk Try.prog 105 [valA .cell a0] 0 [] 1 (cell_written_r a0) 0 (cell_written_o a0) := by
  exact evF_ok (envP_ok Cd_1_ok L0_ok) (cell_written_ev a0) needs_nil
def cell_written_t : List A → Nat → Objs → Option CRes
  | [y0], nx, o => match argU .cell y0 with
    | some (a0, p0) => some (1, (cell_written_r a0).pk (shiftR nx), nx + 0, shiftO nx (cell_written_o a0) ++ o, p0 ++ (cell_written_ps a0))
    | _ => none
  | _, _, _ => none
theorem cell_written_tok : TOk Try.prog 105 cell_written_t := fun args nx o k x nx' o' ps h => by
  unfold cell_written_t at h
  split at h <;> first | (cases h; done) | skip
  split at h <;> first | (cases h; done) | skip
  rename_i a0 p0 e0
  cases h
  refine ⟨fun hp => ?_, _, rfl⟩
  have q0 := fun p hm => hp p (List.mem_append.2 (.inl hm))
  have r0 := fun p hm => hp p (List.mem_append.2 (.inr hm))
  refine callOk_args (callOk_shift (cell_written_c a0 r0) (Nat.le_refl _) (freeL_cons (valA_free _ _) freeL_nil) nx o) fun F N R vs hl => ?_
  obtain ⟨v0, w0, rfl, h0, hl⟩ := hl.inv
  exact HL.cons (argU_ok e0 q0 h0) (hl)
noncomputable def Cd_2 := addC 105 cell_written_t Cd_1
theorem Cd_2_ok : COk Try.prog Cd_2 := addC_ok cell_written_tok Cd_1_ok
def cell_Good_0 (a0 : Int) (a1 : TCell) : Bool := bif bif a0 == (1 : Int) then !(a1.5.1 == (0 : Int) && a1.5.2 == (0 : Int)) else !a0 == (2 : Int) || (a1.3 || !vec_Good_0 a1.5) then bif a0 == (1 : Int) then false else bif a0 == (2 : Int) then false else false else bif !cell_written_0 a1 then true else decide (a1.1.1 > (0 : Int)) && stamp_Good_0 a1.1 && vec_Good_0 a1.2 && decide ((↑a1.4.size : Int) ≤ (64 : Int)) && !(a1.3 && !a1.4.toList == (ByteArray.mk #[]).toList)
def cell_Good_r (a0 : Int) (a1 : TCell) : A := .v (.bool (cell_Good_0 a0 a1))
def cell_Good_o (_a0 : Int) (_a1 : TCell) : Objs := []
def cell_Good_ps (_a0 : Int) (_a1 : TCell) : List Prop := []
set_option maxRecDepth 100000 in
theorem cell_Good_ev (a0 : Int) (a1 : TCell) : evF (envT Cd_2 L0) 9 38 [valA .i64 a0, valA .cell a1] 0 [] = some (1, cell_Good_r a0 a1, 0, cell_Good_o a0 a1, []) := by kernel_rfl
set_option maxRecDepth 100000 in
theorem cell_Good_c (a0 : Int) (a1 : TCell) (_hp : ∀ p ∈ cell_Good_ps a0 a1, p) : CallOk Try.prog 38 [valA .i64 a0, valA .cell a1] 0 [] 1 (cell_Good_r a0 a1) 0 (cell_Good_o a0 a1) := by
  exact evF_ok (envP_ok Cd_2_ok L0_ok) (cell_Good_ev a0 a1) needs_nil
def cell_Good_t : List A → Nat → Objs → Option CRes
  | [y0, y1], nx, o => match argU .i64 y0, argU .cell y1 with
    | some (a0, p0), some (a1, p1) => some (1, (cell_Good_r a0 a1).pk (shiftR nx), nx + 0, shiftO nx (cell_Good_o a0 a1) ++ o, p0 ++ (p1 ++ (cell_Good_ps a0 a1)))
    | _, _ => none
  | _, _, _ => none
theorem cell_Good_tok : TOk Try.prog 38 cell_Good_t := fun args nx o k x nx' o' ps h => by
  unfold cell_Good_t at h
  split at h <;> first | (cases h; done) | skip
  split at h <;> first | (cases h; done) | skip
  rename_i a0 p0 a1 p1 e0 e1
  cases h
  refine ⟨fun hp => ?_, _, rfl⟩
  have q0 := fun p hm => hp p (List.mem_append.2 (.inl hm))
  have r0 := fun p hm => hp p (List.mem_append.2 (.inr hm))
  have q1 := fun p hm => r0 p (List.mem_append.2 (.inl hm))
  have r1 := fun p hm => r0 p (List.mem_append.2 (.inr hm))
  refine callOk_args (callOk_shift (cell_Good_c a0 a1 r1) (Nat.le_refl _) (freeL_cons (valA_free _ _) (freeL_cons (valA_free _ _) freeL_nil)) nx o) fun F N R vs hl => ?_
  obtain ⟨v0, w0, rfl, h0, hl⟩ := hl.inv
  obtain ⟨v1, w1, rfl, h1, hl⟩ := hl.inv
  exact HL.cons (argU_ok e0 q0 h0) (HL.cons (argU_ok e1 q1 h1) (hl))
noncomputable def Cd_3 := addC 38 cell_Good_t Cd_2
theorem Cd_3_ok : COk Try.prog Cd_3 := addC_ok cell_Good_tok Cd_2_ok
def cell_Seen_k0 (a0 : Int) (a1 : TCell) : Bool := !cell_Good_0 a0 a1 || !cell_written_0 a1 || a1.3 || !vec_Covers_0 a1.2 a1.5
def cell_Seen_0 (a0 : Int) (a1 : TCell) : ByteArray := bif (cell_Seen_k0 a0 a1) then ByteArray.mk #[] else a1.4
def cell_Seen_1 (a0 : Int) (a1 : TCell) : Bool := bif (cell_Seen_k0 a0 a1) then false else true
def cell_Seen_r (a0 : Int) (a1 : TCell) : A := .v (.tuple ⟨[.string (cell_Seen_0 a0 a1), .bool (cell_Seen_1 a0 a1)]⟩)
def cell_Seen_o (_a0 : Int) (_a1 : TCell) : Objs := []
def cell_Seen_ps (_a0 : Int) (_a1 : TCell) : List Prop := []
set_option maxRecDepth 100000 in
theorem cell_Seen_ev (a0 : Int) (a1 : TCell) : evF (envT Cd_3 L0) 9 40 [valA .i64 a0, valA .cell a1] 0 [] = some (1, cell_Seen_r a0 a1, 0, cell_Seen_o a0 a1, []) := by kernel_rfl
set_option maxRecDepth 100000 in
theorem cell_Seen_c (a0 : Int) (a1 : TCell) (_hp : ∀ p ∈ cell_Seen_ps a0 a1, p) : CallOk Try.prog 40 [valA .i64 a0, valA .cell a1] 0 [] 1 (cell_Seen_r a0 a1) 0 (cell_Seen_o a0 a1) := by
  exact evF_ok (envP_ok Cd_3_ok L0_ok) (cell_Seen_ev a0 a1) needs_nil
def cell_Seen_t : List A → Nat → Objs → Option CRes
  | [y0, y1], nx, o => match argU .i64 y0, argU .cell y1 with
    | some (a0, p0), some (a1, p1) => some (1, (cell_Seen_r a0 a1).pk (shiftR nx), nx + 0, shiftO nx (cell_Seen_o a0 a1) ++ o, p0 ++ (p1 ++ (cell_Seen_ps a0 a1)))
    | _, _ => none
  | _, _, _ => none
theorem cell_Seen_tok : TOk Try.prog 40 cell_Seen_t := fun args nx o k x nx' o' ps h => by
  unfold cell_Seen_t at h
  split at h <;> first | (cases h; done) | skip
  split at h <;> first | (cases h; done) | skip
  rename_i a0 p0 a1 p1 e0 e1
  cases h
  refine ⟨fun hp => ?_, _, rfl⟩
  have q0 := fun p hm => hp p (List.mem_append.2 (.inl hm))
  have r0 := fun p hm => hp p (List.mem_append.2 (.inr hm))
  have q1 := fun p hm => r0 p (List.mem_append.2 (.inl hm))
  have r1 := fun p hm => r0 p (List.mem_append.2 (.inr hm))
  refine callOk_args (callOk_shift (cell_Seen_c a0 a1 r1) (Nat.le_refl _) (freeL_cons (valA_free _ _) (freeL_cons (valA_free _ _) freeL_nil)) nx o) fun F N R vs hl => ?_
  obtain ⟨v0, w0, rfl, h0, hl⟩ := hl.inv
  obtain ⟨v1, w1, rfl, h1, hl⟩ := hl.inv
  exact HL.cons (argU_ok e0 q0 h0) (HL.cons (argU_ok e1 q1 h1) (hl))
noncomputable def Cd_4 := addC 40 cell_Seen_t Cd_3
theorem Cd_4_ok : COk Try.prog Cd_4 := addC_ok cell_Seen_tok Cd_3_ok
theorem cell_written_eq (c : TCell) : cell_written_0 c = written c := by
  unfold cell_written_0 written
  have hg : (c.3 == false) = !c.gone := by show (c.gone == false) = !c.gone; cases c.gone <;> rfl
  rw [noB_eq, Bool.and_true, hg]
  simp only [Bool.and_assoc]
theorem cell_Good_eq (p : Int) (c : TCell) : cell_Good_0 p c = goodC p c := by
  unfold cell_Good_0 goodC zeroV
  rw [cell_written_eq, vec_Good_eq, vec_Good_eq, stamp_Good_eq, noB_eq]
  have hw : (bif !written c then true else decide (c.1.1 > (0 : Int)) && goodS c.1 && goodV c.2 && decide (((c.4.size : Nat) : Int) ≤ (64 : Int)) && !(c.3 && !c.4.size == 0)) = bif !written c then true else goodS c.stamp && decide (0 < c.stamp.n) && goodV c.vec && decide ((c.value.size : Int) ≤ 64) && !(c.gone && !(c.value.size == 0)) := by
    rw [Bool.and_comm (decide (c.1.1 > (0 : Int)))]
  rw [hw]
  generalize (bif !written c then true else goodS c.stamp && decide (0 < c.stamp.n) && goodV c.vec && decide ((c.value.size : Int) ≤ 64) && !(c.gone && !(c.value.size == 0))) = X
  by_cases h1 : p = 1
  · subst h1
    show (bif !(c.5.1 == (0 : Int) && c.5.2 == (0 : Int)) then false else X) = bif !(c.5.1 == (0 : Int) && c.5.2 == (0 : Int)) || false then false else X
    rw [Bool.or_false]
  · have e1 : (p == 1) = false := by simpa using h1
    rw [e1]
    by_cases h2 : p = 2
    · subst h2
      show (bif c.3 || !goodV c.5 then false else X) = bif (c.3 || !goodV c.5) || false then false else X
      rw [Bool.or_false]
    · have e2 : (p == 2) = false := by simpa using h2
      rw [e2]
      rfl
def stamp_Put_0 (a0 : List UInt8) (a1 : TStamp) : List UInt8 := a0 ++ putN (bif a1.1 == (0 : Int) && a1.2 == (0 : Int) then (0 : Int) else bif stamp_Good_0 a1 then IntKind.i64.wrap (IntKind.i64.wrap (IntKind.i64.wrap (a1.1 * (2 : Int)) + a1.2) - (1 : Int)) else (-1 : Int))
def stamp_Put_r (_a0 : List UInt8) (_a1 : TStamp) : A := .sq 0
def stamp_Put_o (a0 : List UInt8) (a1 : TStamp) : Objs := [(0, some (.arr 5 1 (.ty .u8 (stamp_Put_0 a0 a1))))]
def stamp_Put_ps (a0 : List UInt8) (_a1 : TStamp) : List Prop := [(boundP (a0.length + (8 : Nat)))]
set_option maxRecDepth 100000 in
theorem stamp_Put_ev (a0 : List UInt8) (a1 : TStamp) : evF (envT Cd_4 L0) 9 121 [valA .bytes a0, valA .stamp a1] 0 [] = some (1, stamp_Put_r a0 a1, 1, stamp_Put_o a0 a1, [(boundP (a0.length + (8 : Nat)))]) := by kernel_rfl
set_option maxRecDepth 100000 in
theorem stamp_Put_c (a0 : List UInt8) (a1 : TStamp) (hp : ∀ p ∈ stamp_Put_ps a0 a1, p) : CallOk Try.prog 121 [valA .bytes a0, valA .stamp a1] 0 [] 1 (stamp_Put_r a0 a1) 1 (stamp_Put_o a0 a1) := by
  have n0 : (boundP (a0.length + (8 : Nat))) := hp _ (List.mem_cons_self ..)
  exact evF_ok (envP_ok Cd_4_ok L0_ok) (stamp_Put_ev a0 a1) (needs_cons n0 needs_nil)
def stamp_Put_r2 (_a0 : List UInt8) (_a1 : TStamp) : A := .sq 0
def stamp_Put_o2 (a0 : List UInt8) (a1 : TStamp) : Objs := [(0, some (.arr 5 1 (.ty .u8 (a0 ++ putS a1))))]
def stamp_Put_ps2 (a0 : List UInt8) (_a1 : TStamp) : List Prop := [boundP (a0.length + 8)]
theorem stamp_Put_eq (a0 : List UInt8) (a1 : TStamp) : stamp_Put_0 a0 a1 = a0 ++ putS a1 := by
  unfold stamp_Put_0 putS codeS
  rw [stamp_Good_eq]
  congr 1
  cases hg : goodS a1 with
  | false =>
    have hz : (a1.1 == (0 : Int) && a1.2 == (0 : Int)) = false := by
      rw [Bool.eq_false_iff]
      intro h
      unfold goodS at hg
      rw [h] at hg
      cases hg
    rw [hz]
    rfl
  | true =>
    have h' := goodS_iff.1 hg
    rw [cond_true, cond_true]
    congr 1
    by_cases h0 : a1.n = 0
    · have hz : (a1.1 == (0 : Int) && a1.2 == (0 : Int)) = true := by
        rcases h' with ⟨h1, h2⟩ | h1
        · rw [h1, h2]; rfl
        · omega
      have e : (a1.n == 0) = true := by simpa using h0
      rw [hz, e]
      rfl
    · have hz : (a1.1 == (0 : Int) && a1.2 == (0 : Int)) = false := by
        have : (a1.1 == (0 : Int)) = false := by simpa using h0
        rw [this]; rfl
      have e : (a1.n == 0) = false := by simpa using h0
      rw [hz, e, cond_false, cond_false, i64_in (n := a1.1 * 2) (by omega), i64_in (n := a1.1 * 2 + a1.2) (by omega), i64_in (by omega)]
      omega
theorem stamp_Put_c2 (a0 : List UInt8) (a1 : TStamp) (hp : ∀ p ∈ stamp_Put_ps2 a0 a1, p) : CallOk Try.prog 121 [valA .bytes a0, valA .stamp a1] 0 [] 1 (stamp_Put_r2 a0 a1) 1 (stamp_Put_o2 a0 a1) := by
  have h := stamp_Put_c a0 a1 (needs_cons (hp _ (List.mem_cons_self ..)) needs_nil)
  have ho : stamp_Put_o a0 a1 = stamp_Put_o2 a0 a1 := by unfold stamp_Put_o stamp_Put_o2; rw [stamp_Put_eq]
  rw [ho] at h
  exact h
def stamp_Put_t : List A → Nat → Objs → Option CRes
  | [y0, y1], nx, o => match argU .bytes y0, argU .stamp y1 with
    | some (a0, p0), some (a1, p1) => some (1, (stamp_Put_r2 a0 a1).pk (shiftR nx), nx + 1, shiftO nx (stamp_Put_o2 a0 a1) ++ o, p0 ++ (p1 ++ (stamp_Put_ps2 a0 a1)))
    | _, _ => none
  | _, _, _ => none
theorem stamp_Put_tok : TOk Try.prog 121 stamp_Put_t := fun args nx o k x nx' o' ps h => by
  unfold stamp_Put_t at h
  split at h <;> first | (cases h; done) | skip
  split at h <;> first | (cases h; done) | skip
  rename_i a0 p0 a1 p1 e0 e1
  cases h
  refine ⟨fun hp => ?_, _, rfl⟩
  have q0 := fun p hm => hp p (List.mem_append.2 (.inl hm))
  have r0 := fun p hm => hp p (List.mem_append.2 (.inr hm))
  have q1 := fun p hm => r0 p (List.mem_append.2 (.inl hm))
  have r1 := fun p hm => r0 p (List.mem_append.2 (.inr hm))
  refine callOk_args (callOk_shift (stamp_Put_c2 a0 a1 r1) (Nat.le_refl _) (freeL_cons (valA_free _ _) (freeL_cons (valA_free _ _) freeL_nil)) nx o) fun F N R vs hl => ?_
  obtain ⟨v0, w0, rfl, h0, hl⟩ := hl.inv
  obtain ⟨v1, w1, rfl, h1, hl⟩ := hl.inv
  exact HL.cons (argU_ok e0 q0 h0) (HL.cons (argU_ok e1 q1 h1) (hl))
noncomputable def Cd_5 := addC 121 stamp_Put_t Cd_4
theorem Cd_5_ok : COk Try.prog Cd_5 := addC_ok stamp_Put_tok Cd_4_ok
def vec_Put_k0 (a0 : List UInt8) (a1 : TVec) : List UInt8 := a0 ++ putN a1.1
def vec_Put_0 (a0 : List UInt8) (a1 : TVec) : List UInt8 := bif !vec_Good_0 a1 then [] ++ a0 else (vec_Put_k0 a0 a1) ++ putN a1.2
def vec_Put_r (_a0 : List UInt8) (_a1 : TVec) : A := .sq 0
def vec_Put_o (a0 : List UInt8) (a1 : TVec) : Objs := [(0, some (.arr 5 1 (.ty .u8 (vec_Put_0 a0 a1))))]
def vec_Put_ps (a0 : List UInt8) (a1 : TVec) : List Prop := [((!vec_Good_0 a1) = true → boundP ((0 : Nat) + a0.length)), ((!!vec_Good_0 a1) = true → boundP (a0.length + (8 : Nat))), ((!!vec_Good_0 a1) = true → boundP ((vec_Put_k0 a0 a1).length + (8 : Nat)))]
set_option maxRecDepth 100000 in
theorem vec_Put_ev (a0 : List UInt8) (a1 : TVec) : evF (envT Cd_5 L0) 9 120 [valA .bytes a0, valA .vec a1] 0 [] = some (1, vec_Put_r a0 a1, 1, vec_Put_o a0 a1, [((!vec_Good_0 a1) = true → boundP ((0 : Nat) + a0.length)), ((!!vec_Good_0 a1) = true → boundP (a0.length + (8 : Nat))), ((!!vec_Good_0 a1) = true → boundP ((vec_Put_k0 a0 a1).length + (8 : Nat)))]) := by kernel_rfl
set_option maxRecDepth 100000 in
theorem vec_Put_c (a0 : List UInt8) (a1 : TVec) (hp : ∀ p ∈ vec_Put_ps a0 a1, p) : CallOk Try.prog 120 [valA .bytes a0, valA .vec a1] 0 [] 1 (vec_Put_r a0 a1) 1 (vec_Put_o a0 a1) := by
  have n0 : ((!vec_Good_0 a1) = true → boundP ((0 : Nat) + a0.length)) := hp _ (List.mem_cons_self ..)
  have n1 : ((!!vec_Good_0 a1) = true → boundP (a0.length + (8 : Nat))) := hp _ (List.mem_cons_of_mem _ (List.mem_cons_self ..))
  have n2 : ((!!vec_Good_0 a1) = true → boundP ((vec_Put_k0 a0 a1).length + (8 : Nat))) := hp _ (List.mem_cons_of_mem _ (List.mem_cons_of_mem _ (List.mem_cons_self ..)))
  exact evF_ok (envP_ok Cd_5_ok L0_ok) (vec_Put_ev a0 a1) (needs_cons n0 (needs_cons n1 (needs_cons n2 needs_nil)))
def vec_Put_r2 (_a0 : List UInt8) (_a1 : TVec) : A := .sq 0
def vec_Put_o2 (a0 : List UInt8) (a1 : TVec) : Objs := [(0, some (.arr 5 1 (.ty .u8 (a0 ++ putV a1))))]
def vec_Put_ps2 (a0 : List UInt8) (_a1 : TVec) : List Prop := [boundP (a0.length + 16)]
theorem vec_Put_eq (a0 : List UInt8) (a1 : TVec) : vec_Put_0 a0 a1 = a0 ++ putV a1 := by
  unfold vec_Put_0 vec_Put_k0 putV
  rw [vec_Good_eq]
  cases goodV a1 with
  | false => exact (List.append_nil a0).symm
  | true => exact List.append_assoc ..
theorem vec_Put_c2 (a0 : List UInt8) (a1 : TVec) (hp : ∀ p ∈ vec_Put_ps2 a0 a1, p) : CallOk Try.prog 120 [valA .bytes a0, valA .vec a1] 0 [] 1 (vec_Put_r2 a0 a1) 1 (vec_Put_o2 a0 a1) := by
  have hb : boundP (a0.length + 16) := hp _ (List.mem_cons_self ..)
  have h := vec_Put_c a0 a1 (needs_cons (fun _ => by unfold boundP at *; omega) (needs_cons (fun _ => by unfold boundP at *; omega) (needs_cons (fun _ => by
    have := putN_8 a1.1
    unfold vec_Put_k0 boundP at *
    rw [List.length_append]
    omega) needs_nil)))
  have ho : vec_Put_o a0 a1 = vec_Put_o2 a0 a1 := by unfold vec_Put_o vec_Put_o2; rw [vec_Put_eq]
  rw [ho] at h
  exact h
def vec_Put_t : List A → Nat → Objs → Option CRes
  | [y0, y1], nx, o => match argU .bytes y0, argU .vec y1 with
    | some (a0, p0), some (a1, p1) => some (1, (vec_Put_r2 a0 a1).pk (shiftR nx), nx + 1, shiftO nx (vec_Put_o2 a0 a1) ++ o, p0 ++ (p1 ++ (vec_Put_ps2 a0 a1)))
    | _, _ => none
  | _, _, _ => none
theorem vec_Put_tok : TOk Try.prog 120 vec_Put_t := fun args nx o k x nx' o' ps h => by
  unfold vec_Put_t at h
  split at h <;> first | (cases h; done) | skip
  split at h <;> first | (cases h; done) | skip
  rename_i a0 p0 a1 p1 e0 e1
  cases h
  refine ⟨fun hp => ?_, _, rfl⟩
  have q0 := fun p hm => hp p (List.mem_append.2 (.inl hm))
  have r0 := fun p hm => hp p (List.mem_append.2 (.inr hm))
  have q1 := fun p hm => r0 p (List.mem_append.2 (.inl hm))
  have r1 := fun p hm => r0 p (List.mem_append.2 (.inr hm))
  refine callOk_args (callOk_shift (vec_Put_c2 a0 a1 r1) (Nat.le_refl _) (freeL_cons (valA_free _ _) (freeL_cons (valA_free _ _) freeL_nil)) nx o) fun F N R vs hl => ?_
  obtain ⟨v0, w0, rfl, h0, hl⟩ := hl.inv
  obtain ⟨v1, w1, rfl, h1, hl⟩ := hl.inv
  exact HL.cons (argU_ok e0 q0 h0) (HL.cons (argU_ok e1 q1 h1) (hl))
noncomputable def Cd_6 := addC 120 vec_Put_t Cd_5
theorem Cd_6_ok : COk Try.prog Cd_6 := addC_ok vec_Put_tok Cd_5_ok
def num_PutText_k0 (a0 : List UInt8) (a1 : ByteArray) : List UInt8 := a0 ++ putN (↑a1.size : Int)
def num_PutText_0 (a0 : List UInt8) (a1 : ByteArray) : List UInt8 := (num_PutText_k0 a0 a1) ++ a1.data.toList
def num_PutText_r (_a0 : List UInt8) (_a1 : ByteArray) : A := .sq 0
def num_PutText_o (a0 : List UInt8) (a1 : ByteArray) : Objs := [(0, some (.arr 5 1 (.ty .u8 (num_PutText_0 a0 a1))))]
def num_PutText_ps (a0 : List UInt8) (a1 : ByteArray) : List Prop := [(boundP (a0.length + (8 : Nat))), (boundP ((num_PutText_k0 a0 a1).length + a1.data.toList.length))]
set_option maxRecDepth 100000 in
theorem num_PutText_ev (a0 : List UInt8) (a1 : ByteArray) : evF (envT Cd_6 L0) 9 122 [valA .bytes a0, valA .str a1] 0 [] = some (1, num_PutText_r a0 a1, 1, num_PutText_o a0 a1, [(boundP (a0.length + (8 : Nat))), (boundP ((num_PutText_k0 a0 a1).length + a1.data.toList.length))]) := by kernel_rfl
set_option maxRecDepth 100000 in
theorem num_PutText_c (a0 : List UInt8) (a1 : ByteArray) (hp : ∀ p ∈ num_PutText_ps a0 a1, p) : CallOk Try.prog 122 [valA .bytes a0, valA .str a1] 0 [] 1 (num_PutText_r a0 a1) 1 (num_PutText_o a0 a1) := by
  have n0 : (boundP (a0.length + (8 : Nat))) := hp _ (List.mem_cons_self ..)
  have n1 : (boundP ((num_PutText_k0 a0 a1).length + a1.data.toList.length)) := hp _ (List.mem_cons_of_mem _ (List.mem_cons_self ..))
  exact evF_ok (envP_ok Cd_6_ok L0_ok) (num_PutText_ev a0 a1) (needs_cons n0 (needs_cons n1 needs_nil))
def num_PutText_r2 (_a0 : List UInt8) (_a1 : ByteArray) : A := .sq 0
def num_PutText_o2 (a0 : List UInt8) (a1 : ByteArray) : Objs := [(0, some (.arr 5 1 (.ty .u8 (a0 ++ putT a1))))]
def num_PutText_ps2 (a0 : List UInt8) (a1 : ByteArray) : List Prop := [boundP (a0.length + 8 + a1.size)]
theorem num_PutText_c2 (a0 : List UInt8) (a1 : ByteArray) (hp : ∀ p ∈ num_PutText_ps2 a0 a1, p) : CallOk Try.prog 122 [valA .bytes a0, valA .str a1] 0 [] 1 (num_PutText_r2 a0 a1) 1 (num_PutText_o2 a0 a1) := by
  have hb : boundP (a0.length + 8 + a1.size) := hp _ (List.mem_cons_self ..)
  have h := num_PutText_c a0 a1 (needs_cons (by unfold boundP at *; omega) (needs_cons (by
    have := putN_8 (a1.size : Int)
    have hs : a1.data.toList.length = a1.size := Array.length_toList
    unfold num_PutText_k0 boundP at *
    rw [List.length_append, hs]
    omega) needs_nil))
  have ho : num_PutText_o a0 a1 = num_PutText_o2 a0 a1 := by unfold num_PutText_o num_PutText_o2 num_PutText_0 num_PutText_k0 putT; rw [List.append_assoc]
  rw [ho] at h
  exact h
def num_PutText_t : List A → Nat → Objs → Option CRes
  | [y0, y1], nx, o => match argU .bytes y0, argU .str y1 with
    | some (a0, p0), some (a1, p1) => some (1, (num_PutText_r2 a0 a1).pk (shiftR nx), nx + 1, shiftO nx (num_PutText_o2 a0 a1) ++ o, p0 ++ (p1 ++ (num_PutText_ps2 a0 a1)))
    | _, _ => none
  | _, _, _ => none
theorem num_PutText_tok : TOk Try.prog 122 num_PutText_t := fun args nx o k x nx' o' ps h => by
  unfold num_PutText_t at h
  split at h <;> first | (cases h; done) | skip
  split at h <;> first | (cases h; done) | skip
  rename_i a0 p0 a1 p1 e0 e1
  cases h
  refine ⟨fun hp => ?_, _, rfl⟩
  have q0 := fun p hm => hp p (List.mem_append.2 (.inl hm))
  have r0 := fun p hm => hp p (List.mem_append.2 (.inr hm))
  have q1 := fun p hm => r0 p (List.mem_append.2 (.inl hm))
  have r1 := fun p hm => r0 p (List.mem_append.2 (.inr hm))
  refine callOk_args (callOk_shift (num_PutText_c2 a0 a1 r1) (Nat.le_refl _) (freeL_cons (valA_free _ _) (freeL_cons (valA_free _ _) freeL_nil)) nx o) fun F N R vs hl => ?_
  obtain ⟨v0, w0, rfl, h0, hl⟩ := hl.inv
  obtain ⟨v1, w1, rfl, h1, hl⟩ := hl.inv
  exact HL.cons (argU_ok e0 q0 h0) (HL.cons (argU_ok e1 q1 h1) (hl))
noncomputable def Cd_7 := addC 122 num_PutText_t Cd_6
theorem Cd_7_ok : COk Try.prog Cd_7 := addC_ok num_PutText_tok Cd_6_ok
def cell_Put_k4 (_a0 : List UInt8) (_a1 : Int) (a2 : TCell) : Int := bif a2.3 then IntKind.i64.wrap (↑(BitVec.ofInt (64 : Nat) (bif cell_written_0 a2 then (1 : Int) else (0 : Int)) ||| BitVec.ofInt (64 : Nat) (2 : Int)).toNat : Int) else bif cell_written_0 a2 then (1 : Int) else (0 : Int)
def cell_Put_k3 (a0 : List UInt8) (a1 : Int) (a2 : TCell) : List UInt8 := a0 ++ putN (bif !(a2.5.1 == (0 : Int) && a2.5.2 == (0 : Int)) then IntKind.i64.wrap (↑(BitVec.ofInt (64 : Nat) (cell_Put_k4 a0 a1 a2) ||| BitVec.ofInt (64 : Nat) (4 : Int)).toNat : Int) else (cell_Put_k4 a0 a1 a2)) ++ putS a2.1
def cell_Put_k2 (a0 : List UInt8) (a1 : Int) (a2 : TCell) : Bool := decide (IntKind.i64.wrap (↑(BitVec.ofInt (64 : Nat) (bif !(a2.5.1 == (0 : Int) && a2.5.2 == (0 : Int)) then IntKind.i64.wrap (↑(BitVec.ofInt (64 : Nat) (cell_Put_k4 a0 a1 a2) ||| BitVec.ofInt (64 : Nat) (4 : Int)).toNat : Int) else (cell_Put_k4 a0 a1 a2)) &&& BitVec.ofInt (64 : Nat) (1 : Int)).toNat : Int) > (0 : Int))
def cell_Put_k1 (a0 : List UInt8) (a1 : Int) (a2 : TCell) : Bool := decide (IntKind.i64.wrap (↑(BitVec.ofInt (64 : Nat) (bif !(a2.5.1 == (0 : Int) && a2.5.2 == (0 : Int)) then IntKind.i64.wrap (↑(BitVec.ofInt (64 : Nat) (cell_Put_k4 a0 a1 a2) ||| BitVec.ofInt (64 : Nat) (4 : Int)).toNat : Int) else (cell_Put_k4 a0 a1 a2)) &&& BitVec.ofInt (64 : Nat) (4 : Int)).toNat : Int) > (0 : Int))
def cell_Put_k0 (a0 : List UInt8) (a1 : Int) (a2 : TCell) : List UInt8 := bif (cell_Put_k2 a0 a1 a2) then bif !a2.3 then (cell_Put_k3 a0 a1 a2) ++ putV a2.2 ++ putT a2.4 else (cell_Put_k3 a0 a1 a2) ++ putV a2.2 else a0 ++ putN (bif !(a2.5.1 == (0 : Int) && a2.5.2 == (0 : Int)) then IntKind.i64.wrap (↑(BitVec.ofInt (64 : Nat) (cell_Put_k4 a0 a1 a2) ||| BitVec.ofInt (64 : Nat) (4 : Int)).toNat : Int) else (cell_Put_k4 a0 a1 a2))
def cell_Put_0 (a0 : List UInt8) (a1 : Int) (a2 : TCell) : List UInt8 := bif !cell_Good_0 a1 a2 then [] ++ a0 else bif (cell_Put_k1 a0 a1 a2) then (cell_Put_k0 a0 a1 a2) ++ putV (TVec.mk (bif (cell_Put_k2 a0 a1 a2) then bif !a2.3 then a2.5.1 else a2.5.1 else a2.5.1) (bif (cell_Put_k2 a0 a1 a2) then bif !a2.3 then a2.5.2 else a2.5.2 else a2.5.2)) else (cell_Put_k0 a0 a1 a2)
def cell_Put_r (_a0 : List UInt8) (_a1 : Int) (_a2 : TCell) : A := .sq 0
def cell_Put_o (a0 : List UInt8) (a1 : Int) (a2 : TCell) : Objs := [(0, some (.arr 5 1 (.ty .u8 (cell_Put_0 a0 a1 a2))))]
def cell_Put_ps (a0 : List UInt8) (a1 : Int) (a2 : TCell) : List Prop := [((!cell_Good_0 a1 a2) = true → boundP ((0 : Nat) + a0.length)), ((!!cell_Good_0 a1 a2) = true → boundP (a0.length + (8 : Nat))), ((!!cell_Good_0 a1 a2) = true → (cell_Put_k2 a0 a1 a2) = true → boundP ((a0 ++ putN (bif !(a2.5.1 == (0 : Int) && a2.5.2 == (0 : Int)) then IntKind.i64.wrap (↑(BitVec.ofInt (64 : Nat) (cell_Put_k4 a0 a1 a2) ||| BitVec.ofInt (64 : Nat) (4 : Int)).toNat : Int) else (cell_Put_k4 a0 a1 a2))).length + (8 : Nat))), ((!!cell_Good_0 a1 a2) = true → (cell_Put_k2 a0 a1 a2) = true → boundP ((cell_Put_k3 a0 a1 a2).length + (16 : Nat))), ((!!cell_Good_0 a1 a2) = true → (cell_Put_k2 a0 a1 a2) = true → (!a2.3) = true → boundP (((cell_Put_k3 a0 a1 a2) ++ putV a2.2).length + (8 : Nat) + a2.4.size)), ((!!cell_Good_0 a1 a2) = true → (cell_Put_k1 a0 a1 a2) = true → boundP ((cell_Put_k0 a0 a1 a2).length + (16 : Nat)))]
set_option maxRecDepth 100000 in
theorem cell_Put_ev (a0 : List UInt8) (a1 : Int) (a2 : TCell) : evF (envT Cd_7 L0) 9 56 [valA .bytes a0, valA .i64 a1, valA .cell a2] 0 [] = some (1, cell_Put_r a0 a1 a2, 1, cell_Put_o a0 a1 a2, [((!cell_Good_0 a1 a2) = true → boundP ((0 : Nat) + a0.length)), ((!!cell_Good_0 a1 a2) = true → boundP (a0.length + (8 : Nat))), ((!!cell_Good_0 a1 a2) = true → (cell_Put_k2 a0 a1 a2) = true → boundP ((a0 ++ putN (bif !(a2.5.1 == (0 : Int) && a2.5.2 == (0 : Int)) then IntKind.i64.wrap (↑(BitVec.ofInt (64 : Nat) (cell_Put_k4 a0 a1 a2) ||| BitVec.ofInt (64 : Nat) (4 : Int)).toNat : Int) else (cell_Put_k4 a0 a1 a2))).length + (8 : Nat))), ((!!cell_Good_0 a1 a2) = true → (cell_Put_k2 a0 a1 a2) = true → boundP ((cell_Put_k3 a0 a1 a2).length + (16 : Nat))), ((!!cell_Good_0 a1 a2) = true → (cell_Put_k2 a0 a1 a2) = true → (!a2.3) = true → boundP (((cell_Put_k3 a0 a1 a2) ++ putV a2.2).length + (8 : Nat) + a2.4.size)), ((!!cell_Good_0 a1 a2) = true → (cell_Put_k1 a0 a1 a2) = true → boundP ((cell_Put_k0 a0 a1 a2).length + (16 : Nat)))]) := by kernel_rfl
set_option maxRecDepth 100000 in
theorem cell_Put_c (a0 : List UInt8) (a1 : Int) (a2 : TCell) (hp : ∀ p ∈ cell_Put_ps a0 a1 a2, p) : CallOk Try.prog 56 [valA .bytes a0, valA .i64 a1, valA .cell a2] 0 [] 1 (cell_Put_r a0 a1 a2) 1 (cell_Put_o a0 a1 a2) := by
  have n0 : ((!cell_Good_0 a1 a2) = true → boundP ((0 : Nat) + a0.length)) := hp _ (List.mem_cons_self ..)
  have n1 : ((!!cell_Good_0 a1 a2) = true → boundP (a0.length + (8 : Nat))) := hp _ (List.mem_cons_of_mem _ (List.mem_cons_self ..))
  have n2 : ((!!cell_Good_0 a1 a2) = true → (cell_Put_k2 a0 a1 a2) = true → boundP ((a0 ++ putN (bif !(a2.5.1 == (0 : Int) && a2.5.2 == (0 : Int)) then IntKind.i64.wrap (↑(BitVec.ofInt (64 : Nat) (cell_Put_k4 a0 a1 a2) ||| BitVec.ofInt (64 : Nat) (4 : Int)).toNat : Int) else (cell_Put_k4 a0 a1 a2))).length + (8 : Nat))) := hp _ (List.mem_cons_of_mem _ (List.mem_cons_of_mem _ (List.mem_cons_self ..)))
  have n3 : ((!!cell_Good_0 a1 a2) = true → (cell_Put_k2 a0 a1 a2) = true → boundP ((cell_Put_k3 a0 a1 a2).length + (16 : Nat))) := hp _ (List.mem_cons_of_mem _ (List.mem_cons_of_mem _ (List.mem_cons_of_mem _ (List.mem_cons_self ..))))
  have n4 : ((!!cell_Good_0 a1 a2) = true → (cell_Put_k2 a0 a1 a2) = true → (!a2.3) = true → boundP (((cell_Put_k3 a0 a1 a2) ++ putV a2.2).length + (8 : Nat) + a2.4.size)) := hp _ (List.mem_cons_of_mem _ (List.mem_cons_of_mem _ (List.mem_cons_of_mem _ (List.mem_cons_of_mem _ (List.mem_cons_self ..)))))
  have n5 : ((!!cell_Good_0 a1 a2) = true → (cell_Put_k1 a0 a1 a2) = true → boundP ((cell_Put_k0 a0 a1 a2).length + (16 : Nat))) := hp _ (List.mem_cons_of_mem _ (List.mem_cons_of_mem _ (List.mem_cons_of_mem _ (List.mem_cons_of_mem _ (List.mem_cons_of_mem _ (List.mem_cons_self ..))))))
  exact evF_ok (envP_ok Cd_7_ok L0_ok) (cell_Put_ev a0 a1 a2) (needs_cons n0 (needs_cons n1 (needs_cons n2 (needs_cons n3 (needs_cons n4 (needs_cons n5 needs_nil))))))
def cell_Put_r2 (_a0 : List UInt8) (_a1 : Int) (_a2 : TCell) : A := .sq 0
def cell_Put_o2 (a0 : List UInt8) (a1 : Int) (a2 : TCell) : Objs := [(0, some (.arr 5 1 (.ty .u8 (a0 ++ putC a1 a2))))]
def cell_Put_ps2 (a0 : List UInt8) (_a1 : Int) (_a2 : TCell) : List Prop := [boundP (a0.length + 128)]
theorem cell_Put_n (a0 : List UInt8) (a1 : Int) (c : TCell) : (bif !(c.5.1 == (0 : Int) && c.5.2 == (0 : Int)) then IntKind.i64.wrap (↑(BitVec.ofInt (64 : Nat) (cell_Put_k4 a0 a1 c) ||| BitVec.ofInt (64 : Nat) (4 : Int)).toNat : Int) else (cell_Put_k4 a0 a1 c)) = flagsC c := by
  unfold cell_Put_k4 flagsC
  rw [cell_written_eq]
  show (bif !(zeroV c.dead) then _ else _) = _
  cases written c <;> cases c.gone <;> cases zeroV c.dead <;> rfl
theorem cell_Put_b1 (a0 : List UInt8) (a1 : Int) (c : TCell) : cell_Put_k2 a0 a1 c = written c := by
  unfold cell_Put_k2
  obtain ⟨h1, _, h3, _⟩ := flags_ok c
  rw [cell_Put_n, bit_pos h1 0 1 rfl (by decide)]
  exact h3
theorem cell_Put_b4 (a0 : List UInt8) (a1 : Int) (c : TCell) : cell_Put_k1 a0 a1 c = !zeroV c.dead := by
  unfold cell_Put_k1
  obtain ⟨h1, _, _, _, h5⟩ := flags_ok c
  rw [cell_Put_n, bit_pos h1 2 4 rfl (by decide)]
  exact h5
theorem cell_Put_eq (a0 : List UInt8) (a1 : Int) (c : TCell) : cell_Put_0 a0 a1 c = a0 ++ putC a1 c := by
  unfold cell_Put_0 cell_Put_k0 cell_Put_k3 putC bodyC
  rw [cell_Good_eq, cell_Put_n, cell_Put_b1, cell_Put_b4]
  have hd : ∀ w g : Bool, (TVec.mk (bif w then bif !g then c.5.1 else c.5.1 else c.5.1) (bif w then bif !g then c.5.2 else c.5.2 else c.5.2)) = c.dead := by intro w g; cases w <;> cases g <;> rfl
  rw [hd]
  cases goodC a1 c <;> cases written c <;> cases c.gone <;> cases zeroV c.dead <;> simp
theorem cell_Put_c2 (a0 : List UInt8) (a1 : Int) (a2 : TCell) (hp : ∀ p ∈ cell_Put_ps2 a0 a1 a2, p) : CallOk Try.prog 56 [valA .bytes a0, valA .i64 a1, valA .cell a2] 0 [] 1 (cell_Put_r2 a0 a1 a2) 1 (cell_Put_o2 a0 a1 a2) := by
  have hb : boundP (a0.length + 128) := hp _ (List.mem_cons_self ..)
  unfold boundP at hb
  have n8 := putN_8 (flagsC a2)
  have s8 := putS_8 a2.stamp
  have v16 := putV_16 a2.vec
  have t8 := putT_8 a2.value
  have k3 : (cell_Put_k3 a0 a1 a2).length ≤ a0.length + 16 := by
    unfold cell_Put_k3
    rw [cell_Put_n, List.length_append, List.length_append]
    omega
  have sz : (!!cell_Good_0 a1 a2) = true → cell_Put_k2 a0 a1 a2 = true → a2.value.size ≤ 64 := fun h1 h2 => by
    rw [cell_Good_eq, Bool.not_not] at h1
    rw [cell_Put_b1] at h2
    have := ((goodC_iff.1 h1).st h2).2.2.2.1
    omega
  have h := cell_Put_c a0 a1 a2 (needs_cons (fun _ => by unfold boundP; omega) (needs_cons (fun _ => by unfold boundP; omega) (needs_cons (fun _ _ => by rw [cell_Put_n, List.length_append]; unfold boundP; omega) (needs_cons (fun _ _ => by unfold boundP; omega) (needs_cons (fun h1 h2 _ => by
      have := sz h1 h2
      rw [List.length_append]; unfold boundP; omega) (needs_cons (fun h1 _ => by
      have : (cell_Put_k0 a0 a1 a2).length ≤ a0.length + 112 := by
        unfold cell_Put_k0
        rw [cell_Put_n]
        cases hw : cell_Put_k2 a0 a1 a2 with
        | false => rw [cond_false, List.length_append]; omega
        | true =>
          have := sz h1 hw
          rw [cond_true]
          cases a2.3 with
          | true => simp only [Bool.not_true, cond_false, List.length_append]; omega
          | false => simp only [Bool.not_false, cond_true, List.length_append]; omega
      unfold boundP; omega) needs_nil))))))
  have ho : cell_Put_o a0 a1 a2 = cell_Put_o2 a0 a1 a2 := by unfold cell_Put_o cell_Put_o2; rw [cell_Put_eq]
  rw [ho] at h
  exact h
def cell_Put_t : List A → Nat → Objs → Option CRes
  | [y0, y1, y2], nx, o => match argU .bytes y0, argU .i64 y1, argU .cell y2 with
    | some (a0, p0), some (a1, p1), some (a2, p2) => some (1, (cell_Put_r2 a0 a1 a2).pk (shiftR nx), nx + 1, shiftO nx (cell_Put_o2 a0 a1 a2) ++ o, p0 ++ (p1 ++ (p2 ++ (cell_Put_ps2 a0 a1 a2))))
    | _, _, _ => none
  | _, _, _ => none
theorem cell_Put_tok : TOk Try.prog 56 cell_Put_t := fun args nx o k x nx' o' ps h => by
  unfold cell_Put_t at h
  split at h <;> first | (cases h; done) | skip
  split at h <;> first | (cases h; done) | skip
  rename_i a0 p0 a1 p1 a2 p2 e0 e1 e2
  cases h
  refine ⟨fun hp => ?_, _, rfl⟩
  have q0 := fun p hm => hp p (List.mem_append.2 (.inl hm))
  have r0 := fun p hm => hp p (List.mem_append.2 (.inr hm))
  have q1 := fun p hm => r0 p (List.mem_append.2 (.inl hm))
  have r1 := fun p hm => r0 p (List.mem_append.2 (.inr hm))
  have q2 := fun p hm => r1 p (List.mem_append.2 (.inl hm))
  have r2 := fun p hm => r1 p (List.mem_append.2 (.inr hm))
  refine callOk_args (callOk_shift (cell_Put_c2 a0 a1 a2 r2) (Nat.le_refl _) (freeL_cons (valA_free _ _) (freeL_cons (valA_free _ _) (freeL_cons (valA_free _ _) freeL_nil))) nx o) fun F N R vs hl => ?_
  obtain ⟨v0, w0, rfl, h0, hl⟩ := hl.inv
  obtain ⟨v1, w1, rfl, h1, hl⟩ := hl.inv
  obtain ⟨v2, w2, rfl, h2, hl⟩ := hl.inv
  exact HL.cons (argU_ok e0 q0 h0) (HL.cons (argU_ok e1 q1 h1) (HL.cons (argU_ok e2 q2 h2) (hl)))
noncomputable def Cd_8 := addC 56 cell_Put_t Cd_7
theorem Cd_8_ok : COk Try.prog Cd_8 := addC_ok cell_Put_tok Cd_7_ok
def stamp_Get_k2 (a0 : List UInt8) : Bool := (getN a0).fst == (0 : Int)
def stamp_Get_k1 (a0 : List UInt8) : Bool := (getN a0).snd.snd != (0 : Int)
def stamp_Get_k0 (a0 : List UInt8) : Bool := !stamp_Good_0 (TStamp.mk ((getN a0).fst.fdiv (2 : Int)) (IntKind.i64.wrap (IntKind.i64.wrap (↑(BitVec.ofInt (64 : Nat) (getN a0).fst &&& BitVec.ofInt (64 : Nat) (1 : Int)).toNat : Int) + (1 : Int))))
def stamp_Get_0 (a0 : List UInt8) : TStamp := TStamp.mk (bif (stamp_Get_k1 a0) then (0 : Int) else bif (stamp_Get_k2 a0) then (0 : Int) else bif (stamp_Get_k0 a0) then (0 : Int) else (getN a0).fst.fdiv (2 : Int)) (bif (stamp_Get_k1 a0) then (0 : Int) else bif (stamp_Get_k2 a0) then (0 : Int) else bif (stamp_Get_k0 a0) then (0 : Int) else IntKind.i64.wrap (IntKind.i64.wrap (↑(BitVec.ofInt (64 : Nat) (getN a0).fst &&& BitVec.ofInt (64 : Nat) (1 : Int)).toNat : Int) + (1 : Int)))
def stamp_Get_1 (a0 : List UInt8) : Int := bif (stamp_Get_k1 a0) then (0 : Int) else bif (stamp_Get_k2 a0) then (getN a0).snd.fst else bif (stamp_Get_k0 a0) then (0 : Int) else (getN a0).snd.fst
def stamp_Get_2 (a0 : List UInt8) : Int := bif (stamp_Get_k1 a0) then (getN a0).snd.snd else bif (stamp_Get_k2 a0) then (0 : Int) else bif (stamp_Get_k0 a0) then (11 : Int) else (0 : Int)
def stamp_Get_r (a0 : List UInt8) : A := .v (.tuple ⟨[.agg ⟨[.int .i64 ((stamp_Get_0 a0).n), .int .i64 ((stamp_Get_0 a0).site)]⟩, .int .i64 (stamp_Get_1 a0), .int .i64 (stamp_Get_2 a0)]⟩)
def stamp_Get_o (_a0 : List UInt8) : Objs := []
def stamp_Get_ps (_a0 : List UInt8) : List Prop := []
set_option maxRecDepth 100000 in
theorem stamp_Get_ev (a0 : List UInt8) : evF (envT Cd_8 L0) 9 115 [valA .bytes a0] 0 [] = some (1, stamp_Get_r a0, 0, stamp_Get_o a0, []) := by kernel_rfl
set_option maxRecDepth 100000 in
theorem stamp_Get_c (a0 : List UInt8) (_hp : ∀ p ∈ stamp_Get_ps a0, p) : CallOk Try.prog 115 [valA .bytes a0] 0 [] 1 (stamp_Get_r a0) 0 (stamp_Get_o a0) := by
  exact evF_ok (envP_ok Cd_8_ok L0_ok) (stamp_Get_ev a0) needs_nil
def stamp_Get_r2 (a0 : List UInt8) : A := .v (.tuple ⟨[.agg ⟨[.int .i64 (getS a0).1.n, .int .i64 (getS a0).1.site]⟩, .int .i64 (getS a0).2.1, .int .i64 (getS a0).2.2]⟩)
def stamp_Get_o2 (_a0 : List UInt8) : Objs := []
def stamp_Get_ps2 (_a0 : List UInt8) : List Prop := []
theorem stamp_Get_eq (b : List UInt8) : (stamp_Get_0 b, stamp_Get_1 b, stamp_Get_2 b) = getS b := by
  obtain ⟨_, _, _, hn0, hn1⟩ := getN_bounds b
  have hok : okN (getN b).1 := ⟨hn0, hn1⟩
  unfold stamp_Get_0 stamp_Get_1 stamp_Get_2 stamp_Get_k0 stamp_Get_k1 stamp_Get_k2 getS decS
  rw [bit_low hok, stamp_Good_eq, Int.fdiv_eq_ediv_of_nonneg _ (by decide)]
  by_cases he : (getN b).2.2 = 0
  · have e1 : ((getN b).2.2 != (0 : Int)) = false := by rw [he]; rfl
    rw [e1, if_neg (by rw [he]; simp)]
    by_cases hz : (getN b).1 = 0
    · have e2 : ((getN b).1 == (0 : Int)) = true := by rw [hz]; rfl
      rw [e2, if_pos hz]
      rfl
    · have e2 : ((getN b).1 == (0 : Int)) = false := by simpa using hz
      rw [e2, if_neg hz]
      cases hg : goodS ⟨(getN b).1 / 2, 1 + (getN b).1 % 2⟩ with
      | true => rfl
      | false => rfl
  · have e1 : ((getN b).2.2 != (0 : Int)) = true := by simpa using he
    rw [e1, if_pos he]
    rfl
theorem stamp_Get_c2 (a0 : List UInt8) (_hp : ∀ p ∈ stamp_Get_ps2 a0, p) : CallOk Try.prog 115 [valA .bytes a0] 0 [] 1 (stamp_Get_r2 a0) 0 (stamp_Get_o2 a0) := by
  have h := stamp_Get_c a0 needs_nil
  have hr : stamp_Get_r a0 = stamp_Get_r2 a0 := by unfold stamp_Get_r stamp_Get_r2; rw [← stamp_Get_eq]
  rw [hr] at h
  exact h
def stamp_Get_t : List A → Nat → Objs → Option CRes
  | [y0], nx, o => match argU .bytes y0 with
    | some (a0, p0) => some (1, (stamp_Get_r2 a0).pk (shiftR nx), nx + 0, shiftO nx (stamp_Get_o2 a0) ++ o, p0 ++ (stamp_Get_ps2 a0))
    | _ => none
  | _, _, _ => none
theorem stamp_Get_tok : TOk Try.prog 115 stamp_Get_t := fun args nx o k x nx' o' ps h => by
  unfold stamp_Get_t at h
  split at h <;> first | (cases h; done) | skip
  split at h <;> first | (cases h; done) | skip
  rename_i a0 p0 e0
  cases h
  refine ⟨fun hp => ?_, _, rfl⟩
  have q0 := fun p hm => hp p (List.mem_append.2 (.inl hm))
  have r0 := fun p hm => hp p (List.mem_append.2 (.inr hm))
  refine callOk_args (callOk_shift (stamp_Get_c2 a0 r0) (Nat.le_refl _) (freeL_cons (valA_free _ _) freeL_nil) nx o) fun F N R vs hl => ?_
  obtain ⟨v0, w0, rfl, h0, hl⟩ := hl.inv
  exact HL.cons (argU_ok e0 q0 h0) (hl)
noncomputable def Cd_9 := addC 115 stamp_Get_t Cd_8
theorem Cd_9_ok : COk Try.prog Cd_9 := addC_ok stamp_Get_tok Cd_8_ok
def vec_Get_k5 (a0 : List UInt8) : Bool := (getN (List.take ((↑a0.length : Int).toNat - (0 : Nat)) (List.drop (0 : Nat) a0))).snd.snd != (0 : Int)
def vec_Get_k4 (a0 : List UInt8) : Int := IntKind.i64.wrap ((0 : Int) + (getN (List.take ((↑a0.length : Int).toNat - (0 : Nat)) (List.drop (0 : Nat) a0))).snd.fst)
def vec_Get_k3 (a0 : List UInt8) : Int := bif (vec_Get_k5 a0) then (0 : Int) else (0 : Int)
def vec_Get_k2 (a0 : List UInt8) : Int := (getN (List.take ((↑a0.length : Int).toNat - (vec_Get_k4 a0).toNat) (List.drop (vec_Get_k4 a0).toNat a0))).snd.snd
def vec_Get_k1 (a0 : List UInt8) : Bool := !vec_Good_0 (TVec.mk (getN (List.take ((↑a0.length : Int).toNat - (0 : Nat)) (List.drop (0 : Nat) a0))).fst (getN (List.take ((↑a0.length : Int).toNat - (vec_Get_k4 a0).toNat) (List.drop (vec_Get_k4 a0).toNat a0))).fst)
def vec_Get_k0 (a0 : List UInt8) : Bool := (vec_Get_k5 a0) || (vec_Get_k2 a0) != (0 : Int)
def vec_Get_0 (a0 : List UInt8) : TVec := TVec.mk (bif (vec_Get_k0 a0) then (vec_Get_k3 a0) else bif (vec_Get_k1 a0) then (0 : Int) else (getN (List.take ((↑a0.length : Int).toNat - (0 : Nat)) (List.drop (0 : Nat) a0))).fst) (bif (vec_Get_k0 a0) then (vec_Get_k3 a0) else bif (vec_Get_k1 a0) then (0 : Int) else (getN (List.take ((↑a0.length : Int).toNat - (vec_Get_k4 a0).toNat) (List.drop (vec_Get_k4 a0).toNat a0))).fst)
def vec_Get_1 (a0 : List UInt8) : Int := bif (vec_Get_k0 a0) then (vec_Get_k3 a0) else bif (vec_Get_k1 a0) then (0 : Int) else IntKind.i64.wrap ((vec_Get_k4 a0) + (getN (List.take ((↑a0.length : Int).toNat - (vec_Get_k4 a0).toNat) (List.drop (vec_Get_k4 a0).toNat a0))).snd.fst)
def vec_Get_2 (a0 : List UInt8) : Int := bif (vec_Get_k0 a0) then bif (vec_Get_k5 a0) then (getN (List.take ((↑a0.length : Int).toNat - (0 : Nat)) (List.drop (0 : Nat) a0))).snd.snd else (vec_Get_k2 a0) else bif (vec_Get_k1 a0) then (11 : Int) else (0 : Int)
def vec_Get_r (a0 : List UInt8) : A := .v (.tuple ⟨[.agg ⟨[.int .i64 ((vec_Get_0 a0).a), .int .i64 ((vec_Get_0 a0).b)]⟩, .int .i64 (vec_Get_1 a0), .int .i64 (vec_Get_2 a0)]⟩)
def vec_Get_o (_a0 : List UInt8) : Objs := []
def vec_Get_ps (a0 : List UInt8) : List Prop := [((!(vec_Get_k5 a0)) = true → (0 : Int) ≤ (vec_Get_k4 a0) ∧ (vec_Get_k4 a0) ≤ (↑a0.length : Int) ∧ (↑a0.length : Int) ≤ (↑a0.length : Int))]
set_option maxRecDepth 100000 in
theorem vec_Get_ev (a0 : List UInt8) : evF (envT Cd_9 L0) 9 116 [valA .bytes a0] 0 [] = some (1, vec_Get_r a0, 0, vec_Get_o a0, [((0 : Int) ≤ (0 : Int) ∧ (0 : Int) ≤ (↑a0.length : Int) ∧ (↑a0.length : Int) ≤ (↑a0.length : Int)), ((!(vec_Get_k5 a0)) = true → (0 : Int) ≤ (0 : Int) ∧ (0 : Int) < (2 : Int)), ((!(vec_Get_k5 a0)) = true → (0 : Nat) < (2 : Nat)), ((!(vec_Get_k5 a0)) = true → (0 : Int) ≤ (vec_Get_k4 a0) ∧ (vec_Get_k4 a0) ≤ (↑a0.length : Int) ∧ (↑a0.length : Int) ≤ (↑a0.length : Int)), ((!(vec_Get_k5 a0)) = true → (!(vec_Get_k2 a0) != (0 : Int)) = true → (0 : Int) ≤ (1 : Int) ∧ (1 : Int) < (2 : Int)), ((!(vec_Get_k5 a0)) = true → (!(vec_Get_k2 a0) != (0 : Int)) = true → (1 : Nat) < (2 : Nat))]) := by kernel_rfl
set_option maxRecDepth 100000 in
theorem vec_Get_c (a0 : List UInt8) (hp : ∀ p ∈ vec_Get_ps a0, p) : CallOk Try.prog 116 [valA .bytes a0] 0 [] 1 (vec_Get_r a0) 0 (vec_Get_o a0) := by
  have n0 : ((0 : Int) ≤ (0 : Int) ∧ (0 : Int) ≤ (↑a0.length : Int) ∧ (↑a0.length : Int) ≤ (↑a0.length : Int)) := by omega
  have n1 : ((!(vec_Get_k5 a0)) = true → (0 : Int) ≤ (0 : Int) ∧ (0 : Int) < (2 : Int)) := by omega
  have n2 : ((!(vec_Get_k5 a0)) = true → (0 : Nat) < (2 : Nat)) := by omega
  have n3 : ((!(vec_Get_k5 a0)) = true → (0 : Int) ≤ (vec_Get_k4 a0) ∧ (vec_Get_k4 a0) ≤ (↑a0.length : Int) ∧ (↑a0.length : Int) ≤ (↑a0.length : Int)) := hp _ (List.mem_cons_self ..)
  have n4 : ((!(vec_Get_k5 a0)) = true → (!(vec_Get_k2 a0) != (0 : Int)) = true → (0 : Int) ≤ (1 : Int) ∧ (1 : Int) < (2 : Int)) := by omega
  have n5 : ((!(vec_Get_k5 a0)) = true → (!(vec_Get_k2 a0) != (0 : Int)) = true → (1 : Nat) < (2 : Nat)) := by omega
  exact evF_ok (envP_ok Cd_9_ok L0_ok) (vec_Get_ev a0) (needs_cons n0 (needs_cons n1 (needs_cons n2 (needs_cons n3 (needs_cons n4 (needs_cons n5 needs_nil))))))
def vec_Get_r2 (a0 : List UInt8) : A := .v (.tuple ⟨[.agg ⟨[.int .i64 (getV a0).1.a, .int .i64 (getV a0).1.b]⟩, .int .i64 (getV a0).2.1, .int .i64 (getV a0).2.2]⟩)
def vec_Get_o2 (_a0 : List UInt8) : Objs := []
def vec_Get_ps2 (_a0 : List UInt8) : List Prop := []
theorem slice_all {b : List UInt8} {k : Int} : List.take (((b.length : Nat) : Int).toNat - k.toNat) (List.drop k.toNat b) = b.drop k.toNat := by
  rw [Int.toNat_natCast]
  exact List.take_of_length_le (by rw [List.length_drop]; exact Nat.le_refl _)
theorem vec_Get_eq (b : List UInt8) : (∀ p ∈ vec_Get_ps b, p) ∧ (vec_Get_0 b, vec_Get_1 b, vec_Get_2 b) = getV b := by
  obtain ⟨hk0, hk1, hk2, hn0, hn1⟩ := getN_bounds b
  have e0 : List.take (((b.length : Nat) : Int).toNat - (0 : Nat)) (List.drop (0 : Nat) b) = b := by
    simp
  have k4 : vec_Get_k4 b = (getN b).2.1 := by
    unfold vec_Get_k4
    rw [e0, i64_in (by omega)]
    omega
  refine ⟨needs_cons (fun _ => ?_) needs_nil, ?_⟩
  · rw [k4]; omega
  · unfold vec_Get_0 vec_Get_1 vec_Get_2 vec_Get_k0 vec_Get_k1 vec_Get_k2 vec_Get_k3 vec_Get_k5 getV
    rw [k4, e0, slice_all, vec_Good_eq]
    obtain ⟨hj0, hj1, hj2, hm0, hm1⟩ := getN_bounds (b.drop (getN b).2.1.toNat)
    rw [i64_in (n := (getN b).2.1 + _) (by omega)]
    by_cases he : (getN b).2.2 = 0
    · have e1 : ((getN b).2.2 != (0 : Int)) = false := by rw [he]; rfl
      rw [e1, if_neg (by rw [he]; simp)]
      by_cases he2 : (getN (b.drop (getN b).2.1.toNat)).2.2 = 0
      · have e2 : ((getN (b.drop (getN b).2.1.toNat)).2.2 != (0 : Int)) = false := by rw [he2]; rfl
        rw [e2, if_neg (by rw [he2]; simp)]
        cases hg : goodV ⟨(getN b).1, (getN (b.drop (getN b).2.1.toNat)).1⟩ with
        | true => rfl
        | false => rfl
      · have e2 : ((getN (b.drop (getN b).2.1.toNat)).2.2 != (0 : Int)) = true := by simpa using he2
        rw [e2, if_pos he2]
        rfl
    · have e1 : ((getN b).2.2 != (0 : Int)) = true := by simpa using he
      rw [e1, if_pos he]
      rfl
theorem vec_Get_c2 (a0 : List UInt8) (_hp : ∀ p ∈ vec_Get_ps2 a0, p) : CallOk Try.prog 116 [valA .bytes a0] 0 [] 1 (vec_Get_r2 a0) 0 (vec_Get_o2 a0) := by
  obtain ⟨h1, h2⟩ := vec_Get_eq a0
  have h := vec_Get_c a0 h1
  have hr : vec_Get_r a0 = vec_Get_r2 a0 := by unfold vec_Get_r vec_Get_r2; rw [← h2]
  rw [hr] at h
  exact h
def vec_Get_t : List A → Nat → Objs → Option CRes
  | [y0], nx, o => match argU .bytes y0 with
    | some (a0, p0) => some (1, (vec_Get_r2 a0).pk (shiftR nx), nx + 0, shiftO nx (vec_Get_o2 a0) ++ o, p0 ++ (vec_Get_ps2 a0))
    | _ => none
  | _, _, _ => none
theorem vec_Get_tok : TOk Try.prog 116 vec_Get_t := fun args nx o k x nx' o' ps h => by
  unfold vec_Get_t at h
  split at h <;> first | (cases h; done) | skip
  split at h <;> first | (cases h; done) | skip
  rename_i a0 p0 e0
  cases h
  refine ⟨fun hp => ?_, _, rfl⟩
  have q0 := fun p hm => hp p (List.mem_append.2 (.inl hm))
  have r0 := fun p hm => hp p (List.mem_append.2 (.inr hm))
  refine callOk_args (callOk_shift (vec_Get_c2 a0 r0) (Nat.le_refl _) (freeL_cons (valA_free _ _) freeL_nil) nx o) fun F N R vs hl => ?_
  obtain ⟨v0, w0, rfl, h0, hl⟩ := hl.inv
  exact HL.cons (argU_ok e0 q0 h0) (hl)
noncomputable def Cd_10 := addC 116 vec_Get_t Cd_9
theorem Cd_10_ok : COk Try.prog Cd_10 := addC_ok vec_Get_tok Cd_9_ok
def num_GetText_k3 (a0 : List UInt8) (_a1 : Int) : Bool := (getN a0).snd.snd != (0 : Int)
def num_GetText_k2 (a0 : List UInt8) (_a1 : Int) : Int := IntKind.i64.wrap ((getN a0).snd.fst + (getN a0).fst)
def num_GetText_k1 (a0 : List UInt8) (a1 : Int) : Bool := decide ((getN a0).fst > a1)
def num_GetText_k0 (a0 : List UInt8) (a1 : Int) : Bool := (num_GetText_k3 a0 a1) || ((num_GetText_k1 a0 a1) || decide (IntKind.i64.wrap ((↑a0.length : Int) - (getN a0).snd.fst) < (getN a0).fst))
def num_GetText_0 (a0 : List UInt8) (a1 : Int) : ByteArray := bif (num_GetText_k0 a0 a1) then bif (num_GetText_k3 a0 a1) then ByteArray.mk #[] else bif (num_GetText_k1 a0 a1) then ByteArray.mk #[] else ByteArray.mk #[] else ByteArray.mk (List.take ((num_GetText_k2 a0 a1).toNat - (getN a0).snd.fst.toNat) (List.drop (getN a0).snd.fst.toNat a0)).toArray
def num_GetText_1 (a0 : List UInt8) (a1 : Int) : Int := bif (num_GetText_k0 a0 a1) then bif (num_GetText_k3 a0 a1) then (0 : Int) else bif (num_GetText_k1 a0 a1) then (0 : Int) else (0 : Int) else (num_GetText_k2 a0 a1)
def num_GetText_2 (a0 : List UInt8) (a1 : Int) : Int := bif (num_GetText_k0 a0 a1) then bif (num_GetText_k3 a0 a1) then (getN a0).snd.snd else bif (num_GetText_k1 a0 a1) then (3 : Int) else (10 : Int) else (0 : Int)
def num_GetText_r (a0 : List UInt8) (a1 : Int) : A := .v (.tuple ⟨[.string (num_GetText_0 a0 a1), .int .i64 (num_GetText_1 a0 a1), .int .i64 (num_GetText_2 a0 a1)]⟩)
def num_GetText_o (_a0 : List UInt8) (_a1 : Int) : Objs := []
def num_GetText_ps (a0 : List UInt8) (a1 : Int) : List Prop := [((!(num_GetText_k0 a0 a1)) = true → (0 : Int) ≤ (getN a0).snd.fst ∧ (getN a0).snd.fst ≤ (num_GetText_k2 a0 a1) ∧ (num_GetText_k2 a0 a1) ≤ (↑a0.length : Int))]
set_option maxRecDepth 100000 in
theorem num_GetText_ev (a0 : List UInt8) (a1 : Int) : evF (envT Cd_10 L0) 9 117 [valA .bytes a0, valA .i64 a1] 0 [] = some (1, num_GetText_r a0 a1, 0, num_GetText_o a0 a1, [((!(num_GetText_k0 a0 a1)) = true → (0 : Int) ≤ (getN a0).snd.fst ∧ (getN a0).snd.fst ≤ (num_GetText_k2 a0 a1) ∧ (num_GetText_k2 a0 a1) ≤ (↑a0.length : Int))]) := by kernel_rfl
set_option maxRecDepth 100000 in
theorem num_GetText_c (a0 : List UInt8) (a1 : Int) (hp : ∀ p ∈ num_GetText_ps a0 a1, p) : CallOk Try.prog 117 [valA .bytes a0, valA .i64 a1] 0 [] 1 (num_GetText_r a0 a1) 0 (num_GetText_o a0 a1) := by
  have n0 : ((!(num_GetText_k0 a0 a1)) = true → (0 : Int) ≤ (getN a0).snd.fst ∧ (getN a0).snd.fst ≤ (num_GetText_k2 a0 a1) ∧ (num_GetText_k2 a0 a1) ≤ (↑a0.length : Int)) := hp _ (List.mem_cons_self ..)
  exact evF_ok (envP_ok Cd_10_ok L0_ok) (num_GetText_ev a0 a1) (needs_cons n0 needs_nil)
def num_GetText_r2 (a0 : List UInt8) (a1 : Int) : A := .v (.tuple ⟨[.string (getT a0 a1).1, .int .i64 (getT a0 a1).2.1, .int .i64 (getT a0 a1).2.2]⟩)
def num_GetText_o2 (_a0 : List UInt8) (_a1 : Int) : Objs := []
def num_GetText_ps2 (a0 : List UInt8) (_a1 : Int) : List Prop := [boundP a0.length]
theorem num_GetText_eq (b : List UInt8) (m : Int) (hb : boundP b.length) : (∀ p ∈ num_GetText_ps b m, p) ∧ (num_GetText_0 b m, num_GetText_1 b m, num_GetText_2 b m) = getT b m := by
  obtain ⟨hk0, hk1, hk2, hn0, hn1⟩ := getN_bounds b
  unfold boundP at hb
  have k2 : num_GetText_k2 b m = (getN b).2.1 + (getN b).1 := by
    unfold num_GetText_k2
    exact i64_in (by omega)
  have k0 : num_GetText_k0 b m = ((getN b).2.2 != 0 || (decide ((getN b).1 > m) || decide ((b.length : Int) - (getN b).2.1 < (getN b).1))) := by
    unfold num_GetText_k0 num_GetText_k1 num_GetText_k3
    rw [i64_in (by omega)]
  refine ⟨needs_cons (fun h => ?_) needs_nil, ?_⟩
  · rw [k0] at h
    rw [k2]
    simp only [Bool.not_eq_true', Bool.or_eq_false_iff, decide_eq_false_iff_not] at h
    omega
  · unfold num_GetText_0 num_GetText_1 num_GetText_2 num_GetText_k1 num_GetText_k3 getT
    rw [k0, k2]
    by_cases he : (getN b).2.2 = 0
    · have e1 : ((getN b).2.2 != (0 : Int)) = false := by rw [he]; rfl
      rw [e1, if_neg (by rw [he]; simp)]
      by_cases hm : (getN b).1 > m
      · rw [decide_eq_true hm, if_pos hm]; rfl
      · rw [decide_eq_false hm, if_neg hm]
        by_cases hc : (b.length : Int) - (getN b).2.1 < (getN b).1
        · rw [decide_eq_true hc, if_pos hc]; rfl
        · rw [decide_eq_false hc, if_neg hc]
          have e3 : ((getN b).2.1 + (getN b).1).toNat - (getN b).2.1.toNat = (getN b).1.toNat := by omega
          rw [e3]
          rfl
    · have e1 : ((getN b).2.2 != (0 : Int)) = true := by simpa using he
      rw [e1, if_pos he]
      rfl
theorem num_GetText_c2 (a0 : List UInt8) (a1 : Int) (hp : ∀ p ∈ num_GetText_ps2 a0 a1, p) : CallOk Try.prog 117 [valA .bytes a0, valA .i64 a1] 0 [] 1 (num_GetText_r2 a0 a1) 0 (num_GetText_o2 a0 a1) := by
  obtain ⟨h1, h2⟩ := num_GetText_eq a0 a1 (hp _ (List.mem_cons_self ..))
  have h := num_GetText_c a0 a1 h1
  have hr : num_GetText_r a0 a1 = num_GetText_r2 a0 a1 := by unfold num_GetText_r num_GetText_r2; rw [← h2]
  rw [hr] at h
  exact h
def num_GetText_t : List A → Nat → Objs → Option CRes
  | [y0, y1], nx, o => match argU .bytes y0, argU .i64 y1 with
    | some (a0, p0), some (a1, p1) => some (1, (num_GetText_r2 a0 a1).pk (shiftR nx), nx + 0, shiftO nx (num_GetText_o2 a0 a1) ++ o, p0 ++ (p1 ++ (num_GetText_ps2 a0 a1)))
    | _, _ => none
  | _, _, _ => none
theorem num_GetText_tok : TOk Try.prog 117 num_GetText_t := fun args nx o k x nx' o' ps h => by
  unfold num_GetText_t at h
  split at h <;> first | (cases h; done) | skip
  split at h <;> first | (cases h; done) | skip
  rename_i a0 p0 a1 p1 e0 e1
  cases h
  refine ⟨fun hp => ?_, _, rfl⟩
  have q0 := fun p hm => hp p (List.mem_append.2 (.inl hm))
  have r0 := fun p hm => hp p (List.mem_append.2 (.inr hm))
  have q1 := fun p hm => r0 p (List.mem_append.2 (.inl hm))
  have r1 := fun p hm => r0 p (List.mem_append.2 (.inr hm))
  refine callOk_args (callOk_shift (num_GetText_c2 a0 a1 r1) (Nat.le_refl _) (freeL_cons (valA_free _ _) (freeL_cons (valA_free _ _) freeL_nil)) nx o) fun F N R vs hl => ?_
  obtain ⟨v0, w0, rfl, h0, hl⟩ := hl.inv
  obtain ⟨v1, w1, rfl, h1, hl⟩ := hl.inv
  exact HL.cons (argU_ok e0 q0 h0) (HL.cons (argU_ok e1 q1 h1) (hl))
noncomputable def Cd_11 := addC 117 num_GetText_t Cd_10
theorem Cd_11_ok : COk Try.prog Cd_11 := addC_ok num_GetText_tok Cd_10_ok
noncomputable def Cd_12 := addC 113 (inl (envT Cd_11 L0) 9 113) Cd_11
theorem Cd_12_ok : COk Try.prog Cd_12 := addC_ok (inl_ok (envP_ok Cd_11_ok L0_ok) 9 113) Cd_11_ok
def cell_Get_k12 (a0 : List UInt8) (_a1 : Int) : Int := IntKind.i64.wrap ((0 : Int) + (getN a0).snd.fst)
def cell_Get_k11 (a0 : List UInt8) (a1 : Int) : Int := IntKind.i64.wrap ((cell_Get_k12 a0 a1) + (getS (List.take ((↑a0.length : Int).toNat - (cell_Get_k12 a0 a1).toNat) (List.drop (cell_Get_k12 a0 a1).toNat a0))).snd.fst)
def cell_Get_k10 (a0 : List UInt8) (a1 : Int) : Int := bif (getN a0).snd.snd == (0 : Int) && decide (IntKind.i64.wrap (↑(BitVec.ofInt (64 : Nat) (getN a0).fst &&& BitVec.ofInt (64 : Nat) (1 : Int)).toNat : Int) > (0 : Int)) then bif !decide (IntKind.i64.wrap (↑(BitVec.ofInt (64 : Nat) (getN a0).fst &&& BitVec.ofInt (64 : Nat) (2 : Int)).toNat : Int) > (0 : Int)) then (getV (List.take ((↑a0.length : Int).toNat - (cell_Get_k11 a0 a1).toNat) (List.drop (cell_Get_k11 a0 a1).toNat a0))).fst.2 else (getV (List.take ((↑a0.length : Int).toNat - (cell_Get_k11 a0 a1).toNat) (List.drop (cell_Get_k11 a0 a1).toNat a0))).fst.2 else (0 : Int)
def cell_Get_k9 (a0 : List UInt8) (a1 : Int) : Int := bif (getN a0).snd.snd == (0 : Int) && decide (IntKind.i64.wrap (↑(BitVec.ofInt (64 : Nat) (getN a0).fst &&& BitVec.ofInt (64 : Nat) (1 : Int)).toNat : Int) > (0 : Int)) then bif !decide (IntKind.i64.wrap (↑(BitVec.ofInt (64 : Nat) (getN a0).fst &&& BitVec.ofInt (64 : Nat) (2 : Int)).toNat : Int) > (0 : Int)) then (getV (List.take ((↑a0.length : Int).toNat - (cell_Get_k11 a0 a1).toNat) (List.drop (cell_Get_k11 a0 a1).toNat a0))).fst.1 else (getV (List.take ((↑a0.length : Int).toNat - (cell_Get_k11 a0 a1).toNat) (List.drop (cell_Get_k11 a0 a1).toNat a0))).fst.1 else (0 : Int)
def cell_Get_k8 (a0 : List UInt8) (a1 : Int) : Int := bif (getN a0).snd.snd == (0 : Int) && decide (IntKind.i64.wrap (↑(BitVec.ofInt (64 : Nat) (getN a0).fst &&& BitVec.ofInt (64 : Nat) (1 : Int)).toNat : Int) > (0 : Int)) then bif !decide (IntKind.i64.wrap (↑(BitVec.ofInt (64 : Nat) (getN a0).fst &&& BitVec.ofInt (64 : Nat) (2 : Int)).toNat : Int) > (0 : Int)) then (getS (List.take ((↑a0.length : Int).toNat - (cell_Get_k12 a0 a1).toNat) (List.drop (cell_Get_k12 a0 a1).toNat a0))).fst.2 else (getS (List.take ((↑a0.length : Int).toNat - (cell_Get_k12 a0 a1).toNat) (List.drop (cell_Get_k12 a0 a1).toNat a0))).fst.2 else (0 : Int)
def cell_Get_k7 (a0 : List UInt8) (a1 : Int) : Int := bif (getN a0).snd.snd == (0 : Int) && decide (IntKind.i64.wrap (↑(BitVec.ofInt (64 : Nat) (getN a0).fst &&& BitVec.ofInt (64 : Nat) (1 : Int)).toNat : Int) > (0 : Int)) then bif !decide (IntKind.i64.wrap (↑(BitVec.ofInt (64 : Nat) (getN a0).fst &&& BitVec.ofInt (64 : Nat) (2 : Int)).toNat : Int) > (0 : Int)) then (getS (List.take ((↑a0.length : Int).toNat - (cell_Get_k12 a0 a1).toNat) (List.drop (cell_Get_k12 a0 a1).toNat a0))).fst.1 else (getS (List.take ((↑a0.length : Int).toNat - (cell_Get_k12 a0 a1).toNat) (List.drop (cell_Get_k12 a0 a1).toNat a0))).fst.1 else (0 : Int)
def cell_Get_k6 (a0 : List UInt8) (_a1 : Int) : Int := bif (getN a0).snd.snd == (0 : Int) && decide (IntKind.i64.wrap (↑(BitVec.ofInt (64 : Nat) (getN a0).fst &&& BitVec.ofInt (64 : Nat) (1 : Int)).toNat : Int) > (0 : Int)) then bif !decide (IntKind.i64.wrap (↑(BitVec.ofInt (64 : Nat) (getN a0).fst &&& BitVec.ofInt (64 : Nat) (2 : Int)).toNat : Int) > (0 : Int)) then (0 : Int) else (0 : Int) else (0 : Int)
def cell_Get_k5 (a0 : List UInt8) (a1 : Int) : Int := IntKind.i64.wrap ((cell_Get_k11 a0 a1) + (getV (List.take ((↑a0.length : Int).toNat - (cell_Get_k11 a0 a1).toNat) (List.drop (cell_Get_k11 a0 a1).toNat a0))).snd.fst)
def cell_Get_k4 (a0 : List UInt8) (_a1 : Int) : Bool := bif (getN a0).snd.snd == (0 : Int) && decide (IntKind.i64.wrap (↑(BitVec.ofInt (64 : Nat) (getN a0).fst &&& BitVec.ofInt (64 : Nat) (1 : Int)).toNat : Int) > (0 : Int)) then bif !decide (IntKind.i64.wrap (↑(BitVec.ofInt (64 : Nat) (getN a0).fst &&& BitVec.ofInt (64 : Nat) (2 : Int)).toNat : Int) > (0 : Int)) then decide (IntKind.i64.wrap (↑(BitVec.ofInt (64 : Nat) (getN a0).fst &&& BitVec.ofInt (64 : Nat) (2 : Int)).toNat : Int) > (0 : Int)) else decide (IntKind.i64.wrap (↑(BitVec.ofInt (64 : Nat) (getN a0).fst &&& BitVec.ofInt (64 : Nat) (2 : Int)).toNat : Int) > (0 : Int)) else false
def cell_Get_k3 (a0 : List UInt8) (a1 : Int) : ByteArray := bif (getN a0).snd.snd == (0 : Int) && decide (IntKind.i64.wrap (↑(BitVec.ofInt (64 : Nat) (getN a0).fst &&& BitVec.ofInt (64 : Nat) (1 : Int)).toNat : Int) > (0 : Int)) then bif !decide (IntKind.i64.wrap (↑(BitVec.ofInt (64 : Nat) (getN a0).fst &&& BitVec.ofInt (64 : Nat) (2 : Int)).toNat : Int) > (0 : Int)) then (getT (List.take ((↑a0.length : Int).toNat - (cell_Get_k5 a0 a1).toNat) (List.drop (cell_Get_k5 a0 a1).toNat a0)) (64 : Int)).fst else ByteArray.mk #[] else ByteArray.mk #[]
def cell_Get_k2 (a0 : List UInt8) (a1 : Int) : Int := bif (getN a0).snd.snd == (0 : Int) && decide (IntKind.i64.wrap (↑(BitVec.ofInt (64 : Nat) (getN a0).fst &&& BitVec.ofInt (64 : Nat) (1 : Int)).toNat : Int) > (0 : Int)) then bif !decide (IntKind.i64.wrap (↑(BitVec.ofInt (64 : Nat) (getN a0).fst &&& BitVec.ofInt (64 : Nat) (2 : Int)).toNat : Int) > (0 : Int)) then IntKind.i64.wrap ((cell_Get_k5 a0 a1) + (getT (List.take ((↑a0.length : Int).toNat - (cell_Get_k5 a0 a1).toNat) (List.drop (cell_Get_k5 a0 a1).toNat a0)) (64 : Int)).snd.fst) else (cell_Get_k5 a0 a1) else (cell_Get_k12 a0 a1)
def cell_Get_k1 (a0 : List UInt8) (a1 : Int) : Bool := (bif (getN a0).snd.snd == (0 : Int) && decide (IntKind.i64.wrap (↑(BitVec.ofInt (64 : Nat) (getN a0).fst &&& BitVec.ofInt (64 : Nat) (1 : Int)).toNat : Int) > (0 : Int)) then bif !decide (IntKind.i64.wrap (↑(BitVec.ofInt (64 : Nat) (getN a0).fst &&& BitVec.ofInt (64 : Nat) (2 : Int)).toNat : Int) > (0 : Int)) then (getN a0).snd.snd == (0 : Int) && (getS (List.take ((↑a0.length : Int).toNat - (cell_Get_k12 a0 a1).toNat) (List.drop (cell_Get_k12 a0 a1).toNat a0))).snd.snd == (0 : Int) && (getV (List.take ((↑a0.length : Int).toNat - (cell_Get_k11 a0 a1).toNat) (List.drop (cell_Get_k11 a0 a1).toNat a0))).snd.snd == (0 : Int) && (getT (List.take ((↑a0.length : Int).toNat - (cell_Get_k5 a0 a1).toNat) (List.drop (cell_Get_k5 a0 a1).toNat a0)) (64 : Int)).snd.snd == (0 : Int) else (getN a0).snd.snd == (0 : Int) && (getS (List.take ((↑a0.length : Int).toNat - (cell_Get_k12 a0 a1).toNat) (List.drop (cell_Get_k12 a0 a1).toNat a0))).snd.snd == (0 : Int) && (getV (List.take ((↑a0.length : Int).toNat - (cell_Get_k11 a0 a1).toNat) (List.drop (cell_Get_k11 a0 a1).toNat a0))).snd.snd == (0 : Int) else (getN a0).snd.snd == (0 : Int)) && decide (IntKind.i64.wrap (↑(BitVec.ofInt (64 : Nat) (getN a0).fst &&& BitVec.ofInt (64 : Nat) (4 : Int)).toNat : Int) > (0 : Int))
def cell_Get_k0 (a0 : List UInt8) (a1 : Int) : Bool := (!bif (cell_Get_k1 a0 a1) then (bif (getN a0).snd.snd == (0 : Int) && decide (IntKind.i64.wrap (↑(BitVec.ofInt (64 : Nat) (getN a0).fst &&& BitVec.ofInt (64 : Nat) (1 : Int)).toNat : Int) > (0 : Int)) then bif !decide (IntKind.i64.wrap (↑(BitVec.ofInt (64 : Nat) (getN a0).fst &&& BitVec.ofInt (64 : Nat) (2 : Int)).toNat : Int) > (0 : Int)) then (getN a0).snd.snd == (0 : Int) && (getS (List.take ((↑a0.length : Int).toNat - (cell_Get_k12 a0 a1).toNat) (List.drop (cell_Get_k12 a0 a1).toNat a0))).snd.snd == (0 : Int) && (getV (List.take ((↑a0.length : Int).toNat - (cell_Get_k11 a0 a1).toNat) (List.drop (cell_Get_k11 a0 a1).toNat a0))).snd.snd == (0 : Int) && (getT (List.take ((↑a0.length : Int).toNat - (cell_Get_k5 a0 a1).toNat) (List.drop (cell_Get_k5 a0 a1).toNat a0)) (64 : Int)).snd.snd == (0 : Int) else (getN a0).snd.snd == (0 : Int) && (getS (List.take ((↑a0.length : Int).toNat - (cell_Get_k12 a0 a1).toNat) (List.drop (cell_Get_k12 a0 a1).toNat a0))).snd.snd == (0 : Int) && (getV (List.take ((↑a0.length : Int).toNat - (cell_Get_k11 a0 a1).toNat) (List.drop (cell_Get_k11 a0 a1).toNat a0))).snd.snd == (0 : Int) else (getN a0).snd.snd == (0 : Int)) && (getV (List.take ((↑a0.length : Int).toNat - (cell_Get_k2 a0 a1).toNat) (List.drop (cell_Get_k2 a0 a1).toNat a0))).snd.snd == (0 : Int) else bif (getN a0).snd.snd == (0 : Int) && decide (IntKind.i64.wrap (↑(BitVec.ofInt (64 : Nat) (getN a0).fst &&& BitVec.ofInt (64 : Nat) (1 : Int)).toNat : Int) > (0 : Int)) then bif !decide (IntKind.i64.wrap (↑(BitVec.ofInt (64 : Nat) (getN a0).fst &&& BitVec.ofInt (64 : Nat) (2 : Int)).toNat : Int) > (0 : Int)) then (getN a0).snd.snd == (0 : Int) && (getS (List.take ((↑a0.length : Int).toNat - (cell_Get_k12 a0 a1).toNat) (List.drop (cell_Get_k12 a0 a1).toNat a0))).snd.snd == (0 : Int) && (getV (List.take ((↑a0.length : Int).toNat - (cell_Get_k11 a0 a1).toNat) (List.drop (cell_Get_k11 a0 a1).toNat a0))).snd.snd == (0 : Int) && (getT (List.take ((↑a0.length : Int).toNat - (cell_Get_k5 a0 a1).toNat) (List.drop (cell_Get_k5 a0 a1).toNat a0)) (64 : Int)).snd.snd == (0 : Int) else (getN a0).snd.snd == (0 : Int) && (getS (List.take ((↑a0.length : Int).toNat - (cell_Get_k12 a0 a1).toNat) (List.drop (cell_Get_k12 a0 a1).toNat a0))).snd.snd == (0 : Int) && (getV (List.take ((↑a0.length : Int).toNat - (cell_Get_k11 a0 a1).toNat) (List.drop (cell_Get_k11 a0 a1).toNat a0))).snd.snd == (0 : Int) else (getN a0).snd.snd == (0 : Int)) || !((decide ((getN a0).fst ≤ (7 : Int)) && decide (IntKind.i64.wrap (↑(BitVec.ofInt (64 : Nat) (getN a0).fst &&& BitVec.ofInt (64 : Nat) (1 : Int)).toNat : Int) > (0 : Int)) == cell_written_0 (TCell.mk (TStamp.mk (bif (cell_Get_k1 a0 a1) then (cell_Get_k7 a0 a1) else (cell_Get_k7 a0 a1)) (bif (cell_Get_k1 a0 a1) then (cell_Get_k8 a0 a1) else (cell_Get_k8 a0 a1))) (TVec.mk (bif (cell_Get_k1 a0 a1) then (cell_Get_k9 a0 a1) else (cell_Get_k9 a0 a1)) (bif (cell_Get_k1 a0 a1) then (cell_Get_k10 a0 a1) else (cell_Get_k10 a0 a1))) (bif (cell_Get_k1 a0 a1) then (cell_Get_k4 a0 a1) else (cell_Get_k4 a0 a1)) (bif (cell_Get_k1 a0 a1) then (cell_Get_k3 a0 a1) else (cell_Get_k3 a0 a1)) (TVec.mk (bif (cell_Get_k1 a0 a1) then (getV (List.take ((↑a0.length : Int).toNat - (cell_Get_k2 a0 a1).toNat) (List.drop (cell_Get_k2 a0 a1).toNat a0))).fst.1 else (cell_Get_k6 a0 a1)) (bif (cell_Get_k1 a0 a1) then (getV (List.take ((↑a0.length : Int).toNat - (cell_Get_k2 a0 a1).toNat) (List.drop (cell_Get_k2 a0 a1).toNat a0))).fst.2 else (cell_Get_k6 a0 a1)))) && decide (IntKind.i64.wrap (↑(BitVec.ofInt (64 : Nat) (getN a0).fst &&& BitVec.ofInt (64 : Nat) (2 : Int)).toNat : Int) > (0 : Int)) == bif (cell_Get_k1 a0 a1) then (cell_Get_k4 a0 a1) else (cell_Get_k4 a0 a1)) && decide (IntKind.i64.wrap (↑(BitVec.ofInt (64 : Nat) (getN a0).fst &&& BitVec.ofInt (64 : Nat) (4 : Int)).toNat : Int) > (0 : Int)) == !((bif (cell_Get_k1 a0 a1) then (getV (List.take ((↑a0.length : Int).toNat - (cell_Get_k2 a0 a1).toNat) (List.drop (cell_Get_k2 a0 a1).toNat a0))).fst.1 else (cell_Get_k6 a0 a1)) == (0 : Int) && (bif (cell_Get_k1 a0 a1) then (getV (List.take ((↑a0.length : Int).toNat - (cell_Get_k2 a0 a1).toNat) (List.drop (cell_Get_k2 a0 a1).toNat a0))).fst.2 else (cell_Get_k6 a0 a1)) == (0 : Int))) || !cell_Good_0 a1 (TCell.mk (TStamp.mk (bif (cell_Get_k1 a0 a1) then (cell_Get_k7 a0 a1) else (cell_Get_k7 a0 a1)) (bif (cell_Get_k1 a0 a1) then (cell_Get_k8 a0 a1) else (cell_Get_k8 a0 a1))) (TVec.mk (bif (cell_Get_k1 a0 a1) then (cell_Get_k9 a0 a1) else (cell_Get_k9 a0 a1)) (bif (cell_Get_k1 a0 a1) then (cell_Get_k10 a0 a1) else (cell_Get_k10 a0 a1))) (bif (cell_Get_k1 a0 a1) then (cell_Get_k4 a0 a1) else (cell_Get_k4 a0 a1)) (bif (cell_Get_k1 a0 a1) then (cell_Get_k3 a0 a1) else (cell_Get_k3 a0 a1)) (TVec.mk (bif (cell_Get_k1 a0 a1) then (getV (List.take ((↑a0.length : Int).toNat - (cell_Get_k2 a0 a1).toNat) (List.drop (cell_Get_k2 a0 a1).toNat a0))).fst.1 else (cell_Get_k6 a0 a1)) (bif (cell_Get_k1 a0 a1) then (getV (List.take ((↑a0.length : Int).toNat - (cell_Get_k2 a0 a1).toNat) (List.drop (cell_Get_k2 a0 a1).toNat a0))).fst.2 else (cell_Get_k6 a0 a1))))
def cell_Get_0 (a0 : List UInt8) (a1 : Int) : TCell := TCell.mk (TStamp.mk (bif (cell_Get_k0 a0 a1) then (0 : Int) else bif (cell_Get_k1 a0 a1) then (cell_Get_k7 a0 a1) else (cell_Get_k7 a0 a1)) (bif (cell_Get_k0 a0 a1) then (0 : Int) else bif (cell_Get_k1 a0 a1) then (cell_Get_k8 a0 a1) else (cell_Get_k8 a0 a1))) (TVec.mk (bif (cell_Get_k0 a0 a1) then (0 : Int) else bif (cell_Get_k1 a0 a1) then (cell_Get_k9 a0 a1) else (cell_Get_k9 a0 a1)) (bif (cell_Get_k0 a0 a1) then (0 : Int) else bif (cell_Get_k1 a0 a1) then (cell_Get_k10 a0 a1) else (cell_Get_k10 a0 a1))) (bif (cell_Get_k0 a0 a1) then false else bif (cell_Get_k1 a0 a1) then (cell_Get_k4 a0 a1) else (cell_Get_k4 a0 a1)) (bif (cell_Get_k0 a0 a1) then ByteArray.mk #[] else bif (cell_Get_k1 a0 a1) then (cell_Get_k3 a0 a1) else (cell_Get_k3 a0 a1)) (TVec.mk (bif (cell_Get_k0 a0 a1) then (0 : Int) else bif (cell_Get_k1 a0 a1) then (getV (List.take ((↑a0.length : Int).toNat - (cell_Get_k2 a0 a1).toNat) (List.drop (cell_Get_k2 a0 a1).toNat a0))).fst.1 else (cell_Get_k6 a0 a1)) (bif (cell_Get_k0 a0 a1) then (0 : Int) else bif (cell_Get_k1 a0 a1) then (getV (List.take ((↑a0.length : Int).toNat - (cell_Get_k2 a0 a1).toNat) (List.drop (cell_Get_k2 a0 a1).toNat a0))).fst.2 else (cell_Get_k6 a0 a1)))
def cell_Get_1 (a0 : List UInt8) (a1 : Int) : Int := bif (cell_Get_k0 a0 a1) then (0 : Int) else bif (cell_Get_k1 a0 a1) then IntKind.i64.wrap ((cell_Get_k2 a0 a1) + (getV (List.take ((↑a0.length : Int).toNat - (cell_Get_k2 a0 a1).toNat) (List.drop (cell_Get_k2 a0 a1).toNat a0))).snd.fst) else (cell_Get_k2 a0 a1)
def cell_Get_2 (a0 : List UInt8) (a1 : Int) : Int := bif (cell_Get_k0 a0 a1) then (80 : Int) else (0 : Int)
def cell_Get_r (a0 : List UInt8) (a1 : Int) : A := .v (.tuple ⟨[.agg ⟨[.int .i64 ((cell_Get_0 a0 a1).stamp.n), .int .i64 ((cell_Get_0 a0 a1).stamp.site), .int .i64 ((cell_Get_0 a0 a1).vec.a), .int .i64 ((cell_Get_0 a0 a1).vec.b), .bool ((cell_Get_0 a0 a1).gone), .string ((cell_Get_0 a0 a1).value), .int .i64 ((cell_Get_0 a0 a1).dead.a), .int .i64 ((cell_Get_0 a0 a1).dead.b)]⟩, .int .i64 (cell_Get_1 a0 a1), .int .i64 (cell_Get_2 a0 a1)]⟩)
def cell_Get_o (_a0 : List UInt8) (_a1 : Int) : Objs := []
def cell_Get_ps (a0 : List UInt8) (a1 : Int) : List Prop := [(((getN a0).snd.snd == (0 : Int) && decide (IntKind.i64.wrap (↑(BitVec.ofInt (64 : Nat) (getN a0).fst &&& BitVec.ofInt (64 : Nat) (1 : Int)).toNat : Int) > (0 : Int))) = true → (0 : Int) ≤ (cell_Get_k12 a0 a1) ∧ (cell_Get_k12 a0 a1) ≤ (↑a0.length : Int) ∧ (↑a0.length : Int) ≤ (↑a0.length : Int)), (((getN a0).snd.snd == (0 : Int) && decide (IntKind.i64.wrap (↑(BitVec.ofInt (64 : Nat) (getN a0).fst &&& BitVec.ofInt (64 : Nat) (1 : Int)).toNat : Int) > (0 : Int))) = true → (0 : Int) ≤ (cell_Get_k11 a0 a1) ∧ (cell_Get_k11 a0 a1) ≤ (↑a0.length : Int) ∧ (↑a0.length : Int) ≤ (↑a0.length : Int)), (((getN a0).snd.snd == (0 : Int) && decide (IntKind.i64.wrap (↑(BitVec.ofInt (64 : Nat) (getN a0).fst &&& BitVec.ofInt (64 : Nat) (1 : Int)).toNat : Int) > (0 : Int))) = true → (!decide (IntKind.i64.wrap (↑(BitVec.ofInt (64 : Nat) (getN a0).fst &&& BitVec.ofInt (64 : Nat) (2 : Int)).toNat : Int) > (0 : Int))) = true → (0 : Int) ≤ (cell_Get_k5 a0 a1) ∧ (cell_Get_k5 a0 a1) ≤ (↑a0.length : Int) ∧ (↑a0.length : Int) ≤ (↑a0.length : Int)), (((getN a0).snd.snd == (0 : Int) && decide (IntKind.i64.wrap (↑(BitVec.ofInt (64 : Nat) (getN a0).fst &&& BitVec.ofInt (64 : Nat) (1 : Int)).toNat : Int) > (0 : Int))) = true → (!decide (IntKind.i64.wrap (↑(BitVec.ofInt (64 : Nat) (getN a0).fst &&& BitVec.ofInt (64 : Nat) (2 : Int)).toNat : Int) > (0 : Int))) = true → boundP (List.take ((↑a0.length : Int).toNat - (cell_Get_k5 a0 a1).toNat) (List.drop (cell_Get_k5 a0 a1).toNat a0)).length), ((cell_Get_k1 a0 a1) = true → (0 : Int) ≤ (cell_Get_k2 a0 a1) ∧ (cell_Get_k2 a0 a1) ≤ (↑a0.length : Int) ∧ (↑a0.length : Int) ≤ (↑a0.length : Int))]
set_option maxRecDepth 100000 in
theorem cell_Get_ev (a0 : List UInt8) (a1 : Int) : evF (envT Cd_12 L0) 9 54 [valA .bytes a0, valA .i64 a1] 0 [] = some (1, cell_Get_r a0 a1, 0, cell_Get_o a0 a1, [(((getN a0).snd.snd == (0 : Int) && decide (IntKind.i64.wrap (↑(BitVec.ofInt (64 : Nat) (getN a0).fst &&& BitVec.ofInt (64 : Nat) (1 : Int)).toNat : Int) > (0 : Int))) = true → (0 : Int) ≤ (cell_Get_k12 a0 a1) ∧ (cell_Get_k12 a0 a1) ≤ (↑a0.length : Int) ∧ (↑a0.length : Int) ≤ (↑a0.length : Int)), (((getN a0).snd.snd == (0 : Int) && decide (IntKind.i64.wrap (↑(BitVec.ofInt (64 : Nat) (getN a0).fst &&& BitVec.ofInt (64 : Nat) (1 : Int)).toNat : Int) > (0 : Int))) = true → (0 : Int) ≤ (cell_Get_k11 a0 a1) ∧ (cell_Get_k11 a0 a1) ≤ (↑a0.length : Int) ∧ (↑a0.length : Int) ≤ (↑a0.length : Int)), (((getN a0).snd.snd == (0 : Int) && decide (IntKind.i64.wrap (↑(BitVec.ofInt (64 : Nat) (getN a0).fst &&& BitVec.ofInt (64 : Nat) (1 : Int)).toNat : Int) > (0 : Int))) = true → (!decide (IntKind.i64.wrap (↑(BitVec.ofInt (64 : Nat) (getN a0).fst &&& BitVec.ofInt (64 : Nat) (2 : Int)).toNat : Int) > (0 : Int))) = true → (0 : Int) ≤ (cell_Get_k5 a0 a1) ∧ (cell_Get_k5 a0 a1) ≤ (↑a0.length : Int) ∧ (↑a0.length : Int) ≤ (↑a0.length : Int)), (((getN a0).snd.snd == (0 : Int) && decide (IntKind.i64.wrap (↑(BitVec.ofInt (64 : Nat) (getN a0).fst &&& BitVec.ofInt (64 : Nat) (1 : Int)).toNat : Int) > (0 : Int))) = true → (!decide (IntKind.i64.wrap (↑(BitVec.ofInt (64 : Nat) (getN a0).fst &&& BitVec.ofInt (64 : Nat) (2 : Int)).toNat : Int) > (0 : Int))) = true → boundP (List.take ((↑a0.length : Int).toNat - (cell_Get_k5 a0 a1).toNat) (List.drop (cell_Get_k5 a0 a1).toNat a0)).length), ((cell_Get_k1 a0 a1) = true → (0 : Int) ≤ (cell_Get_k2 a0 a1) ∧ (cell_Get_k2 a0 a1) ≤ (↑a0.length : Int) ∧ (↑a0.length : Int) ≤ (↑a0.length : Int))]) := by kernel_rfl
set_option maxRecDepth 100000 in
theorem cell_Get_c (a0 : List UInt8) (a1 : Int) (hp : ∀ p ∈ cell_Get_ps a0 a1, p) : CallOk Try.prog 54 [valA .bytes a0, valA .i64 a1] 0 [] 1 (cell_Get_r a0 a1) 0 (cell_Get_o a0 a1) := by
  have n0 : (((getN a0).snd.snd == (0 : Int) && decide (IntKind.i64.wrap (↑(BitVec.ofInt (64 : Nat) (getN a0).fst &&& BitVec.ofInt (64 : Nat) (1 : Int)).toNat : Int) > (0 : Int))) = true → (0 : Int) ≤ (cell_Get_k12 a0 a1) ∧ (cell_Get_k12 a0 a1) ≤ (↑a0.length : Int) ∧ (↑a0.length : Int) ≤ (↑a0.length : Int)) := hp _ (List.mem_cons_self ..)
  have n1 : (((getN a0).snd.snd == (0 : Int) && decide (IntKind.i64.wrap (↑(BitVec.ofInt (64 : Nat) (getN a0).fst &&& BitVec.ofInt (64 : Nat) (1 : Int)).toNat : Int) > (0 : Int))) = true → (0 : Int) ≤ (cell_Get_k11 a0 a1) ∧ (cell_Get_k11 a0 a1) ≤ (↑a0.length : Int) ∧ (↑a0.length : Int) ≤ (↑a0.length : Int)) := hp _ (List.mem_cons_of_mem _ (List.mem_cons_self ..))
  have n2 : (((getN a0).snd.snd == (0 : Int) && decide (IntKind.i64.wrap (↑(BitVec.ofInt (64 : Nat) (getN a0).fst &&& BitVec.ofInt (64 : Nat) (1 : Int)).toNat : Int) > (0 : Int))) = true → (!decide (IntKind.i64.wrap (↑(BitVec.ofInt (64 : Nat) (getN a0).fst &&& BitVec.ofInt (64 : Nat) (2 : Int)).toNat : Int) > (0 : Int))) = true → (0 : Int) ≤ (cell_Get_k5 a0 a1) ∧ (cell_Get_k5 a0 a1) ≤ (↑a0.length : Int) ∧ (↑a0.length : Int) ≤ (↑a0.length : Int)) := hp _ (List.mem_cons_of_mem _ (List.mem_cons_of_mem _ (List.mem_cons_self ..)))
  have n3 : (((getN a0).snd.snd == (0 : Int) && decide (IntKind.i64.wrap (↑(BitVec.ofInt (64 : Nat) (getN a0).fst &&& BitVec.ofInt (64 : Nat) (1 : Int)).toNat : Int) > (0 : Int))) = true → (!decide (IntKind.i64.wrap (↑(BitVec.ofInt (64 : Nat) (getN a0).fst &&& BitVec.ofInt (64 : Nat) (2 : Int)).toNat : Int) > (0 : Int))) = true → boundP (List.take ((↑a0.length : Int).toNat - (cell_Get_k5 a0 a1).toNat) (List.drop (cell_Get_k5 a0 a1).toNat a0)).length) := hp _ (List.mem_cons_of_mem _ (List.mem_cons_of_mem _ (List.mem_cons_of_mem _ (List.mem_cons_self ..))))
  have n4 : ((cell_Get_k1 a0 a1) = true → (0 : Int) ≤ (cell_Get_k2 a0 a1) ∧ (cell_Get_k2 a0 a1) ≤ (↑a0.length : Int) ∧ (↑a0.length : Int) ≤ (↑a0.length : Int)) := hp _ (List.mem_cons_of_mem _ (List.mem_cons_of_mem _ (List.mem_cons_of_mem _ (List.mem_cons_of_mem _ (List.mem_cons_self ..)))))
  exact evF_ok (envP_ok Cd_12_ok L0_ok) (cell_Get_ev a0 a1) (needs_cons n0 (needs_cons n1 (needs_cons n2 (needs_cons n3 (needs_cons n4 needs_nil)))))
def cell_Get_r2 (a0 : List UInt8) (a1 : Int) : A := .v (.tuple ⟨[.agg ⟨[.int .i64 (getC a0 a1).1.stamp.n, .int .i64 (getC a0 a1).1.stamp.site, .int .i64 (getC a0 a1).1.vec.a, .int .i64 (getC a0 a1).1.vec.b, .bool (getC a0 a1).1.gone, .string (getC a0 a1).1.value, .int .i64 (getC a0 a1).1.dead.a, .int .i64 (getC a0 a1).1.dead.b]⟩, .int .i64 (getC a0 a1).2.1, .int .i64 (getC a0 a1).2.2]⟩)
def cell_Get_o2 (_a0 : List UInt8) (_a1 : Int) : Objs := []
def cell_Get_ps2 (a0 : List UInt8) (_a1 : Int) : List Prop := [boundP a0.length]
theorem getS_bounds (b : List UInt8) : 0 ≤ (getS b).2.1 ∧ (getS b).2.1 ≤ (b.length : Int) := by
  obtain ⟨h1, h2, _⟩ := getN_bounds b
  unfold getS
  split
  · exact ⟨Int.le_refl _, by show (0 : Int) ≤ (b.length : Int); omega⟩
  · split
    · exact ⟨h1, h2⟩
    · exact ⟨Int.le_refl _, by show (0 : Int) ≤ (b.length : Int); omega⟩
theorem getV_bounds (b : List UInt8) : 0 ≤ (getV b).2.1 ∧ (getV b).2.1 ≤ (b.length : Int) := by
  obtain ⟨h1, h2, _⟩ := getN_bounds b
  obtain ⟨h3, h4, _⟩ := getN_bounds (b.drop (getN b).2.1.toNat)
  rw [List.length_drop] at h4
  unfold getV
  split
  · exact ⟨Int.le_refl _, by show (0 : Int) ≤ (b.length : Int); omega⟩
  · split
    · exact ⟨Int.le_refl _, by show (0 : Int) ≤ (b.length : Int); omega⟩
    · split
      · exact ⟨by show 0 ≤ (getN b).2.1 + _; omega, by show (getN b).2.1 + _ ≤ (b.length : Int); omega⟩
      · exact ⟨Int.le_refl _, by show (0 : Int) ≤ (b.length : Int); omega⟩
theorem getT_bounds (b : List UInt8) (m : Int) : 0 ≤ (getT b m).2.1 ∧ (getT b m).2.1 ≤ (b.length : Int) := by
  obtain ⟨h1, h2, _, h3, _⟩ := getN_bounds b
  unfold getT
  split
  · exact ⟨Int.le_refl _, by show (0 : Int) ≤ (b.length : Int); omega⟩
  · split
    · exact ⟨Int.le_refl _, by show (0 : Int) ≤ (b.length : Int); omega⟩
    · split
      · exact ⟨Int.le_refl _, by show (0 : Int) ≤ (b.length : Int); omega⟩
      · exact ⟨by show 0 ≤ (getN b).2.1 + _; omega, by show (getN b).2.1 + _ ≤ (b.length : Int); omega⟩
theorem cell_Get_eq (b : List UInt8) (p : Int) (hb : boundP b.length) : (∀ q ∈ cell_Get_ps b p, q) ∧ (cell_Get_0 b p, cell_Get_1 b p, cell_Get_2 b p) = getC b p := by
  unfold boundP at hb
  obtain ⟨a1, a2, _, a3, a4⟩ := getN_bounds b
  have hok : okN (getN b).1 := ⟨a3, a4⟩
  have B1 := bit_pos hok 0 1 rfl (by decide)
  have B2 := bit_pos hok 1 2 rfl (by decide)
  have B4 := bit_pos hok 2 4 rfl (by decide)
  have e12 : cell_Get_k12 b p = (getN b).2.1 := by
    unfold cell_Get_k12
    rw [i64_in (by omega)]; omega
  obtain ⟨s1, s2⟩ := getS_bounds (b.drop (getN b).2.1.toNat)
  rw [List.length_drop] at s2
  have e11 : cell_Get_k11 b p = (getN b).2.1 + (getS (b.drop (getN b).2.1.toNat)).2.1 := by
    unfold cell_Get_k11
    rw [e12, slice_all, i64_in (by omega)]
  obtain ⟨v1, v2⟩ := getV_bounds (b.drop ((getN b).2.1 + (getS (b.drop (getN b).2.1.toNat)).2.1).toNat)
  rw [List.length_drop] at v2
  have e5 : cell_Get_k5 b p = (getN b).2.1 + (getS (b.drop (getN b).2.1.toNat)).2.1 + (getV (b.drop ((getN b).2.1 + (getS (b.drop (getN b).2.1.toNat)).2.1).toNat)).2.1 := by
    unfold cell_Get_k5
    rw [e11, slice_all, i64_in (by omega)]
  obtain ⟨t1, t2⟩ := getT_bounds (b.drop ((getN b).2.1 + (getS (b.drop (getN b).2.1.toNat)).2.1 + (getV (b.drop ((getN b).2.1 + (getS (b.drop (getN b).2.1.toNat)).2.1).toNat)).2.1).toNat) 64
  rw [List.length_drop] at t2
  have e2 : cell_Get_k2 b p = (stA b).2.2 ∧ 0 ≤ (stA b).2.2 ∧ (stA b).2.2 ≤ (b.length : Int) := by
    unfold cell_Get_k2 stA
    rw [e5, e12, slice_all, B1, B2]
    show (bif (getN b).2.2 == 0 && bitN (getN b).1 0 then bif !bitN (getN b).1 1 then _ else _ else _) = _ ∧ _
    rw [i64_in (by omega)]
    cases ((getN b).2.2 == 0 && bitN (getN b).1 0) <;> cases bitN (getN b).1 1 <;> refine ⟨rfl, ?_, ?_⟩ <;> (first | exact a1 | exact a2 | (simp only [cond_true, cond_false, Bool.not_true, Bool.not_false]; omega))
  obtain ⟨e2, e2a, e2b⟩ := e2
  obtain ⟨d1, d2⟩ := getV_bounds (b.drop (stA b).2.2.toNat)
  rw [List.length_drop] at d2
  have hcell : (stA b).2.1 = ⟨⟨cell_Get_k7 b p, cell_Get_k8 b p⟩, ⟨cell_Get_k9 b p, cell_Get_k10 b p⟩, cell_Get_k4 b p, cell_Get_k3 b p, ⟨0, 0⟩⟩ := by
    unfold cell_Get_k7 cell_Get_k8 cell_Get_k9 cell_Get_k10 cell_Get_k4 cell_Get_k3 stA
    rw [e11, e5, e12, slice_all, slice_all, slice_all, B1, B2]
    show _ = TCell.mk (TStamp.mk (bif (getN b).2.2 == 0 && bitN (getN b).1 0 then bif !bitN (getN b).1 1 then _ else _ else _) _) _ _ _ _
    show (bif (getN b).2.2 == 0 && bitN (getN b).1 0 then bif !bitN (getN b).1 1 then _ else _ else _ : Bool × TCell × Int).2.1 = TCell.mk (TStamp.mk (bif (getN b).2.2 == 0 && bitN (getN b).1 0 then bif !bitN (getN b).1 1 then _ else _ else _) (bif (getN b).2.2 == 0 && bitN (getN b).1 0 then bif !bitN (getN b).1 1 then _ else _ else _)) (TVec.mk (bif (getN b).2.2 == 0 && bitN (getN b).1 0 then bif !bitN (getN b).1 1 then _ else _ else _) (bif (getN b).2.2 == 0 && bitN (getN b).1 0 then bif !bitN (getN b).1 1 then _ else _ else _)) (bif (getN b).2.2 == 0 && bitN (getN b).1 0 then bif !bitN (getN b).1 1 then bitN (getN b).1 1 else bitN (getN b).1 1 else _) (bif (getN b).2.2 == 0 && bitN (getN b).1 0 then bif !bitN (getN b).1 1 then _ else _ else _) _
    cases ((getN b).2.2 == 0 && bitN (getN b).1 0) <;> cases bitN (getN b).1 1 <;> rfl
  have hok1 : (bif (getN b).2.2 == 0 && bitN (getN b).1 0 then bif !bitN (getN b).1 1 then (getN b).2.2 == 0 && (getS (b.drop (getN b).2.1.toNat)).2.2 == 0 && (getV (b.drop ((getN b).2.1 + (getS (b.drop (getN b).2.1.toNat)).2.1).toNat)).2.2 == 0 && (getT (b.drop ((getN b).2.1 + (getS (b.drop (getN b).2.1.toNat)).2.1 + (getV (b.drop ((getN b).2.1 + (getS (b.drop (getN b).2.1.toNat)).2.1).toNat)).2.1).toNat) 64).2.2 == 0
      else (getN b).2.2 == 0 && (getS (b.drop (getN b).2.1.toNat)).2.2 == 0 && (getV (b.drop ((getN b).2.1 + (getS (b.drop (getN b).2.1.toNat)).2.1).toNat)).2.2 == 0 else (getN b).2.2 == 0) = (stA b).1 := by
    unfold stA
    cases ((getN b).2.2 == 0 && bitN (getN b).1 0) <;> cases bitN (getN b).1 1 <;> rfl
  have e1 : cell_Get_k1 b p = ((stA b).1 && bitN (getN b).1 2) := by
    unfold cell_Get_k1
    rw [e11, e5, e12, slice_all, slice_all, slice_all, B1, B2, B4]
    show ((bif (getN b).2.2 == 0 && bitN (getN b).1 0 then bif !bitN (getN b).1 1 then _ else _ else _) && bitN (getN b).1 2) = _
    rw [hok1]
  have e6 : cell_Get_k6 b p = 0 := by
    unfold cell_Get_k6
    cases ((getN b).2.2 == 0 && decide (IntKind.i64.wrap (↑(BitVec.ofInt (64 : Nat) (getN b).1 &&& BitVec.ofInt (64 : Nat) (1 : Int)).toNat : Int) > (0 : Int))) <;> cases decide (IntKind.i64.wrap (↑(BitVec.ofInt (64 : Nat) (getN b).1 &&& BitVec.ofInt (64 : Nat) (2 : Int)).toNat : Int) > (0 : Int)) <;> rfl
  refine ⟨needs_cons (fun _ => by rw [e12]; omega) (needs_cons (fun _ => by rw [e11]; omega) (needs_cons (fun _ _ => by rw [e5]; omega) (needs_cons (fun _ _ => by rw [e5, slice_all, List.length_drop]; unfold boundP; omega) (needs_cons (fun _ => by rw [e2]; omega) needs_nil)))), ?_⟩
  have hB1 : (stB b).1 = bif (stA b).1 && bitN (getN b).1 2 then (stA b).1 && (getV (b.drop (stA b).2.2.toNat)).2.2 == 0 else (stA b).1 := by unfold stB; cases ((stA b).1 && bitN (getN b).1 2) <;> rfl
  have hB2 : (stB b).2.1 = TCell.mk (TStamp.mk (bif cell_Get_k1 b p then cell_Get_k7 b p else cell_Get_k7 b p) (bif cell_Get_k1 b p then cell_Get_k8 b p else cell_Get_k8 b p)) (TVec.mk (bif cell_Get_k1 b p then cell_Get_k9 b p else cell_Get_k9 b p) (bif cell_Get_k1 b p then cell_Get_k10 b p else cell_Get_k10 b p)) (bif cell_Get_k1 b p then cell_Get_k4 b p else cell_Get_k4 b p) (bif cell_Get_k1 b p then cell_Get_k3 b p else cell_Get_k3 b p) (TVec.mk (bif cell_Get_k1 b p then (getV (b.drop (stA b).2.2.toNat)).1.1 else cell_Get_k6 b p) (bif cell_Get_k1 b p then (getV (b.drop (stA b).2.2.toNat)).1.2 else cell_Get_k6 b p)) := by
    rw [e1]
    unfold stB
    cases ((stA b).1 && bitN (getN b).1 2) with
    | true => simp only [cond_true]; rw [hcell]
    | false => simp only [cond_false]; rw [hcell, e6]
  have hB3 : (stB b).2.2 = bif cell_Get_k1 b p then (stA b).2.2 + (getV (b.drop (stA b).2.2.toNat)).2.1 else (stA b).2.2 := by
    rw [e1]
    unfold stB
    cases ((stA b).1 && bitN (getN b).1 2) <;> rfl
  have e0 : cell_Get_k0 b p = (!(stB b).1 || !rightC (getN b).1 (stB b).2.1 || !goodC p (stB b).2.1) := by
    unfold cell_Get_k0
    rw [e2, e11, e5, e12, slice_all, slice_all, slice_all, slice_all, cell_Good_eq, cell_written_eq, ← hB2]
    rw [B1, B2, B4]
    show ((!bif cell_Get_k1 b p then (bif (getN b).2.2 == 0 && bitN (getN b).1 0 then bif !bitN (getN b).1 1 then _ else _ else _) && _ else (bif (getN b).2.2 == 0 && bitN (getN b).1 0 then bif !bitN (getN b).1 1 then _ else _ else _)) || _ || _) = _
    rw [hok1, hB1, ← e1]
    unfold rightC
    rw [hB2]
    rfl
  unfold cell_Get_0 cell_Get_1 cell_Get_2 getC
  rw [e0]
  cases (!(stB b).1 || !rightC (getN b).1 (stB b).2.1 || !goodC p (stB b).2.1) with
  | true => rfl
  | false =>
    simp only [cond_false]
    rw [hB3, e2, slice_all, hB2, i64_in (by omega)]
theorem cell_Get_c2 (a0 : List UInt8) (a1 : Int) (hp : ∀ p ∈ cell_Get_ps2 a0 a1, p) : CallOk Try.prog 54 [valA .bytes a0, valA .i64 a1] 0 [] 1 (cell_Get_r2 a0 a1) 0 (cell_Get_o2 a0 a1) := by
  obtain ⟨h1, h2⟩ := cell_Get_eq a0 a1 (hp _ (List.mem_cons_self ..))
  have h := cell_Get_c a0 a1 h1
  have hr : cell_Get_r a0 a1 = cell_Get_r2 a0 a1 := by unfold cell_Get_r cell_Get_r2; rw [← h2]
  rw [hr] at h
  exact h
def cell_Get_t : List A → Nat → Objs → Option CRes
  | [y0, y1], nx, o => match argU .bytes y0, argU .i64 y1 with
    | some (a0, p0), some (a1, p1) => some (1, (cell_Get_r2 a0 a1).pk (shiftR nx), nx + 0, shiftO nx (cell_Get_o2 a0 a1) ++ o, p0 ++ (p1 ++ (cell_Get_ps2 a0 a1)))
    | _, _ => none
  | _, _, _ => none
theorem cell_Get_tok : TOk Try.prog 54 cell_Get_t := fun args nx o k x nx' o' ps h => by
  unfold cell_Get_t at h
  split at h <;> first | (cases h; done) | skip
  split at h <;> first | (cases h; done) | skip
  rename_i a0 p0 a1 p1 e0 e1
  cases h
  refine ⟨fun hp => ?_, _, rfl⟩
  have q0 := fun p hm => hp p (List.mem_append.2 (.inl hm))
  have r0 := fun p hm => hp p (List.mem_append.2 (.inr hm))
  have q1 := fun p hm => r0 p (List.mem_append.2 (.inl hm))
  have r1 := fun p hm => r0 p (List.mem_append.2 (.inr hm))
  refine callOk_args (callOk_shift (cell_Get_c2 a0 a1 r1) (Nat.le_refl _) (freeL_cons (valA_free _ _) (freeL_cons (valA_free _ _) freeL_nil)) nx o) fun F N R vs hl => ?_
  obtain ⟨v0, w0, rfl, h0, hl⟩ := hl.inv
  obtain ⟨v1, w1, rfl, h1, hl⟩ := hl.inv
  exact HL.cons (argU_ok e0 q0 h0) (HL.cons (argU_ok e1 q1 h1) (hl))
noncomputable def Cd_13 := addC 54 cell_Get_t Cd_12
theorem Cd_13_ok : COk Try.prog Cd_13 := addC_ok cell_Get_tok Cd_12_ok

noncomputable def Cd := Cd_13
theorem Cd_ok : COk Try.prog Cd := Cd_13_ok
end Go.Proofs.Yteebobbhhgmeiaa
