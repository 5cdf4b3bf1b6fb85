/- made by a program (gent.py): what functions come to, by their symbolic run over typed data. -/
import Derived.Test.YteebobbhhgmeiaaTe
namespace Go.Proofs.Yteebobbhhgmeiaa
open Go.RowKit

def r08_Zero_r (a0 : TVec) : A := .v (.bool (a0.1 == (0 : Int) && a0.2 == (0 : Int)))
def r08_Zero_o (_a0 : TVec) : Objs := []
def r08_Zero_ps (_a0 : TVec) : List Prop := []
set_option maxRecDepth 100000 in
theorem r08_Zero_ev (a0 : TVec) : evF (envT Ce L0) 9 108 [valA .vec a0] 0 [] = some (1, r08_Zero_r a0, 0, r08_Zero_o a0, []) := by kernel_rfl
set_option maxRecDepth 100000 in
theorem r08_Zero_c (a0 : TVec) (_hp : ∀ p ∈ r08_Zero_ps a0, p) : CallOk Try.prog 108 [valA .vec a0] 0 [] 1 (r08_Zero_r a0) 0 (r08_Zero_o a0) := by
  exact evF_ok (envP_ok Ce_ok L0_ok) (r08_Zero_ev a0) needs_nil
def r08_Zero_t : List A → Nat → Objs → Option CRes
  | [y0], nx, o => match argU .vec y0 with
    | some (a0, p0) => some (1, (r08_Zero_r a0).pk (shiftR nx), nx + 0, shiftO nx (r08_Zero_o a0) ++ o, p0 ++ (r08_Zero_ps a0))
    | _ => none
  | _, _, _ => none
theorem r08_Zero_tok : TOk Try.prog 108 r08_Zero_t := fun args nx o k x nx' o' ps h => by
  unfold r08_Zero_t at h
  split at h <;> first | (cases h; done) | skip
  split at h <;> first | (cases h; done) | skip
  rename_i a0 p0 e0
  cases h
  refine ⟨fun hp => ?_, _, rfl⟩
  have q0 := fun p hm => hp p (List.mem_append.2 (.inl hm))
  have r0 := fun p hm => hp p (List.mem_append.2 (.inr hm))
  refine callOk_args (callOk_shift (r08_Zero_c a0 r0) (Nat.le_refl _) (freeL_cons (valA_free _ _) freeL_nil) nx o) fun F N R vs hl => ?_
  obtain ⟨v0, w0, rfl, h0, hl⟩ := hl.inv
  exact HL.cons (argU_ok e0 q0 h0) (hl)
noncomputable def Cf_1 := addC 108 r08_Zero_t Ce
theorem Cf_1_ok : COk Try.prog Cf_1 := addC_ok r08_Zero_tok Ce_ok
def r08_Written_0 (a0 : TCell) : Bool := a0.1.1 != (0 : Int) || a0.1.2 != (0 : Int) || a0.2.1 != (0 : Int) || a0.2.2 != (0 : Int) || a0.3 || !a0.4.toList == (ByteArray.mk #[]).toList
def r08_Written_r (a0 : TCell) : A := .v (.bool (r08_Written_0 a0))
def r08_Written_o (_a0 : TCell) : Objs := []
def r08_Written_ps (_a0 : TCell) : List Prop := []
set_option maxRecDepth 100000 in
theorem r08_Written_ev (a0 : TCell) : evF (envT Cf_1 L0) 9 106 [valA .cell a0] 0 [] = some (1, r08_Written_r a0, 0, r08_Written_o a0, []) := by kernel_rfl
set_option maxRecDepth 100000 in
theorem r08_Written_c (a0 : TCell) (_hp : ∀ p ∈ r08_Written_ps a0, p) : CallOk Try.prog 106 [valA .cell a0] 0 [] 1 (r08_Written_r a0) 0 (r08_Written_o a0) := by
  exact evF_ok (envP_ok Cf_1_ok L0_ok) (r08_Written_ev a0) needs_nil
def r08_Written_t : List A → Nat → Objs → Option CRes
  | [y0], nx, o => match argU .cell y0 with
    | some (a0, p0) => some (1, (r08_Written_r a0).pk (shiftR nx), nx + 0, shiftO nx (r08_Written_o a0) ++ o, p0 ++ (r08_Written_ps a0))
    | _ => none
  | _, _, _ => none
theorem r08_Written_tok : TOk Try.prog 106 r08_Written_t := fun args nx o k x nx' o' ps h => by
  unfold r08_Written_t at h
  split at h <;> first | (cases h; done) | skip
  split at h <;> first | (cases h; done) | skip
  rename_i a0 p0 e0
  cases h
  refine ⟨fun hp => ?_, _, rfl⟩
  have q0 := fun p hm => hp p (List.mem_append.2 (.inl hm))
  have r0 := fun p hm => hp p (List.mem_append.2 (.inr hm))
  refine callOk_args (callOk_shift (r08_Written_c a0 r0) (Nat.le_refl _) (freeL_cons (valA_free _ _) freeL_nil) nx o) fun F N R vs hl => ?_
  obtain ⟨v0, w0, rfl, h0, hl⟩ := hl.inv
  exact HL.cons (argU_ok e0 q0 h0) (hl)
noncomputable def Cf_2 := addC 106 r08_Written_t Cf_1
theorem Cf_2_ok : COk Try.prog Cf_2 := addC_ok r08_Written_tok Cf_1_ok
def r08_Good_0 (a0 : Int) (a1 : TCell) : Bool := bif a0 == (1 : Int) && !(a1.5.1 == (0 : Int) && a1.5.2 == (0 : Int)) || a0 == (2 : Int) && (a1.3 || !r06_Good_0 a1.5) || a0 != (1 : Int) && a0 != (2 : Int) then false else bif !r08_Written_0 a1 then true else r05_Good_0 a1.1 && decide (a1.1.1 > (0 : Int)) && r06_Good_0 a1.2 && decide ((↑a1.4.size : Int) ≤ (64 : Int)) && (!a1.3 || a1.4.toList == (ByteArray.mk #[]).toList)
def r08_Good_r (a0 : Int) (a1 : TCell) : A := .v (.bool (r08_Good_0 a0 a1))
def r08_Good_o (_a0 : Int) (_a1 : TCell) : Objs := []
def r08_Good_ps (_a0 : Int) (_a1 : TCell) : List Prop := []
set_option maxRecDepth 100000 in
theorem r08_Good_ev (a0 : Int) (a1 : TCell) : evF (envT Cf_2 L0) 9 42 [valA .i64 a0, valA .cell a1] 0 [] = some (1, r08_Good_r a0 a1, 0, r08_Good_o a0 a1, []) := by kernel_rfl
set_option maxRecDepth 100000 in
theorem r08_Good_c (a0 : Int) (a1 : TCell) (_hp : ∀ p ∈ r08_Good_ps a0 a1, p) : CallOk Try.prog 42 [valA .i64 a0, valA .cell a1] 0 [] 1 (r08_Good_r a0 a1) 0 (r08_Good_o a0 a1) := by
  exact evF_ok (envP_ok Cf_2_ok L0_ok) (r08_Good_ev a0 a1) needs_nil
def r08_Good_t : List A → Nat → Objs → Option CRes
  | [y0, y1], nx, o => match argU .i64 y0, argU .cell y1 with
    | some (a0, p0), some (a1, p1) => some (1, (r08_Good_r a0 a1).pk (shiftR nx), nx + 0, shiftO nx (r08_Good_o a0 a1) ++ o, p0 ++ (p1 ++ (r08_Good_ps a0 a1)))
    | _, _ => none
  | _, _, _ => none
theorem r08_Good_tok : TOk Try.prog 42 r08_Good_t := fun args nx o k x nx' o' ps h => by
  unfold r08_Good_t at h
  split at h <;> first | (cases h; done) | skip
  split at h <;> first | (cases h; done) | skip
  rename_i a0 p0 a1 p1 e0 e1
  cases h
  refine ⟨fun hp => ?_, _, rfl⟩
  have q0 := fun p hm => hp p (List.mem_append.2 (.inl hm))
  have r0 := fun p hm => hp p (List.mem_append.2 (.inr hm))
  have q1 := fun p hm => r0 p (List.mem_append.2 (.inl hm))
  have r1 := fun p hm => r0 p (List.mem_append.2 (.inr hm))
  refine callOk_args (callOk_shift (r08_Good_c a0 a1 r1) (Nat.le_refl _) (freeL_cons (valA_free _ _) (freeL_cons (valA_free _ _) freeL_nil)) nx o) fun F N R vs hl => ?_
  obtain ⟨v0, w0, rfl, h0, hl⟩ := hl.inv
  obtain ⟨v1, w1, rfl, h1, hl⟩ := hl.inv
  exact HL.cons (argU_ok e0 q0 h0) (HL.cons (argU_ok e1 q1 h1) (hl))
noncomputable def Cf_3 := addC 42 r08_Good_t Cf_2
theorem Cf_3_ok : COk Try.prog Cf_3 := addC_ok r08_Good_tok Cf_2_ok
def r08_Put_k3 (_a0 : List UInt8) (_a1 : Int) (a2 : TCell) : Bool := !((bif r08_Written_0 a2 then bif !a2.3 then a2.5.1 else a2.5.1 else a2.5.1) == (0 : Int) && (bif r08_Written_0 a2 then bif !a2.3 then a2.5.2 else a2.5.2 else a2.5.2) == (0 : Int))
def r08_Put_k2 (_a0 : List UInt8) (_a1 : Int) (a2 : TCell) : Int := bif a2.3 then IntKind.i64.wrap ((bif r08_Written_0 a2 then (1 : Int) else (0 : Int)) + (2 : Int)) else bif r08_Written_0 a2 then (1 : Int) else (0 : Int)
def r08_Put_k1 (a0 : List UInt8) (a1 : Int) (a2 : TCell) : List UInt8 := a0 ++ putN (bif !(a2.5.1 == (0 : Int) && a2.5.2 == (0 : Int)) then IntKind.i64.wrap ((r08_Put_k2 a0 a1 a2) + (4 : Int)) else (r08_Put_k2 a0 a1 a2)) ++ putS a2.1
def r08_Put_k0 (a0 : List UInt8) (a1 : Int) (a2 : TCell) : List UInt8 := bif r08_Written_0 a2 then bif !a2.3 then (r08_Put_k1 a0 a1 a2) ++ putV a2.2 ++ putT a2.4 else (r08_Put_k1 a0 a1 a2) ++ putV a2.2 else a0 ++ putN (bif !(a2.5.1 == (0 : Int) && a2.5.2 == (0 : Int)) then IntKind.i64.wrap ((r08_Put_k2 a0 a1 a2) + (4 : Int)) else (r08_Put_k2 a0 a1 a2))
def r08_Put_0 (a0 : List UInt8) (a1 : Int) (a2 : TCell) : List UInt8 := bif !r08_Good_0 a1 a2 then [] ++ a0 else bif (r08_Put_k3 a0 a1 a2) then (r08_Put_k0 a0 a1 a2) ++ putV (TVec.mk (bif r08_Written_0 a2 then bif !a2.3 then a2.5.1 else a2.5.1 else a2.5.1) (bif r08_Written_0 a2 then bif !a2.3 then a2.5.2 else a2.5.2 else a2.5.2)) else (r08_Put_k0 a0 a1 a2)
def r08_Put_r (_a0 : List UInt8) (_a1 : Int) (_a2 : TCell) : A := .sq 0
def r08_Put_o (a0 : List UInt8) (a1 : Int) (a2 : TCell) : Objs := [(0, some (.arr 5 1 (.ty .u8 (r08_Put_0 a0 a1 a2))))]
def r08_Put_ps (a0 : List UInt8) (a1 : Int) (a2 : TCell) : List Prop := [((!r08_Good_0 a1 a2) = true → boundP ((0 : Nat) + a0.length)), ((!!r08_Good_0 a1 a2) = true → boundP (a0.length + (8 : Nat))), ((!!r08_Good_0 a1 a2) = true → r08_Written_0 a2 = true → boundP ((a0 ++ putN (bif !(a2.5.1 == (0 : Int) && a2.5.2 == (0 : Int)) then IntKind.i64.wrap ((r08_Put_k2 a0 a1 a2) + (4 : Int)) else (r08_Put_k2 a0 a1 a2))).length + (8 : Nat))), ((!!r08_Good_0 a1 a2) = true → r08_Written_0 a2 = true → boundP ((r08_Put_k1 a0 a1 a2).length + (16 : Nat))), ((!!r08_Good_0 a1 a2) = true → r08_Written_0 a2 = true → (!a2.3) = true → boundP (((r08_Put_k1 a0 a1 a2) ++ putV a2.2).length + (8 : Nat) + a2.4.size)), ((!!r08_Good_0 a1 a2) = true → (r08_Put_k3 a0 a1 a2) = true → boundP ((r08_Put_k0 a0 a1 a2).length + (16 : Nat)))]
set_option maxRecDepth 100000 in
theorem r08_Put_ev (a0 : List UInt8) (a1 : Int) (a2 : TCell) : evF (envT Cf_3 L0) 9 57 [valA .bytes a0, valA .i64 a1, valA .cell a2] 0 [] = some (1, r08_Put_r a0 a1 a2, 1, r08_Put_o a0 a1 a2, [((!r08_Good_0 a1 a2) = true → boundP ((0 : Nat) + a0.length)), ((!!r08_Good_0 a1 a2) = true → boundP (a0.length + (8 : Nat))), ((!!r08_Good_0 a1 a2) = true → r08_Written_0 a2 = true → boundP ((a0 ++ putN (bif !(a2.5.1 == (0 : Int) && a2.5.2 == (0 : Int)) then IntKind.i64.wrap ((r08_Put_k2 a0 a1 a2) + (4 : Int)) else (r08_Put_k2 a0 a1 a2))).length + (8 : Nat))), ((!!r08_Good_0 a1 a2) = true → r08_Written_0 a2 = true → boundP ((r08_Put_k1 a0 a1 a2).length + (16 : Nat))), ((!!r08_Good_0 a1 a2) = true → r08_Written_0 a2 = true → (!a2.3) = true → boundP (((r08_Put_k1 a0 a1 a2) ++ putV a2.2).length + (8 : Nat) + a2.4.size)), ((!!r08_Good_0 a1 a2) = true → (r08_Put_k3 a0 a1 a2) = true → boundP ((r08_Put_k0 a0 a1 a2).length + (16 : Nat)))]) := by kernel_rfl
set_option maxRecDepth 100000 in
theorem r08_Put_c (a0 : List UInt8) (a1 : Int) (a2 : TCell) (hp : ∀ p ∈ r08_Put_ps a0 a1 a2, p) : CallOk Try.prog 57 [valA .bytes a0, valA .i64 a1, valA .cell a2] 0 [] 1 (r08_Put_r a0 a1 a2) 1 (r08_Put_o a0 a1 a2) := by
  have n0 : ((!r08_Good_0 a1 a2) = true → boundP ((0 : Nat) + a0.length)) := hp _ (List.mem_cons_self ..)
  have n1 : ((!!r08_Good_0 a1 a2) = true → boundP (a0.length + (8 : Nat))) := hp _ (List.mem_cons_of_mem _ (List.mem_cons_self ..))
  have n2 : ((!!r08_Good_0 a1 a2) = true → r08_Written_0 a2 = true → boundP ((a0 ++ putN (bif !(a2.5.1 == (0 : Int) && a2.5.2 == (0 : Int)) then IntKind.i64.wrap ((r08_Put_k2 a0 a1 a2) + (4 : Int)) else (r08_Put_k2 a0 a1 a2))).length + (8 : Nat))) := hp _ (List.mem_cons_of_mem _ (List.mem_cons_of_mem _ (List.mem_cons_self ..)))
  have n3 : ((!!r08_Good_0 a1 a2) = true → r08_Written_0 a2 = true → boundP ((r08_Put_k1 a0 a1 a2).length + (16 : Nat))) := hp _ (List.mem_cons_of_mem _ (List.mem_cons_of_mem _ (List.mem_cons_of_mem _ (List.mem_cons_self ..))))
  have n4 : ((!!r08_Good_0 a1 a2) = true → r08_Written_0 a2 = true → (!a2.3) = true → boundP (((r08_Put_k1 a0 a1 a2) ++ putV a2.2).length + (8 : Nat) + a2.4.size)) := hp _ (List.mem_cons_of_mem _ (List.mem_cons_of_mem _ (List.mem_cons_of_mem _ (List.mem_cons_of_mem _ (List.mem_cons_self ..)))))
  have n5 : ((!!r08_Good_0 a1 a2) = true → (r08_Put_k3 a0 a1 a2) = true → boundP ((r08_Put_k0 a0 a1 a2).length + (16 : Nat))) := hp _ (List.mem_cons_of_mem _ (List.mem_cons_of_mem _ (List.mem_cons_of_mem _ (List.mem_cons_of_mem _ (List.mem_cons_of_mem _ (List.mem_cons_self ..))))))
  exact evF_ok (envP_ok Cf_3_ok L0_ok) (r08_Put_ev a0 a1 a2) (needs_cons n0 (needs_cons n1 (needs_cons n2 (needs_cons n3 (needs_cons n4 (needs_cons n5 needs_nil))))))
def r08_Put_r2 (_a0 : List UInt8) (_a1 : Int) (_a2 : TCell) : A := .sq 0
def r08_Put_o2 (a0 : List UInt8) (a1 : Int) (a2 : TCell) : Objs := [(0, some (.arr 5 1 (.ty .u8 (a0 ++ putC a1 a2))))]
def r08_Put_ps2 (a0 : List UInt8) (_a1 : Int) (_a2 : TCell) : List Prop := [boundP (a0.length + 128)]
theorem r08_Written_eq (c : TCell) : r08_Written_0 c = written c := by
  unfold r08_Written_0 written bne
  rw [noB_eq]
  generalize (c.1.1 == (0 : Int)) = a
  generalize (c.1.2 == (0 : Int)) = b
  generalize (c.2.1 == (0 : Int)) = d
  generalize (c.2.2 == (0 : Int)) = e
  show (!a || !b || !d || !e || c.gone || !(c.4.size == 0)) = !(a && b && (d && e) && (!c.gone && c.value.size == 0))
  cases a <;> cases b <;> cases d <;> cases e <;> cases c.gone <;> simp
theorem r08_Good_eq (p : Int) (c : TCell) : r08_Good_0 p c = goodC p c := by
  unfold r08_Good_0 goodC bne
  rw [r08_Written_eq, r06_Good_eq, r06_Good_eq, r05_Good_eq, noB_eq]
  have h1 : (p == (1 : Int) && !(c.5.1 == (0 : Int) && c.5.2 == (0 : Int)) || p == (2 : Int) && (c.3 || !goodV c.5) || !(p == (1 : Int)) && !(p == (2 : Int))) = (p == 1 && !zeroV c.dead || (p == 2 && (c.gone || !goodV c.dead) || !(p == 1 || p == 2))) := by
    rw [Bool.or_assoc, Bool.not_or]
    rfl
  have h2 : (!c.3 || c.4.size == 0) = !(c.gone && !(c.value.size == 0)) := by rw [Bool.not_and, Bool.not_not]
  rw [h1, h2]
theorem r08_Put_n (a0 : List UInt8) (a1 : Int) (c : TCell) : (bif !(c.5.1 == (0 : Int) && c.5.2 == (0 : Int)) then IntKind.i64.wrap (r08_Put_k2 a0 a1 c + (4 : Int)) else (r08_Put_k2 a0 a1 c)) = flagsC c := by
  unfold r08_Put_k2 flagsC
  rw [r08_Written_eq]
  show (bif !(zeroV c.dead) then _ else _) = _
  cases written c <;> cases c.gone <;> cases zeroV c.dead <;> rfl
theorem r08_Put_b4 (a0 : List UInt8) (a1 : Int) (c : TCell) : r08_Put_k3 a0 a1 c = !zeroV c.dead := by
  unfold r08_Put_k3
  cases r08_Written_0 c <;> cases c.3 <;> rfl
theorem r08_Put_eq (a0 : List UInt8) (a1 : Int) (c : TCell) : r08_Put_0 a0 a1 c = a0 ++ putC a1 c := by
  unfold r08_Put_0 r08_Put_k0 r08_Put_k1 putC bodyC
  rw [r08_Good_eq, r08_Put_n, r08_Put_b4, r08_Written_eq]
  have hd : ∀ w g : Bool, (TVec.mk (bif w then bif !g then c.5.1 else c.5.1 else c.5.1) (bif w then bif !g then c.5.2 else c.5.2 else c.5.2)) = c.dead := by intro w g; cases w <;> cases g <;> rfl
  rw [hd]
  cases goodC a1 c <;> cases written c <;> cases c.gone <;> cases zeroV c.dead <;> simp
theorem r08_Put_c2 (a0 : List UInt8) (a1 : Int) (a2 : TCell) (hp : ∀ p ∈ r08_Put_ps2 a0 a1 a2, p) : CallOk Try.prog 57 [valA .bytes a0, valA .i64 a1, valA .cell a2] 0 [] 1 (r08_Put_r2 a0 a1 a2) 1 (r08_Put_o2 a0 a1 a2) := by
  have hb : boundP (a0.length + 128) := hp _ (List.mem_cons_self ..)
  unfold boundP at hb
  have n8 := putN_8 (flagsC a2)
  have s8 := putS_8 a2.stamp
  have v16 := putV_16 a2.vec
  have t8 := putT_8 a2.value
  have k3 : (r08_Put_k1 a0 a1 a2).length ≤ a0.length + 16 := by
    unfold r08_Put_k1
    rw [r08_Put_n, List.length_append, List.length_append]
    omega
  have sz : (!!r08_Good_0 a1 a2) = true → r08_Written_0 a2 = true → a2.value.size ≤ 64 := fun h1 h2 => by
    rw [r08_Good_eq, Bool.not_not] at h1
    rw [r08_Written_eq] at h2
    have := ((goodC_iff.1 h1).st h2).2.2.2.1
    omega
  have h := r08_Put_c a0 a1 a2 (needs_cons (fun _ => by unfold boundP; omega) (needs_cons (fun _ => by unfold boundP; omega) (needs_cons (fun _ _ => by rw [r08_Put_n, List.length_append]; unfold boundP; omega) (needs_cons (fun _ _ => by unfold boundP; omega) (needs_cons (fun h1 h2 _ => by
      have := sz h1 h2
      rw [List.length_append]; unfold boundP; omega) (needs_cons (fun h1 _ => by
      have : (r08_Put_k0 a0 a1 a2).length ≤ a0.length + 112 := by
        unfold r08_Put_k0
        rw [r08_Put_n]
        cases hw : r08_Written_0 a2 with
        | false => rw [cond_false, List.length_append]; omega
        | true =>
          have := sz h1 hw
          rw [cond_true]
          cases a2.3 with
          | true => simp only [Bool.not_true, cond_false, List.length_append]; omega
          | false => simp only [Bool.not_false, cond_true, List.length_append]; omega
      unfold boundP; omega) needs_nil))))))
  have ho : r08_Put_o a0 a1 a2 = r08_Put_o2 a0 a1 a2 := by unfold r08_Put_o r08_Put_o2; rw [r08_Put_eq]
  rw [ho] at h
  exact h
def r08_Put_t : List A → Nat → Objs → Option CRes
  | [y0, y1, y2], nx, o => match argU .bytes y0, argU .i64 y1, argU .cell y2 with
    | some (a0, p0), some (a1, p1), some (a2, p2) => some (1, (r08_Put_r2 a0 a1 a2).pk (shiftR nx), nx + 1, shiftO nx (r08_Put_o2 a0 a1 a2) ++ o, p0 ++ (p1 ++ (p2 ++ (r08_Put_ps2 a0 a1 a2))))
    | _, _, _ => none
  | _, _, _ => none
theorem r08_Put_tok : TOk Try.prog 57 r08_Put_t := fun args nx o k x nx' o' ps h => by
  unfold r08_Put_t at h
  split at h <;> first | (cases h; done) | skip
  split at h <;> first | (cases h; done) | skip
  rename_i a0 p0 a1 p1 a2 p2 e0 e1 e2
  cases h
  refine ⟨fun hp => ?_, _, rfl⟩
  have q0 := fun p hm => hp p (List.mem_append.2 (.inl hm))
  have r0 := fun p hm => hp p (List.mem_append.2 (.inr hm))
  have q1 := fun p hm => r0 p (List.mem_append.2 (.inl hm))
  have r1 := fun p hm => r0 p (List.mem_append.2 (.inr hm))
  have q2 := fun p hm => r1 p (List.mem_append.2 (.inl hm))
  have r2 := fun p hm => r1 p (List.mem_append.2 (.inr hm))
  refine callOk_args (callOk_shift (r08_Put_c2 a0 a1 a2 r2) (Nat.le_refl _) (freeL_cons (valA_free _ _) (freeL_cons (valA_free _ _) (freeL_cons (valA_free _ _) freeL_nil))) nx o) fun F N R vs hl => ?_
  obtain ⟨v0, w0, rfl, h0, hl⟩ := hl.inv
  obtain ⟨v1, w1, rfl, h1, hl⟩ := hl.inv
  obtain ⟨v2, w2, rfl, h2, hl⟩ := hl.inv
  exact HL.cons (argU_ok e0 q0 h0) (HL.cons (argU_ok e1 q1 h1) (HL.cons (argU_ok e2 q2 h2) (hl)))
noncomputable def Cf_4 := addC 57 r08_Put_t Cf_3
theorem Cf_4_ok : COk Try.prog Cf_4 := addC_ok r08_Put_tok Cf_3_ok
def r08_read_k17 (a0 : List UInt8) : Bool := IntKind.i64.wrap ((getN a0).fst.tdiv (4 : Int)) == (1 : Int)
def r08_read_k16 (a0 : List UInt8) : Bool := (IntKind.i64.wrap ((getN a0).fst.tdiv (2 : Int))).tmod (2 : Int) == (1 : Int)
def r08_read_k15 (a0 : List UInt8) : Bool := (getS (List.take ((↑a0.length : Int).toNat - (getN a0).snd.fst.toNat) (List.drop (getN a0).snd.fst.toNat a0))).snd.snd != (0 : Int)
def r08_read_k14 (a0 : List UInt8) : Bool := (getN a0).snd.snd != (0 : Int) || decide ((getN a0).fst > (7 : Int))
def r08_read_k11 (a0 : List UInt8) : Int := bif (getN a0).fst.tmod (2 : Int) == (1 : Int) then bif !(r08_read_k16 a0) then (getS (List.take ((↑a0.length : Int).toNat - (getN a0).snd.fst.toNat) (List.drop (getN a0).snd.fst.toNat a0))).fst.2 else (getS (List.take ((↑a0.length : Int).toNat - (getN a0).snd.fst.toNat) (List.drop (getN a0).snd.fst.toNat a0))).fst.2 else (0 : Int)
def r08_read_k10 (a0 : List UInt8) : Int := bif (getN a0).fst.tmod (2 : Int) == (1 : Int) then bif !(r08_read_k16 a0) then (getS (List.take ((↑a0.length : Int).toNat - (getN a0).snd.fst.toNat) (List.drop (getN a0).snd.fst.toNat a0))).fst.1 else (getS (List.take ((↑a0.length : Int).toNat - (getN a0).snd.fst.toNat) (List.drop (getN a0).snd.fst.toNat a0))).fst.1 else (0 : Int)
def r08_read_k9 (a0 : List UInt8) : Int := IntKind.i64.wrap ((getN a0).snd.fst + (getS (List.take ((↑a0.length : Int).toNat - (getN a0).snd.fst.toNat) (List.drop (getN a0).snd.fst.toNat a0))).snd.fst)
def r08_read_k8 (a0 : List UInt8) : Int := bif (getN a0).fst.tmod (2 : Int) == (1 : Int) then bif !(r08_read_k16 a0) then (0 : Int) else (0 : Int) else (0 : Int)
def r08_read_k7 (a0 : List UInt8) : Bool := bif (getN a0).fst.tmod (2 : Int) == (1 : Int) then bif !(r08_read_k16 a0) then (r08_read_k16 a0) else (r08_read_k16 a0) else false
def r08_read_k6 (a0 : List UInt8) : Bool := (getV (List.take ((↑a0.length : Int).toNat - (r08_read_k9 a0).toNat) (List.drop (r08_read_k9 a0).toNat a0))).snd.snd != (0 : Int)
def r08_read_k5 (a0 : List UInt8) : Int := IntKind.i64.wrap ((r08_read_k9 a0) + (getV (List.take ((↑a0.length : Int).toNat - (r08_read_k9 a0).toNat) (List.drop (r08_read_k9 a0).toNat a0))).snd.fst)
def r08_read_k4 (a0 : List UInt8) : Int := bif (r08_read_k15 a0) then (0 : Int) else bif (r08_read_k6 a0) then (0 : Int) else (0 : Int)
def r08_read_k3 (a0 : List UInt8) : ByteArray := bif (getN a0).fst.tmod (2 : Int) == (1 : Int) then bif !(r08_read_k16 a0) then (getT (List.take ((↑a0.length : Int).toNat - (r08_read_k5 a0).toNat) (List.drop (r08_read_k5 a0).toNat a0)) (64 : Int)).fst else ByteArray.mk #[] else ByteArray.mk #[]
def r08_read_k2 (a0 : List UInt8) : Bool := (getN a0).fst.tmod (2 : Int) == (1 : Int) && ((r08_read_k15 a0) || ((r08_read_k6 a0) || !(r08_read_k16 a0) && (getT (List.take ((↑a0.length : Int).toNat - (r08_read_k5 a0).toNat) (List.drop (r08_read_k5 a0).toNat a0)) (64 : Int)).snd.snd != (0 : Int)))
def r08_read_k1 (a0 : List UInt8) : Int := bif (getN a0).fst.tmod (2 : Int) == (1 : Int) then bif !(r08_read_k16 a0) then IntKind.i64.wrap ((r08_read_k5 a0) + (getT (List.take ((↑a0.length : Int).toNat - (r08_read_k5 a0).toNat) (List.drop (r08_read_k5 a0).toNat a0)) (64 : Int)).snd.fst) else (r08_read_k5 a0) else (getN a0).snd.fst
def r08_read_k0 (a0 : List UInt8) : Bool := (r08_read_k17 a0) && (getV (List.take ((↑a0.length : Int).toNat - (r08_read_k1 a0).toNat) (List.drop (r08_read_k1 a0).toNat a0))).snd.snd != (0 : Int)
def r08_read_k13 (a0 : List UInt8) : Int := bif (getN a0).fst.tmod (2 : Int) == (1 : Int) then bif !(r08_read_k16 a0) then (getV (List.take ((↑a0.length : Int).toNat - (r08_read_k9 a0).toNat) (List.drop (r08_read_k9 a0).toNat a0))).fst.2 else (getV (List.take ((↑a0.length : Int).toNat - (r08_read_k9 a0).toNat) (List.drop (r08_read_k9 a0).toNat a0))).fst.2 else (0 : Int)
def r08_read_k12 (a0 : List UInt8) : Int := bif (getN a0).fst.tmod (2 : Int) == (1 : Int) then bif !(r08_read_k16 a0) then (getV (List.take ((↑a0.length : Int).toNat - (r08_read_k9 a0).toNat) (List.drop (r08_read_k9 a0).toNat a0))).fst.1 else (getV (List.take ((↑a0.length : Int).toNat - (r08_read_k9 a0).toNat) (List.drop (r08_read_k9 a0).toNat a0))).fst.1 else (0 : Int)
def r08_read_0 (a0 : List UInt8) : TCell := TCell.mk (TStamp.mk (bif (r08_read_k14 a0) then (0 : Int) else bif (r08_read_k2 a0) then bif (r08_read_k15 a0) then (0 : Int) else bif (r08_read_k6 a0) then (0 : Int) else (getS (List.take ((↑a0.length : Int).toNat - (getN a0).snd.fst.toNat) (List.drop (getN a0).snd.fst.toNat a0))).fst.1 else bif (r08_read_k0 a0) then (r08_read_k10 a0) else bif (r08_read_k17 a0) then (r08_read_k10 a0) else (r08_read_k10 a0)) (bif (r08_read_k14 a0) then (0 : Int) else bif (r08_read_k2 a0) then bif (r08_read_k15 a0) then (0 : Int) else bif (r08_read_k6 a0) then (0 : Int) else (getS (List.take ((↑a0.length : Int).toNat - (getN a0).snd.fst.toNat) (List.drop (getN a0).snd.fst.toNat a0))).fst.2 else bif (r08_read_k0 a0) then (r08_read_k11 a0) else bif (r08_read_k17 a0) then (r08_read_k11 a0) else (r08_read_k11 a0))) (TVec.mk (bif (r08_read_k14 a0) then (0 : Int) else bif (r08_read_k2 a0) then bif (r08_read_k15 a0) then (0 : Int) else bif (r08_read_k6 a0) then (0 : Int) else (getV (List.take ((↑a0.length : Int).toNat - (r08_read_k9 a0).toNat) (List.drop (r08_read_k9 a0).toNat a0))).fst.1 else bif (r08_read_k0 a0) then (r08_read_k12 a0) else bif (r08_read_k17 a0) then (r08_read_k12 a0) else (r08_read_k12 a0)) (bif (r08_read_k14 a0) then (0 : Int) else bif (r08_read_k2 a0) then bif (r08_read_k15 a0) then (0 : Int) else bif (r08_read_k6 a0) then (0 : Int) else (getV (List.take ((↑a0.length : Int).toNat - (r08_read_k9 a0).toNat) (List.drop (r08_read_k9 a0).toNat a0))).fst.2 else bif (r08_read_k0 a0) then (r08_read_k13 a0) else bif (r08_read_k17 a0) then (r08_read_k13 a0) else (r08_read_k13 a0))) (bif (r08_read_k14 a0) then false else bif (r08_read_k2 a0) then bif (r08_read_k15 a0) then false else bif (r08_read_k6 a0) then false else (r08_read_k16 a0) else bif (r08_read_k0 a0) then (r08_read_k7 a0) else bif (r08_read_k17 a0) then (r08_read_k7 a0) else (r08_read_k7 a0)) (bif (r08_read_k14 a0) then ByteArray.mk #[] else bif (r08_read_k2 a0) then bif (r08_read_k15 a0) then ByteArray.mk #[] else bif (r08_read_k6 a0) then ByteArray.mk #[] else ByteArray.mk #[] else bif (r08_read_k0 a0) then (r08_read_k3 a0) else bif (r08_read_k17 a0) then (r08_read_k3 a0) else (r08_read_k3 a0)) (TVec.mk (bif (r08_read_k14 a0) then (0 : Int) else bif (r08_read_k2 a0) then (r08_read_k4 a0) else bif (r08_read_k0 a0) then (r08_read_k8 a0) else bif (r08_read_k17 a0) then (getV (List.take ((↑a0.length : Int).toNat - (r08_read_k1 a0).toNat) (List.drop (r08_read_k1 a0).toNat a0))).fst.1 else (r08_read_k8 a0)) (bif (r08_read_k14 a0) then (0 : Int) else bif (r08_read_k2 a0) then (r08_read_k4 a0) else bif (r08_read_k0 a0) then (r08_read_k8 a0) else bif (r08_read_k17 a0) then (getV (List.take ((↑a0.length : Int).toNat - (r08_read_k1 a0).toNat) (List.drop (r08_read_k1 a0).toNat a0))).fst.2 else (r08_read_k8 a0)))
def r08_read_1 (a0 : List UInt8) : Int := bif (r08_read_k14 a0) then (0 : Int) else bif (r08_read_k2 a0) then (r08_read_k4 a0) else bif (r08_read_k0 a0) then (0 : Int) else bif (r08_read_k17 a0) then IntKind.i64.wrap ((r08_read_k1 a0) + (getV (List.take ((↑a0.length : Int).toNat - (r08_read_k1 a0).toNat) (List.drop (r08_read_k1 a0).toNat a0))).snd.fst) else (r08_read_k1 a0)
def r08_read_2 (a0 : List UInt8) : Bool := bif (r08_read_k14 a0) then false else bif (r08_read_k2 a0) then bif (r08_read_k15 a0) then false else bif (r08_read_k6 a0) then false else false else bif (r08_read_k0 a0) then false else true
def r08_read_r (a0 : List UInt8) : A := .v (.tuple ⟨[.agg ⟨[.int .i64 ((r08_read_0 a0).stamp.n), .int .i64 ((r08_read_0 a0).stamp.site), .int .i64 ((r08_read_0 a0).vec.a), .int .i64 ((r08_read_0 a0).vec.b), .bool ((r08_read_0 a0).gone), .string ((r08_read_0 a0).value), .int .i64 ((r08_read_0 a0).dead.a), .int .i64 ((r08_read_0 a0).dead.b)]⟩, .int .i64 (r08_read_1 a0), .bool (r08_read_2 a0)]⟩)
def r08_read_o (_a0 : List UInt8) : Objs := []
def r08_read_ps (a0 : List UInt8) : List Prop := [((!(r08_read_k14 a0)) = true → ((getN a0).fst.tmod (2 : Int) == (1 : Int)) = true → (0 : Int) ≤ (getN a0).snd.fst ∧ (getN a0).snd.fst ≤ (↑a0.length : Int) ∧ (↑a0.length : Int) ≤ (↑a0.length : Int)), ((!(r08_read_k14 a0)) = true → ((getN a0).fst.tmod (2 : Int) == (1 : Int)) = true → (!(r08_read_k15 a0)) = true → (0 : Int) ≤ (r08_read_k9 a0) ∧ (r08_read_k9 a0) ≤ (↑a0.length : Int) ∧ (↑a0.length : Int) ≤ (↑a0.length : Int)), ((!(r08_read_k14 a0)) = true → ((getN a0).fst.tmod (2 : Int) == (1 : Int)) = true → (!(r08_read_k15 a0)) = true → (!(r08_read_k6 a0)) = true → (!(r08_read_k16 a0)) = true → (0 : Int) ≤ (r08_read_k5 a0) ∧ (r08_read_k5 a0) ≤ (↑a0.length : Int) ∧ (↑a0.length : Int) ≤ (↑a0.length : Int)), ((!(r08_read_k14 a0)) = true → ((getN a0).fst.tmod (2 : Int) == (1 : Int)) = true → (!(r08_read_k15 a0)) = true → (!(r08_read_k6 a0)) = true → (!(r08_read_k16 a0)) = true → boundP (List.take ((↑a0.length : Int).toNat - (r08_read_k5 a0).toNat) (List.drop (r08_read_k5 a0).toNat a0)).length), ((!(r08_read_k14 a0)) = true → (!(r08_read_k2 a0)) = true → (r08_read_k17 a0) = true → (0 : Int) ≤ (r08_read_k1 a0) ∧ (r08_read_k1 a0) ≤ (↑a0.length : Int) ∧ (↑a0.length : Int) ≤ (↑a0.length : Int))]
set_option maxRecDepth 100000 in
theorem r08_read_ev (a0 : List UInt8) : evF (envT Cf_4 L0) 9 118 [valA .bytes a0] 0 [] = some (1, r08_read_r a0, 0, r08_read_o a0, [((!(r08_read_k14 a0)) = true → ((getN a0).fst.tmod (2 : Int) == (1 : Int)) = true → (0 : Int) ≤ (getN a0).snd.fst ∧ (getN a0).snd.fst ≤ (↑a0.length : Int) ∧ (↑a0.length : Int) ≤ (↑a0.length : Int)), ((!(r08_read_k14 a0)) = true → ((getN a0).fst.tmod (2 : Int) == (1 : Int)) = true → (!(r08_read_k15 a0)) = true → (0 : Int) ≤ (r08_read_k9 a0) ∧ (r08_read_k9 a0) ≤ (↑a0.length : Int) ∧ (↑a0.length : Int) ≤ (↑a0.length : Int)), ((!(r08_read_k14 a0)) = true → ((getN a0).fst.tmod (2 : Int) == (1 : Int)) = true → (!(r08_read_k15 a0)) = true → (!(r08_read_k6 a0)) = true → (!(r08_read_k16 a0)) = true → (0 : Int) ≤ (r08_read_k5 a0) ∧ (r08_read_k5 a0) ≤ (↑a0.length : Int) ∧ (↑a0.length : Int) ≤ (↑a0.length : Int)), ((!(r08_read_k14 a0)) = true → ((getN a0).fst.tmod (2 : Int) == (1 : Int)) = true → (!(r08_read_k15 a0)) = true → (!(r08_read_k6 a0)) = true → (!(r08_read_k16 a0)) = true → boundP (List.take ((↑a0.length : Int).toNat - (r08_read_k5 a0).toNat) (List.drop (r08_read_k5 a0).toNat a0)).length), ((!(r08_read_k14 a0)) = true → (!(r08_read_k2 a0)) = true → (r08_read_k17 a0) = true → (0 : Int) ≤ (r08_read_k1 a0) ∧ (r08_read_k1 a0) ≤ (↑a0.length : Int) ∧ (↑a0.length : Int) ≤ (↑a0.length : Int))]) := by kernel_rfl
set_option maxRecDepth 100000 in
theorem r08_read_c (a0 : List UInt8) (hp : ∀ p ∈ r08_read_ps a0, p) : CallOk Try.prog 118 [valA .bytes a0] 0 [] 1 (r08_read_r a0) 0 (r08_read_o a0) := by
  have n0 : ((!(r08_read_k14 a0)) = true → ((getN a0).fst.tmod (2 : Int) == (1 : Int)) = true → (0 : Int) ≤ (getN a0).snd.fst ∧ (getN a0).snd.fst ≤ (↑a0.length : Int) ∧ (↑a0.length : Int) ≤ (↑a0.length : Int)) := hp _ (List.mem_cons_self ..)
  have n1 : ((!(r08_read_k14 a0)) = true → ((getN a0).fst.tmod (2 : Int) == (1 : Int)) = true → (!(r08_read_k15 a0)) = true → (0 : Int) ≤ (r08_read_k9 a0) ∧ (r08_read_k9 a0) ≤ (↑a0.length : Int) ∧ (↑a0.length : Int) ≤ (↑a0.length : Int)) := hp _ (List.mem_cons_of_mem _ (List.mem_cons_self ..))
  have n2 : ((!(r08_read_k14 a0)) = true → ((getN a0).fst.tmod (2 : Int) == (1 : Int)) = true → (!(r08_read_k15 a0)) = true → (!(r08_read_k6 a0)) = true → (!(r08_read_k16 a0)) = true → (0 : Int) ≤ (r08_read_k5 a0) ∧ (r08_read_k5 a0) ≤ (↑a0.length : Int) ∧ (↑a0.length : Int) ≤ (↑a0.length : Int)) := hp _ (List.mem_cons_of_mem _ (List.mem_cons_of_mem _ (List.mem_cons_self ..)))
  have n3 : ((!(r08_read_k14 a0)) = true → ((getN a0).fst.tmod (2 : Int) == (1 : Int)) = true → (!(r08_read_k15 a0)) = true → (!(r08_read_k6 a0)) = true → (!(r08_read_k16 a0)) = true → boundP (List.take ((↑a0.length : Int).toNat - (r08_read_k5 a0).toNat) (List.drop (r08_read_k5 a0).toNat a0)).length) := hp _ (List.mem_cons_of_mem _ (List.mem_cons_of_mem _ (List.mem_cons_of_mem _ (List.mem_cons_self ..))))
  have n4 : ((!(r08_read_k14 a0)) = true → (!(r08_read_k2 a0)) = true → (r08_read_k17 a0) = true → (0 : Int) ≤ (r08_read_k1 a0) ∧ (r08_read_k1 a0) ≤ (↑a0.length : Int) ∧ (↑a0.length : Int) ≤ (↑a0.length : Int)) := hp _ (List.mem_cons_of_mem _ (List.mem_cons_of_mem _ (List.mem_cons_of_mem _ (List.mem_cons_of_mem _ (List.mem_cons_self ..)))))
  exact evF_ok (envP_ok Cf_4_ok L0_ok) (r08_read_ev a0) (needs_cons n0 (needs_cons n1 (needs_cons n2 (needs_cons n3 (needs_cons n4 needs_nil)))))
def readOk (b : List UInt8) : Bool := (getN b).2.2 == 0 && decide ((getN b).1 ≤ 7) && (stB b).1
def readC (b : List UInt8) : TCell := bif readOk b then (stB b).2.1 else r08_read_0 b
def readK (b : List UInt8) : Int := bif readOk b then (stB b).2.2 else 0
def r08_read_r2 (a0 : List UInt8) : A := .v (.tuple ⟨[.agg ⟨[.int .i64 (readC a0).stamp.n, .int .i64 (readC a0).stamp.site, .int .i64 (readC a0).vec.a, .int .i64 (readC a0).vec.b, .bool (readC a0).gone, .string (readC a0).value, .int .i64 (readC a0).dead.a, .int .i64 (readC a0).dead.b]⟩, .int .i64 (readK a0), .bool (readOk a0)]⟩)
def r08_read_o2 (_a0 : List UInt8) : Objs := []
def r08_read_ps2 (a0 : List UInt8) : List Prop := [boundP a0.length]
theorem bits7 {n : Int} (h0 : 0 ≤ n) (h7 : n ≤ 7) : (n.tmod 2 == 1) = bitN n 0 ∧ ((IntKind.i64.wrap (n.tdiv 2)).tmod 2 == 1) = bitN n 1 ∧ (IntKind.i64.wrap (n.tdiv 4) == 1) = bitN n 2 := by
  obtain ⟨m, rfl⟩ : ∃ m : Nat, n = (m : Int) := ⟨n.toNat, (Int.toNat_of_nonneg h0).symm⟩
  have : m ≤ 7 := by omega
  match m, this with
  | 0, _ => exact ⟨rfl, rfl, rfl⟩
  | 1, _ => exact ⟨rfl, rfl, rfl⟩
  | 2, _ => exact ⟨rfl, rfl, rfl⟩
  | 3, _ => exact ⟨rfl, rfl, rfl⟩
  | 4, _ => exact ⟨rfl, rfl, rfl⟩
  | 5, _ => exact ⟨rfl, rfl, rfl⟩
  | 6, _ => exact ⟨rfl, rfl, rfl⟩
  | 7, _ => exact ⟨rfl, rfl, rfl⟩
  | m + 8, h => omega
theorem r08_read_eq (b : List UInt8) (hb : boundP b.length) : (∀ p ∈ r08_read_ps b, p) ∧ (r08_read_0 b, r08_read_1 b, r08_read_2 b) = (readC b, readK b, readOk b) := by
  unfold boundP at hb
  obtain ⟨a1, a2, _, a3, a4⟩ := getN_bounds b
  cases h14 : r08_read_k14 b with
  | true =>
    have no : (!r08_read_k14 b) = true → False := fun h => by rw [h14] at h; cases h
    have hro : readOk b = false := by
      unfold r08_read_k14 at h14
      unfold readOk
      rw [Bool.and_eq_false_iff]
      left
      rw [Bool.or_eq_true, bne_iff_ne, decide_eq_true_eq] at h14
      rw [Bool.and_eq_false_iff, decide_eq_false_iff_not]
      rcases h14 with h | h
      · left; simpa using h
      · right; omega
    refine ⟨needs_cons (fun h => (no h).elim) (needs_cons (fun h => (no h).elim) (needs_cons (fun h => (no h).elim) (needs_cons (fun h => (no h).elim) (needs_cons (fun h => (no h).elim) needs_nil)))), ?_⟩
    unfold readC readK
    rw [hro]
    unfold r08_read_1 r08_read_2
    rw [h14]
    rfl
  | false =>
    have h14' := h14
    unfold r08_read_k14 at h14'
    rw [Bool.or_eq_false_iff, decide_eq_false_iff_not] at h14'
    have hE : (getN b).2.2 = 0 := by
      have := h14'.1
      simpa using this
    have h7 : (getN b).1 ≤ 7 := by omega
    have e0 : ((getN b).2.2 == (0 : Int)) = true := by rw [hE]; rfl
    obtain ⟨B0, B1, B2⟩ := bits7 a3 h7
    have k16 : r08_read_k16 b = bitN (getN b).1 1 := B1
    have k17 : r08_read_k17 b = bitN (getN b).1 2 := B2
    obtain ⟨s1, s2⟩ := getS_bounds (b.drop (getN b).2.1.toNat)
    rw [List.length_drop] at s2
    have e9 : r08_read_k9 b = (getN b).2.1 + (getS (b.drop (getN b).2.1.toNat)).2.1 := by
      unfold r08_read_k9
      rw [slice_all, i64_in (by omega)]
    obtain ⟨v1, v2⟩ := getV_bounds (b.drop ((getN b).2.1 + (getS (b.drop (getN b).2.1.toNat)).2.1).toNat)
    rw [List.length_drop] at v2
    have e5 : r08_read_k5 b = (getN b).2.1 + (getS (b.drop (getN b).2.1.toNat)).2.1 + (getV (b.drop ((getN b).2.1 + (getS (b.drop (getN b).2.1.toNat)).2.1).toNat)).2.1 := by
      unfold r08_read_k5
      rw [e9, slice_all, i64_in (by omega)]
    obtain ⟨t1, t2⟩ := getT_bounds (b.drop ((getN b).2.1 + (getS (b.drop (getN b).2.1.toNat)).2.1 + (getV (b.drop ((getN b).2.1 + (getS (b.drop (getN b).2.1.toNat)).2.1).toNat)).2.1).toNat) 64
    rw [List.length_drop] at t2
    have hk1 : r08_read_k1 b = (stA b).2.2 ∧ 0 ≤ (stA b).2.2 ∧ (stA b).2.2 ≤ (b.length : Int) := by
      unfold r08_read_k1 stA
      rw [e5, k16, B0, e0, slice_all, i64_in (by omega)]
      cases bitN (getN b).1 0 <;> cases bitN (getN b).1 1 <;> refine ⟨rfl, ?_, ?_⟩ <;> (first | exact a1 | exact a2 | (simp only [cond_true, cond_false, Bool.not_true, Bool.not_false, Bool.and_true]; omega))
    obtain ⟨e1, e1a, e1b⟩ := hk1
    obtain ⟨d1, d2⟩ := getV_bounds (b.drop (stA b).2.2.toNat)
    rw [List.length_drop] at d2
    have hA : (stA b).1 = !r08_read_k2 b := by
      unfold r08_read_k2 r08_read_k15 r08_read_k6 stA bne
      rw [e5, e9, k16, B0, e0, slice_all, slice_all, slice_all]
      cases bitN (getN b).1 0 <;> cases bitN (getN b).1 1 <;> simp only [cond_true, cond_false, Bool.not_true, Bool.not_false, Bool.and_true, Bool.true_and, Bool.false_and, Bool.and_false, Bool.not_or, Bool.not_not, Bool.or_false, Bool.and_assoc]
    have hcell : (stA b).2.1 = ⟨⟨r08_read_k10 b, r08_read_k11 b⟩, ⟨r08_read_k12 b, r08_read_k13 b⟩, r08_read_k7 b, r08_read_k3 b, ⟨0, 0⟩⟩ := by
      unfold r08_read_k10 r08_read_k11 r08_read_k12 r08_read_k13 r08_read_k7 r08_read_k3 stA
      rw [e5, e9, k16, B0, e0, slice_all, slice_all, slice_all]
      cases bitN (getN b).1 0 <;> cases bitN (getN b).1 1 <;> rfl
    have k8 : r08_read_k8 b = 0 := by
      unfold r08_read_k8
      cases ((getN b).1.tmod 2 == 1) <;> cases r08_read_k16 b <;> rfl
    have k4 : r08_read_k4 b = 0 := by
      unfold r08_read_k4
      cases r08_read_k15 b <;> cases r08_read_k6 b <;> rfl
    have k0 : r08_read_k0 b = (bitN (getN b).1 2 && !((getV (b.drop (stA b).2.2.toNat)).2.2 == 0)) := by
      unfold r08_read_k0 bne
      rw [k17, e1, slice_all]
    refine ⟨needs_cons (fun _ _ => by omega) (needs_cons (fun _ _ _ => by rw [e9]; omega) (needs_cons (fun _ _ _ _ _ => by rw [e5]; omega) (needs_cons (fun _ _ _ _ _ => by rw [e5, slice_all, List.length_drop]; unfold boundP; omega) (needs_cons (fun _ _ _ => by rw [e1]; omega) needs_nil)))), ?_⟩
    have hro : readOk b = (!r08_read_k2 b && !r08_read_k0 b) := by
      unfold readOk stB
      rw [e0, decide_eq_true h7, k0, hA]
      cases h2 : r08_read_k2 b <;> cases bitN (getN b).1 2 <;> simp [hA, h2]
    unfold readC readK
    rw [hro]
    cases h2 : r08_read_k2 b with
    | true =>
      unfold r08_read_1 r08_read_2
      rw [h14, h2, k4]
      simp only [cond_false, cond_true, Bool.not_true, Bool.false_and, Prod.mk.injEq, true_and]
      cases r08_read_k15 b <;> cases r08_read_k6 b <;> rfl
    | false =>
      cases h0 : r08_read_k0 b with
      | true =>
        unfold r08_read_1 r08_read_2
        rw [h14, h2, h0]
        rfl
      | false =>
        unfold r08_read_0 r08_read_1 r08_read_2 stB
        rw [h14, h2, h0, k17, hA, h2]
        simp only [cond_false, cond_true, Bool.not_false, Bool.and_true, Bool.true_and]
        cases bitN (getN b).1 2 with
        | true => simp only [cond_true]; rw [hcell, e1, slice_all, i64_in (by omega)]
        | false => simp only [cond_false]; rw [hcell, e1, k8]
theorem r08_read_c2 (a0 : List UInt8) (hp : ∀ p ∈ r08_read_ps2 a0, p) : CallOk Try.prog 118 [valA .bytes a0] 0 [] 1 (r08_read_r2 a0) 0 (r08_read_o2 a0) := by
  obtain ⟨h1, h2⟩ := r08_read_eq a0 (hp _ (List.mem_cons_self ..))
  have h := r08_read_c a0 h1
  have hr : r08_read_r a0 = r08_read_r2 a0 := by
    injection h2 with h3 h4
    injection h4 with h4 h5
    unfold r08_read_r r08_read_r2
    rw [h3, h4, h5]
  rw [hr] at h
  exact h
def r08_read_t : List A → Nat → Objs → Option CRes
  | [y0], nx, o => match argU .bytes y0 with
    | some (a0, p0) => some (1, (r08_read_r2 a0).pk (shiftR nx), nx + 0, shiftO nx (r08_read_o2 a0) ++ o, p0 ++ (r08_read_ps2 a0))
    | _ => none
  | _, _, _ => none
theorem r08_read_tok : TOk Try.prog 118 r08_read_t := fun args nx o k x nx' o' ps h => by
  unfold r08_read_t at h
  split at h <;> first | (cases h; done) | skip
  split at h <;> first | (cases h; done) | skip
  rename_i a0 p0 e0
  cases h
  refine ⟨fun hp => ?_, _, rfl⟩
  have q0 := fun p hm => hp p (List.mem_append.2 (.inl hm))
  have r0 := fun p hm => hp p (List.mem_append.2 (.inr hm))
  refine callOk_args (callOk_shift (r08_read_c2 a0 r0) (Nat.le_refl _) (freeL_cons (valA_free _ _) freeL_nil) nx o) fun F N R vs hl => ?_
  obtain ⟨v0, w0, rfl, h0, hl⟩ := hl.inv
  exact HL.cons (argU_ok e0 q0 h0) (hl)
noncomputable def Cf_5 := addC 118 r08_read_t Cf_4
theorem Cf_5_ok : COk Try.prog Cf_5 := addC_ok r08_read_tok Cf_4_ok

noncomputable def Cf := Cf_5
theorem Cf_ok : COk Try.prog Cf := Cf_5_ok
end Go.Proofs.Yteebobbhhgmeiaa
