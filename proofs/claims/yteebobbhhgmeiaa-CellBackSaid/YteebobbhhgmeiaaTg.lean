/- made by a program (gent.py): what functions come to, by their symbolic run over typed data. -/
import Derived.Test.YteebobbhhgmeiaaTf
namespace Go.Proofs.Yteebobbhhgmeiaa
open Go.RowKit

def r08_Get_k0 (a0 : List UInt8) (a1 : Int) : Bool := bif !(!readOk a0 || !r08_Good_0 a1 (readC a0)) then !(ByteArray.mk ([] ++ putC a1 (readC a0)).toArray).toList == (ByteArray.mk (List.take ((readK a0).toNat - (0 : Nat)) (List.drop (0 : Nat) a0)).toArray).toList else true
def r08_Get_0 (a0 : List UInt8) (a1 : Int) : TCell := TCell.mk (TStamp.mk (bif (r08_Get_k0 a0 a1) then (0 : Int) else (readC a0).1.1) (bif (r08_Get_k0 a0 a1) then (0 : Int) else (readC a0).1.2)) (TVec.mk (bif (r08_Get_k0 a0 a1) then (0 : Int) else (readC a0).2.1) (bif (r08_Get_k0 a0 a1) then (0 : Int) else (readC a0).2.2)) (bif (r08_Get_k0 a0 a1) then false else (readC a0).3) (bif (r08_Get_k0 a0 a1) then ByteArray.mk #[] else (readC a0).4) (TVec.mk (bif (r08_Get_k0 a0 a1) then (0 : Int) else (readC a0).5.1) (bif (r08_Get_k0 a0 a1) then (0 : Int) else (readC a0).5.2))
def r08_Get_1 (a0 : List UInt8) (a1 : Int) : Int := bif (r08_Get_k0 a0 a1) then (0 : Int) else readK a0
def r08_Get_2 (a0 : List UInt8) (a1 : Int) : Int := bif (r08_Get_k0 a0 a1) then (80 : Int) else (0 : Int)
def r08_Get_r (a0 : List UInt8) (a1 : Int) : A := .v (.tuple ⟨[.agg ⟨[.int .i64 ((r08_Get_0 a0 a1).stamp.n), .int .i64 ((r08_Get_0 a0 a1).stamp.site), .int .i64 ((r08_Get_0 a0 a1).vec.a), .int .i64 ((r08_Get_0 a0 a1).vec.b), .bool ((r08_Get_0 a0 a1).gone), .string ((r08_Get_0 a0 a1).value), .int .i64 ((r08_Get_0 a0 a1).dead.a), .int .i64 ((r08_Get_0 a0 a1).dead.b)]⟩, .int .i64 (r08_Get_1 a0 a1), .int .i64 (r08_Get_2 a0 a1)]⟩)
def r08_Get_o (_a0 : List UInt8) (_a1 : Int) : Objs := []
def r08_Get_ps (a0 : List UInt8) (a1 : Int) : List Prop := [(boundP a0.length), ((!readOk a0 || !r08_Good_0 a1 (readC a0)) = false → (0 : Int) ≤ (0 : Int) ∧ (0 : Int) ≤ readK a0 ∧ readK a0 ≤ (↑a0.length : Int))]
set_option maxRecDepth 100000 in
theorem r08_Get_ev (a0 : List UInt8) (a1 : Int) : evF (envT Cf L0) 9 55 [valA .bytes a0, valA .i64 a1] 0 [] = some (1, r08_Get_r a0 a1, 0, r08_Get_o a0 a1, [(boundP a0.length), ((!readOk a0 || !r08_Good_0 a1 (readC a0)) = false → (0 : Int) ≤ (0 : Int) ∧ (0 : Int) ≤ readK a0 ∧ readK a0 ≤ (↑a0.length : Int)), ((!(!readOk a0 || !r08_Good_0 a1 (readC a0))) = true → boundP (128 : Nat)), (true = true), (true = true), (true = true)]) := by kernel_rfl
set_option maxRecDepth 100000 in
theorem r08_Get_c (a0 : List UInt8) (a1 : Int) (hp : ∀ p ∈ r08_Get_ps a0 a1, p) : CallOk Try.prog 55 [valA .bytes a0, valA .i64 a1] 0 [] 1 (r08_Get_r a0 a1) 0 (r08_Get_o a0 a1) := by
  have n0 : (boundP a0.length) := hp _ (List.mem_cons_self ..)
  have n1 : ((!readOk a0 || !r08_Good_0 a1 (readC a0)) = false → (0 : Int) ≤ (0 : Int) ∧ (0 : Int) ≤ readK a0 ∧ readK a0 ≤ (↑a0.length : Int)) := hp _ (List.mem_cons_of_mem _ (List.mem_cons_self ..))
  have n2 : ((!(!readOk a0 || !r08_Good_0 a1 (readC a0))) = true → boundP (128 : Nat)) := by intros; first | rfl | decide +kernel | exact ⟨by decide, by decide⟩
  have n3 : (true = true) := by first | rfl | decide +kernel
  exact evF_ok (envP_ok Cf_ok L0_ok) (r08_Get_ev a0 a1) (needs_cons n0 (needs_cons n1 (needs_cons n2 (needs_cons n3 (needs_cons n3 (needs_cons n3 needs_nil))))))
def r08_Get_r2 (a0 : List UInt8) (a1 : Int) : A := .v (.tuple ⟨[.agg ⟨[.int .i64 (getC a0 a1).1.stamp.n, .int .i64 (getC a0 a1).1.stamp.site, .int .i64 (getC a0 a1).1.vec.a, .int .i64 (getC a0 a1).1.vec.b, .bool (getC a0 a1).1.gone, .string (getC a0 a1).1.value, .int .i64 (getC a0 a1).1.dead.a, .int .i64 (getC a0 a1).1.dead.b]⟩, .int .i64 (getC a0 a1).2.1, .int .i64 (getC a0 a1).2.2]⟩)
def r08_Get_o2 (_a0 : List UInt8) (_a1 : Int) : Objs := []
def r08_Get_ps2 (a0 : List UInt8) (_a1 : Int) : List Prop := [boundP a0.length]
theorem stA_bounds (b : List UInt8) : 0 ≤ (stA b).2.2 ∧ (stA b).2.2 ≤ (b.length : Int) := by
  obtain ⟨a1, a2, _, a3, a4⟩ := getN_bounds b
  obtain ⟨s1, s2⟩ := getS_bounds (b.drop (getN b).2.1.toNat)
  rw [List.length_drop] at s2
  obtain ⟨v1, v2⟩ := getV_bounds (b.drop ((getN b).2.1 + (getS (b.drop (getN b).2.1.toNat)).2.1).toNat)
  rw [List.length_drop] at v2
  obtain ⟨t1, t2⟩ := getT_bounds (b.drop ((getN b).2.1 + (getS (b.drop (getN b).2.1.toNat)).2.1 + (getV (b.drop ((getN b).2.1 + (getS (b.drop (getN b).2.1.toNat)).2.1).toNat)).2.1).toNat) 64
  rw [List.length_drop] at t2
  unfold stA
  cases ((getN b).2.2 == 0 && bitN (getN b).1 0) <;> cases bitN (getN b).1 1 <;> refine ⟨?_, ?_⟩ <;> (first | exact a1 | exact a2 | (simp only [cond_true, cond_false, Bool.not_true, Bool.not_false]; omega))
theorem stB_bounds (b : List UInt8) : 0 ≤ (stB b).2.2 ∧ (stB b).2.2 ≤ (b.length : Int) := by
  obtain ⟨a1, a2⟩ := stA_bounds b
  obtain ⟨d1, d2⟩ := getV_bounds (b.drop (stA b).2.2.toNat)
  rw [List.length_drop] at d2
  unfold stB
  cases ((stA b).1 && bitN (getN b).1 2) <;> refine ⟨?_, ?_⟩ <;> (first | exact a1 | exact a2 | (simp only [cond_true]; omega))
theorem stB_e {b : List UInt8} (h : (stB b).1 = true) : (getN b).2.2 = 0 := by
  have hA : (stA b).1 = true := by
    unfold stB at h
    rw [Bool.cond_eq_ite] at h
    split at h
    · simp only [Bool.and_eq_true] at h; exact h.1
    · exact h
  unfold stA at hA
  rw [Bool.cond_eq_ite] at hA
  split at hA
  · rename_i h1
    simp only [Bool.and_eq_true, beq_iff_eq] at h1
    exact h1.1
  · simpa using hA
theorem getC_st {b : List UInt8} {p : Int} {c : TCell} {k : Int} (h : getC b p = (c, k, 0)) : stB b = (true, c, k) ∧ (getN b).1 ≤ 7 := by
  unfold getC at h
  rw [Bool.cond_eq_ite] at h
  split at h
  · injection h with e1 e2; injection e2 with e2 e3; cases e3
  · rename_i hc
    have hc := Bool.eq_false_iff.2 hc
    simp only [Bool.or_eq_false_iff, Bool.not_eq_false'] at hc
    obtain ⟨⟨hB, hR⟩, hG⟩ := hc
    injection h with e1 e2
    injection e2 with e2 e3
    refine ⟨by rw [← hB, ← e1, ← e2], ?_⟩
    unfold rightC at hR
    simp only [Bool.and_eq_true, decide_eq_true_eq] at hR
    exact hR.1.1.1
theorem readOk_of {b : List UInt8} {c : TCell} {k : Int} (h : stB b = (true, c, k)) (h7 : (getN b).1 ≤ 7) : readOk b = true ∧ readC b = c ∧ readK b = k := by
  have hr : readOk b = true := by
    unfold readOk
    rw [stB_e (by rw [h]), decide_eq_true h7, h]
    rfl
  unfold readC readK
  rw [hr, h]
  exact ⟨rfl, rfl, rfl⟩
theorem r08_Get_eq (b : List UInt8) (p : Int) (hb : boundP b.length) : (∀ q ∈ r08_Get_ps b p, q) ∧ (r08_Get_0 b p, r08_Get_1 b p, r08_Get_2 b p) = getC b p := by
  obtain ⟨s1, s2⟩ := stB_bounds b
  have hk : (readOk b = true → readK b = (stB b).2.2) := fun h => by unfold readK; rw [h]; rfl
  refine ⟨needs_cons hb (needs_cons (fun h => ?_) needs_nil), ?_⟩
  · rw [Bool.or_eq_false_iff, Bool.not_eq_false'] at h
    rw [hk h.1]
    omega
  · have e0 : List.take ((readK b).toNat - (0 : Nat)) (List.drop (0 : Nat) b) = b.take (readK b).toNat := by simp
    cases hk0 : r08_Get_k0 b p with
    | true =>
      have hx : (r08_Get_0 b p, r08_Get_1 b p, r08_Get_2 b p) = (zeroC, 0, 80) := by
        unfold r08_Get_0 r08_Get_1 r08_Get_2
        rw [hk0]
        rfl
      refine getC_only (fun h => ?_) fun _ => ⟨hx, fun c r hg hbb => ?_⟩
      · rw [hx] at h; cases h
      · have hgc := getC_back hg r
        rw [← hbb] at hgc
        obtain ⟨q1, q2⟩ := getC_st hgc
        obtain ⟨r1, r2, r3⟩ := readOk_of q1 q2
        unfold r08_Get_k0 at hk0
        rw [e0, r1, r2, r3, r08_Good_eq, hg, Int.toNat_natCast] at hk0
        have ht : b.take (putC p c).length = putC p c := by rw [hbb]; exact List.take_left
        rw [ht, List.nil_append] at hk0
        simp at hk0
    | false =>
      have hk0' := hk0
      unfold r08_Get_k0 at hk0'
      cases hro : readOk b with
      | false => rw [hro] at hk0'; cases hk0'
      | true =>
        cases hg : goodC p (readC b) with
        | false => rw [hro, r08_Good_eq, hg] at hk0'; cases hk0'
        | true =>
          rw [hro, r08_Good_eq, hg, e0] at hk0'
          simp only [Bool.not_true, Bool.or_false, Bool.not_false, cond_true, Bool.not_eq_false'] at hk0'
          have heq := eqB_iff.1 hk0'
          have hput : putC p (readC b) = b.take (readK b).toNat := by
            have := congrArg (fun x : ByteArray => x.data.toList) heq
            simpa using this
          have hx : (r08_Get_0 b p, r08_Get_1 b p, r08_Get_2 b p) = (readC b, readK b, 0) := by
            unfold r08_Get_0 r08_Get_1 r08_Get_2
            rw [hk0]
            rfl
          rw [hx]
          refine getC_only (fun _ => ⟨hg, ?_, b.drop (readK b).toNat, ?_⟩) fun h => absurd rfl h
          · show readK b = ((putC p (readC b)).length : Int)
            rw [hput, List.length_take]
            have := hk hro
            omega
          · show b = putC p (readC b) ++ _
            rw [hput, List.take_append_drop]
theorem r08_Get_c2 (a0 : List UInt8) (a1 : Int) (hp : ∀ p ∈ r08_Get_ps2 a0 a1, p) : CallOk Try.prog 55 [valA .bytes a0, valA .i64 a1] 0 [] 1 (r08_Get_r2 a0 a1) 0 (r08_Get_o2 a0 a1) := by
  obtain ⟨h1, h2⟩ := r08_Get_eq a0 a1 (hp _ (List.mem_cons_self ..))
  have h := r08_Get_c a0 a1 h1
  have hr : r08_Get_r a0 a1 = r08_Get_r2 a0 a1 := by unfold r08_Get_r r08_Get_r2; rw [← h2]
  rw [hr] at h
  exact h
def r08_Get_t : List A → Nat → Objs → Option CRes
  | [y0, y1], nx, o => match argU .bytes y0, argU .i64 y1 with
    | some (a0, p0), some (a1, p1) => some (1, (r08_Get_r2 a0 a1).pk (shiftR nx), nx + 0, shiftO nx (r08_Get_o2 a0 a1) ++ o, p0 ++ (p1 ++ (r08_Get_ps2 a0 a1)))
    | _, _ => none
  | _, _, _ => none
theorem r08_Get_tok : TOk Try.prog 55 r08_Get_t := fun args nx o k x nx' o' ps h => by
  unfold r08_Get_t at h
  split at h <;> first | (cases h; done) | skip
  split at h <;> first | (cases h; done) | skip
  rename_i a0 p0 a1 p1 e0 e1
  cases h
  refine ⟨fun hp => ?_, _, rfl⟩
  have q0 := fun p hm => hp p (List.mem_append.2 (.inl hm))
  have r0 := fun p hm => hp p (List.mem_append.2 (.inr hm))
  have q1 := fun p hm => r0 p (List.mem_append.2 (.inl hm))
  have r1 := fun p hm => r0 p (List.mem_append.2 (.inr hm))
  refine callOk_args (callOk_shift (r08_Get_c2 a0 a1 r1) (Nat.le_refl _) (freeL_cons (valA_free _ _) (freeL_cons (valA_free _ _) freeL_nil)) nx o) fun F N R vs hl => ?_
  obtain ⟨v0, w0, rfl, h0, hl⟩ := hl.inv
  obtain ⟨v1, w1, rfl, h1, hl⟩ := hl.inv
  exact HL.cons (argU_ok e0 q0 h0) (HL.cons (argU_ok e1 q1 h1) (hl))
noncomputable def Cg_1 := addC 55 r08_Get_t Cf
theorem Cg_1_ok : COk Try.prog Cg_1 := addC_ok r08_Get_tok Cf_ok
def l08_lives_r  : A := .v (.bool (true))
def l08_lives_o  : Objs := []
def l08_lives_ps  : List Prop := []
set_option maxRecDepth 100000 in
theorem l08_lives_ev  : evF (envT Cg_1 L0) 1040 39 [] 0 [] = some (1, l08_lives_r , 0, l08_lives_o , [(true = true → boundP (128 : Nat)), (false = false), (false = false), (false = false)]) := by kernel_rfl
set_option maxRecDepth 100000 in
theorem l08_lives_c  (_hp : ∀ p ∈ l08_lives_ps , p) : CallOk Try.prog 39 [] 0 [] 1 (l08_lives_r ) 0 (l08_lives_o ) := by
  have n0 : (true = true → boundP (128 : Nat)) := by first | rfl | decide +kernel
  have n1 : (false = false) := by first | rfl | decide +kernel
  exact evF_ok (envP_ok Cg_1_ok L0_ok) (l08_lives_ev ) (needs_cons n0 (needs_cons n1 (needs_cons n1 (needs_cons n1 needs_nil))))
def l08_lives_t : List A → Nat → Objs → Option CRes
  | [], nx, o => some (1, (l08_lives_r ).pk (shiftR nx), nx + 0, shiftO nx (l08_lives_o ) ++ o, l08_lives_ps )
  | _, _, _ => none
theorem l08_lives_tok : TOk Try.prog 39 l08_lives_t := fun args nx o k x nx' o' ps h => by
  unfold l08_lives_t at h
  split at h <;> first | (cases h; done) | skip
  cases h
  refine ⟨fun hp => ?_, _, rfl⟩
  refine callOk_args (callOk_shift (l08_lives_c  hp) (Nat.le_refl _) freeL_nil nx o) fun F N R vs hl => ?_
  exact hl
noncomputable def Cg_2 := addC 39 l08_lives_t Cg_1
theorem Cg_2_ok : COk Try.prog Cg_2 := addC_ok l08_lives_tok Cg_1_ok
def l08_CellBytes_k1 (a0 : List UInt8) (a1 : Int) (a2 : TCell) : List UInt8 := (ByteArray.mk (a0 ++ putC a1 a2).toArray).toList
def l08_CellBytes_k0 (a0 : List UInt8) (_a1 : Int) (a2 : TCell) : Bool := decide ((↑a0.length : Int) > (5000 : Int)) || decide ((↑a2.4.size : Int) > (5000 : Int))
def l08_CellBytes_0 (a0 : List UInt8) (a1 : Int) (a2 : TCell) : Bool := bif (l08_CellBytes_k0 a0 a1 a2) then true else (l08_CellBytes_k1 a0 a1 a2) == (l08_CellBytes_k1 a0 a1 a2) && ((getC a0 a1).fst.1.1 == (getC a0 a1).fst.1.1 && (getC a0 a1).fst.1.2 == (getC a0 a1).fst.1.2 && ((getC a0 a1).fst.2.1 == (getC a0 a1).fst.2.1 && (getC a0 a1).fst.2.2 == (getC a0 a1).fst.2.2 && ((getC a0 a1).fst.3 == (getC a0 a1).fst.3 && ((getC a0 a1).fst.4.toList == (getC a0 a1).fst.4.toList && ((getC a0 a1).fst.5.1 == (getC a0 a1).fst.5.1 && (getC a0 a1).fst.5.2 == (getC a0 a1).fst.5.2))))) && (getC a0 a1).snd.fst == (getC a0 a1).snd.fst && (getC a0 a1).snd.snd == (getC a0 a1).snd.snd && true
def l08_CellBytes_r (a0 : List UInt8) (a1 : Int) (a2 : TCell) : A := .v (.bool (l08_CellBytes_0 a0 a1 a2))
def l08_CellBytes_o (_a0 : List UInt8) (_a1 : Int) (_a2 : TCell) : Objs := []
def l08_CellBytes_ps (a0 : List UInt8) (a1 : Int) (a2 : TCell) : List Prop := [((!(l08_CellBytes_k0 a0 a1 a2)) = true → boundP a0.length), ((!(l08_CellBytes_k0 a0 a1 a2)) = true → boundP (a0.length + (128 : Nat)))]
set_option maxRecDepth 100000 in
theorem l08_CellBytes_ev (a0 : List UInt8) (a1 : Int) (a2 : TCell) : evF (envT Cg_2 L0) 9 10 [valA .bytes a0, valA .i64 a1, valA .cell a2] 0 [] = some (1, l08_CellBytes_r a0 a1 a2, 0, l08_CellBytes_o a0 a1 a2, [((!(l08_CellBytes_k0 a0 a1 a2)) = true → boundP a0.length), ((!(l08_CellBytes_k0 a0 a1 a2)) = true → boundP a0.length), ((!(l08_CellBytes_k0 a0 a1 a2)) = true → boundP (a0.length + (128 : Nat))), ((!(l08_CellBytes_k0 a0 a1 a2)) = true → boundP (a0.length + (128 : Nat)))]) := by kernel_rfl
set_option maxRecDepth 100000 in
theorem l08_CellBytes_c (a0 : List UInt8) (a1 : Int) (a2 : TCell) (hp : ∀ p ∈ l08_CellBytes_ps a0 a1 a2, p) : CallOk Try.prog 10 [valA .bytes a0, valA .i64 a1, valA .cell a2] 0 [] 1 (l08_CellBytes_r a0 a1 a2) 0 (l08_CellBytes_o a0 a1 a2) := by
  have n0 : ((!(l08_CellBytes_k0 a0 a1 a2)) = true → boundP a0.length) := hp _ (List.mem_cons_self ..)
  have n2 : ((!(l08_CellBytes_k0 a0 a1 a2)) = true → boundP (a0.length + (128 : Nat))) := hp _ (List.mem_cons_of_mem _ (List.mem_cons_self ..))
  exact evF_ok (envP_ok Cg_2_ok L0_ok) (l08_CellBytes_ev a0 a1 a2) (needs_cons n0 (needs_cons n0 (needs_cons n2 (needs_cons n2 needs_nil))))
def l08_CellBytes_t : List A → Nat → Objs → Option CRes
  | [y0, y1, y2], nx, o => match argU .bytes y0, argU .i64 y1, argU .cell y2 with
    | some (a0, p0), some (a1, p1), some (a2, p2) => some (1, (l08_CellBytes_r a0 a1 a2).pk (shiftR nx), nx + 0, shiftO nx (l08_CellBytes_o a0 a1 a2) ++ o, p0 ++ (p1 ++ (p2 ++ (l08_CellBytes_ps a0 a1 a2))))
    | _, _, _ => none
  | _, _, _ => none
theorem l08_CellBytes_tok : TOk Try.prog 10 l08_CellBytes_t := fun args nx o k x nx' o' ps h => by
  unfold l08_CellBytes_t at h
  split at h <;> first | (cases h; done) | skip
  split at h <;> first | (cases h; done) | skip
  rename_i a0 p0 a1 p1 a2 p2 e0 e1 e2
  cases h
  refine ⟨fun hp => ?_, _, rfl⟩
  have q0 := fun p hm => hp p (List.mem_append.2 (.inl hm))
  have r0 := fun p hm => hp p (List.mem_append.2 (.inr hm))
  have q1 := fun p hm => r0 p (List.mem_append.2 (.inl hm))
  have r1 := fun p hm => r0 p (List.mem_append.2 (.inr hm))
  have q2 := fun p hm => r1 p (List.mem_append.2 (.inl hm))
  have r2 := fun p hm => r1 p (List.mem_append.2 (.inr hm))
  refine callOk_args (callOk_shift (l08_CellBytes_c a0 a1 a2 r2) (Nat.le_refl _) (freeL_cons (valA_free _ _) (freeL_cons (valA_free _ _) (freeL_cons (valA_free _ _) freeL_nil))) nx o) fun F N R vs hl => ?_
  obtain ⟨v0, w0, rfl, h0, hl⟩ := hl.inv
  obtain ⟨v1, w1, rfl, h1, hl⟩ := hl.inv
  obtain ⟨v2, w2, rfl, h2, hl⟩ := hl.inv
  exact HL.cons (argU_ok e0 q0 h0) (HL.cons (argU_ok e1 q1 h1) (HL.cons (argU_ok e2 q2 h2) (hl)))
noncomputable def Cg_3 := addC 10 l08_CellBytes_t Cg_2
theorem Cg_3_ok : COk Try.prog Cg_3 := addC_ok l08_CellBytes_tok Cg_2_ok
def l08_CellBack_k4 (a0 : Int) (_a1 : TCell) (a2 : List UInt8) : Bool := (getC a2 a0).snd.snd == (0 : Int)
def l08_CellBack_k3 (a0 : Int) (a1 : TCell) (_a2 : List UInt8) : List UInt8 := [] ++ ([] ++ putC a0 a1)
def l08_CellBack_k2 (_a0 : Int) (a1 : TCell) (a2 : List UInt8) : Bool := decide ((↑a2.length : Int) > (5000 : Int)) || decide ((↑a1.4.size : Int) > (5000 : Int))
def l08_CellBack_k1 (a0 : Int) (a1 : TCell) (a2 : List UInt8) : Bool := (l08_CellBack_k4 a0 a1 a2) && !decide ((getC a2 a0).snd.fst > (↑a2.length : Int))
def l08_CellBack_k0 (a0 : Int) (a1 : TCell) (a2 : List UInt8) : Bool := bif cell_Good_0 a0 a1 then !((getC ((l08_CellBack_k3 a0 a1 a2) ++ a2) a0).fst.1.1 == a1.1.1 && (getC ((l08_CellBack_k3 a0 a1 a2) ++ a2) a0).fst.1.2 == a1.1.2 && ((getC ((l08_CellBack_k3 a0 a1 a2) ++ a2) a0).fst.2.1 == a1.2.1 && (getC ((l08_CellBack_k3 a0 a1 a2) ++ a2) a0).fst.2.2 == a1.2.2 && ((getC ((l08_CellBack_k3 a0 a1 a2) ++ a2) a0).fst.3 == a1.3 && ((getC ((l08_CellBack_k3 a0 a1 a2) ++ a2) a0).fst.4.toList == a1.4.toList && ((getC ((l08_CellBack_k3 a0 a1 a2) ++ a2) a0).fst.5.1 == a1.5.1 && (getC ((l08_CellBack_k3 a0 a1 a2) ++ a2) a0).fst.5.2 == a1.5.2))))) || (getC ((l08_CellBack_k3 a0 a1 a2) ++ a2) a0).snd.fst != (↑([] ++ putC a0 a1).length : Int) || (getC ((l08_CellBack_k3 a0 a1 a2) ++ a2) a0).snd.snd != (0 : Int) else decide ((↑([] ++ putC a0 a1).length : Int) > (0 : Int))
def l08_CellBack_0 (a0 : Int) (a1 : TCell) (a2 : List UInt8) : Bool := bif (l08_CellBack_k2 a0 a1 a2) then true else bif (l08_CellBack_k0 a0 a1 a2) then bif cell_Good_0 a0 a1 then false else false else bif bif (l08_CellBack_k1 a0 a1 a2) then !(ByteArray.mk ([] ++ putC a0 (getC a2 a0).fst).toArray).toList == (ByteArray.mk (List.take ((getC a2 a0).snd.fst.toNat - (0 : Nat)) (List.drop (0 : Nat) a2)).toArray).toList else bif (l08_CellBack_k4 a0 a1 a2) then true else false then false else true
def l08_CellBack_r (a0 : Int) (a1 : TCell) (a2 : List UInt8) : A := .v (.bool (l08_CellBack_0 a0 a1 a2))
def l08_CellBack_o (_a0 : Int) (_a1 : TCell) (_a2 : List UInt8) : Objs := []
def l08_CellBack_ps (a0 : Int) (a1 : TCell) (a2 : List UInt8) : List Prop := [((!(l08_CellBack_k2 a0 a1 a2)) = true → cell_Good_0 a0 a1 = true → boundP ((0 : Nat) + ([] ++ putC a0 a1).length)), ((!(l08_CellBack_k2 a0 a1 a2)) = true → cell_Good_0 a0 a1 = true → boundP ((l08_CellBack_k3 a0 a1 a2).length + a2.length)), ((!(l08_CellBack_k2 a0 a1 a2)) = true → cell_Good_0 a0 a1 = true → boundP ((l08_CellBack_k3 a0 a1 a2) ++ a2).length), ((!(l08_CellBack_k2 a0 a1 a2)) = true → (!(l08_CellBack_k0 a0 a1 a2)) = true → boundP a2.length), ((!(l08_CellBack_k2 a0 a1 a2)) = true → (!(l08_CellBack_k0 a0 a1 a2)) = true → decide ((getC a2 a0).snd.fst > (↑a2.length : Int)) = false → (l08_CellBack_k4 a0 a1 a2) = true → (0 : Int) ≤ (0 : Int) ∧ (0 : Int) ≤ (getC a2 a0).snd.fst ∧ (getC a2 a0).snd.fst ≤ (↑a2.length : Int))]
set_option maxRecDepth 100000 in
theorem l08_CellBack_ev (a0 : Int) (a1 : TCell) (a2 : List UInt8) : evF (envT Cg_3 L0) 9 11 [valA .i64 a0, valA .cell a1, valA .bytes a2] 0 [] = some (1, l08_CellBack_r a0 a1 a2, 0, l08_CellBack_o a0 a1 a2, [((!(l08_CellBack_k2 a0 a1 a2)) = true → boundP (128 : Nat)), ((!(l08_CellBack_k2 a0 a1 a2)) = true → cell_Good_0 a0 a1 = true → boundP ((0 : Nat) + ([] ++ putC a0 a1).length)), ((!(l08_CellBack_k2 a0 a1 a2)) = true → cell_Good_0 a0 a1 = true → boundP ((l08_CellBack_k3 a0 a1 a2).length + a2.length)), ((!(l08_CellBack_k2 a0 a1 a2)) = true → cell_Good_0 a0 a1 = true → boundP ((l08_CellBack_k3 a0 a1 a2) ++ a2).length), ((!(l08_CellBack_k2 a0 a1 a2)) = true → (!(l08_CellBack_k0 a0 a1 a2)) = true → boundP a2.length), ((!(l08_CellBack_k2 a0 a1 a2)) = true → (!(l08_CellBack_k0 a0 a1 a2)) = true → decide ((getC a2 a0).snd.fst > (↑a2.length : Int)) = false → (l08_CellBack_k4 a0 a1 a2) = true → (0 : Int) ≤ (0 : Int) ∧ (0 : Int) ≤ (getC a2 a0).snd.fst ∧ (getC a2 a0).snd.fst ≤ (↑a2.length : Int)), ((!(l08_CellBack_k2 a0 a1 a2)) = true → (!(l08_CellBack_k0 a0 a1 a2)) = true → (l08_CellBack_k1 a0 a1 a2) = true → boundP (128 : Nat)), ((!(l08_CellBack_k2 a0 a1 a2)) = true → (!(l08_CellBack_k0 a0 a1 a2)) = true → (l08_CellBack_k4 a0 a1 a2) = true → true = true), ((!(l08_CellBack_k2 a0 a1 a2)) = true → (!(l08_CellBack_k0 a0 a1 a2)) = true → (l08_CellBack_k4 a0 a1 a2) = true → true = true), ((!(l08_CellBack_k2 a0 a1 a2)) = true → (!(l08_CellBack_k0 a0 a1 a2)) = true → (l08_CellBack_k4 a0 a1 a2) = true → true = true → true = true), ((!(l08_CellBack_k2 a0 a1 a2)) = true → (!(l08_CellBack_k0 a0 a1 a2)) = true → false = false), ((!(l08_CellBack_k2 a0 a1 a2)) = true → (!(l08_CellBack_k0 a0 a1 a2)) = true → false = false)]) := by kernel_rfl
set_option maxRecDepth 100000 in
theorem l08_CellBack_c (a0 : Int) (a1 : TCell) (a2 : List UInt8) (hp : ∀ p ∈ l08_CellBack_ps a0 a1 a2, p) : CallOk Try.prog 11 [valA .i64 a0, valA .cell a1, valA .bytes a2] 0 [] 1 (l08_CellBack_r a0 a1 a2) 0 (l08_CellBack_o a0 a1 a2) := by
  have n0 : ((!(l08_CellBack_k2 a0 a1 a2)) = true → boundP (128 : Nat)) := by intros; first | rfl | decide +kernel | exact ⟨by decide, by decide⟩
  have n1 : ((!(l08_CellBack_k2 a0 a1 a2)) = true → cell_Good_0 a0 a1 = true → boundP ((0 : Nat) + ([] ++ putC a0 a1).length)) := hp _ (List.mem_cons_self ..)
  have n2 : ((!(l08_CellBack_k2 a0 a1 a2)) = true → cell_Good_0 a0 a1 = true → boundP ((l08_CellBack_k3 a0 a1 a2).length + a2.length)) := hp _ (List.mem_cons_of_mem _ (List.mem_cons_self ..))
  have n3 : ((!(l08_CellBack_k2 a0 a1 a2)) = true → cell_Good_0 a0 a1 = true → boundP ((l08_CellBack_k3 a0 a1 a2) ++ a2).length) := hp _ (List.mem_cons_of_mem _ (List.mem_cons_of_mem _ (List.mem_cons_self ..)))
  have n4 : ((!(l08_CellBack_k2 a0 a1 a2)) = true → (!(l08_CellBack_k0 a0 a1 a2)) = true → boundP a2.length) := hp _ (List.mem_cons_of_mem _ (List.mem_cons_of_mem _ (List.mem_cons_of_mem _ (List.mem_cons_self ..))))
  have n5 : ((!(l08_CellBack_k2 a0 a1 a2)) = true → (!(l08_CellBack_k0 a0 a1 a2)) = true → decide ((getC a2 a0).snd.fst > (↑a2.length : Int)) = false → (l08_CellBack_k4 a0 a1 a2) = true → (0 : Int) ≤ (0 : Int) ∧ (0 : Int) ≤ (getC a2 a0).snd.fst ∧ (getC a2 a0).snd.fst ≤ (↑a2.length : Int)) := hp _ (List.mem_cons_of_mem _ (List.mem_cons_of_mem _ (List.mem_cons_of_mem _ (List.mem_cons_of_mem _ (List.mem_cons_self ..)))))
  have n6 : ((!(l08_CellBack_k2 a0 a1 a2)) = true → (!(l08_CellBack_k0 a0 a1 a2)) = true → (l08_CellBack_k1 a0 a1 a2) = true → boundP (128 : Nat)) := by intros; first | rfl | decide +kernel | exact ⟨by decide, by decide⟩
  have n7 : ((!(l08_CellBack_k2 a0 a1 a2)) = true → (!(l08_CellBack_k0 a0 a1 a2)) = true → (l08_CellBack_k4 a0 a1 a2) = true → true = true) := by intros; rfl
  have n9 : ((!(l08_CellBack_k2 a0 a1 a2)) = true → (!(l08_CellBack_k0 a0 a1 a2)) = true → (l08_CellBack_k4 a0 a1 a2) = true → true = true → true = true) := by intros; rfl
  have n10 : ((!(l08_CellBack_k2 a0 a1 a2)) = true → (!(l08_CellBack_k0 a0 a1 a2)) = true → false = false) := by intros; rfl
  exact evF_ok (envP_ok Cg_3_ok L0_ok) (l08_CellBack_ev a0 a1 a2) (needs_cons n0 (needs_cons n1 (needs_cons n2 (needs_cons n3 (needs_cons n4 (needs_cons n5 (needs_cons n6 (needs_cons n7 (needs_cons n7 (needs_cons n9 (needs_cons n10 (needs_cons n10 needs_nil))))))))))))
def l08_CellBack_t : List A → Nat → Objs → Option CRes
  | [y0, y1, y2], nx, o => match argU .i64 y0, argU .cell y1, argU .bytes y2 with
    | some (a0, p0), some (a1, p1), some (a2, p2) => some (1, (l08_CellBack_r a0 a1 a2).pk (shiftR nx), nx + 0, shiftO nx (l08_CellBack_o a0 a1 a2) ++ o, p0 ++ (p1 ++ (p2 ++ (l08_CellBack_ps a0 a1 a2))))
    | _, _, _ => none
  | _, _, _ => none
theorem l08_CellBack_tok : TOk Try.prog 11 l08_CellBack_t := fun args nx o k x nx' o' ps h => by
  unfold l08_CellBack_t at h
  split at h <;> first | (cases h; done) | skip
  split at h <;> first | (cases h; done) | skip
  rename_i a0 p0 a1 p1 a2 p2 e0 e1 e2
  cases h
  refine ⟨fun hp => ?_, _, rfl⟩
  have q0 := fun p hm => hp p (List.mem_append.2 (.inl hm))
  have r0 := fun p hm => hp p (List.mem_append.2 (.inr hm))
  have q1 := fun p hm => r0 p (List.mem_append.2 (.inl hm))
  have r1 := fun p hm => r0 p (List.mem_append.2 (.inr hm))
  have q2 := fun p hm => r1 p (List.mem_append.2 (.inl hm))
  have r2 := fun p hm => r1 p (List.mem_append.2 (.inr hm))
  refine callOk_args (callOk_shift (l08_CellBack_c a0 a1 a2 r2) (Nat.le_refl _) (freeL_cons (valA_free _ _) (freeL_cons (valA_free _ _) (freeL_cons (valA_free _ _) freeL_nil))) nx o) fun F N R vs hl => ?_
  obtain ⟨v0, w0, rfl, h0, hl⟩ := hl.inv
  obtain ⟨v1, w1, rfl, h1, hl⟩ := hl.inv
  obtain ⟨v2, w2, rfl, h2, hl⟩ := hl.inv
  exact HL.cons (argU_ok e0 q0 h0) (HL.cons (argU_ok e1 q1 h1) (HL.cons (argU_ok e2 q2 h2) (hl)))
noncomputable def Cg_4 := addC 11 l08_CellBack_t Cg_3
theorem Cg_4_ok : COk Try.prog Cg_4 := addC_ok l08_CellBack_tok Cg_3_ok

theorem putC_128 (p : Int) (c : TCell) : (putC p c).length ≤ 128 := by
  unfold putC
  cases hg : goodC p c with
  | false => exact Nat.zero_le _
  | true =>
    have n8 := putN_8 (flagsC c)
    have s8 := putS_8 c.stamp
    have v16 := putV_16 c.vec
    have d16 := putV_16 c.dead
    have t8 := putT_8 c.value
    rw [cond_true, List.length_append]
    unfold bodyC
    rw [List.length_append]
    have h1 : (bif written c then putS c.stamp ++ putV c.vec ++ (bif c.gone then [] else putT c.value) else []).length ≤ 96 := by
      cases hw : written c with
      | false => exact Nat.zero_le _
      | true =>
        have := ((goodC_iff.1 hg).st hw).2.2.2.1
        rw [cond_true, List.length_append, List.length_append]
        cases c.gone with
        | true => simp only [cond_true, List.length_nil]; omega
        | false => simp only [cond_false]; omega
    have h2 : (bif zeroV c.dead then [] else putV c.dead).length ≤ 16 := by
      cases zeroV c.dead with
      | true => exact Nat.zero_le _
      | false => exact d16
    omega
theorem bytes_true (a0 : List UInt8) (a1 : Int) (a2 : TCell) : (∀ p ∈ l08_CellBytes_ps a0 a1 a2, p) ∧ l08_CellBytes_0 a0 a1 a2 = true := by
  have hk : (!l08_CellBytes_k0 a0 a1 a2) = true → a0.length ≤ 5000 := fun h => by
    unfold l08_CellBytes_k0 at h
    simp only [Bool.not_eq_true', Bool.or_eq_false_iff, decide_eq_false_iff_not] at h
    omega
  refine ⟨needs_cons (fun h => ?_) (needs_cons (fun h => ?_) needs_nil), ?_⟩
  · have := hk h; unfold boundP; omega
  · have := hk h; unfold boundP; omega
  · unfold l08_CellBytes_0
    simp
theorem back_true (a0 : Int) (a1 : TCell) (a2 : List UInt8) : (∀ p ∈ l08_CellBack_ps a0 a1 a2, p) ∧ l08_CellBack_0 a0 a1 a2 = true := by
  have hk : (!l08_CellBack_k2 a0 a1 a2) = true → a2.length ≤ 5000 := fun h => by
    unfold l08_CellBack_k2 at h
    simp only [Bool.not_eq_true', Bool.or_eq_false_iff, decide_eq_false_iff_not] at h
    omega
  have h128 := putC_128 a0 a1
  have h3 : l08_CellBack_k3 a0 a1 a2 = putC a0 a1 := rfl
  have h0 : l08_CellBack_k0 a0 a1 a2 = false := by
    unfold l08_CellBack_k0
    rw [h3, cell_Good_eq, List.nil_append]
    cases hg : goodC a0 a1 with
    | true =>
      rw [cond_true, getC_back hg a2]
      simp
    | false =>
      have : putC a0 a1 = [] := by unfold putC; rw [hg]; rfl
      rw [this]
      rfl
  have h4 : l08_CellBack_k4 a0 a1 a2 = true → goodC a0 (getC a2 a0).1 = true ∧ (getC a2 a0).2.1 = ((putC a0 (getC a2 a0).1).length : Int) ∧ ∃ r, a2 = putC a0 (getC a2 a0).1 ++ r := fun h => by
    have he : (getC a2 a0).2.2 = 0 := by
      unfold l08_CellBack_k4 at h
      simpa using h
    exact getC_front (by rw [← he])
  have hle : l08_CellBack_k4 a0 a1 a2 = true → (getC a2 a0).2.1 ≤ (a2.length : Int) := fun h => by
    obtain ⟨_, h5, r, h6⟩ := h4 h
    have := congrArg List.length h6
    rw [List.length_append] at this
    omega
  refine ⟨needs_cons (fun _ _ => ?_) (needs_cons (fun h _ => ?_) (needs_cons (fun h _ => ?_) (needs_cons (fun h _ => ?_) (needs_cons (fun _ _ _ h => ?_) needs_nil)))), ?_⟩
  · rw [List.nil_append]; unfold boundP; omega
  · have := hk h; rw [h3]; unfold boundP; omega
  · have := hk h; rw [h3, List.length_append]; unfold boundP; omega
  · have := hk h; unfold boundP; omega
  · have := hle h
    obtain ⟨_, h5, _⟩ := h4 h
    omega
  · unfold l08_CellBack_0
    rw [h0]
    cases l08_CellBack_k2 a0 a1 a2 with
    | true => rfl
    | false =>
      simp only [cond_false]
      cases hk4 : l08_CellBack_k4 a0 a1 a2 with
      | false =>
        have : l08_CellBack_k1 a0 a1 a2 = false := by unfold l08_CellBack_k1; rw [hk4]; rfl
        rw [this]
        rfl
      | true =>
        obtain ⟨g1, g2, r, g3⟩ := h4 hk4
        have hl := hle hk4
        have : l08_CellBack_k1 a0 a1 a2 = true := by
          unfold l08_CellBack_k1
          rw [hk4, decide_eq_false (by omega)]
          rfl
        rw [this]
        have ht : List.take ((getC a2 a0).2.1.toNat - (0 : Nat)) (List.drop (0 : Nat) a2) = putC a0 (getC a2 a0).1 := by
          rw [List.drop_zero, Nat.sub_zero, g2, Int.toNat_natCast]
          have hx : ∀ x : List UInt8, a2 = x ++ r → a2.take x.length = x := fun x h => by rw [h]; exact List.take_left
          exact hx _ g3
        rw [ht, List.nil_append]
        simp
noncomputable def Cg := Cg_4
theorem Cg_ok : COk Try.prog Cg := Cg_4_ok
end Go.Proofs.Yteebobbhhgmeiaa
