/- made by a program (gent.py): what functions come to, by their symbolic run over typed data. -/
import Derived.Test.YteebobbhhgmeiaaTd
namespace Go.Proofs.Yteebobbhhgmeiaa
open Go.RowKit

def r01_Size_0 (a0 : Int) : Int := bif decide (a0 < (0 : Int)) || decide (a0 > (4611686018427387903 : Int)) then (0 : Int) else bif decide (a0 < (64 : Int)) then (1 : Int) else bif decide (a0 < (16384 : Int)) then (2 : Int) else bif decide (a0 < (1073741824 : Int)) then (4 : Int) else (8 : Int)
def r01_Size_r (a0 : Int) : A := .v (.int .i64 (r01_Size_0 a0))
def r01_Size_o (_a0 : Int) : Objs := []
def r01_Size_ps (_a0 : Int) : List Prop := []
set_option maxRecDepth 100000 in
theorem r01_Size_ev (a0 : Int) : evF (envT Cd L0) 9 161 [valA .i64 a0] 0 [] = some (1, r01_Size_r a0, 0, r01_Size_o a0, []) := by kernel_rfl
set_option maxRecDepth 100000 in
theorem r01_Size_c (a0 : Int) (_hp : ∀ p ∈ r01_Size_ps a0, p) : CallOk Try.prog 161 [valA .i64 a0] 0 [] 1 (r01_Size_r a0) 0 (r01_Size_o a0) := by
  exact evF_ok (envP_ok Cd_ok L0_ok) (r01_Size_ev a0) needs_nil
def r01_Size_t : List A → Nat → Objs → Option CRes
  | [y0], nx, o => match argU .i64 y0 with
    | some (a0, p0) => some (1, (r01_Size_r a0).pk (shiftR nx), nx + 0, shiftO nx (r01_Size_o a0) ++ o, p0 ++ (r01_Size_ps a0))
    | _ => none
  | _, _, _ => none
theorem r01_Size_tok : TOk Try.prog 161 r01_Size_t := fun args nx o k x nx' o' ps h => by
  unfold r01_Size_t at h
  split at h <;> first | (cases h; done) | skip
  split at h <;> first | (cases h; done) | skip
  rename_i a0 p0 e0
  cases h
  refine ⟨fun hp => ?_, _, rfl⟩
  have q0 := fun p hm => hp p (List.mem_append.2 (.inl hm))
  have r0 := fun p hm => hp p (List.mem_append.2 (.inr hm))
  refine callOk_args (callOk_shift (r01_Size_c a0 r0) (Nat.le_refl _) (freeL_cons (valA_free _ _) freeL_nil) nx o) fun F N R vs hl => ?_
  obtain ⟨v0, w0, rfl, h0, hl⟩ := hl.inv
  exact HL.cons (argU_ok e0 q0 h0) (hl)
noncomputable def Ce_1 := addC 161 r01_Size_t Cd
theorem Ce_1_ok : COk Try.prog Ce_1 := addC_ok r01_Size_tok Cd_ok
/-! loop 0 of function 123 -/
abbrev r01_Put_l0_X : Type := Int × Int × Int × (List UInt8)
def r01_Put_l0_T (x : r01_Put_l0_X) : St := ⟨48, 3, [(1, .v (.int .i64 x.1)), (5, .sq 2), (6, .v (.int .i64 x.2.1)), (7, .v (.int .i64 x.2.2.1))], [(2, some (.arr 5 1 (.ty .u8 x.2.2.2)))]⟩
def r01_Put_l0_un : St → Option r01_Put_l0_X
  | ⟨48, 3, [(1, .v (.int .i64 z0)), (5, .sq 2), (6, .v (.int .i64 z1)), (7, .v (.int .i64 z2))], [(2, some (.arr 5 1 (.ty .u8 z3)))]⟩ => some (z0, z1, z2, z3)
  | _ => none
theorem r01_Put_l0_unok : ∀ s x, r01_Put_l0_un s = some x → s = r01_Put_l0_T x := fun s x h => by
  unfold r01_Put_l0_un at h
  split at h
  · cases h; rfl
  · cases h
def r01_Put_l0_S : Shape := ⟨2, 3, [1, 5, 6, 7], [], [(4, 2)], [4], [5], [2]⟩
def r01_Put_l0_E : Entry := ⟨[], [(1, 2)], [1, 5, 6, 7], [1]⟩
def r01_Put_l0_f_k1 (_a0 : Int) (_a1 : Int) (a2 : Int) (_a3 : List UInt8) : Bool := !!decide (a2 ≥ (0 : Int))
def r01_Put_l0_f_k0 (a0 : Int) (a1 : Int) (a2 : Int) (_a3 : List UInt8) : Int := bif a2 == IntKind.i64.wrap (a1 - (1 : Int)) then bif a1 == (8 : Int) then IntKind.u8.wrap ((bif a1 == (4 : Int) then IntKind.u8.wrap ((bif a1 == (2 : Int) then IntKind.u8.wrap (IntKind.u8.wrap (IntKind.i64.wrap (↑(BitVec.ofInt (64 : Nat) (a0.fdiv ((2 : Int) ^ min (IntKind.u64.wrap (IntKind.i64.wrap ((8 : Int) * a2))).toNat (64 : Nat))) &&& BitVec.ofInt (64 : Nat) (255 : Int)).toNat : Int)) + (64 : Int)) else IntKind.u8.wrap (IntKind.i64.wrap (↑(BitVec.ofInt (64 : Nat) (a0.fdiv ((2 : Int) ^ min (IntKind.u64.wrap (IntKind.i64.wrap ((8 : Int) * a2))).toNat (64 : Nat))) &&& BitVec.ofInt (64 : Nat) (255 : Int)).toNat : Int))) + (128 : Int)) else bif a1 == (2 : Int) then IntKind.u8.wrap (IntKind.u8.wrap (IntKind.i64.wrap (↑(BitVec.ofInt (64 : Nat) (a0.fdiv ((2 : Int) ^ min (IntKind.u64.wrap (IntKind.i64.wrap ((8 : Int) * a2))).toNat (64 : Nat))) &&& BitVec.ofInt (64 : Nat) (255 : Int)).toNat : Int)) + (64 : Int)) else IntKind.u8.wrap (IntKind.i64.wrap (↑(BitVec.ofInt (64 : Nat) (a0.fdiv ((2 : Int) ^ min (IntKind.u64.wrap (IntKind.i64.wrap ((8 : Int) * a2))).toNat (64 : Nat))) &&& BitVec.ofInt (64 : Nat) (255 : Int)).toNat : Int))) + (192 : Int)) else bif a1 == (4 : Int) then IntKind.u8.wrap ((bif a1 == (2 : Int) then IntKind.u8.wrap (IntKind.u8.wrap (IntKind.i64.wrap (↑(BitVec.ofInt (64 : Nat) (a0.fdiv ((2 : Int) ^ min (IntKind.u64.wrap (IntKind.i64.wrap ((8 : Int) * a2))).toNat (64 : Nat))) &&& BitVec.ofInt (64 : Nat) (255 : Int)).toNat : Int)) + (64 : Int)) else IntKind.u8.wrap (IntKind.i64.wrap (↑(BitVec.ofInt (64 : Nat) (a0.fdiv ((2 : Int) ^ min (IntKind.u64.wrap (IntKind.i64.wrap ((8 : Int) * a2))).toNat (64 : Nat))) &&& BitVec.ofInt (64 : Nat) (255 : Int)).toNat : Int))) + (128 : Int)) else bif a1 == (2 : Int) then IntKind.u8.wrap (IntKind.u8.wrap (IntKind.i64.wrap (↑(BitVec.ofInt (64 : Nat) (a0.fdiv ((2 : Int) ^ min (IntKind.u64.wrap (IntKind.i64.wrap ((8 : Int) * a2))).toNat (64 : Nat))) &&& BitVec.ofInt (64 : Nat) (255 : Int)).toNat : Int)) + (64 : Int)) else IntKind.u8.wrap (IntKind.i64.wrap (↑(BitVec.ofInt (64 : Nat) (a0.fdiv ((2 : Int) ^ min (IntKind.u64.wrap (IntKind.i64.wrap ((8 : Int) * a2))).toNat (64 : Nat))) &&& BitVec.ofInt (64 : Nat) (255 : Int)).toNat : Int)) else IntKind.u8.wrap (IntKind.i64.wrap (↑(BitVec.ofInt (64 : Nat) (a0.fdiv ((2 : Int) ^ min (IntKind.u64.wrap (IntKind.i64.wrap ((8 : Int) * a2))).toNat (64 : Nat))) &&& BitVec.ofInt (64 : Nat) (255 : Int)).toNat : Int))
def r01_Put_l0_f_3 (a0 : Int) (a1 : Int) (a2 : Int) (a3 : List UInt8) : List UInt8 := a3 ++ [UInt8.ofNat (r01_Put_l0_f_k0 a0 a1 a2 a3).toNat]
def r01_Put_l0_next (x : r01_Put_l0_X) : r01_Put_l0_X := (x.1, x.2.1, IntKind.i64.wrap (x.2.2.1 - (1 : Int)), r01_Put_l0_f_3 x.1 x.2.1 x.2.2.1 x.2.2.2)
def r01_Put_l0_goes (x : r01_Put_l0_X) : Cnd := some ((r01_Put_l0_f_k1 x.1 x.2.1 x.2.2.1 x.2.2.2))
def r01_Put_l0_psA (x : r01_Put_l0_X) : List Prop := [((r01_Put_l0_f_k1 x.1 x.2.1 x.2.2.1 x.2.2.2) = true → (0 : Int) ≤ IntKind.u64.wrap (IntKind.i64.wrap ((8 : Int) * x.2.2.1))), ((r01_Put_l0_f_k1 x.1 x.2.1 x.2.2.1 x.2.2.2) = true → boundP (x.2.2.2.length + (1 : Nat))), ((r01_Put_l0_f_k1 x.1 x.2.1 x.2.2.1 x.2.2.2) = true → (0 : Int) ≤ (r01_Put_l0_f_k0 x.1 x.2.1 x.2.2.1 x.2.2.2) ∧ (r01_Put_l0_f_k0 x.1 x.2.1 x.2.2.1 x.2.2.2) < (256 : Int))]
def r01_Put_l0_ps (x : r01_Put_l0_X) : List Prop := [((r01_Put_l0_f_k1 x.1 x.2.1 x.2.2.1 x.2.2.2) = true → boundP (x.2.2.2.length + (1 : Nat))), ((r01_Put_l0_f_k1 x.1 x.2.1 x.2.2.1 x.2.2.2) = true → (0 : Int) ≤ (r01_Put_l0_f_k0 x.1 x.2.1 x.2.2.1 x.2.2.2) ∧ (r01_Put_l0_f_k0 x.1 x.2.1 x.2.2.1 x.2.2.2) < (256 : Int))]
def r01_Put_l0_outs (x : r01_Put_l0_X) : Outs := [(some 0, some (!decide (x.2.2.1 ≥ (0 : Int))), ⟨48, 3, [(5, .sq 2)], [(2, some (.arr 5 1 (.ty .u8 x.2.2.2)))]⟩)]
def r01_Put_l0_fuel (x : r01_Put_l0_X) : Nat := (x.2.2.1 + 1).toNat
def r01_Put_l0_run (x : r01_Put_l0_X) : r01_Put_l0_X := iterX r01_Put_l0_next r01_Put_l0_goes (r01_Put_l0_fuel x) x
set_option maxRecDepth 100000 in
theorem r01_Put_l0_ev (a0 : Int) (a1 : Int) (a2 : Int) (a3 : List UInt8) : roundE (envT Ce_1 L0) 9 (loopAt Try.prog 123 0) r01_Put_l0_S (r01_Put_l0_T (a0, a1, a2, a3)) = some (r01_Put_l0_psA (a0, a1, a2, a3), r01_Put_l0_outs (a0, a1, a2, a3), r01_Put_l0_goes (a0, a1, a2, a3), r01_Put_l0_T (r01_Put_l0_next (a0, a1, a2, a3))) := by kernel_rfl
set_option maxRecDepth 100000 in
theorem r01_Put_l0_hA (a0 : Int) (a1 : Int) (a2 : Int) (a3 : List UInt8) (hp : ∀ p ∈ r01_Put_l0_ps (a0, a1, a2, a3), p) : ∀ p ∈ r01_Put_l0_psA (a0, a1, a2, a3), p := by
  have n0 : ((r01_Put_l0_f_k1 a0 a1 a2 a3) = true → (0 : Int) ≤ IntKind.u64.wrap (IntKind.i64.wrap ((8 : Int) * a2))) := by intros; exact wrapU64 _
  have n1 : ((r01_Put_l0_f_k1 a0 a1 a2 a3) = true → boundP (a3.length + (1 : Nat))) := hp _ (List.mem_cons_self ..)
  have n2 : ((r01_Put_l0_f_k1 a0 a1 a2 a3) = true → (0 : Int) ≤ (r01_Put_l0_f_k0 a0 a1 a2 a3) ∧ (r01_Put_l0_f_k0 a0 a1 a2 a3) < (256 : Int)) := hp _ (List.mem_cons_of_mem _ (List.mem_cons_self ..))
  exact (needs_cons n0 (needs_cons n1 (needs_cons n2 needs_nil)))
noncomputable def r01_Put_l0_row := rowL (envT Ce_1 L0) (loopAt Try.prog 123 0) r01_Put_l0_S r01_Put_l0_E r01_Put_l0_un r01_Put_l0_fuel r01_Put_l0_next r01_Put_l0_goes r01_Put_l0_ps r01_Put_l0_outs
theorem r01_Put_l0_rok : ∀ s b ps outs, r01_Put_l0_row s = some (b, ps, outs) → Wf s ⟨ps, outs, none⟩ ∧ LoopOk (envT C0 L0) b s ps outs :=
  rowP_ok (T := r01_Put_l0_T) Ce_1_ok L0_ok (u := 9) (by kernel_rfl) (by decide) (fun ⟨a0, a1, a2, a3⟩ => r01_Put_l0_ev a0 a1 a2 a3) (fun ⟨a0, a1, a2, a3⟩ => r01_Put_l0_hA a0 a1 a2 a3) r01_Put_l0_unok (fun _ => okOuts_ok (n := 48) rfl) fun _ _ => rfl
noncomputable def r01_Put_l0_L := addLp 0 r01_Put_l0_row L0
theorem r01_Put_l0_Lok : LpOk r01_Put_l0_L := addLp_ok r01_Put_l0_rok L0_ok
def r01_Put_0 (a0 : List UInt8) (a1 : Int) : List UInt8 := (r01_Put_l0_run (a1, r01_Size_0 a1, IntKind.i64.wrap (r01_Size_0 a1 - (1 : Int)), [] ++ a0)).snd.snd.snd
def r01_Put_r (_a0 : List UInt8) (_a1 : Int) : A := .sq 0
def r01_Put_o (a0 : List UInt8) (a1 : Int) : Objs := [(0, some (.arr 5 1 (.ty .u8 (r01_Put_0 a0 a1))))]
def r01_Put_ps (a0 : List UInt8) (a1 : Int) : List Prop := [(boundP ((0 : Nat) + a0.length)), (needX r01_Put_l0_next r01_Put_l0_goes r01_Put_l0_ps (r01_Put_l0_fuel (a1, r01_Size_0 a1, IntKind.i64.wrap (r01_Size_0 a1 - (1 : Int)), [] ++ a0)) (a1, r01_Size_0 a1, IntKind.i64.wrap (r01_Size_0 a1 - (1 : Int)), [] ++ a0))]
set_option maxRecDepth 100000 in
theorem r01_Put_ev (a0 : List UInt8) (a1 : Int) : evF (envT Ce_1 r01_Put_l0_L) 9 123 [valA .bytes a0, valA .i64 a1] 0 [] = some (1, r01_Put_r a0 a1, 1, r01_Put_o a0 a1, [(boundP ((0 : Nat) + a0.length)), (loopAt Try.prog (123 : FuncId) (0 : Nat) = loopAt Try.prog (123 : FuncId) (0 : Nat)), (needX r01_Put_l0_next r01_Put_l0_goes r01_Put_l0_ps (r01_Put_l0_fuel (a1, r01_Size_0 a1, IntKind.i64.wrap (r01_Size_0 a1 - (1 : Int)), [] ++ a0)) (a1, r01_Size_0 a1, IntKind.i64.wrap (r01_Size_0 a1 - (1 : Int)), [] ++ a0))]) := by kernel_rfl
set_option maxRecDepth 100000 in
theorem r01_Put_c (a0 : List UInt8) (a1 : Int) (hp : ∀ p ∈ r01_Put_ps a0 a1, p) : CallOk Try.prog 123 [valA .bytes a0, valA .i64 a1] 0 [] 1 (r01_Put_r a0 a1) 1 (r01_Put_o a0 a1) := by
  have n0 : (boundP ((0 : Nat) + a0.length)) := hp _ (List.mem_cons_self ..)
  have n2 : (needX r01_Put_l0_next r01_Put_l0_goes r01_Put_l0_ps (r01_Put_l0_fuel (a1, r01_Size_0 a1, IntKind.i64.wrap (r01_Size_0 a1 - (1 : Int)), [] ++ a0)) (a1, r01_Size_0 a1, IntKind.i64.wrap (r01_Size_0 a1 - (1 : Int)), [] ++ a0)) := hp _ (List.mem_cons_of_mem _ (List.mem_cons_self ..))
  exact evF_ok (envP_ok Ce_1_ok r01_Put_l0_Lok) (r01_Put_ev a0 a1) (needs_cons n0 (needs_cons rfl (needs_cons n2 needs_nil)))
def r01_Put_r2 (_a0 : List UInt8) (_a1 : Int) : A := .sq 0
def r01_Put_o2 (a0 : List UInt8) (a1 : Int) : Objs := [(0, some (.arr 5 1 (.ty .u8 (a0 ++ putN a1))))]
def r01_Put_ps2 (a0 : List UInt8) (_a1 : Int) : List Prop := [boundP (a0.length + 8)]
theorem r01_Size_eq (n : Int) : r01_Size_0 n = (szN n : Int) := by
  unfold r01_Size_0 szN
  by_cases h0 : n < 0 ∨ n > 4611686018427387903
  · have e : (decide (n < 0) || decide (n > 4611686018427387903)) = true := by simpa using h0
    rw [e, if_pos h0]; rfl
  · have e : (decide (n < 0) || decide (n > 4611686018427387903)) = false := by
      rw [Bool.eq_false_iff]
      intro hh
      exact h0 (by simpa using hh)
    rw [e, if_neg h0]
    by_cases h1 : n < 64
    · rw [decide_eq_true h1, if_neg (by omega), if_neg (by omega), if_neg (by omega)]; rfl
    · rw [decide_eq_false h1]
      by_cases h2 : n < 16384
      · rw [decide_eq_true h2, if_neg (by omega), if_neg (by omega), if_pos (by omega)]; rfl
      · rw [decide_eq_false h2]
        by_cases h3 : n < 1073741824
        · rw [decide_eq_true h3, if_neg (by omega), if_pos (by omega)]; rfl
        · rw [decide_eq_false h3, if_pos (by omega)]; rfl
theorem byte_and {q : Nat} (hq : q < 4611686018427387904) : IntKind.u8.wrap (IntKind.i64.wrap ((BitVec.ofInt 64 (q : Int) &&& BitVec.ofInt 64 255).toNat : Int)) = ((q % 256 : Nat) : Int) := by
  have e : (BitVec.ofInt 64 (q : Int) &&& BitVec.ofInt 64 255).toNat = q % 256 := by
    rw [BitVec.toNat_and, BitVec.toNat_ofInt, BitVec.toNat_ofInt]
    have m1 : (((q : Nat) : Int) % ((2 ^ 64 : Nat) : Int)).toNat = q := by omega
    have m2 : ((255 : Int) % ((2 ^ 64 : Nat) : Int)).toNat = 2 ^ 8 - 1 := by decide
    rw [m1, m2, Nat.and_two_pow_sub_one_eq_mod]
  rw [e, i64_in (by omega), IntWalk.u8_in _ (by omega)]
theorem r01_byte {n : Int} (hn : okN n) {i : Nat} (hi : i < 8) : IntKind.u8.wrap (IntKind.i64.wrap (↑(BitVec.ofInt (64 : Nat) (n.fdiv ((2 : Int) ^ min (IntKind.u64.wrap (IntKind.i64.wrap ((8 : Int) * (i : Int)))).toNat (64 : Nat))) &&& BitVec.ofInt (64 : Nat) (255 : Int)).toNat : Int)) = ((n.toNat / 256 ^ i % 256 : Nat) : Int) := by
  have e1 : IntKind.u64.wrap (IntKind.i64.wrap ((8 : Int) * (i : Int))) = ((8 * i : Nat) : Int) := by
    rw [i64_in (by omega), IntWalk.u64_in _ (by omega)]
    omega
  have e2 : n = (n.toNat : Int) := (Int.toNat_of_nonneg hn.1).symm
  have e3 : n.fdiv ((256 ^ i : Nat) : Int) = ((n.toNat / 256 ^ i : Nat) : Int) := by
    rw [Int.fdiv_eq_ediv_of_nonneg _ (Int.natCast_nonneg _)]
    conv => lhs; rw [e2]
    exact (Int.natCast_ediv _ _).symm
  rw [e1, Int.toNat_natCast, Nat.min_eq_left (by omega), pow_256, e3]
  refine byte_and ?_
  have h1 := Nat.div_le_self n.toNat (256 ^ i)
  have h2 := hn.2
  omega
theorem r01_k0 {n : Int} (hn : okN n) {i : Nat} (hi : i < szN n) (l : List UInt8) : r01_Put_l0_f_k0 n (szN n : Int) (i : Int) l = (((n.toNat + tagN (szN n) * (64 * 256 ^ (szN n - 1))) / 256 ^ i % 256 : Nat) : Int) := by
  obtain ⟨hs, hlt⟩ := sz_ok hn.1 hn.2
  have h8 : szN n ≤ 8 := by unfold szs at hs; omega
  unfold r01_Put_l0_f_k0
  rw [r01_byte hn (show i < 8 by omega), i64_in (n := (szN n : Int) - 1) (by omega)]
  by_cases hi1 : i = szN n - 1
  · have e : ((i : Int) == (szN n : Int) - 1) = true := by rw [beq_iff_eq]; omega
    rw [e, cond_true]
    have hp : 0 < 256 ^ i := Nat.pow_pos (by decide)
    have hq : (n.toNat + tagN (szN n) * (64 * 256 ^ (szN n - 1))) / 256 ^ i = n.toNat / 256 ^ i + tagN (szN n) * 64 := by
      rw [← hi1, ← Nat.mul_assoc, Nat.add_mul_div_right _ _ hp]
    have hd : n.toNat / 256 ^ i < 64 := by rw [Nat.div_lt_iff_lt_mul hp, hi1]; exact hlt
    rw [hq]
    generalize n.toNat / 256 ^ i = d at *
    clear hq hlt hi1 e hi
    generalize szN n = k at *
    rcases hs with rfl | rfl | rfl | rfl
    · show ((d % 256 : Nat) : Int) = (((d + 0 * 64) % 256 : Nat) : Int)
      rw [Nat.zero_mul, Nat.add_zero]
    · show IntKind.u8.wrap (((d % 256 : Nat) : Int) + 64) = (((d + 1 * 64) % 256 : Nat) : Int)
      rw [IntWalk.u8_in _ (by omega)]; omega
    · show IntKind.u8.wrap (((d % 256 : Nat) : Int) + 128) = (((d + 2 * 64) % 256 : Nat) : Int)
      rw [IntWalk.u8_in _ (by omega)]; omega
    · show IntKind.u8.wrap (((d % 256 : Nat) : Int) + 192) = (((d + 3 * 64) % 256 : Nat) : Int)
      rw [IntWalk.u8_in _ (by omega)]; omega
  · have e : ((i : Int) == (szN n : Int) - 1) = false := by rw [Bool.eq_false_iff, Ne, beq_iff_eq]; omega
    rw [e, cond_false]
    have hp : 0 < 256 ^ i := Nat.pow_pos (by decide)
    have hq : (n.toNat + tagN (szN n) * (64 * 256 ^ (szN n - 1))) / 256 ^ i = n.toNat / 256 ^ i + tagN (szN n) * (64 * 256 ^ (szN n - 1 - i)) := by
      have : 256 ^ (szN n - 1) = 256 ^ (szN n - 1 - i) * 256 ^ i := by rw [← Nat.pow_add]; congr 1; omega
      rw [this, ← Nat.mul_assoc 64, ← Nat.mul_assoc (tagN _), Nat.add_mul_div_right _ _ hp]
    rw [hq]
    have h2 : 256 ^ (szN n - 1 - i) = 256 ^ (szN n - 1 - i - 1) * 256 := by rw [← Nat.pow_succ]; congr 1; omega
    rw [h2, ← Nat.mul_assoc 64, ← Nat.mul_assoc (tagN _), Nat.add_mul_mod_self_right]
theorem r01_loop (b : List UInt8) (n : Int) (hb : boundP (b.length + 8)) :
    needX r01_Put_l0_next r01_Put_l0_goes r01_Put_l0_ps (r01_Put_l0_fuel (n, r01_Size_0 n, IntKind.i64.wrap (r01_Size_0 n - (1 : Int)), [] ++ b)) (n, r01_Size_0 n, IntKind.i64.wrap (r01_Size_0 n - (1 : Int)), [] ++ b) ∧
    (r01_Put_l0_run (n, r01_Size_0 n, IntKind.i64.wrap (r01_Size_0 n - (1 : Int)), [] ++ b)).2.2.2 = b ++ putN n := by
  have hk8 : szN n ≤ 8 := by
    rcases sz_cases n with h | ⟨_, _, h⟩
    · omega
    · unfold szs at h; omega
  rw [r01_Size_eq, i64_in (by omega)]
  obtain ⟨h1, ⟨j, hj, h2⟩, h3⟩ := loop_inv (next := r01_Put_l0_next) (goes := r01_Put_l0_goes) (ps := r01_Put_l0_ps)
    (fun x => ∃ j : Nat, j ≤ szN n ∧ x = (n, (szN n : Int), (szN n : Int) - 1 - (j : Int), b ++ (putN n).take j)) r01_Put_l0_fuel (by
      rintro x ⟨j, hj, rfl⟩
      have key : (!!decide ((szN n : Int) - 1 - (j : Int) ≥ 0)) = true → j < szN n ∧ okN n := fun h => by
        have h' : (szN n : Int) - 1 - (j : Int) ≥ 0 := by simpa using h
        have hlt : j < szN n := by omega
        refine ⟨hlt, ?_⟩
        rcases sz_cases n with hz | ⟨g1, g2, _⟩
        · omega
        · exact ⟨g1, g2⟩
      have byte : j < szN n → okN n → r01_Put_l0_f_k0 n (szN n : Int) ((szN n : Int) - 1 - (j : Int)) (b ++ (putN n).take j) = (((n.toNat + tagN (szN n) * (64 * 256 ^ (szN n - 1))) / 256 ^ (szN n - 1 - j) % 256 : Nat) : Int) := fun hlt hn => by
        have e : (szN n : Int) - 1 - (j : Int) = ((szN n - 1 - j : Nat) : Int) := by omega
        rw [e]
        exact r01_k0 hn (by omega) _
      refine ⟨needs_cons (fun h => ?_) (needs_cons (fun h => ?_) needs_nil), fun hg => ?_⟩
      · obtain ⟨hlt, _⟩ := key h
        show boundP ((b ++ (putN n).take j).length + 1)
        unfold boundP at *
        rw [List.length_append, List.length_take]
        omega
      · obtain ⟨hlt, hn⟩ := key h
        show (0 : Int) ≤ r01_Put_l0_f_k0 n (szN n : Int) ((szN n : Int) - 1 - (j : Int)) (b ++ (putN n).take j) ∧ r01_Put_l0_f_k0 n (szN n : Int) ((szN n : Int) - 1 - (j : Int)) (b ++ (putN n).take j) < 256
        rw [byte hlt hn]
        omega
      · obtain ⟨hlt, hn⟩ := key hg
        refine ⟨⟨j + 1, hlt, ?_⟩, ?_⟩
        · show (n, (szN n : Int), IntKind.i64.wrap ((szN n : Int) - 1 - (j : Int) - 1), (b ++ (putN n).take j) ++ [UInt8.ofNat (r01_Put_l0_f_k0 n (szN n : Int) ((szN n : Int) - 1 - (j : Int)) (b ++ (putN n).take j)).toNat]) = _
          rw [byte hlt hn, i64_in (by omega), Int.toNat_natCast]
          have ht : (putN n).take (j + 1) = (putN n).take j ++ [UInt8.ofNat ((n.toNat + tagN (szN n) * (64 * 256 ^ (szN n - 1))) / 256 ^ (szN n - 1 - j) % 256)] := by
            unfold putN
            rw [be_take hlt]
            congr 2
            apply UInt8.toNat_inj.1
            rw [UInt8.toNat_ofNat', UInt8.toNat_ofNat']
            omega
          rw [ht, List.append_assoc]
          simp only [Prod.mk.injEq, true_and, and_true]
          omega
        · show (IntKind.i64.wrap ((szN n : Int) - 1 - (j : Int) - 1) + 1).toNat < ((szN n : Int) - 1 - (j : Int) + 1).toNat
          rw [i64_in (by omega)]
          omega) _ (n, (szN n : Int), (szN n : Int) - 1, [] ++ b) ⟨0, Nat.zero_le _, by simp⟩ (Nat.le_refl _)
  refine ⟨h1, ?_⟩
  have h4 : r01_Put_l0_run (n, (szN n : Int), (szN n : Int) - 1, [] ++ b) = _ := h2
  rw [h2] at h3
  have h3' : (!!decide ((szN n : Int) - 1 - (j : Int) ≥ 0)) = false := h3
  have hn : ¬ ((szN n : Int) - 1 - (j : Int) ≥ 0) := by simpa using h3'
  obtain rfl : j = szN n := by omega
  rw [h4, List.take_of_length_le (by rw [putN_length]; exact Nat.le_refl _)]
theorem r01_Put_c2 (a0 : List UInt8) (a1 : Int) (hp : ∀ p ∈ r01_Put_ps2 a0 a1, p) : CallOk Try.prog 123 [valA .bytes a0, valA .i64 a1] 0 [] 1 (r01_Put_r2 a0 a1) 1 (r01_Put_o2 a0 a1) := by
  have hb : boundP (a0.length + 8) := hp _ (List.mem_cons_self ..)
  obtain ⟨h1, h2⟩ := r01_loop a0 a1 hb
  have h := r01_Put_c a0 a1 (needs_cons (by unfold boundP at *; omega) (needs_cons h1 needs_nil))
  have ho : r01_Put_o a0 a1 = r01_Put_o2 a0 a1 := by unfold r01_Put_o r01_Put_o2 r01_Put_0; rw [h2]
  rw [ho] at h
  exact h
def r01_Put_t : List A → Nat → Objs → Option CRes
  | [y0, y1], nx, o => match argU .bytes y0, argU .i64 y1 with
    | some (a0, p0), some (a1, p1) => some (1, (r01_Put_r2 a0 a1).pk (shiftR nx), nx + 1, shiftO nx (r01_Put_o2 a0 a1) ++ o, p0 ++ (p1 ++ (r01_Put_ps2 a0 a1)))
    | _, _ => none
  | _, _, _ => none
theorem r01_Put_tok : TOk Try.prog 123 r01_Put_t := fun args nx o k x nx' o' ps h => by
  unfold r01_Put_t at h
  split at h <;> first | (cases h; done) | skip
  split at h <;> first | (cases h; done) | skip
  rename_i a0 p0 a1 p1 e0 e1
  cases h
  refine ⟨fun hp => ?_, _, rfl⟩
  have q0 := fun p hm => hp p (List.mem_append.2 (.inl hm))
  have r0 := fun p hm => hp p (List.mem_append.2 (.inr hm))
  have q1 := fun p hm => r0 p (List.mem_append.2 (.inl hm))
  have r1 := fun p hm => r0 p (List.mem_append.2 (.inr hm))
  refine callOk_args (callOk_shift (r01_Put_c2 a0 a1 r1) (Nat.le_refl _) (freeL_cons (valA_free _ _) (freeL_cons (valA_free _ _) freeL_nil)) nx o) fun F N R vs hl => ?_
  obtain ⟨v0, w0, rfl, h0, hl⟩ := hl.inv
  obtain ⟨v1, w1, rfl, h1, hl⟩ := hl.inv
  exact HL.cons (argU_ok e0 q0 h0) (HL.cons (argU_ok e1 q1 h1) (hl))
noncomputable def Ce_2 := addC 123 r01_Put_t Ce_1
theorem Ce_2_ok : COk Try.prog Ce_2 := addC_ok r01_Put_tok Ce_1_ok
/-! loop 0 of function 158 -/
abbrev r01_Get_l0_X : Type := (List UInt8) × Int × Int
def r01_Get_l0_T (x : r01_Get_l0_X) : St := ⟨51, 0, [(0, .sl .u8 x.1), (5, .v (.int .i64 x.2.1)), (6, .v (.int .i64 x.2.2))], []⟩
def r01_Get_l0_un : St → Option r01_Get_l0_X
  | ⟨51, 0, [(0, .sl .u8 z0), (5, .v (.int .i64 z1)), (6, .v (.int .i64 z2))], []⟩ => some (z0, z1, z2)
  | _ => none
theorem r01_Get_l0_unok : ∀ s x, r01_Get_l0_un s = some x → s = r01_Get_l0_T x := fun s x h => by
  unfold r01_Get_l0_un at h
  split at h
  · cases h; rfl
  · cases h
def r01_Get_l0_S : Shape := ⟨0, 0, [0, 5, 6], [], [], [], [5], []⟩
def r01_Get_l0_E : Entry := ⟨[], [], [0, 5, 6], []⟩
def r01_Get_l0_f_k0 (a0 : List UInt8) (_a1 : Int) (a2 : Int) : Bool := !decide (a2 < IntKind.i64.wrap (IntKind.u8.wrap ((↑(UInt8.toNat (a0.getD (0 : Nat) (dflt TC.u8))) : Int).tdiv (64 : Int))))
def r01_Get_l0_next (x : r01_Get_l0_X) : r01_Get_l0_X := (x.1, IntKind.i64.wrap ((2 : Int) * x.2.1), IntKind.i64.wrap (x.2.2 + (1 : Int)))
def r01_Get_l0_goes (x : r01_Get_l0_X) : Cnd := some (!(r01_Get_l0_f_k0 x.1 x.2.1 x.2.2))
def r01_Get_l0_psA (x : r01_Get_l0_X) : List Prop := [((0 : Int) ≤ (0 : Int) ∧ (0 : Int) < (↑x.1.length : Int))]
def r01_Get_l0_ps (x : r01_Get_l0_X) : List Prop := [((0 : Int) ≤ (0 : Int) ∧ (0 : Int) < (↑x.1.length : Int))]
def r01_Get_l0_outs (x : r01_Get_l0_X) : Outs := [(some 0, some ((r01_Get_l0_f_k0 x.1 x.2.1 x.2.2)), ⟨51, 0, [(5, .v (.int .i64 x.2.1))], []⟩)]
def r01_Get_l0_fuel (x : r01_Get_l0_X) : Nat := (IntKind.i64.wrap (IntKind.u8.wrap ((↑(UInt8.toNat (x.1.getD (0 : Nat) (dflt TC.u8))) : Int).tdiv (64 : Int))) - x.2.2).toNat
def r01_Get_l0_run (x : r01_Get_l0_X) : r01_Get_l0_X := iterX r01_Get_l0_next r01_Get_l0_goes (r01_Get_l0_fuel x) x
set_option maxRecDepth 100000 in
theorem r01_Get_l0_ev (a0 : List UInt8) (a1 : Int) (a2 : Int) : roundE (envT Ce_2 L0) 9 (loopAt Try.prog 158 0) r01_Get_l0_S (r01_Get_l0_T (a0, a1, a2)) = some (r01_Get_l0_psA (a0, a1, a2), r01_Get_l0_outs (a0, a1, a2), r01_Get_l0_goes (a0, a1, a2), r01_Get_l0_T (r01_Get_l0_next (a0, a1, a2))) := by kernel_rfl
set_option maxRecDepth 100000 in
theorem r01_Get_l0_hA (a0 : List UInt8) (a1 : Int) (a2 : Int) (hp : ∀ p ∈ r01_Get_l0_ps (a0, a1, a2), p) : ∀ p ∈ r01_Get_l0_psA (a0, a1, a2), p := by
  have n0 : ((0 : Int) ≤ (0 : Int) ∧ (0 : Int) < (↑a0.length : Int)) := hp _ (List.mem_cons_self ..)
  exact (needs_cons n0 needs_nil)
noncomputable def r01_Get_l0_row := rowL (envT Ce_2 L0) (loopAt Try.prog 158 0) r01_Get_l0_S r01_Get_l0_E r01_Get_l0_un r01_Get_l0_fuel r01_Get_l0_next r01_Get_l0_goes r01_Get_l0_ps r01_Get_l0_outs
theorem r01_Get_l0_rok : ∀ s b ps outs, r01_Get_l0_row s = some (b, ps, outs) → Wf s ⟨ps, outs, none⟩ ∧ LoopOk (envT C0 L0) b s ps outs :=
  rowP_ok (T := r01_Get_l0_T) Ce_2_ok L0_ok (u := 9) (by kernel_rfl) (by decide) (fun ⟨a0, a1, a2⟩ => r01_Get_l0_ev a0 a1 a2) (fun ⟨a0, a1, a2⟩ => r01_Get_l0_hA a0 a1 a2) r01_Get_l0_unok (fun _ => okOuts_ok (n := 51) rfl) fun _ _ => rfl
noncomputable def r01_Get_l0_L := addLp 0 r01_Get_l0_row L0
theorem r01_Get_l0_Lok : LpOk r01_Get_l0_L := addLp_ok r01_Get_l0_rok L0_ok
/-! loop 2 of function 158 -/
abbrev r01_Get_l2_X : Type := (List UInt8) × Int × Int × Int
def r01_Get_l2_T (x : r01_Get_l2_X) : St := ⟨51, 0, [(0, .sl .u8 x.1), (5, .v (.int .i64 x.2.1)), (7, .v (.int .i64 x.2.2.1)), (8, .v (.int .i64 x.2.2.2))], []⟩
def r01_Get_l2_un : St → Option r01_Get_l2_X
  | ⟨51, 0, [(0, .sl .u8 z0), (5, .v (.int .i64 z1)), (7, .v (.int .i64 z2)), (8, .v (.int .i64 z3))], []⟩ => some (z0, z1, z2, z3)
  | _ => none
theorem r01_Get_l2_unok : ∀ s x, r01_Get_l2_un s = some x → s = r01_Get_l2_T x := fun s x h => by
  unfold r01_Get_l2_un at h
  split at h
  · cases h; rfl
  · cases h
def r01_Get_l2_S : Shape := ⟨0, 0, [0, 5, 7, 8], [], [], [], [7], []⟩
def r01_Get_l2_E : Entry := ⟨[], [], [0, 5, 7, 8], []⟩
def r01_Get_l2_f_2 (a0 : List UInt8) (_a1 : Int) (a2 : Int) (a3 : Int) : Int := IntKind.i64.wrap (IntKind.i64.wrap ((256 : Int) * a2) + IntKind.i64.wrap (↑(UInt8.toNat (a0.getD a3.toNat (dflt TC.u8))) : Int))
def r01_Get_l2_next (x : r01_Get_l2_X) : r01_Get_l2_X := (x.1, x.2.1, r01_Get_l2_f_2 x.1 x.2.1 x.2.2.1 x.2.2.2, IntKind.i64.wrap (x.2.2.2 + (1 : Int)))
def r01_Get_l2_goes (x : r01_Get_l2_X) : Cnd := some (!!decide (x.2.2.2 < x.2.1))
def r01_Get_l2_psA (x : r01_Get_l2_X) : List Prop := [((!!decide (x.2.2.2 < x.2.1)) = true → (0 : Int) ≤ x.2.2.2 ∧ x.2.2.2 < (↑x.1.length : Int))]
def r01_Get_l2_ps (x : r01_Get_l2_X) : List Prop := [((!!decide (x.2.2.2 < x.2.1)) = true → (0 : Int) ≤ x.2.2.2 ∧ x.2.2.2 < (↑x.1.length : Int))]
def r01_Get_l2_outs (x : r01_Get_l2_X) : Outs := [(some 2, some (!decide (x.2.2.2 < x.2.1)), ⟨51, 0, [(7, .v (.int .i64 x.2.2.1))], []⟩)]
def r01_Get_l2_fuel (x : r01_Get_l2_X) : Nat := (x.2.1 - x.2.2.2).toNat
def r01_Get_l2_run (x : r01_Get_l2_X) : r01_Get_l2_X := iterX r01_Get_l2_next r01_Get_l2_goes (r01_Get_l2_fuel x) x
set_option maxRecDepth 100000 in
theorem r01_Get_l2_ev (a0 : List UInt8) (a1 : Int) (a2 : Int) (a3 : Int) : roundE (envT Ce_2 r01_Get_l0_L) 9 (loopAt Try.prog 158 2) r01_Get_l2_S (r01_Get_l2_T (a0, a1, a2, a3)) = some (r01_Get_l2_psA (a0, a1, a2, a3), r01_Get_l2_outs (a0, a1, a2, a3), r01_Get_l2_goes (a0, a1, a2, a3), r01_Get_l2_T (r01_Get_l2_next (a0, a1, a2, a3))) := by kernel_rfl
set_option maxRecDepth 100000 in
theorem r01_Get_l2_hA (a0 : List UInt8) (a1 : Int) (a2 : Int) (a3 : Int) (hp : ∀ p ∈ r01_Get_l2_ps (a0, a1, a2, a3), p) : ∀ p ∈ r01_Get_l2_psA (a0, a1, a2, a3), p := by
  have n0 : ((!!decide (a3 < a1)) = true → (0 : Int) ≤ a3 ∧ a3 < (↑a0.length : Int)) := hp _ (List.mem_cons_self ..)
  exact (needs_cons n0 needs_nil)
noncomputable def r01_Get_l2_row := rowL (envT Ce_2 r01_Get_l0_L) (loopAt Try.prog 158 2) r01_Get_l2_S r01_Get_l2_E r01_Get_l2_un r01_Get_l2_fuel r01_Get_l2_next r01_Get_l2_goes r01_Get_l2_ps r01_Get_l2_outs
theorem r01_Get_l2_rok : ∀ s b ps outs, r01_Get_l2_row s = some (b, ps, outs) → Wf s ⟨ps, outs, none⟩ ∧ LoopOk (envT C0 L0) b s ps outs :=
  rowP_ok (T := r01_Get_l2_T) Ce_2_ok r01_Get_l0_Lok (u := 9) (by kernel_rfl) (by decide) (fun ⟨a0, a1, a2, a3⟩ => r01_Get_l2_ev a0 a1 a2 a3) (fun ⟨a0, a1, a2, a3⟩ => r01_Get_l2_hA a0 a1 a2 a3) r01_Get_l2_unok (fun _ => okOuts_ok (n := 51) rfl) fun _ _ => rfl
noncomputable def r01_Get_l2_L := addLp 2 r01_Get_l2_row r01_Get_l0_L
theorem r01_Get_l2_Lok : LpOk r01_Get_l2_L := addLp_ok r01_Get_l2_rok r01_Get_l0_Lok
def r01_Get_k3 (a0 : List UInt8) : Bool := (↑a0.length : Int) == (0 : Int)
def r01_Get_k2 (a0 : List UInt8) : Int := (r01_Get_l0_run (a0, (1 : Int), (0 : Int))).snd.fst
def r01_Get_k1 (a0 : List UInt8) : Bool := decide ((↑a0.length : Int) < (r01_Get_k2 a0))
def r01_Get_k0 (a0 : List UInt8) : Bool := r01_Size_0 (r01_Get_l2_run (a0, (r01_Get_k2 a0), IntKind.i64.wrap ((↑(UInt8.toNat (a0.getD (0 : Nat) (dflt TC.u8))) : Int).tmod (64 : Int)), (1 : Int))).snd.snd.fst != (r01_Get_k2 a0)
def r01_Get_0 (a0 : List UInt8) : Int := bif (r01_Get_k3 a0) then (0 : Int) else bif (r01_Get_k1 a0) then (0 : Int) else bif (r01_Get_k0 a0) then (0 : Int) else (r01_Get_l2_run (a0, (r01_Get_k2 a0), IntKind.i64.wrap ((↑(UInt8.toNat (a0.getD (0 : Nat) (dflt TC.u8))) : Int).tmod (64 : Int)), (1 : Int))).snd.snd.fst
def r01_Get_1 (a0 : List UInt8) : Int := bif (r01_Get_k3 a0) then (0 : Int) else bif (r01_Get_k1 a0) then (0 : Int) else bif (r01_Get_k0 a0) then (0 : Int) else (r01_Get_k2 a0)
def r01_Get_2 (a0 : List UInt8) : Int := bif (r01_Get_k3 a0) then (10 : Int) else bif (r01_Get_k1 a0) then (10 : Int) else bif (r01_Get_k0 a0) then (11 : Int) else (0 : Int)
def r01_Get_r (a0 : List UInt8) : A := .v (.tuple ⟨[.int .i64 (r01_Get_0 a0), .int .i64 (r01_Get_1 a0), .int .i64 (r01_Get_2 a0)]⟩)
def r01_Get_o (_a0 : List UInt8) : Objs := []
def r01_Get_ps (a0 : List UInt8) : List Prop := [((!(r01_Get_k3 a0)) = true → needX r01_Get_l0_next r01_Get_l0_goes r01_Get_l0_ps (r01_Get_l0_fuel (a0, (1 : Int), (0 : Int))) (a0, (1 : Int), (0 : Int))), ((!(r01_Get_k3 a0)) = true → (!(r01_Get_k1 a0)) = true → (0 : Int) ≤ (0 : Int) ∧ (0 : Int) < (↑a0.length : Int)), ((!(r01_Get_k3 a0)) = true → (!(r01_Get_k1 a0)) = true → needX r01_Get_l2_next r01_Get_l2_goes r01_Get_l2_ps (r01_Get_l2_fuel (a0, (r01_Get_k2 a0), IntKind.i64.wrap ((↑(UInt8.toNat (a0.getD (0 : Nat) (dflt TC.u8))) : Int).tmod (64 : Int)), (1 : Int))) (a0, (r01_Get_k2 a0), IntKind.i64.wrap ((↑(UInt8.toNat (a0.getD (0 : Nat) (dflt TC.u8))) : Int).tmod (64 : Int)), (1 : Int)))]
set_option maxRecDepth 100000 in
theorem r01_Get_ev (a0 : List UInt8) : evF (envT Ce_2 r01_Get_l2_L) 9 158 [valA .bytes a0] 0 [] = some (1, r01_Get_r a0, 0, r01_Get_o a0, [((!(r01_Get_k3 a0)) = true → loopAt Try.prog (158 : FuncId) (0 : Nat) = loopAt Try.prog (158 : FuncId) (0 : Nat)), ((!(r01_Get_k3 a0)) = true → needX r01_Get_l0_next r01_Get_l0_goes r01_Get_l0_ps (r01_Get_l0_fuel (a0, (1 : Int), (0 : Int))) (a0, (1 : Int), (0 : Int))), ((!(r01_Get_k3 a0)) = true → (!(r01_Get_k1 a0)) = true → (0 : Int) ≤ (0 : Int) ∧ (0 : Int) < (↑a0.length : Int)), ((!(r01_Get_k3 a0)) = true → (!(r01_Get_k1 a0)) = true → loopAt Try.prog (158 : FuncId) (2 : Nat) = loopAt Try.prog (158 : FuncId) (2 : Nat)), ((!(r01_Get_k3 a0)) = true → (!(r01_Get_k1 a0)) = true → needX r01_Get_l2_next r01_Get_l2_goes r01_Get_l2_ps (r01_Get_l2_fuel (a0, (r01_Get_k2 a0), IntKind.i64.wrap ((↑(UInt8.toNat (a0.getD (0 : Nat) (dflt TC.u8))) : Int).tmod (64 : Int)), (1 : Int))) (a0, (r01_Get_k2 a0), IntKind.i64.wrap ((↑(UInt8.toNat (a0.getD (0 : Nat) (dflt TC.u8))) : Int).tmod (64 : Int)), (1 : Int)))]) := by kernel_rfl
set_option maxRecDepth 100000 in
theorem r01_Get_c (a0 : List UInt8) (hp : ∀ p ∈ r01_Get_ps a0, p) : CallOk Try.prog 158 [valA .bytes a0] 0 [] 1 (r01_Get_r a0) 0 (r01_Get_o a0) := by
  have n0 : ((!(r01_Get_k3 a0)) = true → loopAt Try.prog (158 : FuncId) (0 : Nat) = loopAt Try.prog (158 : FuncId) (0 : Nat)) := by intros; rfl
  have n1 : ((!(r01_Get_k3 a0)) = true → needX r01_Get_l0_next r01_Get_l0_goes r01_Get_l0_ps (r01_Get_l0_fuel (a0, (1 : Int), (0 : Int))) (a0, (1 : Int), (0 : Int))) := hp _ (List.mem_cons_self ..)
  have n2 : ((!(r01_Get_k3 a0)) = true → (!(r01_Get_k1 a0)) = true → (0 : Int) ≤ (0 : Int) ∧ (0 : Int) < (↑a0.length : Int)) := hp _ (List.mem_cons_of_mem _ (List.mem_cons_self ..))
  have n3 : ((!(r01_Get_k3 a0)) = true → (!(r01_Get_k1 a0)) = true → loopAt Try.prog (158 : FuncId) (2 : Nat) = loopAt Try.prog (158 : FuncId) (2 : Nat)) := by intros; rfl
  have n4 : ((!(r01_Get_k3 a0)) = true → (!(r01_Get_k1 a0)) = true → needX r01_Get_l2_next r01_Get_l2_goes r01_Get_l2_ps (r01_Get_l2_fuel (a0, (r01_Get_k2 a0), IntKind.i64.wrap ((↑(UInt8.toNat (a0.getD (0 : Nat) (dflt TC.u8))) : Int).tmod (64 : Int)), (1 : Int))) (a0, (r01_Get_k2 a0), IntKind.i64.wrap ((↑(UInt8.toNat (a0.getD (0 : Nat) (dflt TC.u8))) : Int).tmod (64 : Int)), (1 : Int))) := hp _ (List.mem_cons_of_mem _ (List.mem_cons_of_mem _ (List.mem_cons_self ..)))
  exact evF_ok (envP_ok Ce_2_ok r01_Get_l2_Lok) (r01_Get_ev a0) (needs_cons n0 (needs_cons n1 (needs_cons n2 (needs_cons n3 (needs_cons n4 needs_nil)))))
def r01_Get_r2 (a0 : List UInt8) : A := .v (.tuple ⟨[.int .i64 (getN a0).1, .int .i64 (getN a0).2.1, .int .i64 (getN a0).2.2]⟩)
def r01_Get_o2 (_a0 : List UInt8) : Objs := []
def r01_Get_ps2 (_a0 : List UInt8) : List Prop := []
theorem r01_quo (x : UInt8) : IntKind.i64.wrap (IntKind.u8.wrap ((((x.toNat : Nat) : Int)).tdiv (64 : Int))) = ((x.toNat / 64 : Nat) : Int) := by
  have hx : x.toNat < 256 := x.toNat_lt
  rw [Int.tdiv_eq_ediv_of_nonneg (by omega), IntWalk.u8_in _ (by omega), i64_in (by omega)]
  omega
theorem r01_rem (x : UInt8) : IntKind.i64.wrap ((((x.toNat : Nat) : Int)).tmod (64 : Int)) = ((x.toNat % 64 : Nat) : Int) := by
  have hx : x.toNat < 256 := x.toNat_lt
  rw [Int.tmod_eq_emod_of_nonneg (by omega), i64_in (by omega)]
  omega
theorem r01_loop0 (x : UInt8) (r : List UInt8) :
    needX r01_Get_l0_next r01_Get_l0_goes r01_Get_l0_ps (r01_Get_l0_fuel (x :: r, (1 : Int), (0 : Int))) (x :: r, (1 : Int), (0 : Int)) ∧
    (r01_Get_l0_run (x :: r, (1 : Int), (0 : Int))).2.1 = ((2 ^ (x.toNat / 64) : Nat) : Int) := by
  have hx : x.toNat < 256 := x.toNat_lt
  have hf : ∀ k i : Int, r01_Get_l0_f_k0 (x :: r) k i = !decide (i < ((x.toNat / 64 : Nat) : Int)) := fun k i => by
    unfold r01_Get_l0_f_k0
    show (!decide (i < IntKind.i64.wrap (IntKind.u8.wrap ((((x.toNat : Nat) : Int)).tdiv (64 : Int))))) = _
    rw [r01_quo]
  obtain ⟨h1, ⟨i, hi, h2⟩, h3⟩ := loop_inv (next := r01_Get_l0_next) (goes := r01_Get_l0_goes) (ps := r01_Get_l0_ps)
    (fun y => ∃ i : Nat, i ≤ x.toNat / 64 ∧ y = (x :: r, ((2 ^ i : Nat) : Int), (i : Int))) r01_Get_l0_fuel (by
      rintro y ⟨i, hi, rfl⟩
      refine ⟨needs_cons ⟨Int.le_refl _, by show (0 : Int) < ((r.length + 1 : Nat) : Int); omega⟩ needs_nil, fun hg => ?_⟩
      have hg' : (!(r01_Get_l0_f_k0 (x :: r) ((2 ^ i : Nat) : Int) (i : Int))) = true := hg
      rw [hf] at hg'
      have hlt : i < x.toNat / 64 := by
        have : (i : Int) < ((x.toNat / 64 : Nat) : Int) := by simpa using hg'
        omega
      have h2i : 2 ^ i ≤ 2 ^ 3 := Nat.pow_le_pow_right (by decide) (by omega)
      refine ⟨⟨i + 1, hlt, ?_⟩, ?_⟩
      · show (x :: r, IntKind.i64.wrap ((2 : Int) * ((2 ^ i : Nat) : Int)), IntKind.i64.wrap ((i : Int) + 1)) = _
        rw [Nat.pow_succ]
        generalize 2 ^ i = q at *
        rw [i64_in (by omega), i64_in (by omega)]
        simp only [Prod.mk.injEq, true_and]
        omega
      · show (IntKind.i64.wrap (IntKind.u8.wrap ((((x.toNat : Nat) : Int)).tdiv (64 : Int))) - IntKind.i64.wrap ((i : Int) + 1)).toNat < (IntKind.i64.wrap (IntKind.u8.wrap ((((x.toNat : Nat) : Int)).tdiv (64 : Int))) - (i : Int)).toNat
        rw [r01_quo, i64_in (by omega)]
        omega) _ (x :: r, (1 : Int), (0 : Int)) ⟨0, Nat.zero_le _, rfl⟩ (Nat.le_refl _)
  refine ⟨h1, ?_⟩
  have h4 : r01_Get_l0_run (x :: r, (1 : Int), (0 : Int)) = _ := h2
  rw [h2] at h3
  have h3' : (!(r01_Get_l0_f_k0 (x :: r) ((2 ^ i : Nat) : Int) (i : Int))) = false := h3
  rw [hf] at h3'
  have hn : ¬ ((i : Int) < ((x.toNat / 64 : Nat) : Int)) := by simpa using h3'
  obtain rfl : i = x.toNat / 64 := by omega
  rw [h4]
theorem r01_loop2 (x : UInt8) (r : List UInt8) (K : Nat) (hK : 1 ≤ K) (h8 : K ≤ 8) (hl : K ≤ r.length + 1) :
    needX r01_Get_l2_next r01_Get_l2_goes r01_Get_l2_ps (r01_Get_l2_fuel (x :: r, (K : Int), ((x.toNat % 64 : Nat) : Int), (1 : Int))) (x :: r, (K : Int), ((x.toNat % 64 : Nat) : Int), (1 : Int)) ∧
    (r01_Get_l2_run (x :: r, (K : Int), ((x.toNat % 64 : Nat) : Int), (1 : Int))).2.2.1 = (val (x.toNat % 64) (r.take (K - 1)) : Int) := by
  obtain ⟨h1, ⟨i, hi, h2⟩, h3⟩ := loop_inv (next := r01_Get_l2_next) (goes := r01_Get_l2_goes) (ps := r01_Get_l2_ps)
    (fun y => ∃ i : Nat, i ≤ K - 1 ∧ y = (x :: r, (K : Int), (val (x.toNat % 64) (r.take i) : Int), ((i + 1 : Nat) : Int))) r01_Get_l2_fuel (by
      rintro y ⟨i, hi, rfl⟩
      have key : (!!decide (((i + 1 : Nat) : Int) < (K : Int))) = true → i < K - 1 := fun h => by
        have : ((i + 1 : Nat) : Int) < (K : Int) := by simpa using h
        omega
      refine ⟨needs_cons (fun h => ?_) needs_nil, fun hg => ?_⟩
      · have := key h
        show (0 : Int) ≤ ((i + 1 : Nat) : Int) ∧ ((i + 1 : Nat) : Int) < ((r.length + 1 : Nat) : Int)
        omega
      · have hlt := key hg
        have hv := val_acc (r.take i) (x.toNat % 64)
        have hvl := val_lt (r.take i)
        have e : (r.take i).length = i := by rw [List.length_take]; omega
        rw [e] at hv hvl
        have hm : 256 ^ i ≤ 256 ^ 6 := Nat.pow_le_pow_right (by decide) (by omega)
        have hq := Nat.mul_le_mul_right (256 ^ i) (show x.toNat % 64 + 1 ≤ 64 by omega)
        rw [Nat.add_mul, Nat.one_mul] at hq
        have hq2 := Nat.mul_le_mul_left 64 hm
        have h6 : 64 * 256 ^ 6 = 18014398509481984 := by decide
        have hb : val (x.toNat % 64) (r.take i) < 18014398509481984 := by omega
        have hd : ((x :: r).getD ((i + 1 : Nat) : Int).toNat (dflt TC.u8)) = r.getD i (dflt TC.u8) := by rw [Int.toNat_natCast]; rfl
        have hy : (r.getD i (dflt TC.u8)).toNat < 256 := (r.getD i (dflt TC.u8)).toNat_lt
        refine ⟨⟨i + 1, hlt, ?_⟩, ?_⟩
        · show (x :: r, (K : Int), IntKind.i64.wrap (IntKind.i64.wrap ((256 : Int) * (val (x.toNat % 64) (r.take i) : Int)) + IntKind.i64.wrap (((((x :: r).getD ((i + 1 : Nat) : Int).toNat (dflt TC.u8)).toNat : Nat) : Int))), IntKind.i64.wrap (((i + 1 : Nat) : Int) + 1)) = _
          rw [hd, ← val_take (x.toNat % 64) r i (by omega) (d := dflt TC.u8)]
          clear hv hvl hq hq2 hm h6 e
          generalize val (x.toNat % 64) (r.take i) = v at *
          generalize (r.getD i (dflt TC.u8)).toNat = y at *
          rw [i64_in (n := (256 : Int) * (v : Int)) (by omega), i64_in (n := ((y : Nat) : Int)) (by omega), i64_in (by omega), i64_in (by omega)]
          simp only [Prod.mk.injEq, true_and]
          omega
        · show ((K : Int) - IntKind.i64.wrap (((i + 1 : Nat) : Int) + 1)).toNat < ((K : Int) - ((i + 1 : Nat) : Int)).toNat
          rw [i64_in (by omega)]
          omega) _ (x :: r, (K : Int), ((x.toNat % 64 : Nat) : Int), (1 : Int)) ⟨0, Nat.zero_le _, rfl⟩ (Nat.le_refl _)
  refine ⟨h1, ?_⟩
  have h4 : r01_Get_l2_run (x :: r, (K : Int), ((x.toNat % 64 : Nat) : Int), (1 : Int)) = _ := h2
  rw [h2] at h3
  have h3' : (!!decide (((i + 1 : Nat) : Int) < (K : Int))) = false := h3
  have hn : ¬ (((i + 1 : Nat) : Int) < (K : Int)) := by simpa using h3'
  obtain rfl : i = K - 1 := by omega
  rw [h4]
theorem r01_Get_eq (b : List UInt8) : (∀ p ∈ r01_Get_ps b, p) ∧ (r01_Get_0 b, r01_Get_1 b, r01_Get_2 b) = getN b := by
  cases b with
  | nil =>
    have no : (!(r01_Get_k3 [])) = true → False := by intro h; cases h
    exact ⟨needs_cons (fun h => (no h).elim) (needs_cons (fun h => (no h).elim) (needs_cons (fun h => (no h).elim) needs_nil)), rfl⟩
  | cons x r =>
    have hx : x.toNat < 256 := x.toNat_lt
    have k3 : r01_Get_k3 (x :: r) = false := by
      show (((r.length + 1 : Nat) : Int) == 0) = false
      rw [Bool.eq_false_iff, Ne, beq_iff_eq]
      omega
    obtain ⟨n1, n2⟩ := r01_loop0 x r
    have k2 : r01_Get_k2 (x :: r) = ((2 ^ (x.toNat / 64) : Nat) : Int) := n2
    have hK := (tag_of (show x.toNat / 64 ≤ 3 by omega)).1
    have hrem : IntKind.i64.wrap ((↑(UInt8.toNat ((x :: r).getD (0 : Nat) (dflt TC.u8))) : Int).tmod (64 : Int)) = ((x.toNat % 64 : Nat) : Int) := r01_rem x
    generalize hKK : 2 ^ (x.toNat / 64) = K at *
    have k1 : r01_Get_k1 (x :: r) = decide (r.length + 1 < K) := by
      show decide (((r.length + 1 : Nat) : Int) < r01_Get_k2 (x :: r)) = _
      rw [k2]
      exact decide_eq_decide.2 Int.ofNat_lt
    refine ⟨needs_cons (fun _ => n1) (needs_cons (fun _ _ => ⟨Int.le_refl _, by show (0 : Int) < ((r.length + 1 : Nat) : Int); omega⟩) (needs_cons (fun _ h => ?_) needs_nil)), ?_⟩
    · rw [k1] at h
      have hc : ¬ (r.length + 1 < K) := by simpa using h
      rw [hrem, k2]
      exact (r01_loop2 x r K (by unfold szs at hK; omega) (by unfold szs at hK; omega) (by omega)).1
    · unfold r01_Get_0 r01_Get_1 r01_Get_2
      rw [k3, k1, getN_cons, hKK]
      by_cases c1 : r.length + 1 < K
      · rw [if_pos c1, decide_eq_true c1]; rfl
      · rw [if_neg c1, decide_eq_false c1]
        obtain ⟨m1, m2⟩ := r01_loop2 x r K (by unfold szs at hK; omega) (by unfold szs at hK; omega) (by omega)
        have k0 : r01_Get_k0 (x :: r) = decide (szN (val (x.toNat % 64) (r.take (K - 1))) < K) := by
          unfold r01_Get_k0
          rw [hrem, k2, m2, r01_Size_eq]
          have hv := val_acc (r.take (K - 1)) (x.toNat % 64)
          have hvl := val_lt (r.take (K - 1))
          have e : (r.take (K - 1)).length = K - 1 := by rw [List.length_take]; omega
          rw [e] at hv hvl
          have hq := Nat.mul_le_mul_right (256 ^ (K - 1)) (show x.toNat % 64 + 1 ≤ 64 by omega)
          rw [Nat.add_mul, Nat.one_mul] at hq
          have hle := (sz_le hK (show val (x.toNat % 64) (r.take (K - 1)) < 64 * 256 ^ (K - 1) by omega)).1
          rw [Bool.eq_iff_iff, bne_iff_ne, decide_eq_true_eq]
          constructor
          · intro h
            have : szN (val (x.toNat % 64) (r.take (K - 1))) ≠ K := fun h' => h (by rw [h'])
            omega
          · intro h h'
            omega
        rw [k0, hrem, k2, m2]
        by_cases c2 : szN (val (x.toNat % 64) (r.take (K - 1))) < K
        · rw [if_pos c2, decide_eq_true c2]; rfl
        · rw [if_neg c2, decide_eq_false c2]; rfl
theorem r01_Get_c2 (a0 : List UInt8) (_hp : ∀ p ∈ r01_Get_ps2 a0, p) : CallOk Try.prog 158 [valA .bytes a0] 0 [] 1 (r01_Get_r2 a0) 0 (r01_Get_o2 a0) := by
  obtain ⟨h1, h2⟩ := r01_Get_eq a0
  have h := r01_Get_c a0 h1
  have hr : r01_Get_r a0 = r01_Get_r2 a0 := by unfold r01_Get_r r01_Get_r2; rw [← h2]
  rw [hr] at h
  exact h
def r01_Get_t : List A → Nat → Objs → Option CRes
  | [y0], nx, o => match argU .bytes y0 with
    | some (a0, p0) => some (1, (r01_Get_r2 a0).pk (shiftR nx), nx + 0, shiftO nx (r01_Get_o2 a0) ++ o, p0 ++ (r01_Get_ps2 a0))
    | _ => none
  | _, _, _ => none
theorem r01_Get_tok : TOk Try.prog 158 r01_Get_t := fun args nx o k x nx' o' ps h => by
  unfold r01_Get_t at h
  split at h <;> first | (cases h; done) | skip
  split at h <;> first | (cases h; done) | skip
  rename_i a0 p0 e0
  cases h
  refine ⟨fun hp => ?_, _, rfl⟩
  have q0 := fun p hm => hp p (List.mem_append.2 (.inl hm))
  have r0 := fun p hm => hp p (List.mem_append.2 (.inr hm))
  refine callOk_args (callOk_shift (r01_Get_c2 a0 r0) (Nat.le_refl _) (freeL_cons (valA_free _ _) freeL_nil) nx o) fun F N R vs hl => ?_
  obtain ⟨v0, w0, rfl, h0, hl⟩ := hl.inv
  exact HL.cons (argU_ok e0 q0 h0) (hl)
noncomputable def Ce_3 := addC 158 r01_Get_t Ce_2
theorem Ce_3_ok : COk Try.prog Ce_3 := addC_ok r01_Get_tok Ce_2_ok
def r01_PutText_k0 (a0 : List UInt8) (a1 : ByteArray) : List UInt8 := a0 ++ putN (↑a1.size : Int)
def r01_PutText_0 (a0 : List UInt8) (a1 : ByteArray) : List UInt8 := (r01_PutText_k0 a0 a1) ++ a1.data.toList
def r01_PutText_r (_a0 : List UInt8) (_a1 : ByteArray) : A := .sq 0
def r01_PutText_o (a0 : List UInt8) (a1 : ByteArray) : Objs := [(0, some (.arr 5 1 (.ty .u8 (r01_PutText_0 a0 a1))))]
def r01_PutText_ps (a0 : List UInt8) (a1 : ByteArray) : List Prop := [(boundP (a0.length + (8 : Nat))), (boundP ((r01_PutText_k0 a0 a1).length + a1.data.toList.length))]
set_option maxRecDepth 100000 in
theorem r01_PutText_ev (a0 : List UInt8) (a1 : ByteArray) : evF (envT Ce_3 L0) 9 126 [valA .bytes a0, valA .str a1] 0 [] = some (1, r01_PutText_r a0 a1, 1, r01_PutText_o a0 a1, [(boundP (a0.length + (8 : Nat))), (boundP ((r01_PutText_k0 a0 a1).length + a1.data.toList.length))]) := by kernel_rfl
set_option maxRecDepth 100000 in
theorem r01_PutText_c (a0 : List UInt8) (a1 : ByteArray) (hp : ∀ p ∈ r01_PutText_ps a0 a1, p) : CallOk Try.prog 126 [valA .bytes a0, valA .str a1] 0 [] 1 (r01_PutText_r a0 a1) 1 (r01_PutText_o a0 a1) := by
  have n0 : (boundP (a0.length + (8 : Nat))) := hp _ (List.mem_cons_self ..)
  have n1 : (boundP ((r01_PutText_k0 a0 a1).length + a1.data.toList.length)) := hp _ (List.mem_cons_of_mem _ (List.mem_cons_self ..))
  exact evF_ok (envP_ok Ce_3_ok L0_ok) (r01_PutText_ev a0 a1) (needs_cons n0 (needs_cons n1 needs_nil))
def r01_PutText_r2 (_a0 : List UInt8) (_a1 : ByteArray) : A := .sq 0
def r01_PutText_o2 (a0 : List UInt8) (a1 : ByteArray) : Objs := [(0, some (.arr 5 1 (.ty .u8 (a0 ++ putT a1))))]
def r01_PutText_ps2 (a0 : List UInt8) (a1 : ByteArray) : List Prop := [boundP (a0.length + 8 + a1.size)]
theorem r01_PutText_c2 (a0 : List UInt8) (a1 : ByteArray) (hp : ∀ p ∈ r01_PutText_ps2 a0 a1, p) : CallOk Try.prog 126 [valA .bytes a0, valA .str a1] 0 [] 1 (r01_PutText_r2 a0 a1) 1 (r01_PutText_o2 a0 a1) := by
  have hb : boundP (a0.length + 8 + a1.size) := hp _ (List.mem_cons_self ..)
  have h := r01_PutText_c a0 a1 (needs_cons (by unfold boundP at *; omega) (needs_cons (by
    have := putN_8 (a1.size : Int)
    have hs : a1.data.toList.length = a1.size := Array.length_toList
    unfold r01_PutText_k0 boundP at *
    rw [List.length_append, hs]
    omega) needs_nil))
  have ho : r01_PutText_o a0 a1 = r01_PutText_o2 a0 a1 := by unfold r01_PutText_o r01_PutText_o2 r01_PutText_0 r01_PutText_k0 putT; rw [List.append_assoc]
  rw [ho] at h
  exact h
def r01_PutText_t : List A → Nat → Objs → Option CRes
  | [y0, y1], nx, o => match argU .bytes y0, argU .str y1 with
    | some (a0, p0), some (a1, p1) => some (1, (r01_PutText_r2 a0 a1).pk (shiftR nx), nx + 1, shiftO nx (r01_PutText_o2 a0 a1) ++ o, p0 ++ (p1 ++ (r01_PutText_ps2 a0 a1)))
    | _, _ => none
  | _, _, _ => none
theorem r01_PutText_tok : TOk Try.prog 126 r01_PutText_t := fun args nx o k x nx' o' ps h => by
  unfold r01_PutText_t at h
  split at h <;> first | (cases h; done) | skip
  split at h <;> first | (cases h; done) | skip
  rename_i a0 p0 a1 p1 e0 e1
  cases h
  refine ⟨fun hp => ?_, _, rfl⟩
  have q0 := fun p hm => hp p (List.mem_append.2 (.inl hm))
  have r0 := fun p hm => hp p (List.mem_append.2 (.inr hm))
  have q1 := fun p hm => r0 p (List.mem_append.2 (.inl hm))
  have r1 := fun p hm => r0 p (List.mem_append.2 (.inr hm))
  refine callOk_args (callOk_shift (r01_PutText_c2 a0 a1 r1) (Nat.le_refl _) (freeL_cons (valA_free _ _) (freeL_cons (valA_free _ _) freeL_nil)) nx o) fun F N R vs hl => ?_
  obtain ⟨v0, w0, rfl, h0, hl⟩ := hl.inv
  obtain ⟨v1, w1, rfl, h1, hl⟩ := hl.inv
  exact HL.cons (argU_ok e0 q0 h0) (HL.cons (argU_ok e1 q1 h1) (hl))
noncomputable def Ce_4 := addC 126 r01_PutText_t Ce_3
theorem Ce_4_ok : COk Try.prog Ce_4 := addC_ok r01_PutText_tok Ce_3_ok
def r01_GetText_k3 (a0 : List UInt8) (_a1 : Int) : Bool := (getN a0).snd.snd != (0 : Int)
def r01_GetText_k2 (a0 : List UInt8) (_a1 : Int) : Int := IntKind.i64.wrap ((getN a0).snd.fst + (getN a0).fst)
def r01_GetText_k1 (a0 : List UInt8) (a1 : Int) : Bool := decide ((getN a0).fst > a1)
def r01_GetText_k0 (a0 : List UInt8) (_a1 : Int) : Bool := decide (IntKind.i64.wrap ((↑a0.length : Int) - (getN a0).snd.fst) < (getN a0).fst)
def r01_GetText_0 (a0 : List UInt8) (a1 : Int) : ByteArray := bif (r01_GetText_k3 a0 a1) then ByteArray.mk #[] else bif (r01_GetText_k1 a0 a1) then ByteArray.mk #[] else bif (r01_GetText_k0 a0 a1) then ByteArray.mk #[] else ByteArray.mk (List.take ((r01_GetText_k2 a0 a1).toNat - (getN a0).snd.fst.toNat) (List.drop (getN a0).snd.fst.toNat a0)).toArray
def r01_GetText_1 (a0 : List UInt8) (a1 : Int) : Int := bif (r01_GetText_k3 a0 a1) then (0 : Int) else bif (r01_GetText_k1 a0 a1) then (0 : Int) else bif (r01_GetText_k0 a0 a1) then (0 : Int) else (r01_GetText_k2 a0 a1)
def r01_GetText_2 (a0 : List UInt8) (a1 : Int) : Int := bif (r01_GetText_k3 a0 a1) then (getN a0).snd.snd else bif (r01_GetText_k1 a0 a1) then (3 : Int) else bif (r01_GetText_k0 a0 a1) then (10 : Int) else (0 : Int)
def r01_GetText_r (a0 : List UInt8) (a1 : Int) : A := .v (.tuple ⟨[.string (r01_GetText_0 a0 a1), .int .i64 (r01_GetText_1 a0 a1), .int .i64 (r01_GetText_2 a0 a1)]⟩)
def r01_GetText_o (_a0 : List UInt8) (_a1 : Int) : Objs := []
def r01_GetText_ps (a0 : List UInt8) (a1 : Int) : List Prop := [((!(r01_GetText_k3 a0 a1)) = true → (!(r01_GetText_k1 a0 a1)) = true → (!(r01_GetText_k0 a0 a1)) = true → (0 : Int) ≤ (getN a0).snd.fst ∧ (getN a0).snd.fst ≤ (r01_GetText_k2 a0 a1) ∧ (r01_GetText_k2 a0 a1) ≤ (↑a0.length : Int))]
set_option maxRecDepth 100000 in
theorem r01_GetText_ev (a0 : List UInt8) (a1 : Int) : evF (envT Ce_4 L0) 9 139 [valA .bytes a0, valA .i64 a1] 0 [] = some (1, r01_GetText_r a0 a1, 0, r01_GetText_o a0 a1, [((!(r01_GetText_k3 a0 a1)) = true → (!(r01_GetText_k1 a0 a1)) = true → (!(r01_GetText_k0 a0 a1)) = true → (0 : Int) ≤ (getN a0).snd.fst ∧ (getN a0).snd.fst ≤ (r01_GetText_k2 a0 a1) ∧ (r01_GetText_k2 a0 a1) ≤ (↑a0.length : Int))]) := by kernel_rfl
set_option maxRecDepth 100000 in
theorem r01_GetText_c (a0 : List UInt8) (a1 : Int) (hp : ∀ p ∈ r01_GetText_ps a0 a1, p) : CallOk Try.prog 139 [valA .bytes a0, valA .i64 a1] 0 [] 1 (r01_GetText_r a0 a1) 0 (r01_GetText_o a0 a1) := by
  have n0 : ((!(r01_GetText_k3 a0 a1)) = true → (!(r01_GetText_k1 a0 a1)) = true → (!(r01_GetText_k0 a0 a1)) = true → (0 : Int) ≤ (getN a0).snd.fst ∧ (getN a0).snd.fst ≤ (r01_GetText_k2 a0 a1) ∧ (r01_GetText_k2 a0 a1) ≤ (↑a0.length : Int)) := hp _ (List.mem_cons_self ..)
  exact evF_ok (envP_ok Ce_4_ok L0_ok) (r01_GetText_ev a0 a1) (needs_cons n0 needs_nil)
def r01_GetText_r2 (a0 : List UInt8) (a1 : Int) : A := .v (.tuple ⟨[.string (getT a0 a1).1, .int .i64 (getT a0 a1).2.1, .int .i64 (getT a0 a1).2.2]⟩)
def r01_GetText_o2 (_a0 : List UInt8) (_a1 : Int) : Objs := []
def r01_GetText_ps2 (a0 : List UInt8) (_a1 : Int) : List Prop := [boundP a0.length]
theorem r01_GetText_eq (b : List UInt8) (m : Int) (hb : boundP b.length) : (∀ p ∈ r01_GetText_ps b m, p) ∧ (r01_GetText_0 b m, r01_GetText_1 b m, r01_GetText_2 b m) = getT b m := by
  obtain ⟨hk0, hk1, hk2, hn0, hn1⟩ := getN_bounds b
  unfold boundP at hb
  have k2 : r01_GetText_k2 b m = (getN b).2.1 + (getN b).1 := by
    unfold r01_GetText_k2
    exact i64_in (by omega)
  have k0 : r01_GetText_k0 b m = decide ((b.length : Int) - (getN b).2.1 < (getN b).1) := by
    unfold r01_GetText_k0
    rw [i64_in (by omega)]
  refine ⟨needs_cons (fun _ _ h => ?_) needs_nil, ?_⟩
  · rw [k0] at h
    rw [k2]
    have h' : ¬ ((b.length : Int) - (getN b).2.1 < (getN b).1) := by simpa using h
    omega
  · unfold r01_GetText_0 r01_GetText_1 r01_GetText_2 r01_GetText_k1 r01_GetText_k3 getT
    rw [k0, k2]
    by_cases he : (getN b).2.2 = 0
    · have e1 : ((getN b).2.2 != (0 : Int)) = false := by rw [he]; rfl
      rw [e1, if_neg (by rw [he]; simp)]
      by_cases hm : (getN b).1 > m
      · rw [decide_eq_true hm, if_pos hm]; rfl
      · rw [decide_eq_false hm, if_neg hm]
        by_cases hc : (b.length : Int) - (getN b).2.1 < (getN b).1
        · rw [decide_eq_true hc, if_pos hc]; rfl
        · rw [decide_eq_false hc, if_neg hc]
          have e3 : ((getN b).2.1 + (getN b).1).toNat - (getN b).2.1.toNat = (getN b).1.toNat := by omega
          rw [e3]
          rfl
    · have e1 : ((getN b).2.2 != (0 : Int)) = true := by simpa using he
      rw [e1, if_pos he]
      rfl
theorem r01_GetText_c2 (a0 : List UInt8) (a1 : Int) (hp : ∀ p ∈ r01_GetText_ps2 a0 a1, p) : CallOk Try.prog 139 [valA .bytes a0, valA .i64 a1] 0 [] 1 (r01_GetText_r2 a0 a1) 0 (r01_GetText_o2 a0 a1) := by
  obtain ⟨h1, h2⟩ := r01_GetText_eq a0 a1 (hp _ (List.mem_cons_self ..))
  have h := r01_GetText_c a0 a1 h1
  have hr : r01_GetText_r a0 a1 = r01_GetText_r2 a0 a1 := by unfold r01_GetText_r r01_GetText_r2; rw [← h2]
  rw [hr] at h
  exact h
def r01_GetText_t : List A → Nat → Objs → Option CRes
  | [y0, y1], nx, o => match argU .bytes y0, argU .i64 y1 with
    | some (a0, p0), some (a1, p1) => some (1, (r01_GetText_r2 a0 a1).pk (shiftR nx), nx + 0, shiftO nx (r01_GetText_o2 a0 a1) ++ o, p0 ++ (p1 ++ (r01_GetText_ps2 a0 a1)))
    | _, _ => none
  | _, _, _ => none
theorem r01_GetText_tok : TOk Try.prog 139 r01_GetText_t := fun args nx o k x nx' o' ps h => by
  unfold r01_GetText_t at h
  split at h <;> first | (cases h; done) | skip
  split at h <;> first | (cases h; done) | skip
  rename_i a0 p0 a1 p1 e0 e1
  cases h
  refine ⟨fun hp => ?_, _, rfl⟩
  have q0 := fun p hm => hp p (List.mem_append.2 (.inl hm))
  have r0 := fun p hm => hp p (List.mem_append.2 (.inr hm))
  have q1 := fun p hm => r0 p (List.mem_append.2 (.inl hm))
  have r1 := fun p hm => r0 p (List.mem_append.2 (.inr hm))
  refine callOk_args (callOk_shift (r01_GetText_c2 a0 a1 r1) (Nat.le_refl _) (freeL_cons (valA_free _ _) (freeL_cons (valA_free _ _) freeL_nil)) nx o) fun F N R vs hl => ?_
  obtain ⟨v0, w0, rfl, h0, hl⟩ := hl.inv
  obtain ⟨v1, w1, rfl, h1, hl⟩ := hl.inv
  exact HL.cons (argU_ok e0 q0 h0) (HL.cons (argU_ok e1 q1 h1) (hl))
noncomputable def Ce_5 := addC 139 r01_GetText_t Ce_4
theorem Ce_5_ok : COk Try.prog Ce_5 := addC_ok r01_GetText_tok Ce_4_ok
def r05_Code_0 (a0 : TStamp) : Int := bif a0.1 == (0 : Int) then (0 : Int) else IntKind.i64.wrap (IntKind.i64.wrap (IntKind.i64.wrap ((2 : Int) * a0.1) + a0.2) - (1 : Int))
def r05_Code_r (a0 : TStamp) : A := .v (.int .i64 (r05_Code_0 a0))
def r05_Code_o (_a0 : TStamp) : Objs := []
def r05_Code_ps (_a0 : TStamp) : List Prop := []
set_option maxRecDepth 100000 in
theorem r05_Code_ev (a0 : TStamp) : evF (envT Ce_5 L0) 9 162 [valA .stamp a0] 0 [] = some (1, r05_Code_r a0, 0, r05_Code_o a0, []) := by kernel_rfl
set_option maxRecDepth 100000 in
theorem r05_Code_c (a0 : TStamp) (_hp : ∀ p ∈ r05_Code_ps a0, p) : CallOk Try.prog 162 [valA .stamp a0] 0 [] 1 (r05_Code_r a0) 0 (r05_Code_o a0) := by
  exact evF_ok (envP_ok Ce_5_ok L0_ok) (r05_Code_ev a0) needs_nil
def r05_Code_t : List A → Nat → Objs → Option CRes
  | [y0], nx, o => match argU .stamp y0 with
    | some (a0, p0) => some (1, (r05_Code_r a0).pk (shiftR nx), nx + 0, shiftO nx (r05_Code_o a0) ++ o, p0 ++ (r05_Code_ps a0))
    | _ => none
  | _, _, _ => none
theorem r05_Code_tok : TOk Try.prog 162 r05_Code_t := fun args nx o k x nx' o' ps h => by
  unfold r05_Code_t at h
  split at h <;> first | (cases h; done) | skip
  split at h <;> first | (cases h; done) | skip
  rename_i a0 p0 e0
  cases h
  refine ⟨fun hp => ?_, _, rfl⟩
  have q0 := fun p hm => hp p (List.mem_append.2 (.inl hm))
  have r0 := fun p hm => hp p (List.mem_append.2 (.inr hm))
  refine callOk_args (callOk_shift (r05_Code_c a0 r0) (Nat.le_refl _) (freeL_cons (valA_free _ _) freeL_nil) nx o) fun F N R vs hl => ?_
  obtain ⟨v0, w0, rfl, h0, hl⟩ := hl.inv
  exact HL.cons (argU_ok e0 q0 h0) (hl)
noncomputable def Ce_6 := addC 162 r05_Code_t Ce_5
theorem Ce_6_ok : COk Try.prog Ce_6 := addC_ok r05_Code_tok Ce_5_ok
def r05_Put_0 (a0 : List UInt8) (a1 : TStamp) : List UInt8 := bif !r05_Good_0 a1 then [] ++ a0 else a0 ++ putN (r05_Code_0 a1)
def r05_Put_r (_a0 : List UInt8) (_a1 : TStamp) : A := .sq 0
def r05_Put_o (a0 : List UInt8) (a1 : TStamp) : Objs := [(0, some (.arr 5 1 (.ty .u8 (r05_Put_0 a0 a1))))]
def r05_Put_ps (a0 : List UInt8) (a1 : TStamp) : List Prop := [((!r05_Good_0 a1) = true → boundP ((0 : Nat) + a0.length)), ((!!r05_Good_0 a1) = true → boundP (a0.length + (8 : Nat)))]
set_option maxRecDepth 100000 in
theorem r05_Put_ev (a0 : List UInt8) (a1 : TStamp) : evF (envT Ce_6 L0) 9 125 [valA .bytes a0, valA .stamp a1] 0 [] = some (1, r05_Put_r a0 a1, 1, r05_Put_o a0 a1, [((!r05_Good_0 a1) = true → boundP ((0 : Nat) + a0.length)), ((!!r05_Good_0 a1) = true → boundP (a0.length + (8 : Nat)))]) := by kernel_rfl
set_option maxRecDepth 100000 in
theorem r05_Put_c (a0 : List UInt8) (a1 : TStamp) (hp : ∀ p ∈ r05_Put_ps a0 a1, p) : CallOk Try.prog 125 [valA .bytes a0, valA .stamp a1] 0 [] 1 (r05_Put_r a0 a1) 1 (r05_Put_o a0 a1) := by
  have n0 : ((!r05_Good_0 a1) = true → boundP ((0 : Nat) + a0.length)) := hp _ (List.mem_cons_self ..)
  have n1 : ((!!r05_Good_0 a1) = true → boundP (a0.length + (8 : Nat))) := hp _ (List.mem_cons_of_mem _ (List.mem_cons_self ..))
  exact evF_ok (envP_ok Ce_6_ok L0_ok) (r05_Put_ev a0 a1) (needs_cons n0 (needs_cons n1 needs_nil))
def r05_Put_r2 (_a0 : List UInt8) (_a1 : TStamp) : A := .sq 0
def r05_Put_o2 (a0 : List UInt8) (a1 : TStamp) : Objs := [(0, some (.arr 5 1 (.ty .u8 (a0 ++ putS a1))))]
def r05_Put_ps2 (a0 : List UInt8) (_a1 : TStamp) : List Prop := [boundP (a0.length + 8)]
theorem r05_Good_eq (s : TStamp) : r05_Good_0 s = goodS s := rfl
theorem r05_Code_eq (s : TStamp) (h : goodS s = true) : r05_Code_0 s = codeS s := by
  have h' := goodS_iff.1 h
  unfold r05_Code_0 codeS
  cases s.1 == 0 with
  | true => rfl
  | false => rw [cond_false, cond_false, i64_in (n := 2 * s.1) (by omega), i64_in (n := 2 * s.1 + s.2) (by omega), i64_in (by omega)]
theorem r05_Put_c2 (a0 : List UInt8) (a1 : TStamp) (hp : ∀ p ∈ r05_Put_ps2 a0 a1, p) : CallOk Try.prog 125 [valA .bytes a0, valA .stamp a1] 0 [] 1 (r05_Put_r2 a0 a1) 1 (r05_Put_o2 a0 a1) := by
  have hb : boundP (a0.length + 8) := hp _ (List.mem_cons_self ..)
  have h := r05_Put_c a0 a1 (needs_cons (fun _ => by unfold boundP at *; omega) (needs_cons (fun _ => hb) needs_nil))
  have ho : r05_Put_o a0 a1 = r05_Put_o2 a0 a1 := by
    unfold r05_Put_o r05_Put_o2 r05_Put_0 putS
    rw [r05_Good_eq]
    cases hg : goodS a1 with
    | true => rw [r05_Code_eq a1 hg]; rfl
    | false => simp
  rw [ho] at h
  exact h
def r05_Put_t : List A → Nat → Objs → Option CRes
  | [y0, y1], nx, o => match argU .bytes y0, argU .stamp y1 with
    | some (a0, p0), some (a1, p1) => some (1, (r05_Put_r2 a0 a1).pk (shiftR nx), nx + 1, shiftO nx (r05_Put_o2 a0 a1) ++ o, p0 ++ (p1 ++ (r05_Put_ps2 a0 a1)))
    | _, _ => none
  | _, _, _ => none
theorem r05_Put_tok : TOk Try.prog 125 r05_Put_t := fun args nx o k x nx' o' ps h => by
  unfold r05_Put_t at h
  split at h <;> first | (cases h; done) | skip
  split at h <;> first | (cases h; done) | skip
  rename_i a0 p0 a1 p1 e0 e1
  cases h
  refine ⟨fun hp => ?_, _, rfl⟩
  have q0 := fun p hm => hp p (List.mem_append.2 (.inl hm))
  have r0 := fun p hm => hp p (List.mem_append.2 (.inr hm))
  have q1 := fun p hm => r0 p (List.mem_append.2 (.inl hm))
  have r1 := fun p hm => r0 p (List.mem_append.2 (.inr hm))
  refine callOk_args (callOk_shift (r05_Put_c2 a0 a1 r1) (Nat.le_refl _) (freeL_cons (valA_free _ _) (freeL_cons (valA_free _ _) freeL_nil)) nx o) fun F N R vs hl => ?_
  obtain ⟨v0, w0, rfl, h0, hl⟩ := hl.inv
  obtain ⟨v1, w1, rfl, h1, hl⟩ := hl.inv
  exact HL.cons (argU_ok e0 q0 h0) (HL.cons (argU_ok e1 q1 h1) (hl))
noncomputable def Ce_7 := addC 125 r05_Put_t Ce_6
theorem Ce_7_ok : COk Try.prog Ce_7 := addC_ok r05_Put_tok Ce_6_ok
def r05_Get_k2 (a0 : List UInt8) : Bool := (getN a0).snd.snd != (0 : Int)
def r05_Get_k1 (a0 : List UInt8) : Bool := decide ((getN a0).fst > (0 : Int))
def r05_Get_k0 (a0 : List UInt8) : Bool := !r05_Good_0 (TStamp.mk (bif (r05_Get_k1 a0) then IntKind.i64.wrap ((getN a0).fst.tdiv (2 : Int)) else (0 : Int)) (bif (r05_Get_k1 a0) then IntKind.i64.wrap ((1 : Int) + (getN a0).fst.tmod (2 : Int)) else (0 : Int)))
def r05_Get_0 (a0 : List UInt8) : TStamp := TStamp.mk (bif (r05_Get_k2 a0) then (0 : Int) else bif (r05_Get_k0 a0) then (0 : Int) else bif (r05_Get_k1 a0) then IntKind.i64.wrap ((getN a0).fst.tdiv (2 : Int)) else (0 : Int)) (bif (r05_Get_k2 a0) then (0 : Int) else bif (r05_Get_k0 a0) then (0 : Int) else bif (r05_Get_k1 a0) then IntKind.i64.wrap ((1 : Int) + (getN a0).fst.tmod (2 : Int)) else (0 : Int))
def r05_Get_1 (a0 : List UInt8) : Int := bif (r05_Get_k2 a0) then (0 : Int) else bif (r05_Get_k0 a0) then (0 : Int) else (getN a0).snd.fst
def r05_Get_2 (a0 : List UInt8) : Int := bif (r05_Get_k2 a0) then (getN a0).snd.snd else bif (r05_Get_k0 a0) then (11 : Int) else (0 : Int)
def r05_Get_r (a0 : List UInt8) : A := .v (.tuple ⟨[.agg ⟨[.int .i64 ((r05_Get_0 a0).n), .int .i64 ((r05_Get_0 a0).site)]⟩, .int .i64 (r05_Get_1 a0), .int .i64 (r05_Get_2 a0)]⟩)
def r05_Get_o (_a0 : List UInt8) : Objs := []
def r05_Get_ps (_a0 : List UInt8) : List Prop := []
set_option maxRecDepth 100000 in
theorem r05_Get_ev (a0 : List UInt8) : evF (envT Ce_7 L0) 9 159 [valA .bytes a0] 0 [] = some (1, r05_Get_r a0, 0, r05_Get_o a0, []) := by kernel_rfl
set_option maxRecDepth 100000 in
theorem r05_Get_c (a0 : List UInt8) (_hp : ∀ p ∈ r05_Get_ps a0, p) : CallOk Try.prog 159 [valA .bytes a0] 0 [] 1 (r05_Get_r a0) 0 (r05_Get_o a0) := by
  exact evF_ok (envP_ok Ce_7_ok L0_ok) (r05_Get_ev a0) needs_nil
def r05_Get_r2 (a0 : List UInt8) : A := .v (.tuple ⟨[.agg ⟨[.int .i64 (getS a0).1.n, .int .i64 (getS a0).1.site]⟩, .int .i64 (getS a0).2.1, .int .i64 (getS a0).2.2]⟩)
def r05_Get_o2 (_a0 : List UInt8) : Objs := []
def r05_Get_ps2 (_a0 : List UInt8) : List Prop := []
theorem r05_Get_eq (b : List UInt8) : (r05_Get_0 b, r05_Get_1 b, r05_Get_2 b) = getS b := by
  obtain ⟨_, _, _, hn0, hn1⟩ := getN_bounds b
  have e1 : (getN b).1.tdiv 2 = (getN b).1 / 2 := Int.tdiv_eq_ediv_of_nonneg hn0
  have e2 : (getN b).1.tmod 2 = (getN b).1 % 2 := Int.tmod_eq_emod_of_nonneg hn0
  have hd : TStamp.mk (bif decide ((getN b).1 > 0) then (getN b).1 / 2 else 0) (bif decide ((getN b).1 > 0) then 1 + (getN b).1 % 2 else 0) = decS (getN b).1 := by
    unfold decS
    by_cases h0 : (getN b).1 = 0
    · rw [if_pos h0, decide_eq_false (by omega)]; rfl
    · rw [if_neg h0, decide_eq_true (by omega)]; rfl
  unfold r05_Get_0 r05_Get_1 r05_Get_2 r05_Get_k0 r05_Get_k1 r05_Get_k2 getS
  rw [e1, e2, i64_in (n := (getN b).1 / 2) (by omega), i64_in (by omega), r05_Good_eq, hd]
  by_cases he : (getN b).2.2 = 0
  · have e1 : ((getN b).2.2 != (0 : Int)) = false := by rw [he]; rfl
    rw [e1, if_neg (by rw [he]; simp)]
    cases hg : goodS (decS (getN b).1) with
    | true => rw [← hd]; rfl
    | false => rfl
  · have e1 : ((getN b).2.2 != (0 : Int)) = true := by simpa using he
    rw [e1, if_pos he]
    rfl
theorem r05_Get_c2 (a0 : List UInt8) (_hp : ∀ p ∈ r05_Get_ps2 a0, p) : CallOk Try.prog 159 [valA .bytes a0] 0 [] 1 (r05_Get_r2 a0) 0 (r05_Get_o2 a0) := by
  have h := r05_Get_c a0 needs_nil
  have hr : r05_Get_r a0 = r05_Get_r2 a0 := by unfold r05_Get_r r05_Get_r2; rw [← r05_Get_eq]
  rw [hr] at h
  exact h
def r05_Get_t : List A → Nat → Objs → Option CRes
  | [y0], nx, o => match argU .bytes y0 with
    | some (a0, p0) => some (1, (r05_Get_r2 a0).pk (shiftR nx), nx + 0, shiftO nx (r05_Get_o2 a0) ++ o, p0 ++ (r05_Get_ps2 a0))
    | _ => none
  | _, _, _ => none
theorem r05_Get_tok : TOk Try.prog 159 r05_Get_t := fun args nx o k x nx' o' ps h => by
  unfold r05_Get_t at h
  split at h <;> first | (cases h; done) | skip
  split at h <;> first | (cases h; done) | skip
  rename_i a0 p0 e0
  cases h
  refine ⟨fun hp => ?_, _, rfl⟩
  have q0 := fun p hm => hp p (List.mem_append.2 (.inl hm))
  have r0 := fun p hm => hp p (List.mem_append.2 (.inr hm))
  refine callOk_args (callOk_shift (r05_Get_c2 a0 r0) (Nat.le_refl _) (freeL_cons (valA_free _ _) freeL_nil) nx o) fun F N R vs hl => ?_
  obtain ⟨v0, w0, rfl, h0, hl⟩ := hl.inv
  exact HL.cons (argU_ok e0 q0 h0) (hl)
noncomputable def Ce_8 := addC 159 r05_Get_t Ce_7
theorem Ce_8_ok : COk Try.prog Ce_8 := addC_ok r05_Get_tok Ce_7_ok
def r06_Put_k0 (a0 : List UInt8) (a1 : TVec) : List UInt8 := a0 ++ putN a1.1
def r06_Put_0 (a0 : List UInt8) (a1 : TVec) : List UInt8 := bif !r06_Good_0 a1 then [] ++ a0 else (r06_Put_k0 a0 a1) ++ putN a1.2
def r06_Put_r (_a0 : List UInt8) (_a1 : TVec) : A := .sq 0
def r06_Put_o (a0 : List UInt8) (a1 : TVec) : Objs := [(0, some (.arr 5 1 (.ty .u8 (r06_Put_0 a0 a1))))]
def r06_Put_ps (a0 : List UInt8) (a1 : TVec) : List Prop := [((!r06_Good_0 a1) = true → boundP ((0 : Nat) + a0.length)), ((!!r06_Good_0 a1) = true → boundP (a0.length + (8 : Nat))), ((!!r06_Good_0 a1) = true → boundP ((r06_Put_k0 a0 a1).length + (8 : Nat)))]
set_option maxRecDepth 100000 in
theorem r06_Put_ev (a0 : List UInt8) (a1 : TVec) : evF (envT Ce_8 L0) 9 124 [valA .bytes a0, valA .vec a1] 0 [] = some (1, r06_Put_r a0 a1, 1, r06_Put_o a0 a1, [((!r06_Good_0 a1) = true → boundP ((0 : Nat) + a0.length)), ((!!r06_Good_0 a1) = true → boundP (a0.length + (8 : Nat))), ((!!r06_Good_0 a1) = true → boundP ((r06_Put_k0 a0 a1).length + (8 : Nat)))]) := by kernel_rfl
set_option maxRecDepth 100000 in
theorem r06_Put_c (a0 : List UInt8) (a1 : TVec) (hp : ∀ p ∈ r06_Put_ps a0 a1, p) : CallOk Try.prog 124 [valA .bytes a0, valA .vec a1] 0 [] 1 (r06_Put_r a0 a1) 1 (r06_Put_o a0 a1) := by
  have n0 : ((!r06_Good_0 a1) = true → boundP ((0 : Nat) + a0.length)) := hp _ (List.mem_cons_self ..)
  have n1 : ((!!r06_Good_0 a1) = true → boundP (a0.length + (8 : Nat))) := hp _ (List.mem_cons_of_mem _ (List.mem_cons_self ..))
  have n2 : ((!!r06_Good_0 a1) = true → boundP ((r06_Put_k0 a0 a1).length + (8 : Nat))) := hp _ (List.mem_cons_of_mem _ (List.mem_cons_of_mem _ (List.mem_cons_self ..)))
  exact evF_ok (envP_ok Ce_8_ok L0_ok) (r06_Put_ev a0 a1) (needs_cons n0 (needs_cons n1 (needs_cons n2 needs_nil)))
def r06_Put_r2 (_a0 : List UInt8) (_a1 : TVec) : A := .sq 0
def r06_Put_o2 (a0 : List UInt8) (a1 : TVec) : Objs := [(0, some (.arr 5 1 (.ty .u8 (a0 ++ putV a1))))]
def r06_Put_ps2 (a0 : List UInt8) (_a1 : TVec) : List Prop := [boundP (a0.length + 16)]
theorem r06_Good_eq (v : TVec) : r06_Good_0 v = goodV v := by
  unfold r06_Good_0 goodV
  rw [Bool.and_assoc]
theorem r06_Put_c2 (a0 : List UInt8) (a1 : TVec) (hp : ∀ p ∈ r06_Put_ps2 a0 a1, p) : CallOk Try.prog 124 [valA .bytes a0, valA .vec a1] 0 [] 1 (r06_Put_r2 a0 a1) 1 (r06_Put_o2 a0 a1) := by
  have hb : boundP (a0.length + 16) := hp _ (List.mem_cons_self ..)
  have h := r06_Put_c a0 a1 (needs_cons (fun _ => by unfold boundP at *; omega) (needs_cons (fun _ => by unfold boundP at *; omega) (needs_cons (fun _ => by
    have := putN_8 a1.1
    unfold r06_Put_k0 boundP at *
    rw [List.length_append]
    omega) needs_nil)))
  have ho : r06_Put_o a0 a1 = r06_Put_o2 a0 a1 := by
    unfold r06_Put_o r06_Put_o2 r06_Put_0 r06_Put_k0 putV
    rw [r06_Good_eq]
    cases goodV a1 <;> simp
  rw [ho] at h
  exact h
def r06_Put_t : List A → Nat → Objs → Option CRes
  | [y0, y1], nx, o => match argU .bytes y0, argU .vec y1 with
    | some (a0, p0), some (a1, p1) => some (1, (r06_Put_r2 a0 a1).pk (shiftR nx), nx + 1, shiftO nx (r06_Put_o2 a0 a1) ++ o, p0 ++ (p1 ++ (r06_Put_ps2 a0 a1)))
    | _, _ => none
  | _, _, _ => none
theorem r06_Put_tok : TOk Try.prog 124 r06_Put_t := fun args nx o k x nx' o' ps h => by
  unfold r06_Put_t at h
  split at h <;> first | (cases h; done) | skip
  split at h <;> first | (cases h; done) | skip
  rename_i a0 p0 a1 p1 e0 e1
  cases h
  refine ⟨fun hp => ?_, _, rfl⟩
  have q0 := fun p hm => hp p (List.mem_append.2 (.inl hm))
  have r0 := fun p hm => hp p (List.mem_append.2 (.inr hm))
  have q1 := fun p hm => r0 p (List.mem_append.2 (.inl hm))
  have r1 := fun p hm => r0 p (List.mem_append.2 (.inr hm))
  refine callOk_args (callOk_shift (r06_Put_c2 a0 a1 r1) (Nat.le_refl _) (freeL_cons (valA_free _ _) (freeL_cons (valA_free _ _) freeL_nil)) nx o) fun F N R vs hl => ?_
  obtain ⟨v0, w0, rfl, h0, hl⟩ := hl.inv
  obtain ⟨v1, w1, rfl, h1, hl⟩ := hl.inv
  exact HL.cons (argU_ok e0 q0 h0) (HL.cons (argU_ok e1 q1 h1) (hl))
noncomputable def Ce_9 := addC 124 r06_Put_t Ce_8
theorem Ce_9_ok : COk Try.prog Ce_9 := addC_ok r06_Put_tok Ce_8_ok
def r06_Get_k2 (a0 : List UInt8) : Bool := (getN a0).snd.snd != (0 : Int)
def r06_Get_k1 (a0 : List UInt8) : Bool := !r06_Good_0 (TVec.mk (getN a0).fst (getN (List.take ((↑a0.length : Int).toNat - (getN a0).snd.fst.toNat) (List.drop (getN a0).snd.fst.toNat a0))).fst)
def r06_Get_k0 (a0 : List UInt8) : Bool := (getN (List.take ((↑a0.length : Int).toNat - (getN a0).snd.fst.toNat) (List.drop (getN a0).snd.fst.toNat a0))).snd.snd != (0 : Int)
def r06_Get_0 (a0 : List UInt8) : TVec := TVec.mk (bif (r06_Get_k2 a0) then (0 : Int) else bif (r06_Get_k0 a0) then (0 : Int) else bif (r06_Get_k1 a0) then (0 : Int) else (getN a0).fst) (bif (r06_Get_k2 a0) then (0 : Int) else bif (r06_Get_k0 a0) then (0 : Int) else bif (r06_Get_k1 a0) then (0 : Int) else (getN (List.take ((↑a0.length : Int).toNat - (getN a0).snd.fst.toNat) (List.drop (getN a0).snd.fst.toNat a0))).fst)
def r06_Get_1 (a0 : List UInt8) : Int := bif (r06_Get_k2 a0) then (0 : Int) else bif (r06_Get_k0 a0) then (0 : Int) else bif (r06_Get_k1 a0) then (0 : Int) else IntKind.i64.wrap ((getN a0).snd.fst + (getN (List.take ((↑a0.length : Int).toNat - (getN a0).snd.fst.toNat) (List.drop (getN a0).snd.fst.toNat a0))).snd.fst)
def r06_Get_2 (a0 : List UInt8) : Int := bif (r06_Get_k2 a0) then (getN a0).snd.snd else bif (r06_Get_k0 a0) then (getN (List.take ((↑a0.length : Int).toNat - (getN a0).snd.fst.toNat) (List.drop (getN a0).snd.fst.toNat a0))).snd.snd else bif (r06_Get_k1 a0) then (11 : Int) else (0 : Int)
def r06_Get_r (a0 : List UInt8) : A := .v (.tuple ⟨[.agg ⟨[.int .i64 ((r06_Get_0 a0).a), .int .i64 ((r06_Get_0 a0).b)]⟩, .int .i64 (r06_Get_1 a0), .int .i64 (r06_Get_2 a0)]⟩)
def r06_Get_o (_a0 : List UInt8) : Objs := []
def r06_Get_ps (a0 : List UInt8) : List Prop := [((!(r06_Get_k2 a0)) = true → (0 : Int) ≤ (getN a0).snd.fst ∧ (getN a0).snd.fst ≤ (↑a0.length : Int) ∧ (↑a0.length : Int) ≤ (↑a0.length : Int))]
set_option maxRecDepth 100000 in
theorem r06_Get_ev (a0 : List UInt8) : evF (envT Ce_9 L0) 9 160 [valA .bytes a0] 0 [] = some (1, r06_Get_r a0, 0, r06_Get_o a0, [((!(r06_Get_k2 a0)) = true → (0 : Int) ≤ (getN a0).snd.fst ∧ (getN a0).snd.fst ≤ (↑a0.length : Int) ∧ (↑a0.length : Int) ≤ (↑a0.length : Int))]) := by kernel_rfl
set_option maxRecDepth 100000 in
theorem r06_Get_c (a0 : List UInt8) (hp : ∀ p ∈ r06_Get_ps a0, p) : CallOk Try.prog 160 [valA .bytes a0] 0 [] 1 (r06_Get_r a0) 0 (r06_Get_o a0) := by
  have n0 : ((!(r06_Get_k2 a0)) = true → (0 : Int) ≤ (getN a0).snd.fst ∧ (getN a0).snd.fst ≤ (↑a0.length : Int) ∧ (↑a0.length : Int) ≤ (↑a0.length : Int)) := hp _ (List.mem_cons_self ..)
  exact evF_ok (envP_ok Ce_9_ok L0_ok) (r06_Get_ev a0) (needs_cons n0 needs_nil)
def r06_Get_r2 (a0 : List UInt8) : A := .v (.tuple ⟨[.agg ⟨[.int .i64 (getV a0).1.a, .int .i64 (getV a0).1.b]⟩, .int .i64 (getV a0).2.1, .int .i64 (getV a0).2.2]⟩)
def r06_Get_o2 (_a0 : List UInt8) : Objs := []
def r06_Get_ps2 (_a0 : List UInt8) : List Prop := []
theorem r06_Get_eq (b : List UInt8) : (∀ p ∈ r06_Get_ps b, p) ∧ (r06_Get_0 b, r06_Get_1 b, r06_Get_2 b) = getV b := by
  obtain ⟨hk0, hk1, hk2, hn0, hn1⟩ := getN_bounds b
  obtain ⟨hj0, hj1, hj2, hm0, hm1⟩ := getN_bounds (b.drop (getN b).2.1.toNat)
  refine ⟨needs_cons (fun _ => by omega) needs_nil, ?_⟩
  unfold r06_Get_0 r06_Get_1 r06_Get_2 r06_Get_k0 r06_Get_k1 r06_Get_k2 getV
  rw [slice_all, r06_Good_eq, i64_in (n := (getN b).2.1 + _) (by omega)]
  by_cases he : (getN b).2.2 = 0
  · have e1 : ((getN b).2.2 != (0 : Int)) = false := by rw [he]; rfl
    rw [e1, if_neg (by rw [he]; simp)]
    by_cases he2 : (getN (b.drop (getN b).2.1.toNat)).2.2 = 0
    · have e2 : ((getN (b.drop (getN b).2.1.toNat)).2.2 != (0 : Int)) = false := by rw [he2]; rfl
      rw [e2, if_neg (by rw [he2]; simp)]
      cases hg : goodV ⟨(getN b).1, (getN (b.drop (getN b).2.1.toNat)).1⟩ with
      | true => rfl
      | false => rfl
    · have e2 : ((getN (b.drop (getN b).2.1.toNat)).2.2 != (0 : Int)) = true := by simpa using he2
      rw [e2, if_pos he2]
      rfl
  · have e1 : ((getN b).2.2 != (0 : Int)) = true := by simpa using he
    rw [e1, if_pos he]
    rfl
theorem r06_Get_c2 (a0 : List UInt8) (_hp : ∀ p ∈ r06_Get_ps2 a0, p) : CallOk Try.prog 160 [valA .bytes a0] 0 [] 1 (r06_Get_r2 a0) 0 (r06_Get_o2 a0) := by
  obtain ⟨h1, h2⟩ := r06_Get_eq a0
  have h := r06_Get_c a0 h1
  have hr : r06_Get_r a0 = r06_Get_r2 a0 := by unfold r06_Get_r r06_Get_r2; rw [← h2]
  rw [hr] at h
  exact h
def r06_Get_t : List A → Nat → Objs → Option CRes
  | [y0], nx, o => match argU .bytes y0 with
    | some (a0, p0) => some (1, (r06_Get_r2 a0).pk (shiftR nx), nx + 0, shiftO nx (r06_Get_o2 a0) ++ o, p0 ++ (r06_Get_ps2 a0))
    | _ => none
  | _, _, _ => none
theorem r06_Get_tok : TOk Try.prog 160 r06_Get_t := fun args nx o k x nx' o' ps h => by
  unfold r06_Get_t at h
  split at h <;> first | (cases h; done) | skip
  split at h <;> first | (cases h; done) | skip
  rename_i a0 p0 e0
  cases h
  refine ⟨fun hp => ?_, _, rfl⟩
  have q0 := fun p hm => hp p (List.mem_append.2 (.inl hm))
  have r0 := fun p hm => hp p (List.mem_append.2 (.inr hm))
  refine callOk_args (callOk_shift (r06_Get_c2 a0 r0) (Nat.le_refl _) (freeL_cons (valA_free _ _) freeL_nil) nx o) fun F N R vs hl => ?_
  obtain ⟨v0, w0, rfl, h0, hl⟩ := hl.inv
  exact HL.cons (argU_ok e0 q0 h0) (hl)
noncomputable def Ce_10 := addC 160 r06_Get_t Ce_9
theorem Ce_10_ok : COk Try.prog Ce_10 := addC_ok r06_Get_tok Ce_9_ok

noncomputable def Ce := Ce_10
theorem Ce_ok : COk Try.prog Ce := Ce_10_ok
end Go.Proofs.Yteebobbhhgmeiaa
