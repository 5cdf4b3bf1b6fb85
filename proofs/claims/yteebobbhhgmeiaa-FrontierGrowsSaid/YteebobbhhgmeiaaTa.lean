/- made by a program (gent.py): what functions come to, by their symbolic run over typed data. -/
import Derived.Test.YteebobbhhgmeiaaTV
namespace Go.Proofs.Yteebobbhhgmeiaa
open Go.RowKit

def num_Size_k2 (a0 : Int) : Bool := !(decide (a0 < (0 : Int)) || decide (a0 > (4611686018427387903 : Int))) && (!decide (a0 ≥ (1073741824 : Int)) && decide (a0 ≥ (16384 : Int)))
def num_Size_k1 (a0 : Int) : Bool := !(decide (a0 < (0 : Int)) || decide (a0 > (4611686018427387903 : Int))) && (!decide (a0 ≥ (1073741824 : Int)) && (!decide (a0 ≥ (16384 : Int)) && decide (a0 ≥ (64 : Int))))
def num_Size_k0 (a0 : Int) : Bool := !(decide (a0 < (0 : Int)) || decide (a0 > (4611686018427387903 : Int))) && (!(!(decide (a0 < (0 : Int)) || decide (a0 > (4611686018427387903 : Int))) && decide (a0 ≥ (1073741824 : Int))) && (!(num_Size_k2 a0) && !(num_Size_k1 a0)))
def num_Size_0 (a0 : Int) : Int := bif !(!(decide (a0 < (0 : Int)) || decide (a0 > (4611686018427387903 : Int))) && decide (a0 ≥ (1073741824 : Int))) && (!(num_Size_k2 a0) && (!(num_Size_k1 a0) && !(num_Size_k0 a0))) then (0 : Int) else IntKind.i64.wrap ((bif (num_Size_k0 a0) then (0 : Int) else IntKind.i64.wrap ((bif (num_Size_k1 a0) then (0 : Int) else IntKind.i64.wrap ((bif (num_Size_k2 a0) then (0 : Int) else (4 : Int)) + (2 : Int))) + (1 : Int))) + (1 : Int))
def num_Size_r (a0 : Int) : A := .v (.int .i64 (num_Size_0 a0))
def num_Size_o (_a0 : Int) : Objs := []
def num_Size_ps (_a0 : Int) : List Prop := []
set_option maxRecDepth 100000 in
theorem num_Size_ev (a0 : Int) : evF (envT C0 L0) 9 157 [valA .i64 a0] 0 [] = some (1, num_Size_r a0, 0, num_Size_o a0, []) := by kernel_rfl
set_option maxRecDepth 100000 in
theorem num_Size_c (a0 : Int) (_hp : ∀ p ∈ num_Size_ps a0, p) : CallOk Try.prog 157 [valA .i64 a0] 0 [] 1 (num_Size_r a0) 0 (num_Size_o a0) := by
  exact evF_ok (envP_ok C0_ok L0_ok) (num_Size_ev a0) needs_nil
def num_Size_t : List A → Nat → Objs → Option CRes
  | [y0], nx, o => match argU .i64 y0 with
    | some (a0, p0) => some (1, (num_Size_r a0).pk (shiftR nx), nx + 0, shiftO nx (num_Size_o a0) ++ o, p0 ++ (num_Size_ps a0))
    | _ => none
  | _, _, _ => none
theorem num_Size_tok : TOk Try.prog 157 num_Size_t := fun args nx o k x nx' o' ps h => by
  unfold num_Size_t at h
  split at h <;> first | (cases h; done) | skip
  split at h <;> first | (cases h; done) | skip
  rename_i a0 p0 e0
  cases h
  refine ⟨fun hp => ?_, _, rfl⟩
  have q0 := fun p hm => hp p (List.mem_append.2 (.inl hm))
  have r0 := fun p hm => hp p (List.mem_append.2 (.inr hm))
  refine callOk_args (callOk_shift (num_Size_c a0 r0) (Nat.le_refl _) (freeL_cons (valA_free _ _) freeL_nil) nx o) fun F N R vs hl => ?_
  obtain ⟨v0, w0, rfl, h0, hl⟩ := hl.inv
  exact HL.cons (argU_ok e0 q0 h0) (hl)
noncomputable def Ca_1 := addC 157 num_Size_t C0
theorem Ca_1_ok : COk Try.prog Ca_1 := addC_ok num_Size_tok C0_ok
/-! loop 0 of function 119 -/
abbrev num_Put_l0_X : Type := Int × Int × Int × Int × (List UInt8)
def num_Put_l0_T (x : num_Put_l0_X) : St := ⟨59, 3, [(1, .v (.int .i64 x.1)), (5, .sq 2), (6, .v (.int .i64 x.2.1)), (16, .v (.int .i64 x.2.2.1)), (17, .v (.int .i64 x.2.2.2.1))], [(2, some (.arr 5 1 (.ty .u8 x.2.2.2.2)))]⟩
def num_Put_l0_un : St → Option num_Put_l0_X
  | ⟨59, 3, [(1, .v (.int .i64 z0)), (5, .sq 2), (6, .v (.int .i64 z1)), (16, .v (.int .i64 z2)), (17, .v (.int .i64 z3))], [(2, some (.arr 5 1 (.ty .u8 z4)))]⟩ => some (z0, z1, z2, z3, z4)
  | _ => none
theorem num_Put_l0_unok : ∀ s x, num_Put_l0_un s = some x → s = num_Put_l0_T x := fun s x h => by
  unfold num_Put_l0_un at h
  split at h
  · cases h; rfl
  · cases h
def num_Put_l0_S : Shape := ⟨2, 3, [1, 5, 6, 16, 17], [], [(4, 2)], [4], [5], [2]⟩
def num_Put_l0_E : Entry := ⟨[], [(1, 2)], [1, 5, 6, 16, 17], [1]⟩
def num_Put_l0_f_k0 (a0 : Int) (a1 : Int) (_a2 : Int) (a3 : Int) (_a4 : List UInt8) : Int := IntKind.u8.wrap (a0.fdiv ((2 : Int) ^ min (IntKind.u64.wrap (IntKind.i64.wrap ((8 : Int) * IntKind.i64.wrap (IntKind.i64.wrap (a1 - (1 : Int)) - a3)))).toNat (64 : Nat)))
def num_Put_l0_f_4 (a0 : Int) (a1 : Int) (a2 : Int) (a3 : Int) (a4 : List UInt8) : List UInt8 := a4 ++ [UInt8.ofNat (num_Put_l0_f_k0 a0 a1 a2 a3 a4).toNat]
def num_Put_l0_next (x : num_Put_l0_X) : num_Put_l0_X := (x.1, x.2.1, x.2.2.1, IntKind.i64.wrap (x.2.2.2.1 + (1 : Int)), num_Put_l0_f_4 x.1 x.2.1 x.2.2.1 x.2.2.2.1 x.2.2.2.2)
def num_Put_l0_goes (x : num_Put_l0_X) : Cnd := some (!!decide (x.2.2.2.1 < x.2.2.1))
def num_Put_l0_psA (x : num_Put_l0_X) : List Prop := [((!!decide (x.2.2.2.1 < x.2.2.1)) = true → (0 : Int) ≤ IntKind.u64.wrap (IntKind.i64.wrap ((8 : Int) * IntKind.i64.wrap (IntKind.i64.wrap (x.2.1 - (1 : Int)) - x.2.2.2.1)))), ((!!decide (x.2.2.2.1 < x.2.2.1)) = true → boundP (x.2.2.2.2.length + (1 : Nat))), ((!!decide (x.2.2.2.1 < x.2.2.1)) = true → (0 : Int) ≤ (num_Put_l0_f_k0 x.1 x.2.1 x.2.2.1 x.2.2.2.1 x.2.2.2.2) ∧ (num_Put_l0_f_k0 x.1 x.2.1 x.2.2.1 x.2.2.2.1 x.2.2.2.2) < (256 : Int))]
def num_Put_l0_ps (x : num_Put_l0_X) : List Prop := [((!!decide (x.2.2.2.1 < x.2.2.1)) = true → boundP (x.2.2.2.2.length + (1 : Nat)))]
def num_Put_l0_outs (x : num_Put_l0_X) : Outs := [(some 0, some (!decide (x.2.2.2.1 < x.2.2.1)), ⟨59, 3, [(5, .sq 2)], [(2, some (.arr 5 1 (.ty .u8 x.2.2.2.2)))]⟩)]
def num_Put_l0_fuel (x : num_Put_l0_X) : Nat := (x.2.2.1 - x.2.2.2.1).toNat
def num_Put_l0_run (x : num_Put_l0_X) : num_Put_l0_X := iterX num_Put_l0_next num_Put_l0_goes (num_Put_l0_fuel x) x
set_option maxRecDepth 100000 in
theorem num_Put_l0_ev (a0 : Int) (a1 : Int) (a2 : Int) (a3 : Int) (a4 : List UInt8) : roundE (envT Ca_1 L0) 9 (loopAt Try.prog 119 0) num_Put_l0_S (num_Put_l0_T (a0, a1, a2, a3, a4)) = some (num_Put_l0_psA (a0, a1, a2, a3, a4), num_Put_l0_outs (a0, a1, a2, a3, a4), num_Put_l0_goes (a0, a1, a2, a3, a4), num_Put_l0_T (num_Put_l0_next (a0, a1, a2, a3, a4))) := by kernel_rfl
set_option maxRecDepth 100000 in
theorem num_Put_l0_hA (a0 : Int) (a1 : Int) (a2 : Int) (a3 : Int) (a4 : List UInt8) (hp : ∀ p ∈ num_Put_l0_ps (a0, a1, a2, a3, a4), p) : ∀ p ∈ num_Put_l0_psA (a0, a1, a2, a3, a4), p := by
  have n0 : ((!!decide (a3 < a2)) = true → (0 : Int) ≤ IntKind.u64.wrap (IntKind.i64.wrap ((8 : Int) * IntKind.i64.wrap (IntKind.i64.wrap (a1 - (1 : Int)) - a3)))) := by intros; exact wrapU64 _
  have n1 : ((!!decide (a3 < a2)) = true → boundP (a4.length + (1 : Nat))) := hp _ (List.mem_cons_self ..)
  have n2 : ((!!decide (a3 < a2)) = true → (0 : Int) ≤ (num_Put_l0_f_k0 a0 a1 a2 a3 a4) ∧ (num_Put_l0_f_k0 a0 a1 a2 a3 a4) < (256 : Int)) := by intros; exact wrapU8 _
  exact (needs_cons n0 (needs_cons n1 (needs_cons n2 needs_nil)))
noncomputable def num_Put_l0_row := rowL (envT Ca_1 L0) (loopAt Try.prog 119 0) num_Put_l0_S num_Put_l0_E num_Put_l0_un num_Put_l0_fuel num_Put_l0_next num_Put_l0_goes num_Put_l0_ps num_Put_l0_outs
theorem num_Put_l0_rok : ∀ s b ps outs, num_Put_l0_row s = some (b, ps, outs) → Wf s ⟨ps, outs, none⟩ ∧ LoopOk (envT C0 L0) b s ps outs :=
  rowP_ok (T := num_Put_l0_T) Ca_1_ok L0_ok (u := 9) (by kernel_rfl) (by decide) (fun ⟨a0, a1, a2, a3, a4⟩ => num_Put_l0_ev a0 a1 a2 a3 a4) (fun ⟨a0, a1, a2, a3, a4⟩ => num_Put_l0_hA a0 a1 a2 a3 a4) num_Put_l0_unok (fun _ => okOuts_ok (n := 59) rfl) fun _ _ => rfl
noncomputable def num_Put_l0_L := addLp 0 num_Put_l0_row L0
theorem num_Put_l0_Lok : LpOk num_Put_l0_L := addLp_ok num_Put_l0_rok L0_ok
def num_Put_k7 (_a0 : List UInt8) (a1 : Int) : Bool := num_Size_0 a1 == (2 : Int)
def num_Put_k6 (_a0 : List UInt8) (a1 : Int) : Bool := num_Size_0 a1 == (4 : Int)
def num_Put_k5 (_a0 : List UInt8) (a1 : Int) : Bool := num_Size_0 a1 == (8 : Int)
def num_Put_k4 (a0 : List UInt8) (_a1 : Int) : Int := (↑([] ++ a0).length : Int)
def num_Put_k3 (a0 : List UInt8) (a1 : Int) : List UInt8 := (num_Put_l0_run (a1, num_Size_0 a1, num_Size_0 a1, (0 : Int), [] ++ a0)).snd.snd.snd.snd
def num_Put_k2 (a0 : List UInt8) (a1 : Int) : Int := IntKind.u8.wrap (↑(BitVec.ofInt (8 : Nat) (↑(UInt8.toNat ((num_Put_k3 a0 a1).getD (num_Put_k4 a0 a1).toNat (dflt TC.u8))) : Int) ||| BitVec.ofInt (8 : Nat) (192 : Int)).toNat : Int)
def num_Put_k1 (a0 : List UInt8) (a1 : Int) : Int := IntKind.u8.wrap (↑(BitVec.ofInt (8 : Nat) (↑(UInt8.toNat ((num_Put_k3 a0 a1).getD (num_Put_k4 a0 a1).toNat (dflt TC.u8))) : Int) ||| BitVec.ofInt (8 : Nat) (64 : Int)).toNat : Int)
def num_Put_k0 (a0 : List UInt8) (a1 : Int) : Int := IntKind.u8.wrap (↑(BitVec.ofInt (8 : Nat) (↑(UInt8.toNat ((num_Put_k3 a0 a1).getD (num_Put_k4 a0 a1).toNat (dflt TC.u8))) : Int) ||| BitVec.ofInt (8 : Nat) (128 : Int)).toNat : Int)
def num_Put_0 (a0 : List UInt8) (a1 : Int) : List UInt8 := bif (num_Put_k7 a0 a1) then (num_Put_k3 a0 a1).set (num_Put_k4 a0 a1).toNat (UInt8.ofNat (num_Put_k1 a0 a1).toNat) else bif (num_Put_k6 a0 a1) then (num_Put_k3 a0 a1).set (num_Put_k4 a0 a1).toNat (UInt8.ofNat (num_Put_k0 a0 a1).toNat) else bif (num_Put_k5 a0 a1) then (num_Put_k3 a0 a1).set (num_Put_k4 a0 a1).toNat (UInt8.ofNat (num_Put_k2 a0 a1).toNat) else (num_Put_k3 a0 a1)
def num_Put_r (_a0 : List UInt8) (_a1 : Int) : A := .sq 0
def num_Put_o (a0 : List UInt8) (a1 : Int) : Objs := [(0, some (.arr 5 1 (.ty .u8 (num_Put_0 a0 a1))))]
def num_Put_ps (a0 : List UInt8) (a1 : Int) : List Prop := [(boundP ((0 : Nat) + a0.length)), (needX num_Put_l0_next num_Put_l0_goes num_Put_l0_ps (num_Put_l0_fuel (a1, num_Size_0 a1, num_Size_0 a1, (0 : Int), [] ++ a0)) (a1, num_Size_0 a1, num_Size_0 a1, (0 : Int), [] ++ a0)), ((num_Put_k7 a0 a1) = true → (0 : Int) ≤ (num_Put_k4 a0 a1) ∧ (num_Put_k4 a0 a1) < (↑(num_Put_k3 a0 a1).length : Int)), ((num_Put_k7 a0 a1) = false → (num_Put_k6 a0 a1) = true → (0 : Int) ≤ (num_Put_k4 a0 a1) ∧ (num_Put_k4 a0 a1) < (↑(num_Put_k3 a0 a1).length : Int)), ((num_Put_k7 a0 a1) = false → (num_Put_k6 a0 a1) = false → (num_Put_k5 a0 a1) = true → (0 : Int) ≤ (num_Put_k4 a0 a1) ∧ (num_Put_k4 a0 a1) < (↑(num_Put_k3 a0 a1).length : Int))]
set_option maxRecDepth 100000 in
theorem num_Put_ev (a0 : List UInt8) (a1 : Int) : evF (envT Ca_1 num_Put_l0_L) 9 119 [valA .bytes a0, valA .i64 a1] 0 [] = some (1, num_Put_r a0 a1, 1, num_Put_o a0 a1, [(boundP ((0 : Nat) + a0.length)), (loopAt Try.prog (119 : FuncId) (0 : Nat) = loopAt Try.prog (119 : FuncId) (0 : Nat)), (needX num_Put_l0_next num_Put_l0_goes num_Put_l0_ps (num_Put_l0_fuel (a1, num_Size_0 a1, num_Size_0 a1, (0 : Int), [] ++ a0)) (a1, num_Size_0 a1, num_Size_0 a1, (0 : Int), [] ++ a0)), ((num_Put_k7 a0 a1) = true → (0 : Int) ≤ (num_Put_k4 a0 a1) ∧ (num_Put_k4 a0 a1) < (↑(num_Put_k3 a0 a1).length : Int)), ((num_Put_k7 a0 a1) = true → (num_Put_k4 a0 a1).toNat < (num_Put_k3 a0 a1).length), ((num_Put_k7 a0 a1) = true → (0 : Int) ≤ (num_Put_k4 a0 a1) ∧ (num_Put_k4 a0 a1) < (↑(num_Put_k3 a0 a1).length : Int)), ((num_Put_k7 a0 a1) = true → (num_Put_k4 a0 a1).toNat < (num_Put_k3 a0 a1).length), ((num_Put_k7 a0 a1) = true → (0 : Int) ≤ (num_Put_k1 a0 a1) ∧ (num_Put_k1 a0 a1) < (256 : Int)), ((num_Put_k7 a0 a1) = false → (num_Put_k6 a0 a1) = true → (0 : Int) ≤ (num_Put_k4 a0 a1) ∧ (num_Put_k4 a0 a1) < (↑(num_Put_k3 a0 a1).length : Int)), ((num_Put_k7 a0 a1) = false → (num_Put_k6 a0 a1) = true → (num_Put_k4 a0 a1).toNat < (num_Put_k3 a0 a1).length), ((num_Put_k7 a0 a1) = false → (num_Put_k6 a0 a1) = true → (0 : Int) ≤ (num_Put_k4 a0 a1) ∧ (num_Put_k4 a0 a1) < (↑(num_Put_k3 a0 a1).length : Int)), ((num_Put_k7 a0 a1) = false → (num_Put_k6 a0 a1) = true → (num_Put_k4 a0 a1).toNat < (num_Put_k3 a0 a1).length), ((num_Put_k7 a0 a1) = false → (num_Put_k6 a0 a1) = true → (0 : Int) ≤ (num_Put_k0 a0 a1) ∧ (num_Put_k0 a0 a1) < (256 : Int)), ((num_Put_k7 a0 a1) = false → (num_Put_k6 a0 a1) = false → (num_Put_k5 a0 a1) = true → (0 : Int) ≤ (num_Put_k4 a0 a1) ∧ (num_Put_k4 a0 a1) < (↑(num_Put_k3 a0 a1).length : Int)), ((num_Put_k7 a0 a1) = false → (num_Put_k6 a0 a1) = false → (num_Put_k5 a0 a1) = true → (num_Put_k4 a0 a1).toNat < (num_Put_k3 a0 a1).length), ((num_Put_k7 a0 a1) = false → (num_Put_k6 a0 a1) = false → (num_Put_k5 a0 a1) = true → (0 : Int) ≤ (num_Put_k4 a0 a1) ∧ (num_Put_k4 a0 a1) < (↑(num_Put_k3 a0 a1).length : Int)), ((num_Put_k7 a0 a1) = false → (num_Put_k6 a0 a1) = false → (num_Put_k5 a0 a1) = true → (num_Put_k4 a0 a1).toNat < (num_Put_k3 a0 a1).length), ((num_Put_k7 a0 a1) = false → (num_Put_k6 a0 a1) = false → (num_Put_k5 a0 a1) = true → (0 : Int) ≤ (num_Put_k2 a0 a1) ∧ (num_Put_k2 a0 a1) < (256 : Int))]) := by kernel_rfl
set_option maxRecDepth 100000 in
theorem num_Put_c (a0 : List UInt8) (a1 : Int) (hp : ∀ p ∈ num_Put_ps a0 a1, p) : CallOk Try.prog 119 [valA .bytes a0, valA .i64 a1] 0 [] 1 (num_Put_r a0 a1) 1 (num_Put_o a0 a1) := by
  have n0 : (boundP ((0 : Nat) + a0.length)) := hp _ (List.mem_cons_self ..)
  have n2 : (needX num_Put_l0_next num_Put_l0_goes num_Put_l0_ps (num_Put_l0_fuel (a1, num_Size_0 a1, num_Size_0 a1, (0 : Int), [] ++ a0)) (a1, num_Size_0 a1, num_Size_0 a1, (0 : Int), [] ++ a0)) := hp _ (List.mem_cons_of_mem _ (List.mem_cons_self ..))
  have n3 : ((num_Put_k7 a0 a1) = true → (0 : Int) ≤ (num_Put_k4 a0 a1) ∧ (num_Put_k4 a0 a1) < (↑(num_Put_k3 a0 a1).length : Int)) := hp _ (List.mem_cons_of_mem _ (List.mem_cons_of_mem _ (List.mem_cons_self ..)))
  have n4 : ((num_Put_k7 a0 a1) = true → (num_Put_k4 a0 a1).toNat < (num_Put_k3 a0 a1).length) := by intro h0; have g := n3 h0; omega
  have n7 : ((num_Put_k7 a0 a1) = true → (0 : Int) ≤ (num_Put_k1 a0 a1) ∧ (num_Put_k1 a0 a1) < (256 : Int)) := by intros; exact wrapU8 _
  have n8 : ((num_Put_k7 a0 a1) = false → (num_Put_k6 a0 a1) = true → (0 : Int) ≤ (num_Put_k4 a0 a1) ∧ (num_Put_k4 a0 a1) < (↑(num_Put_k3 a0 a1).length : Int)) := hp _ (List.mem_cons_of_mem _ (List.mem_cons_of_mem _ (List.mem_cons_of_mem _ (List.mem_cons_self ..))))
  have n9 : ((num_Put_k7 a0 a1) = false → (num_Put_k6 a0 a1) = true → (num_Put_k4 a0 a1).toNat < (num_Put_k3 a0 a1).length) := by intro h0 h1; have g := n8 h0 h1; omega
  have n12 : ((num_Put_k7 a0 a1) = false → (num_Put_k6 a0 a1) = true → (0 : Int) ≤ (num_Put_k0 a0 a1) ∧ (num_Put_k0 a0 a1) < (256 : Int)) := by intros; exact wrapU8 _
  have n13 : ((num_Put_k7 a0 a1) = false → (num_Put_k6 a0 a1) = false → (num_Put_k5 a0 a1) = true → (0 : Int) ≤ (num_Put_k4 a0 a1) ∧ (num_Put_k4 a0 a1) < (↑(num_Put_k3 a0 a1).length : Int)) := hp _ (List.mem_cons_of_mem _ (List.mem_cons_of_mem _ (List.mem_cons_of_mem _ (List.mem_cons_of_mem _ (List.mem_cons_self ..)))))
  have n14 : ((num_Put_k7 a0 a1) = false → (num_Put_k6 a0 a1) = false → (num_Put_k5 a0 a1) = true → (num_Put_k4 a0 a1).toNat < (num_Put_k3 a0 a1).length) := by intro h0 h1 h2; have g := n13 h0 h1 h2; omega
  have n17 : ((num_Put_k7 a0 a1) = false → (num_Put_k6 a0 a1) = false → (num_Put_k5 a0 a1) = true → (0 : Int) ≤ (num_Put_k2 a0 a1) ∧ (num_Put_k2 a0 a1) < (256 : Int)) := by intros; exact wrapU8 _
  exact evF_ok (envP_ok Ca_1_ok num_Put_l0_Lok) (num_Put_ev a0 a1) (needs_cons n0 (needs_cons rfl (needs_cons n2 (needs_cons n3 (needs_cons n4 (needs_cons n3 (needs_cons n4 (needs_cons n7 (needs_cons n8 (needs_cons n9 (needs_cons n8 (needs_cons n9 (needs_cons n12 (needs_cons n13 (needs_cons n14 (needs_cons n13 (needs_cons n14 (needs_cons n17 needs_nil))))))))))))))))))
def num_Put_t : List A → Nat → Objs → Option CRes
  | [y0, y1], nx, o => match argU .bytes y0, argU .i64 y1 with
    | some (a0, p0), some (a1, p1) => some (1, (num_Put_r a0 a1).pk (shiftR nx), nx + 1, shiftO nx (num_Put_o a0 a1) ++ o, p0 ++ (p1 ++ (num_Put_ps a0 a1)))
    | _, _ => none
  | _, _, _ => none
theorem num_Put_tok : TOk Try.prog 119 num_Put_t := fun args nx o k x nx' o' ps h => by
  unfold num_Put_t at h
  split at h <;> first | (cases h; done) | skip
  split at h <;> first | (cases h; done) | skip
  rename_i a0 p0 a1 p1 e0 e1
  cases h
  refine ⟨fun hp => ?_, _, rfl⟩
  have q0 := fun p hm => hp p (List.mem_append.2 (.inl hm))
  have r0 := fun p hm => hp p (List.mem_append.2 (.inr hm))
  have q1 := fun p hm => r0 p (List.mem_append.2 (.inl hm))
  have r1 := fun p hm => r0 p (List.mem_append.2 (.inr hm))
  refine callOk_args (callOk_shift (num_Put_c a0 a1 r1) (Nat.le_refl _) (freeL_cons (valA_free _ _) (freeL_cons (valA_free _ _) freeL_nil)) nx o) fun F N R vs hl => ?_
  obtain ⟨v0, w0, rfl, h0, hl⟩ := hl.inv
  obtain ⟨v1, w1, rfl, h1, hl⟩ := hl.inv
  exact HL.cons (argU_ok e0 q0 h0) (HL.cons (argU_ok e1 q1 h1) (hl))
noncomputable def Ca_2 := addC 119 num_Put_t Ca_1
theorem Ca_2_ok : COk Try.prog Ca_2 := addC_ok num_Put_tok Ca_1_ok

noncomputable def Ca := Ca_2
theorem Ca_ok : COk Try.prog Ca := Ca_2_ok
end Go.Proofs.Yteebobbhhgmeiaa
