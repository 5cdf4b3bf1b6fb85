/- made by a program (gent.py): what functions come to, by their symbolic run over typed data. -/
import Derived.Test.YteebobbhhgmeiaaTV
import Derived.Test.YteebobbhhgmeiaaNm
namespace Go.Proofs.Yteebobbhhgmeiaa
open Go.RowKit

def num_Size_k2 (a0 : Int) : Bool := !(decide (a0 < (0 : Int)) || decide (a0 > (4611686018427387903 : Int))) && (!decide (a0 ≥ (1073741824 : Int)) && decide (a0 ≥ (16384 : Int)))
def num_Size_k1 (a0 : Int) : Bool := !(decide (a0 < (0 : Int)) || decide (a0 > (4611686018427387903 : Int))) && (!decide (a0 ≥ (1073741824 : Int)) && (!decide (a0 ≥ (16384 : Int)) && decide (a0 ≥ (64 : Int))))
def num_Size_k0 (a0 : Int) : Bool := !(decide (a0 < (0 : Int)) || decide (a0 > (4611686018427387903 : Int))) && (!(!(decide (a0 < (0 : Int)) || decide (a0 > (4611686018427387903 : Int))) && decide (a0 ≥ (1073741824 : Int))) && (!(num_Size_k2 a0) && !(num_Size_k1 a0)))
def num_Size_0 (a0 : Int) : Int := bif !(!(decide (a0 < (0 : Int)) || decide (a0 > (4611686018427387903 : Int))) && decide (a0 ≥ (1073741824 : Int))) && (!(num_Size_k2 a0) && (!(num_Size_k1 a0) && !(num_Size_k0 a0))) then (0 : Int) else IntKind.i64.wrap ((bif (num_Size_k0 a0) then (0 : Int) else IntKind.i64.wrap ((bif (num_Size_k1 a0) then (0 : Int) else IntKind.i64.wrap ((bif (num_Size_k2 a0) then (0 : Int) else (4 : Int)) + (2 : Int))) + (1 : Int))) + (1 : Int))
def num_Size_r (a0 : Int) : A := .v (.int .i64 (num_Size_0 a0))
def num_Size_o (_a0 : Int) : Objs := []
def num_Size_ps (_a0 : Int) : List Prop := []
set_option maxRecDepth 100000 in
theorem num_Size_ev (a0 : Int) : evF (envT C0 L0) 9 157 [valA .i64 a0] 0 [] = some (1, num_Size_r a0, 0, num_Size_o a0, []) := by kernel_rfl
set_option maxRecDepth 100000 in
theorem num_Size_c (a0 : Int) (_hp : ∀ p ∈ num_Size_ps a0, p) : CallOk Try.prog 157 [valA .i64 a0] 0 [] 1 (num_Size_r a0) 0 (num_Size_o a0) := by
  exact evF_ok (envP_ok C0_ok L0_ok) (num_Size_ev a0) needs_nil
def num_Size_t : List A → Nat → Objs → Option CRes
  | [y0], nx, o => match argU .i64 y0 with
    | some (a0, p0) => some (1, (num_Size_r a0).pk (shiftR nx), nx + 0, shiftO nx (num_Size_o a0) ++ o, p0 ++ (num_Size_ps a0))
    | _ => none
  | _, _, _ => none
theorem num_Size_tok : TOk Try.prog 157 num_Size_t := fun args nx o k x nx' o' ps h => by
  unfold num_Size_t at h
  split at h <;> first | (cases h; done) | skip
  split at h <;> first | (cases h; done) | skip
  rename_i a0 p0 e0
  cases h
  refine ⟨fun hp => ?_, _, rfl⟩
  have q0 := fun p hm => hp p (List.mem_append.2 (.inl hm))
  have r0 := fun p hm => hp p (List.mem_append.2 (.inr hm))
  refine callOk_args (callOk_shift (num_Size_c a0 r0) (Nat.le_refl _) (freeL_cons (valA_free _ _) freeL_nil) nx o) fun F N R vs hl => ?_
  obtain ⟨v0, w0, rfl, h0, hl⟩ := hl.inv
  exact HL.cons (argU_ok e0 q0 h0) (hl)
noncomputable def Ca_1 := addC 157 num_Size_t C0
theorem Ca_1_ok : COk Try.prog Ca_1 := addC_ok num_Size_tok C0_ok
/-! loop 0 of function 119 -/
abbrev num_Put_l0_X : Type := Int × Int × Int × Int × (List UInt8)
def num_Put_l0_T (x : num_Put_l0_X) : St := ⟨59, 3, [(1, .v (.int .i64 x.1)), (5, .sq 2), (6, .v (.int .i64 x.2.1)), (16, .v (.int .i64 x.2.2.1)), (17, .v (.int .i64 x.2.2.2.1))], [(2, some (.arr 5 1 (.ty .u8 x.2.2.2.2)))]⟩
def num_Put_l0_un : St → Option num_Put_l0_X
  | ⟨59, 3, [(1, .v (.int .i64 z0)), (5, .sq 2), (6, .v (.int .i64 z1)), (16, .v (.int .i64 z2)), (17, .v (.int .i64 z3))], [(2, some (.arr 5 1 (.ty .u8 z4)))]⟩ => some (z0, z1, z2, z3, z4)
  | _ => none
theorem num_Put_l0_unok : ∀ s x, num_Put_l0_un s = some x → s = num_Put_l0_T x := fun s x h => by
  unfold num_Put_l0_un at h
  split at h
  · cases h; rfl
  · cases h
def num_Put_l0_S : Shape := ⟨2, 3, [1, 5, 6, 16, 17], [], [(4, 2)], [4], [5], [2]⟩
def num_Put_l0_E : Entry := ⟨[], [(1, 2)], [1, 5, 6, 16, 17], [1]⟩
def num_Put_l0_f_k0 (a0 : Int) (a1 : Int) (_a2 : Int) (a3 : Int) (_a4 : List UInt8) : Int := IntKind.u8.wrap (a0.fdiv ((2 : Int) ^ min (IntKind.u64.wrap (IntKind.i64.wrap ((8 : Int) * IntKind.i64.wrap (IntKind.i64.wrap (a1 - (1 : Int)) - a3)))).toNat (64 : Nat)))
def num_Put_l0_f_4 (a0 : Int) (a1 : Int) (a2 : Int) (a3 : Int) (a4 : List UInt8) : List UInt8 := a4 ++ [UInt8.ofNat (num_Put_l0_f_k0 a0 a1 a2 a3 a4).toNat]
def num_Put_l0_next (x : num_Put_l0_X) : num_Put_l0_X := (x.1, x.2.1, x.2.2.1, IntKind.i64.wrap (x.2.2.2.1 + (1 : Int)), num_Put_l0_f_4 x.1 x.2.1 x.2.2.1 x.2.2.2.1 x.2.2.2.2)
def num_Put_l0_goes (x : num_Put_l0_X) : Cnd := some (!!decide (x.2.2.2.1 < x.2.2.1))
def num_Put_l0_psA (x : num_Put_l0_X) : List Prop := [((!!decide (x.2.2.2.1 < x.2.2.1)) = true → (0 : Int) ≤ IntKind.u64.wrap (IntKind.i64.wrap ((8 : Int) * IntKind.i64.wrap (IntKind.i64.wrap (x.2.1 - (1 : Int)) - x.2.2.2.1)))), ((!!decide (x.2.2.2.1 < x.2.2.1)) = true → boundP (x.2.2.2.2.length + (1 : Nat))), ((!!decide (x.2.2.2.1 < x.2.2.1)) = true → (0 : Int) ≤ (num_Put_l0_f_k0 x.1 x.2.1 x.2.2.1 x.2.2.2.1 x.2.2.2.2) ∧ (num_Put_l0_f_k0 x.1 x.2.1 x.2.2.1 x.2.2.2.1 x.2.2.2.2) < (256 : Int))]
def num_Put_l0_ps (x : num_Put_l0_X) : List Prop := [((!!decide (x.2.2.2.1 < x.2.2.1)) = true → boundP (x.2.2.2.2.length + (1 : Nat)))]
def num_Put_l0_outs (x : num_Put_l0_X) : Outs := [(some 0, some (!decide (x.2.2.2.1 < x.2.2.1)), ⟨59, 3, [(5, .sq 2)], [(2, some (.arr 5 1 (.ty .u8 x.2.2.2.2)))]⟩)]
def num_Put_l0_fuel (x : num_Put_l0_X) : Nat := (x.2.2.1 - x.2.2.2.1).toNat
def num_Put_l0_run (x : num_Put_l0_X) : num_Put_l0_X := iterX num_Put_l0_next num_Put_l0_goes (num_Put_l0_fuel x) x
set_option maxRecDepth 100000 in
theorem num_Put_l0_ev (a0 : Int) (a1 : Int) (a2 : Int) (a3 : Int) (a4 : List UInt8) : roundE (envT Ca_1 L0) 9 (loopAt Try.prog 119 0) num_Put_l0_S (num_Put_l0_T (a0, a1, a2, a3, a4)) = some (num_Put_l0_psA (a0, a1, a2, a3, a4), num_Put_l0_outs (a0, a1, a2, a3, a4), num_Put_l0_goes (a0, a1, a2, a3, a4), num_Put_l0_T (num_Put_l0_next (a0, a1, a2, a3, a4))) := by kernel_rfl
set_option maxRecDepth 100000 in
theorem num_Put_l0_hA (a0 : Int) (a1 : Int) (a2 : Int) (a3 : Int) (a4 : List UInt8) (hp : ∀ p ∈ num_Put_l0_ps (a0, a1, a2, a3, a4), p) : ∀ p ∈ num_Put_l0_psA (a0, a1, a2, a3, a4), p := by
  have n0 : ((!!decide (a3 < a2)) = true → (0 : Int) ≤ IntKind.u64.wrap (IntKind.i64.wrap ((8 : Int) * IntKind.i64.wrap (IntKind.i64.wrap (a1 - (1 : Int)) - a3)))) := by intros; exact wrapU64 _
  have n1 : ((!!decide (a3 < a2)) = true → boundP (a4.length + (1 : Nat))) := hp _ (List.mem_cons_self ..)
  have n2 : ((!!decide (a3 < a2)) = true → (0 : Int) ≤ (num_Put_l0_f_k0 a0 a1 a2 a3 a4) ∧ (num_Put_l0_f_k0 a0 a1 a2 a3 a4) < (256 : Int)) := by intros; exact wrapU8 _
  exact (needs_cons n0 (needs_cons n1 (needs_cons n2 needs_nil)))
noncomputable def num_Put_l0_row := rowL (envT Ca_1 L0) (loopAt Try.prog 119 0) num_Put_l0_S num_Put_l0_E num_Put_l0_un num_Put_l0_fuel num_Put_l0_next num_Put_l0_goes num_Put_l0_ps num_Put_l0_outs
theorem num_Put_l0_rok : ∀ s b ps outs, num_Put_l0_row s = some (b, ps, outs) → Wf s ⟨ps, outs, none⟩ ∧ LoopOk (envT C0 L0) b s ps outs :=
  rowP_ok (T := num_Put_l0_T) Ca_1_ok L0_ok (u := 9) (by kernel_rfl) (by decide) (fun ⟨a0, a1, a2, a3, a4⟩ => num_Put_l0_ev a0 a1 a2 a3 a4) (fun ⟨a0, a1, a2, a3, a4⟩ => num_Put_l0_hA a0 a1 a2 a3 a4) num_Put_l0_unok (fun _ => okOuts_ok (n := 59) rfl) fun _ _ => rfl
noncomputable def num_Put_l0_L := addLp 0 num_Put_l0_row L0
theorem num_Put_l0_Lok : LpOk num_Put_l0_L := addLp_ok num_Put_l0_rok L0_ok
def num_Put_k7 (_a0 : List UInt8) (a1 : Int) : Bool := num_Size_0 a1 == (8 : Int)
def num_Put_k6 (_a0 : List UInt8) (a1 : Int) : Bool := num_Size_0 a1 == (4 : Int)
def num_Put_k5 (_a0 : List UInt8) (a1 : Int) : Bool := num_Size_0 a1 == (2 : Int)
def num_Put_k4 (a0 : List UInt8) (_a1 : Int) : Int := (↑([] ++ a0).length : Int)
def num_Put_k3 (a0 : List UInt8) (a1 : Int) : List UInt8 := (num_Put_l0_run (a1, num_Size_0 a1, num_Size_0 a1, (0 : Int), [] ++ a0)).snd.snd.snd.snd
def num_Put_k2 (a0 : List UInt8) (a1 : Int) : Int := IntKind.u8.wrap (↑(BitVec.ofInt (8 : Nat) (↑(UInt8.toNat ((num_Put_k3 a0 a1).getD (num_Put_k4 a0 a1).toNat (dflt TC.u8))) : Int) ||| BitVec.ofInt (8 : Nat) (192 : Int)).toNat : Int)
def num_Put_k1 (a0 : List UInt8) (a1 : Int) : Int := IntKind.u8.wrap (↑(BitVec.ofInt (8 : Nat) (↑(UInt8.toNat ((num_Put_k3 a0 a1).getD (num_Put_k4 a0 a1).toNat (dflt TC.u8))) : Int) ||| BitVec.ofInt (8 : Nat) (128 : Int)).toNat : Int)
def num_Put_k0 (a0 : List UInt8) (a1 : Int) : Int := IntKind.u8.wrap (↑(BitVec.ofInt (8 : Nat) (↑(UInt8.toNat ((num_Put_k3 a0 a1).getD (num_Put_k4 a0 a1).toNat (dflt TC.u8))) : Int) ||| BitVec.ofInt (8 : Nat) (64 : Int)).toNat : Int)
def num_Put_0 (a0 : List UInt8) (a1 : Int) : List UInt8 := bif (num_Put_k5 a0 a1) then (num_Put_k3 a0 a1).set (num_Put_k4 a0 a1).toNat (UInt8.ofNat (num_Put_k0 a0 a1).toNat) else bif (num_Put_k6 a0 a1) then (num_Put_k3 a0 a1).set (num_Put_k4 a0 a1).toNat (UInt8.ofNat (num_Put_k1 a0 a1).toNat) else bif (num_Put_k7 a0 a1) then (num_Put_k3 a0 a1).set (num_Put_k4 a0 a1).toNat (UInt8.ofNat (num_Put_k2 a0 a1).toNat) else (num_Put_k3 a0 a1)
def num_Put_r (_a0 : List UInt8) (_a1 : Int) : A := .sq 0
def num_Put_o (a0 : List UInt8) (a1 : Int) : Objs := [(0, some (.arr 5 1 (.ty .u8 (num_Put_0 a0 a1))))]
def num_Put_ps (a0 : List UInt8) (a1 : Int) : List Prop := [(boundP ((0 : Nat) + a0.length)), (needX num_Put_l0_next num_Put_l0_goes num_Put_l0_ps (num_Put_l0_fuel (a1, num_Size_0 a1, num_Size_0 a1, (0 : Int), [] ++ a0)) (a1, num_Size_0 a1, num_Size_0 a1, (0 : Int), [] ++ a0)), ((num_Put_k5 a0 a1) = true → (0 : Int) ≤ (num_Put_k4 a0 a1) ∧ (num_Put_k4 a0 a1) < (↑(num_Put_k3 a0 a1).length : Int)), ((num_Put_k5 a0 a1) = false → (num_Put_k6 a0 a1) = true → (0 : Int) ≤ (num_Put_k4 a0 a1) ∧ (num_Put_k4 a0 a1) < (↑(num_Put_k3 a0 a1).length : Int)), ((num_Put_k5 a0 a1) = false → (num_Put_k6 a0 a1) = false → (num_Put_k7 a0 a1) = true → (0 : Int) ≤ (num_Put_k4 a0 a1) ∧ (num_Put_k4 a0 a1) < (↑(num_Put_k3 a0 a1).length : Int))]
set_option maxRecDepth 100000 in
theorem num_Put_ev (a0 : List UInt8) (a1 : Int) : evF (envT Ca_1 num_Put_l0_L) 9 119 [valA .bytes a0, valA .i64 a1] 0 [] = some (1, num_Put_r a0 a1, 1, num_Put_o a0 a1, [(boundP ((0 : Nat) + a0.length)), (loopAt Try.prog (119 : FuncId) (0 : Nat) = loopAt Try.prog (119 : FuncId) (0 : Nat)), (needX num_Put_l0_next num_Put_l0_goes num_Put_l0_ps (num_Put_l0_fuel (a1, num_Size_0 a1, num_Size_0 a1, (0 : Int), [] ++ a0)) (a1, num_Size_0 a1, num_Size_0 a1, (0 : Int), [] ++ a0)), ((num_Put_k5 a0 a1) = true → (0 : Int) ≤ (num_Put_k4 a0 a1) ∧ (num_Put_k4 a0 a1) < (↑(num_Put_k3 a0 a1).length : Int)), ((num_Put_k5 a0 a1) = true → (num_Put_k4 a0 a1).toNat < (num_Put_k3 a0 a1).length), ((num_Put_k5 a0 a1) = true → (0 : Int) ≤ (num_Put_k4 a0 a1) ∧ (num_Put_k4 a0 a1) < (↑(num_Put_k3 a0 a1).length : Int)), ((num_Put_k5 a0 a1) = true → (num_Put_k4 a0 a1).toNat < (num_Put_k3 a0 a1).length), ((num_Put_k5 a0 a1) = true → (0 : Int) ≤ (num_Put_k0 a0 a1) ∧ (num_Put_k0 a0 a1) < (256 : Int)), ((num_Put_k5 a0 a1) = false → (num_Put_k6 a0 a1) = true → (0 : Int) ≤ (num_Put_k4 a0 a1) ∧ (num_Put_k4 a0 a1) < (↑(num_Put_k3 a0 a1).length : Int)), ((num_Put_k5 a0 a1) = false → (num_Put_k6 a0 a1) = true → (num_Put_k4 a0 a1).toNat < (num_Put_k3 a0 a1).length), ((num_Put_k5 a0 a1) = false → (num_Put_k6 a0 a1) = true → (0 : Int) ≤ (num_Put_k4 a0 a1) ∧ (num_Put_k4 a0 a1) < (↑(num_Put_k3 a0 a1).length : Int)), ((num_Put_k5 a0 a1) = false → (num_Put_k6 a0 a1) = true → (num_Put_k4 a0 a1).toNat < (num_Put_k3 a0 a1).length), ((num_Put_k5 a0 a1) = false → (num_Put_k6 a0 a1) = true → (0 : Int) ≤ (num_Put_k1 a0 a1) ∧ (num_Put_k1 a0 a1) < (256 : Int)), ((num_Put_k5 a0 a1) = false → (num_Put_k6 a0 a1) = false → (num_Put_k7 a0 a1) = true → (0 : Int) ≤ (num_Put_k4 a0 a1) ∧ (num_Put_k4 a0 a1) < (↑(num_Put_k3 a0 a1).length : Int)), ((num_Put_k5 a0 a1) = false → (num_Put_k6 a0 a1) = false → (num_Put_k7 a0 a1) = true → (num_Put_k4 a0 a1).toNat < (num_Put_k3 a0 a1).length), ((num_Put_k5 a0 a1) = false → (num_Put_k6 a0 a1) = false → (num_Put_k7 a0 a1) = true → (0 : Int) ≤ (num_Put_k4 a0 a1) ∧ (num_Put_k4 a0 a1) < (↑(num_Put_k3 a0 a1).length : Int)), ((num_Put_k5 a0 a1) = false → (num_Put_k6 a0 a1) = false → (num_Put_k7 a0 a1) = true → (num_Put_k4 a0 a1).toNat < (num_Put_k3 a0 a1).length), ((num_Put_k5 a0 a1) = false → (num_Put_k6 a0 a1) = false → (num_Put_k7 a0 a1) = true → (0 : Int) ≤ (num_Put_k2 a0 a1) ∧ (num_Put_k2 a0 a1) < (256 : Int))]) := by kernel_rfl
set_option maxRecDepth 100000 in
theorem num_Put_c (a0 : List UInt8) (a1 : Int) (hp : ∀ p ∈ num_Put_ps a0 a1, p) : CallOk Try.prog 119 [valA .bytes a0, valA .i64 a1] 0 [] 1 (num_Put_r a0 a1) 1 (num_Put_o a0 a1) := by
  have n0 : (boundP ((0 : Nat) + a0.length)) := hp _ (List.mem_cons_self ..)
  have n2 : (needX num_Put_l0_next num_Put_l0_goes num_Put_l0_ps (num_Put_l0_fuel (a1, num_Size_0 a1, num_Size_0 a1, (0 : Int), [] ++ a0)) (a1, num_Size_0 a1, num_Size_0 a1, (0 : Int), [] ++ a0)) := hp _ (List.mem_cons_of_mem _ (List.mem_cons_self ..))
  have n3 : ((num_Put_k5 a0 a1) = true → (0 : Int) ≤ (num_Put_k4 a0 a1) ∧ (num_Put_k4 a0 a1) < (↑(num_Put_k3 a0 a1).length : Int)) := hp _ (List.mem_cons_of_mem _ (List.mem_cons_of_mem _ (List.mem_cons_self ..)))
  have n4 : ((num_Put_k5 a0 a1) = true → (num_Put_k4 a0 a1).toNat < (num_Put_k3 a0 a1).length) := by intro h0; have g := n3 h0; omega
  have n7 : ((num_Put_k5 a0 a1) = true → (0 : Int) ≤ (num_Put_k0 a0 a1) ∧ (num_Put_k0 a0 a1) < (256 : Int)) := by intros; exact wrapU8 _
  have n8 : ((num_Put_k5 a0 a1) = false → (num_Put_k6 a0 a1) = true → (0 : Int) ≤ (num_Put_k4 a0 a1) ∧ (num_Put_k4 a0 a1) < (↑(num_Put_k3 a0 a1).length : Int)) := hp _ (List.mem_cons_of_mem _ (List.mem_cons_of_mem _ (List.mem_cons_of_mem _ (List.mem_cons_self ..))))
  have n9 : ((num_Put_k5 a0 a1) = false → (num_Put_k6 a0 a1) = true → (num_Put_k4 a0 a1).toNat < (num_Put_k3 a0 a1).length) := by intro h0 h1; have g := n8 h0 h1; omega
  have n12 : ((num_Put_k5 a0 a1) = false → (num_Put_k6 a0 a1) = true → (0 : Int) ≤ (num_Put_k1 a0 a1) ∧ (num_Put_k1 a0 a1) < (256 : Int)) := by intros; exact wrapU8 _
  have n13 : ((num_Put_k5 a0 a1) = false → (num_Put_k6 a0 a1) = false → (num_Put_k7 a0 a1) = true → (0 : Int) ≤ (num_Put_k4 a0 a1) ∧ (num_Put_k4 a0 a1) < (↑(num_Put_k3 a0 a1).length : Int)) := hp _ (List.mem_cons_of_mem _ (List.mem_cons_of_mem _ (List.mem_cons_of_mem _ (List.mem_cons_of_mem _ (List.mem_cons_self ..)))))
  have n14 : ((num_Put_k5 a0 a1) = false → (num_Put_k6 a0 a1) = false → (num_Put_k7 a0 a1) = true → (num_Put_k4 a0 a1).toNat < (num_Put_k3 a0 a1).length) := by intro h0 h1 h2; have g := n13 h0 h1 h2; omega
  have n17 : ((num_Put_k5 a0 a1) = false → (num_Put_k6 a0 a1) = false → (num_Put_k7 a0 a1) = true → (0 : Int) ≤ (num_Put_k2 a0 a1) ∧ (num_Put_k2 a0 a1) < (256 : Int)) := by intros; exact wrapU8 _
  exact evF_ok (envP_ok Ca_1_ok num_Put_l0_Lok) (num_Put_ev a0 a1) (needs_cons n0 (needs_cons rfl (needs_cons n2 (needs_cons n3 (needs_cons n4 (needs_cons n3 (needs_cons n4 (needs_cons n7 (needs_cons n8 (needs_cons n9 (needs_cons n8 (needs_cons n9 (needs_cons n12 (needs_cons n13 (needs_cons n14 (needs_cons n13 (needs_cons n14 (needs_cons n17 needs_nil))))))))))))))))))
def num_Put_r2 (_a0 : List UInt8) (_a1 : Int) : A := .sq 0
def num_Put_o2 (a0 : List UInt8) (a1 : Int) : Objs := [(0, some (.arr 5 1 (.ty .u8 (a0 ++ putN a1))))]
def num_Put_ps2 (a0 : List UInt8) (_a1 : Int) : List Prop := [boundP (a0.length + 8)]
theorem size_eq (n : Int) : num_Size_0 n = (szN n : Int) := by
  unfold num_Size_0 num_Size_k0 num_Size_k1 num_Size_k2 szN
  by_cases h0 : n < 0 ∨ n > 4611686018427387903
  · have e : (decide (n < 0) || decide (n > 4611686018427387903)) = true := by simpa using h0
    rw [e, if_pos h0]; rfl
  · have e : (decide (n < 0) || decide (n > 4611686018427387903)) = false := by
      rw [Bool.eq_false_iff]
      intro hh
      exact h0 (by simpa using hh)
    rw [e, if_neg h0]
    by_cases h1 : n ≥ 1073741824
    · rw [if_pos h1, decide_eq_true h1]; rfl
    · rw [if_neg h1, decide_eq_false h1]
      by_cases h2 : n ≥ 16384
      · rw [if_pos h2, decide_eq_true h2]; rfl
      · rw [if_neg h2, decide_eq_false h2]
        by_cases h3 : n ≥ 64
        · rw [if_pos h3, decide_eq_true h3]; rfl
        · rw [if_neg h3, decide_eq_false h3]; rfl
theorem sz_cases (n : Int) : szN n = 0 ∨ (0 ≤ n ∧ n ≤ 4611686018427387903 ∧ szs (szN n)) := by
  by_cases h : n < 0 ∨ n > 4611686018427387903
  · left; unfold szN; rw [if_pos h]
  · right; exact ⟨by omega, by omega, (sz_ok (by omega) (by omega)).1⟩
theorem put_loop (b : List UInt8) (n : Int) (hb : boundP (b.length + 8)) :
    needX num_Put_l0_next num_Put_l0_goes num_Put_l0_ps (num_Put_l0_fuel (n, num_Size_0 n, num_Size_0 n, 0, [] ++ b)) (n, num_Size_0 n, num_Size_0 n, 0, [] ++ b) ∧
    (num_Put_l0_run (n, num_Size_0 n, num_Size_0 n, 0, [] ++ b)).2.2.2.2 = b ++ be (szN n) n.toNat := by
  have hk8 : szN n ≤ 8 := by
    rcases sz_cases n with h | ⟨_, _, h⟩
    · omega
    · unfold szs at h; omega
  rw [size_eq]
  obtain ⟨h1, ⟨i, hi, h2⟩, h3⟩ := loop_inv (next := num_Put_l0_next) (goes := num_Put_l0_goes) (ps := num_Put_l0_ps)
    (fun x => ∃ i : Nat, i ≤ szN n ∧ x = (n, (szN n : Int), (szN n : Int), (i : Int), b ++ (be (szN n) n.toNat).take i)) num_Put_l0_fuel (by
      rintro x ⟨i, hi, rfl⟩
      refine ⟨needs_cons (fun hp => ?_) needs_nil, fun hg => ?_⟩
      · have h' : (!!decide ((i : Int) < (szN n : Int))) = true := hp
        have hlt : i < szN n := by simpa using h'
        show boundP ((b ++ (be (szN n) n.toNat).take i).length + 1)
        unfold boundP at *
        rw [List.length_append, List.length_take, be_length]
        omega
      · have h' : (!!decide ((i : Int) < (szN n : Int))) = true := hg
        have hlt : i < szN n := by simpa using h'
        have hw : IntKind.i64.wrap ((i : Int) + 1) = ((i + 1 : Nat) : Int) := by rw [i64_in (by omega)]; rfl
        have hn0 : 0 ≤ n := by rcases sz_cases n with h | ⟨h, _⟩ <;> omega
        refine ⟨⟨i + 1, hlt, ?_⟩, ?_⟩
        · show (n, (szN n : Int), (szN n : Int), IntKind.i64.wrap ((i : Int) + 1), (b ++ (be (szN n) n.toNat).take i) ++ [UInt8.ofNat (IntKind.u8.wrap (n.fdiv ((2 : Int) ^ min (IntKind.u64.wrap (IntKind.i64.wrap ((8 : Int) * IntKind.i64.wrap (IntKind.i64.wrap ((szN n : Int) - (1 : Int)) - (i : Int))))).toNat (64 : Nat)))).toNat]) = _
          rw [hw, put_byte hn0 hk8 hlt, List.append_assoc, ← be_take hlt]
        · show ((szN n : Int) - IntKind.i64.wrap ((i : Int) + 1)).toNat < ((szN n : Int) - (i : Int)).toNat
          rw [hw]
          omega) _ (n, (szN n : Int), (szN n : Int), 0, [] ++ b) ⟨0, Nat.zero_le _, by simp⟩ (Nat.le_refl _)
  refine ⟨h1, ?_⟩
  have h4 : num_Put_l0_run (n, (szN n : Int), (szN n : Int), 0, [] ++ b) = _ := h2
  rw [h2] at h3
  have h3' : (!!decide ((i : Int) < (szN n : Int))) = false := h3
  have hn : ¬ ((i : Int) < (szN n : Int)) := by simpa using h3'
  obtain rfl : i = szN n := by omega
  rw [h4, List.take_of_length_le (by rw [be_length]; exact Nat.le_refl _)]
theorem num_Put_eq (b : List UInt8) (n : Int) (hb : boundP (b.length + 8)) : (∀ p ∈ num_Put_ps b n, p) ∧ num_Put_0 b n = b ++ putN n := by
  obtain ⟨h1, h2⟩ := put_loop b n hb
  have h3 : num_Put_k3 b n = b ++ be (szN n) n.toNat := h2
  have h4 : (num_Put_k4 b n).toNat = b.length := rfl
  have hS := size_eq n
  have hlen : (b ++ be (szN n) n.toNat).length = b.length + szN n := by rw [List.length_append, be_length]
  have hpos : szN n ≠ 0 → (0 : Int) ≤ num_Put_k4 b n ∧ num_Put_k4 b n < ((num_Put_k3 b n).length : Int) := fun h0 => by
    rw [h3, hlen]
    show (0 : Int) ≤ (b.length : Int) ∧ (b.length : Int) < ((b.length + szN n : Nat) : Int)
    omega
  have sz2 : ∀ c : Int, c ≠ 0 → (num_Size_0 n == c) = true → szN n ≠ 0 := fun c hc h h0 => by
    rw [hS, h0] at h
    have h' : (0 : Int) = c := by simpa using h
    exact hc h'.symm
  refine ⟨needs_cons (by unfold boundP at *; omega) (needs_cons h1 (needs_cons (fun h => hpos (sz2 2 (by decide) h)) (needs_cons (fun _ h => hpos (sz2 4 (by decide) h)) (needs_cons (fun _ _ h => hpos (sz2 8 (by decide) h)) needs_nil)))), ?_⟩
  unfold num_Put_0
  rw [h3, h4]
  have k7 : num_Put_k5 b n = ((szN n : Int) == 2) := by show (num_Size_0 n == 2) = _; rw [hS]
  have k6 : num_Put_k6 b n = ((szN n : Int) == 4) := by show (num_Size_0 n == 4) = _; rw [hS]
  have k5 : num_Put_k7 b n = ((szN n : Int) == 8) := by show (num_Size_0 n == 8) = _; rw [hS]
  have b1 : num_Put_k0 b n = IntKind.u8.wrap ((BitVec.ofInt 8 ((((b ++ be (szN n) n.toNat).getD b.length (dflt TC.u8)).toNat : Nat) : Int) ||| BitVec.ofInt 8 ((64 * 1 : Nat) : Int)).toNat : Int) := by rw [← h3, ← h4]; rfl
  have b0 : num_Put_k1 b n = IntKind.u8.wrap ((BitVec.ofInt 8 ((((b ++ be (szN n) n.toNat).getD b.length (dflt TC.u8)).toNat : Nat) : Int) ||| BitVec.ofInt 8 ((64 * 2 : Nat) : Int)).toNat : Int) := by rw [← h3, ← h4]; rfl
  have b2 : num_Put_k2 b n = IntKind.u8.wrap ((BitVec.ofInt 8 ((((b ++ be (szN n) n.toNat).getD b.length (dflt TC.u8)).toNat : Nat) : Int) ||| BitVec.ofInt 8 ((64 * 3 : Nat) : Int)).toNat : Int) := by rw [← h3, ← h4]; rfl
  rw [k7, k6, k5, b1, b0, b2]
  unfold putN
  rcases sz_cases n with hz | ⟨g1, g2, g3⟩
  · rw [hz]; rfl
  · have hN := (sz_ok g1 g2).2
    generalize hk : szN n = k at *
    rcases g3 with rfl | rfl | rfl | rfl
    · show b ++ be 1 n.toNat = b ++ be 1 (n.toNat + 0 * (64 * 256 ^ 0))
      rw [Nat.zero_mul, Nat.add_zero]
    · exact set_tag (m := 1) (t := 1) b hN (by decide) _
    · exact set_tag (m := 3) (t := 2) b hN (by decide) _
    · exact set_tag (m := 7) (t := 3) b hN (by decide) _
theorem num_Put_c2 (a0 : List UInt8) (a1 : Int) (hp : ∀ p ∈ num_Put_ps2 a0 a1, p) : CallOk Try.prog 119 [valA .bytes a0, valA .i64 a1] 0 [] 1 (num_Put_r2 a0 a1) 1 (num_Put_o2 a0 a1) := by
  obtain ⟨h1, h2⟩ := num_Put_eq a0 a1 (hp _ (List.mem_cons_self ..))
  have h := num_Put_c a0 a1 h1
  have ho : num_Put_o a0 a1 = num_Put_o2 a0 a1 := by unfold num_Put_o num_Put_o2; rw [h2]
  rw [ho] at h
  exact h
def num_Put_t : List A → Nat → Objs → Option CRes
  | [y0, y1], nx, o => match argU .bytes y0, argU .i64 y1 with
    | some (a0, p0), some (a1, p1) => some (1, (num_Put_r2 a0 a1).pk (shiftR nx), nx + 1, shiftO nx (num_Put_o2 a0 a1) ++ o, p0 ++ (p1 ++ (num_Put_ps2 a0 a1)))
    | _, _ => none
  | _, _, _ => none
theorem num_Put_tok : TOk Try.prog 119 num_Put_t := fun args nx o k x nx' o' ps h => by
  unfold num_Put_t at h
  split at h <;> first | (cases h; done) | skip
  split at h <;> first | (cases h; done) | skip
  rename_i a0 p0 a1 p1 e0 e1
  cases h
  refine ⟨fun hp => ?_, _, rfl⟩
  have q0 := fun p hm => hp p (List.mem_append.2 (.inl hm))
  have r0 := fun p hm => hp p (List.mem_append.2 (.inr hm))
  have q1 := fun p hm => r0 p (List.mem_append.2 (.inl hm))
  have r1 := fun p hm => r0 p (List.mem_append.2 (.inr hm))
  refine callOk_args (callOk_shift (num_Put_c2 a0 a1 r1) (Nat.le_refl _) (freeL_cons (valA_free _ _) (freeL_cons (valA_free _ _) freeL_nil)) nx o) fun F N R vs hl => ?_
  obtain ⟨v0, w0, rfl, h0, hl⟩ := hl.inv
  obtain ⟨v1, w1, rfl, h1, hl⟩ := hl.inv
  exact HL.cons (argU_ok e0 q0 h0) (HL.cons (argU_ok e1 q1 h1) (hl))
noncomputable def Ca_2 := addC 119 num_Put_t Ca_1
theorem Ca_2_ok : COk Try.prog Ca_2 := addC_ok num_Put_tok Ca_1_ok
/-! loop 0 of function 114 -/
abbrev num_Get_l0_X : Type := Int × (List UInt8) × Int × Int
def num_Get_l0_T (x : num_Get_l0_X) : St := ⟨46, 0, [(6, .v (.int .i64 x.1)), (28, .sl .u8 x.2.1), (29, .v (.int .i64 x.2.2.1)), (30, .v (.int .i64 x.2.2.2))], []⟩
def num_Get_l0_un : St → Option num_Get_l0_X
  | ⟨46, 0, [(6, .v (.int .i64 z0)), (28, .sl .u8 z1), (29, .v (.int .i64 z2)), (30, .v (.int .i64 z3))], []⟩ => some (z0, z1, z2, z3)
  | _ => none
theorem num_Get_l0_unok : ∀ s x, num_Get_l0_un s = some x → s = num_Get_l0_T x := fun s x h => by
  unfold num_Get_l0_un at h
  split at h
  · cases h; rfl
  · cases h
def num_Get_l0_S : Shape := ⟨0, 0, [6, 28, 29, 30], [], [], [], [6], []⟩
def num_Get_l0_E : Entry := ⟨[], [], [6, 28, 29, 30], []⟩
def num_Get_l0_f_0 (a0 : Int) (a1 : List UInt8) (_a2 : Int) (a3 : Int) : Int := IntKind.i64.wrap (↑(BitVec.ofInt (64 : Nat) (IntKind.i64.wrap (a0 * (256 : Int))) ||| BitVec.ofInt (64 : Nat) (IntKind.i64.wrap (↑(UInt8.toNat (a1.getD a3.toNat (dflt TC.u8))) : Int))).toNat : Int)
def num_Get_l0_next (x : num_Get_l0_X) : num_Get_l0_X := (num_Get_l0_f_0 x.1 x.2.1 x.2.2.1 x.2.2.2, x.2.1, x.2.2.1, IntKind.i64.wrap (x.2.2.2 + (1 : Int)))
def num_Get_l0_goes (x : num_Get_l0_X) : Cnd := some (!!decide (x.2.2.2 < x.2.2.1))
def num_Get_l0_psA (x : num_Get_l0_X) : List Prop := [((!!decide (x.2.2.2 < x.2.2.1)) = true → (0 : Int) ≤ x.2.2.2 ∧ x.2.2.2 < (↑x.2.1.length : Int))]
def num_Get_l0_ps (x : num_Get_l0_X) : List Prop := [((!!decide (x.2.2.2 < x.2.2.1)) = true → (0 : Int) ≤ x.2.2.2 ∧ x.2.2.2 < (↑x.2.1.length : Int))]
def num_Get_l0_outs (x : num_Get_l0_X) : Outs := [(some 0, some (!decide (x.2.2.2 < x.2.2.1)), ⟨46, 0, [(6, .v (.int .i64 x.1))], []⟩)]
def num_Get_l0_fuel (x : num_Get_l0_X) : Nat := (x.2.2.1 - x.2.2.2).toNat
def num_Get_l0_run (x : num_Get_l0_X) : num_Get_l0_X := iterX num_Get_l0_next num_Get_l0_goes (num_Get_l0_fuel x) x
set_option maxRecDepth 100000 in
theorem num_Get_l0_ev (a0 : Int) (a1 : List UInt8) (a2 : Int) (a3 : Int) : roundE (envT Ca_2 L0) 9 (loopAt Try.prog 114 0) num_Get_l0_S (num_Get_l0_T (a0, a1, a2, a3)) = some (num_Get_l0_psA (a0, a1, a2, a3), num_Get_l0_outs (a0, a1, a2, a3), num_Get_l0_goes (a0, a1, a2, a3), num_Get_l0_T (num_Get_l0_next (a0, a1, a2, a3))) := by kernel_rfl
set_option maxRecDepth 100000 in
theorem num_Get_l0_hA (a0 : Int) (a1 : List UInt8) (a2 : Int) (a3 : Int) (hp : ∀ p ∈ num_Get_l0_ps (a0, a1, a2, a3), p) : ∀ p ∈ num_Get_l0_psA (a0, a1, a2, a3), p := by
  have n0 : ((!!decide (a3 < a2)) = true → (0 : Int) ≤ a3 ∧ a3 < (↑a1.length : Int)) := hp _ (List.mem_cons_self ..)
  exact (needs_cons n0 needs_nil)
noncomputable def num_Get_l0_row := rowL (envT Ca_2 L0) (loopAt Try.prog 114 0) num_Get_l0_S num_Get_l0_E num_Get_l0_un num_Get_l0_fuel num_Get_l0_next num_Get_l0_goes num_Get_l0_ps num_Get_l0_outs
theorem num_Get_l0_rok : ∀ s b ps outs, num_Get_l0_row s = some (b, ps, outs) → Wf s ⟨ps, outs, none⟩ ∧ LoopOk (envT C0 L0) b s ps outs :=
  rowP_ok (T := num_Get_l0_T) Ca_2_ok L0_ok (u := 9) (by kernel_rfl) (by decide) (fun ⟨a0, a1, a2, a3⟩ => num_Get_l0_ev a0 a1 a2 a3) (fun ⟨a0, a1, a2, a3⟩ => num_Get_l0_hA a0 a1 a2 a3) num_Get_l0_unok (fun _ => okOuts_ok (n := 46) rfl) fun _ _ => rfl
noncomputable def num_Get_l0_L := addLp 0 num_Get_l0_row L0
theorem num_Get_l0_Lok : LpOk num_Get_l0_L := addLp_ok num_Get_l0_rok L0_ok
def num_Get_k5 (a0 : List UInt8) : Int := (↑(UInt8.toNat (a0.getD (0 : Nat) (dflt TC.u8))) : Int)
def num_Get_k4 (a0 : List UInt8) : Bool := (↑a0.length : Int) == (0 : Int)
def num_Get_k3 (a0 : List UInt8) : Int := IntKind.i64.wrap ((1 : Int) * (2 : Int) ^ min ((num_Get_k5 a0).fdiv (64 : Int)).toNat (64 : Nat))
def num_Get_k2 (a0 : List UInt8) : List UInt8 := List.take ((num_Get_k3 a0).toNat - (1 : Nat)) (List.drop (1 : Nat) a0)
def num_Get_k1 (a0 : List UInt8) : Bool := decide ((↑a0.length : Int) < (num_Get_k3 a0))
def num_Get_k0 (a0 : List UInt8) : Bool := decide (num_Size_0 (num_Get_l0_run (IntKind.i64.wrap (IntKind.u8.wrap (↑(BitVec.ofInt (8 : Nat) (num_Get_k5 a0) &&& BitVec.ofInt (8 : Nat) (63 : Int)).toNat : Int)), (num_Get_k2 a0), (↑(num_Get_k2 a0).length : Int), (0 : Int))).fst < (num_Get_k3 a0))
def num_Get_0 (a0 : List UInt8) : Int := bif (num_Get_k4 a0) then (0 : Int) else bif (num_Get_k1 a0) then (0 : Int) else bif (num_Get_k0 a0) then (0 : Int) else (num_Get_l0_run (IntKind.i64.wrap (IntKind.u8.wrap (↑(BitVec.ofInt (8 : Nat) (num_Get_k5 a0) &&& BitVec.ofInt (8 : Nat) (63 : Int)).toNat : Int)), (num_Get_k2 a0), (↑(num_Get_k2 a0).length : Int), (0 : Int))).fst
def num_Get_1 (a0 : List UInt8) : Int := bif (num_Get_k4 a0) then (0 : Int) else bif (num_Get_k1 a0) then (0 : Int) else bif (num_Get_k0 a0) then (0 : Int) else (num_Get_k3 a0)
def num_Get_2 (a0 : List UInt8) : Int := bif (num_Get_k4 a0) then (10 : Int) else bif (num_Get_k1 a0) then (10 : Int) else bif (num_Get_k0 a0) then (11 : Int) else (0 : Int)
def num_Get_r (a0 : List UInt8) : A := .v (.tuple ⟨[.int .i64 (num_Get_0 a0), .int .i64 (num_Get_1 a0), .int .i64 (num_Get_2 a0)]⟩)
def num_Get_o (_a0 : List UInt8) : Objs := []
def num_Get_ps (a0 : List UInt8) : List Prop := [((!(num_Get_k4 a0)) = true → (0 : Int) ≤ (0 : Int) ∧ (0 : Int) < (↑a0.length : Int)), ((!(num_Get_k4 a0)) = true → (0 : Int) ≤ (num_Get_k5 a0).fdiv (64 : Int)), ((!(num_Get_k4 a0)) = true → (!(num_Get_k1 a0)) = true → (0 : Int) ≤ (0 : Int) ∧ (0 : Int) < (↑a0.length : Int)), ((!(num_Get_k4 a0)) = true → (!(num_Get_k1 a0)) = true → (0 : Int) ≤ (1 : Int) ∧ (1 : Int) ≤ (num_Get_k3 a0) ∧ (num_Get_k3 a0) ≤ (↑a0.length : Int)), ((!(num_Get_k4 a0)) = true → (!(num_Get_k1 a0)) = true → needX num_Get_l0_next num_Get_l0_goes num_Get_l0_ps (num_Get_l0_fuel (IntKind.i64.wrap (IntKind.u8.wrap (↑(BitVec.ofInt (8 : Nat) (num_Get_k5 a0) &&& BitVec.ofInt (8 : Nat) (63 : Int)).toNat : Int)), (num_Get_k2 a0), (↑(num_Get_k2 a0).length : Int), (0 : Int))) (IntKind.i64.wrap (IntKind.u8.wrap (↑(BitVec.ofInt (8 : Nat) (num_Get_k5 a0) &&& BitVec.ofInt (8 : Nat) (63 : Int)).toNat : Int)), (num_Get_k2 a0), (↑(num_Get_k2 a0).length : Int), (0 : Int)))]
set_option maxRecDepth 100000 in
theorem num_Get_ev (a0 : List UInt8) : evF (envT Ca_2 num_Get_l0_L) 9 114 [valA .bytes a0] 0 [] = some (1, num_Get_r a0, 0, num_Get_o a0, [((!(num_Get_k4 a0)) = true → (0 : Int) ≤ (0 : Int) ∧ (0 : Int) < (↑a0.length : Int)), ((!(num_Get_k4 a0)) = true → (0 : Int) ≤ (num_Get_k5 a0).fdiv (64 : Int)), ((!(num_Get_k4 a0)) = true → (!(num_Get_k1 a0)) = true → (0 : Int) ≤ (0 : Int) ∧ (0 : Int) < (↑a0.length : Int)), ((!(num_Get_k4 a0)) = true → (!(num_Get_k1 a0)) = true → (0 : Int) ≤ (1 : Int) ∧ (1 : Int) ≤ (num_Get_k3 a0) ∧ (num_Get_k3 a0) ≤ (↑a0.length : Int)), ((!(num_Get_k4 a0)) = true → (!(num_Get_k1 a0)) = true → loopAt Try.prog (114 : FuncId) (0 : Nat) = loopAt Try.prog (114 : FuncId) (0 : Nat)), ((!(num_Get_k4 a0)) = true → (!(num_Get_k1 a0)) = true → needX num_Get_l0_next num_Get_l0_goes num_Get_l0_ps (num_Get_l0_fuel (IntKind.i64.wrap (IntKind.u8.wrap (↑(BitVec.ofInt (8 : Nat) (num_Get_k5 a0) &&& BitVec.ofInt (8 : Nat) (63 : Int)).toNat : Int)), (num_Get_k2 a0), (↑(num_Get_k2 a0).length : Int), (0 : Int))) (IntKind.i64.wrap (IntKind.u8.wrap (↑(BitVec.ofInt (8 : Nat) (num_Get_k5 a0) &&& BitVec.ofInt (8 : Nat) (63 : Int)).toNat : Int)), (num_Get_k2 a0), (↑(num_Get_k2 a0).length : Int), (0 : Int)))]) := by kernel_rfl
set_option maxRecDepth 100000 in
theorem num_Get_c (a0 : List UInt8) (hp : ∀ p ∈ num_Get_ps a0, p) : CallOk Try.prog 114 [valA .bytes a0] 0 [] 1 (num_Get_r a0) 0 (num_Get_o a0) := by
  have n0 : ((!(num_Get_k4 a0)) = true → (0 : Int) ≤ (0 : Int) ∧ (0 : Int) < (↑a0.length : Int)) := hp _ (List.mem_cons_self ..)
  have n1 : ((!(num_Get_k4 a0)) = true → (0 : Int) ≤ (num_Get_k5 a0).fdiv (64 : Int)) := hp _ (List.mem_cons_of_mem _ (List.mem_cons_self ..))
  have n2 : ((!(num_Get_k4 a0)) = true → (!(num_Get_k1 a0)) = true → (0 : Int) ≤ (0 : Int) ∧ (0 : Int) < (↑a0.length : Int)) := hp _ (List.mem_cons_of_mem _ (List.mem_cons_of_mem _ (List.mem_cons_self ..)))
  have n3 : ((!(num_Get_k4 a0)) = true → (!(num_Get_k1 a0)) = true → (0 : Int) ≤ (1 : Int) ∧ (1 : Int) ≤ (num_Get_k3 a0) ∧ (num_Get_k3 a0) ≤ (↑a0.length : Int)) := hp _ (List.mem_cons_of_mem _ (List.mem_cons_of_mem _ (List.mem_cons_of_mem _ (List.mem_cons_self ..))))
  have n4 : ((!(num_Get_k4 a0)) = true → (!(num_Get_k1 a0)) = true → loopAt Try.prog (114 : FuncId) (0 : Nat) = loopAt Try.prog (114 : FuncId) (0 : Nat)) := by intros; rfl
  have n5 : ((!(num_Get_k4 a0)) = true → (!(num_Get_k1 a0)) = true → needX num_Get_l0_next num_Get_l0_goes num_Get_l0_ps (num_Get_l0_fuel (IntKind.i64.wrap (IntKind.u8.wrap (↑(BitVec.ofInt (8 : Nat) (num_Get_k5 a0) &&& BitVec.ofInt (8 : Nat) (63 : Int)).toNat : Int)), (num_Get_k2 a0), (↑(num_Get_k2 a0).length : Int), (0 : Int))) (IntKind.i64.wrap (IntKind.u8.wrap (↑(BitVec.ofInt (8 : Nat) (num_Get_k5 a0) &&& BitVec.ofInt (8 : Nat) (63 : Int)).toNat : Int)), (num_Get_k2 a0), (↑(num_Get_k2 a0).length : Int), (0 : Int))) := hp _ (List.mem_cons_of_mem _ (List.mem_cons_of_mem _ (List.mem_cons_of_mem _ (List.mem_cons_of_mem _ (List.mem_cons_self ..)))))
  exact evF_ok (envP_ok Ca_2_ok num_Get_l0_Lok) (num_Get_ev a0) (needs_cons n0 (needs_cons n1 (needs_cons n2 (needs_cons n3 (needs_cons n4 (needs_cons n5 needs_nil))))))
def num_Get_r2 (a0 : List UInt8) : A := .v (.tuple ⟨[.int .i64 (getN a0).1, .int .i64 (getN a0).2.1, .int .i64 (getN a0).2.2]⟩)
def num_Get_o2 (_a0 : List UInt8) : Objs := []
def num_Get_ps2 (_a0 : List UInt8) : List Prop := []
theorem get_loop (L : List UInt8) (h7 : L.length ≤ 7) (a : Nat) (ha : a < 64) :
    needX num_Get_l0_next num_Get_l0_goes num_Get_l0_ps (num_Get_l0_fuel ((a : Int), L, (L.length : Int), 0)) ((a : Int), L, (L.length : Int), 0) ∧
    (num_Get_l0_run ((a : Int), L, (L.length : Int), 0)).1 = (val a L : Int) := by
  obtain ⟨h1, ⟨i, hi, h2⟩, h3⟩ := loop_inv (next := num_Get_l0_next) (goes := num_Get_l0_goes) (ps := num_Get_l0_ps)
    (fun x => ∃ i : Nat, i ≤ L.length ∧ x = ((val a (L.take i) : Int), L, (L.length : Int), (i : Int))) num_Get_l0_fuel (by
      rintro x ⟨i, hi, rfl⟩
      refine ⟨needs_cons (fun hp => ?_) needs_nil, fun hg => ?_⟩
      · have h' : (!!decide ((i : Int) < (L.length : Int))) = true := hp
        have hlt : (i : Int) < (L.length : Int) := by simpa using h'
        show (0 : Int) ≤ (i : Int) ∧ (i : Int) < (L.length : Int)
        exact ⟨by omega, hlt⟩
      · have h' : (!!decide ((i : Int) < (L.length : Int))) = true := hg
        have hlt : i < L.length := by simpa using h'
        have hw : IntKind.i64.wrap ((i : Int) + 1) = ((i + 1 : Nat) : Int) := by rw [i64_in (by omega)]; rfl
        have hb : val a (L.take i) < 64 * 256 ^ 6 := by
          have hv := val_acc (L.take i) a
          have hl := val_lt (L.take i)
          have e : (L.take i).length = i := by rw [List.length_take]; omega
          rw [e] at hv hl
          have hm : 256 ^ i ≤ 256 ^ 6 := Nat.pow_le_pow_right (by decide) (by omega)
          have hq := Nat.mul_le_mul_right (256 ^ i) (show a + 1 ≤ 64 by omega)
          rw [Nat.add_mul, Nat.one_mul] at hq
          have hq2 := Nat.mul_le_mul_left 64 hm
          omega
        refine ⟨⟨i + 1, hlt, ?_⟩, ?_⟩
        · show (IntKind.i64.wrap ((BitVec.ofInt 64 (IntKind.i64.wrap ((val a (L.take i) : Int) * 256)) ||| BitVec.ofInt 64 (IntKind.i64.wrap (((L.getD (i : Int).toNat (dflt TC.u8)).toNat : Nat) : Int))).toNat : Int), L, (L.length : Int), IntKind.i64.wrap ((i : Int) + 1)) = _
          rw [hw, or_next hb, Int.toNat_natCast, val_take _ _ _ hlt]
        · show ((L.length : Int) - IntKind.i64.wrap ((i : Int) + 1)).toNat < ((L.length : Int) - (i : Int)).toNat
          rw [hw]
          omega) _ ((a : Int), L, (L.length : Int), 0) ⟨0, Nat.zero_le _, rfl⟩ (Nat.le_refl _)
  refine ⟨h1, ?_⟩
  have h4 : num_Get_l0_run ((a : Int), L, (L.length : Int), 0) = _ := h2
  rw [h2] at h3
  have h3' : (!!decide ((i : Int) < (L.length : Int))) = false := h3
  have hn : ¬ ((i : Int) < (L.length : Int)) := by simpa using h3'
  obtain rfl : i = L.length := by omega
  rw [h4, List.take_length]
theorem num_Get_eq (b : List UInt8) : (∀ p ∈ num_Get_ps b, p) ∧ num_Get_0 b = (getN b).1 ∧ num_Get_1 b = (getN b).2.1 ∧ num_Get_2 b = (getN b).2.2 := by
  cases b with
  | nil =>
    have no : (!(num_Get_k4 [])) = true → False := by intro h; cases h
    exact ⟨needs_cons (fun h => (no h).elim) (needs_cons (fun h => (no h).elim) (needs_cons (fun h => (no h).elim) (needs_cons (fun h => (no h).elim) (needs_cons (fun h => (no h).elim) needs_nil)))), rfl, rfl, rfl⟩
  | cons x r =>
    have hx : x.toNat < 256 := x.toNat_lt
    have k4 : num_Get_k4 (x :: r) = false := by
      show (((r.length + 1 : Nat) : Int) == 0) = false
      rw [Bool.eq_false_iff]
      intro h
      have : ((r.length + 1 : Nat) : Int) = 0 := by simpa using h
      omega
    have k3 : num_Get_k3 (x :: r) = ((2 ^ (x.toNat / 64) : Nat) : Int) := get_k x
    have t3 : x.toNat / 64 ≤ 3 := by omega
    have hK := (tag_of t3).1
    have k2 : num_Get_k2 (x :: r) = r.take (2 ^ (x.toNat / 64) - 1) := by
      show List.take ((num_Get_k3 (x :: r)).toNat - 1) r = _
      rw [k3, Int.toNat_natCast]
    have k1 : num_Get_k1 (x :: r) = decide (r.length + 1 < 2 ^ (x.toNat / 64)) := by
      show decide (((r.length + 1 : Nat) : Int) < num_Get_k3 (x :: r)) = _
      rw [k3]
      exact decide_eq_decide.2 Int.ofNat_lt
    have k6 : IntKind.i64.wrap (IntKind.u8.wrap ((BitVec.ofInt 8 (num_Get_k5 (x :: r)) &&& BitVec.ofInt 8 63).toNat : Int)) = ((x.toNat % 64 : Nat) : Int) := get_low x
    generalize hKK : 2 ^ (x.toNat / 64) = K at *
    have hlen : (r.take (K - 1)).length ≤ 7 := by rw [List.length_take]; unfold szs at hK; omega
    obtain ⟨n1, n2⟩ := get_loop (r.take (K - 1)) hlen (x.toNat % 64) (by omega)
    have k0 : num_Get_k0 (x :: r) = decide (szN (val (x.toNat % 64) (r.take (K - 1))) < K) := by
      unfold num_Get_k0
      rw [k6, k2, n2, size_eq, k3]
      exact decide_eq_decide.2 Int.ofNat_lt
    refine ⟨needs_cons (fun _ => ?_) (needs_cons (fun _ => ?_) (needs_cons (fun _ _ => (by show (0 : Int) ≤ 0 ∧ (0 : Int) < ((r.length + 1 : Nat) : Int); omega)) (needs_cons (fun _ h => ?_) (needs_cons (fun _ _ => ?_) needs_nil)))), ?_⟩
    · show (0 : Int) ≤ 0 ∧ (0 : Int) < ((r.length + 1 : Nat) : Int)
      omega
    · show (0 : Int) ≤ ((x.toNat : Nat) : Int).fdiv 64
      rw [Int.fdiv_eq_ediv_of_nonneg _ (by decide)]
      omega
    · rw [k1] at h
      have h' : ¬ (r.length + 1 < K) := by simpa using h
      rw [k3]
      show (0 : Int) ≤ 1 ∧ (1 : Int) ≤ (K : Int) ∧ (K : Int) ≤ ((r.length + 1 : Nat) : Int)
      unfold szs at hK
      omega
    · rw [k6, k2]
      exact n1
    · unfold num_Get_0 num_Get_1 num_Get_2
      rw [k4, k1, k0, k6, k2, n2, k3, getN_cons, hKK]
      by_cases c1 : r.length + 1 < K
      · rw [if_pos c1, decide_eq_true c1]; exact ⟨rfl, rfl, rfl⟩
      · rw [if_neg c1, decide_eq_false c1]
        by_cases c2 : szN (val (x.toNat % 64) (r.take (K - 1))) < K
        · rw [if_pos c2, decide_eq_true c2]; exact ⟨rfl, rfl, rfl⟩
        · rw [if_neg c2, decide_eq_false c2]; exact ⟨rfl, rfl, rfl⟩
theorem num_Get_c2 (a0 : List UInt8) (_hp : ∀ p ∈ num_Get_ps2 a0, p) : CallOk Try.prog 114 [valA .bytes a0] 0 [] 1 (num_Get_r2 a0) 0 (num_Get_o2 a0) := by
  obtain ⟨h1, h2, h3, h4⟩ := num_Get_eq a0
  have h := num_Get_c a0 h1
  have hr : num_Get_r a0 = num_Get_r2 a0 := by unfold num_Get_r num_Get_r2; rw [h2, h3, h4]
  rw [hr] at h
  exact h
def num_Get_t : List A → Nat → Objs → Option CRes
  | [y0], nx, o => match argU .bytes y0 with
    | some (a0, p0) => some (1, (num_Get_r2 a0).pk (shiftR nx), nx + 0, shiftO nx (num_Get_o2 a0) ++ o, p0 ++ (num_Get_ps2 a0))
    | _ => none
  | _, _, _ => none
theorem num_Get_tok : TOk Try.prog 114 num_Get_t := fun args nx o k x nx' o' ps h => by
  unfold num_Get_t at h
  split at h <;> first | (cases h; done) | skip
  split at h <;> first | (cases h; done) | skip
  rename_i a0 p0 e0
  cases h
  refine ⟨fun hp => ?_, _, rfl⟩
  have q0 := fun p hm => hp p (List.mem_append.2 (.inl hm))
  have r0 := fun p hm => hp p (List.mem_append.2 (.inr hm))
  refine callOk_args (callOk_shift (num_Get_c2 a0 r0) (Nat.le_refl _) (freeL_cons (valA_free _ _) freeL_nil) nx o) fun F N R vs hl => ?_
  obtain ⟨v0, w0, rfl, h0, hl⟩ := hl.inv
  exact HL.cons (argU_ok e0 q0 h0) (hl)
noncomputable def Ca_3 := addC 114 num_Get_t Ca_2
theorem Ca_3_ok : COk Try.prog Ca_3 := addC_ok num_Get_tok Ca_2_ok

noncomputable def Ca := Ca_3
theorem Ca_ok : COk Try.prog Ca := Ca_3_ok
end Go.Proofs.Yteebobbhhgmeiaa
