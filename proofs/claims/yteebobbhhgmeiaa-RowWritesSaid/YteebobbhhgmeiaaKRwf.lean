/- made by a program (rowgen.py): RowWrites: for every input the law returns true, and each argument reads behind the call as it read before. -/
import Derived.Test.YteebobbhhgmeiaaKRwe
import Derived.Test.YteebobbhhgmeiaaRows

namespace Go.Proofs.Yteebobbhhgmeiaa
open Go.RowKit
def r10_Copy_1 (a0 : TRow) : List TCell := [] ++ a0.2
def r10_Copy_r (a0 : TRow) : A := .agg [.v (.string a0.1), .sq 0]
def r10_Copy_o (a0 : TRow) : Objs := [(0, some (.arr 55 8 (.ty .cell (r10_Copy_1 a0))))]
def r10_Copy_ps (a0 : TRow) : List Prop := [(boundP ((0 : Nat) + a0.2.length))]
set_option maxRecDepth 100000 in
theorem r10_Copy_ev (a0 : TRow) : evF (envT Cs L0) 9 46 [valA .row a0] 0 [] = some (1, r10_Copy_r a0, 1, r10_Copy_o a0, [(boundP ((0 : Nat) + a0.2.length))]) := by kernel_rfl
set_option maxRecDepth 100000 in
theorem r10_Copy_c (a0 : TRow) (hp : ∀ p ∈ r10_Copy_ps a0, p) : CallOk Try.prog 46 [valA .row a0] 0 [] 1 (r10_Copy_r a0) 1 (r10_Copy_o a0) := by
 have n0 : (boundP ((0 : Nat) + a0.2.length)) := hp _ (List.mem_cons_self ..)
 exact evF_ok (envP_ok Cs_ok L0_ok) (r10_Copy_ev a0) (needs_cons n0 needs_nil)
def r10_Copy_t : List A → Nat → Objs → Option CRes
 | [y0], nx, o => match argU .row y0 with
  | some (a0, p0) => some (1, (r10_Copy_r a0).pk (shiftR nx), nx + 1, shiftO nx (r10_Copy_o a0) ++ o, p0 ++ (r10_Copy_ps a0))
  | _ => none
 | _, _, _ => none
theorem r10_Copy_tok : TOk Try.prog 46 r10_Copy_t := fun args nx o k x nx' o' ps h => by
 unfold r10_Copy_t at h
 split at h <;> first | (cases h; done) | skip
 split at h <;> first | (cases h; done) | skip
 rename_i a0 p0 e0
 cases h
 refine ⟨fun hp => ?_, _, rfl⟩
 have q0 := fun p hm => hp p (List.mem_append.2 (.inl hm))
 have r0 := fun p hm => hp p (List.mem_append.2 (.inr hm))
 refine callOk_args (callOk_shift (r10_Copy_c a0 r0) (Nat.le_refl _) (freeL_cons (valA_free _ _) freeL_nil) nx o) fun F N R vs hl => ?_
 obtain ⟨v0, w0, rfl, h0, hl⟩ := hl.inv
 exact HL.cons (argU_ok e0 q0 h0) (hl)
noncomputable def Cw_1 := addC 46 r10_Copy_t Cs
theorem Cw_1_ok : COk Try.prog Cw_1 := addC_ok r10_Copy_tok Cs_ok
def r10_Write_k1 (a0 : List TGroup) (a1 : TRow) (_a2 : Int) (_a3 : TCell) : Bool := goodRow a0 a1 != (0 : Int)
def r10_Write_k0 (a0 : List TGroup) (_a1 : TRow) (a2 : Int) (_a3 : TCell) : Bool := decide (a2 < (0 : Int)) || decide (a2 ≥ (↑a0.length : Int))
def r10_Write_0 (a0 : List TGroup) (a1 : TRow) (a2 : Int) (a3 : TCell) : ByteArray := bif (r10_Write_k1 a0 a1 a2 a3) then ByteArray.mk #[] else bif (r10_Write_k0 a0 a1 a2 a3) then ByteArray.mk #[] else bif !r08_Good_0 (a0.getD a2.toNat (dflt TC.group)).2 a3 then ByteArray.mk #[] else a1.1
def r10_Write_1 (a0 : List TGroup) (a1 : TRow) (a2 : Int) (a3 : TCell) : Int := bif (r10_Write_k1 a0 a1 a2 a3) then goodRow a0 a1 else bif (r10_Write_k0 a0 a1 a2 a3) then (70 : Int) else bif !r08_Good_0 (a0.getD a2.toNat (dflt TC.group)).2 a3 then (80 : Int) else (0 : Int)
def r10_Write_2 (a0 : List TGroup) (a1 : TRow) (a2 : Int) (a3 : TCell) : List TCell := bif (r10_Write_k1 a0 a1 a2 a3) then [] else bif (r10_Write_k0 a0 a1 a2 a3) then [] else bif !r08_Good_0 (a0.getD a2.toNat (dflt TC.group)).2 a3 then [] else (r10_Copy_1 a1).set a2.toNat (twoC ((r10_Copy_1 a1).getD a2.toNat (dflt TC.cell)) a3)
def r10_Write_r (a0 : List TGroup) (a1 : TRow) (a2 : Int) (a3 : TCell) : A := .tup [.agg [.v (.string (r10_Write_0 a0 a1 a2 a3)), .sq 0], .v (.int .i64 (r10_Write_1 a0 a1 a2 a3))]
def r10_Write_o (a0 : List TGroup) (a1 : TRow) (a2 : Int) (a3 : TCell) : Objs := [(0, some (.arr 55 8 (.ty .cell (r10_Write_2 a0 a1 a2 a3))))]
def r10_Write_ps (a0 : List TGroup) (a1 : TRow) (a2 : Int) (a3 : TCell) : List Prop := [(∀ (g : TGroup), g ∈ a0 → wideN g.1.size), ((!(r10_Write_k1 a0 a1 a2 a3)) = true → (!(r10_Write_k0 a0 a1 a2 a3)) = true → (0 : Int) ≤ a2 ∧ a2 < (↑a0.length : Int)), ((!(r10_Write_k1 a0 a1 a2 a3)) = true → (!(r10_Write_k0 a0 a1 a2 a3)) = true → (!!r08_Good_0 (a0.getD a2.toNat (dflt TC.group)).2 a3) = true → boundP ((0 : Nat) + a1.2.length)), ((!(r10_Write_k1 a0 a1 a2 a3)) = true → (!(r10_Write_k0 a0 a1 a2 a3)) = true → (!!r08_Good_0 (a0.getD a2.toNat (dflt TC.group)).2 a3) = true → (0 : Int) ≤ a2 ∧ a2 < (↑(r10_Copy_1 a1).length : Int))]
set_option maxRecDepth 100000 in
theorem r10_Write_ev (a0 : List TGroup) (a1 : TRow) (a2 : Int) (a3 : TCell) : evF (envT Cw_1 L0) 9 73 [.sl .group a0, valA .row a1, valA .i64 a2, valA .cell a3] 0 [] = some (1, r10_Write_r a0 a1 a2 a3, 1, r10_Write_o a0 a1 a2 a3, [(∀ (g : TGroup), g ∈ a0 → wideN g.1.size), ((!(r10_Write_k1 a0 a1 a2 a3)) = true → (!(r10_Write_k0 a0 a1 a2 a3)) = true → (0 : Int) ≤ a2 ∧ a2 < (↑a0.length : Int)), ((!(r10_Write_k1 a0 a1 a2 a3)) = true → (!(r10_Write_k0 a0 a1 a2 a3)) = true → (!!r08_Good_0 (a0.getD a2.toNat (dflt TC.group)).2 a3) = true → boundP ((0 : Nat) + a1.2.length)), ((!(r10_Write_k1 a0 a1 a2 a3)) = true → (!(r10_Write_k0 a0 a1 a2 a3)) = true → (!!r08_Good_0 (a0.getD a2.toNat (dflt TC.group)).2 a3) = true → (0 : Int) ≤ a2 ∧ a2 < (↑(r10_Copy_1 a1).length : Int)), ((!(r10_Write_k1 a0 a1 a2 a3)) = true → (!(r10_Write_k0 a0 a1 a2 a3)) = true → (!!r08_Good_0 (a0.getD a2.toNat (dflt TC.group)).2 a3) = true → a2.toNat < (r10_Copy_1 a1).length), ((!(r10_Write_k1 a0 a1 a2 a3)) = true → (!(r10_Write_k0 a0 a1 a2 a3)) = true → (!!r08_Good_0 (a0.getD a2.toNat (dflt TC.group)).2 a3) = true → (0 : Int) ≤ a2 ∧ a2 < (↑(r10_Copy_1 a1).length : Int)), ((!(r10_Write_k1 a0 a1 a2 a3)) = true → (!(r10_Write_k0 a0 a1 a2 a3)) = true → (!!r08_Good_0 (a0.getD a2.toNat (dflt TC.group)).2 a3) = true → a2.toNat < (r10_Copy_1 a1).length)]) := by kernel_rfl
set_option maxRecDepth 100000 in
theorem r10_Write_c (a0 : List TGroup) (a1 : TRow) (a2 : Int) (a3 : TCell) (hp : ∀ p ∈ r10_Write_ps a0 a1 a2 a3, p) : CallOk Try.prog 73 [.sl .group a0, valA .row a1, valA .i64 a2, valA .cell a3] 0 [] 1 (r10_Write_r a0 a1 a2 a3) 1 (r10_Write_o a0 a1 a2 a3) := by
 have n0 : (∀ (g : TGroup), g ∈ a0 → wideN g.1.size) := hp _ (List.mem_cons_self ..)
 have n1 : ((!(r10_Write_k1 a0 a1 a2 a3)) = true → (!(r10_Write_k0 a0 a1 a2 a3)) = true → (0 : Int) ≤ a2 ∧ a2 < (↑a0.length : Int)) := hp _ (List.mem_cons_of_mem _ (List.mem_cons_self ..))
 have n2 : ((!(r10_Write_k1 a0 a1 a2 a3)) = true → (!(r10_Write_k0 a0 a1 a2 a3)) = true → (!!r08_Good_0 (a0.getD a2.toNat (dflt TC.group)).2 a3) = true → boundP ((0 : Nat) + a1.2.length)) := hp _ (List.mem_cons_of_mem _ (List.mem_cons_of_mem _ (List.mem_cons_self ..)))
 have n3 : ((!(r10_Write_k1 a0 a1 a2 a3)) = true → (!(r10_Write_k0 a0 a1 a2 a3)) = true → (!!r08_Good_0 (a0.getD a2.toNat (dflt TC.group)).2 a3) = true → (0 : Int) ≤ a2 ∧ a2 < (↑(r10_Copy_1 a1).length : Int)) := hp _ (List.mem_cons_of_mem _ (List.mem_cons_of_mem _ (List.mem_cons_of_mem _ (List.mem_cons_self ..))))
 have n4 : ((!(r10_Write_k1 a0 a1 a2 a3)) = true → (!(r10_Write_k0 a0 a1 a2 a3)) = true → (!!r08_Good_0 (a0.getD a2.toNat (dflt TC.group)).2 a3) = true → a2.toNat < (r10_Copy_1 a1).length) := by intro h0 h1 h2; have g := n3 h0 h1 h2; omega
 exact evF_ok (envP_ok Cw_1_ok L0_ok) (r10_Write_ev a0 a1 a2 a3) (needs_cons n0 (needs_cons n1 (needs_cons n2 (needs_cons n3 (needs_cons n4 (needs_cons n3 (needs_cons n4 needs_nil)))))))
def r10_Write_t : List A → Nat → Objs → Option CRes
 | [y0, y1, y2, y3], nx, o => match argL .group y0, argU .row y1, argU .i64 y2, argU .cell y3 with
  | some a0, some (a1, p1), some (a2, p2), some (a3, p3) => some (1, (r10_Write_r a0 a1 a2 a3).pk (shiftR nx), nx + 1, shiftO nx (r10_Write_o a0 a1 a2 a3) ++ o, p1 ++ (p2 ++ (p3 ++ (r10_Write_ps a0 a1 a2 a3))))
  | _, _, _, _ => none
 | _, _, _ => none
theorem r10_Write_tok : TOk Try.prog 73 r10_Write_t := fun args nx o k x nx' o' ps h => by
 unfold r10_Write_t at h
 split at h <;> first | (cases h; done) | skip
 split at h <;> first | (cases h; done) | skip
 rename_i a0 a1 p1 a2 p2 a3 p3 e0 e1 e2 e3
 cases h
 refine ⟨fun hp => ?_, _, rfl⟩
 have q1 := fun p hm => hp p (List.mem_append.2 (.inl hm))
 have r1 := fun p hm => hp p (List.mem_append.2 (.inr hm))
 have q2 := fun p hm => r1 p (List.mem_append.2 (.inl hm))
 have r2 := fun p hm => r1 p (List.mem_append.2 (.inr hm))
 have q3 := fun p hm => r2 p (List.mem_append.2 (.inl hm))
 have r3 := fun p hm => r2 p (List.mem_append.2 (.inr hm))
 refine callOk_args (callOk_shift (r10_Write_c a0 a1 a2 a3 r3) (Nat.le_refl _) (freeL_cons rfl (freeL_cons (valA_free _ _) (freeL_cons (valA_free _ _) (freeL_cons (valA_free _ _) freeL_nil)))) nx o) fun F N R vs hl => ?_
 obtain ⟨v0, w0, rfl, h0, hl⟩ := hl.inv
 obtain ⟨v1, w1, rfl, h1, hl⟩ := hl.inv
 obtain ⟨v2, w2, rfl, h2, hl⟩ := hl.inv
 obtain ⟨v3, w3, rfl, h3, hl⟩ := hl.inv
 exact HL.cons (argL_ok e0 h0) (HL.cons (argU_ok e1 q1 h1) (HL.cons (argU_ok e2 q2 h2) (HL.cons (argU_ok e3 q3 h3) (hl))))
noncomputable def Cw_2 := addC 73 r10_Write_t Cw_1
theorem Cw_2_ok : COk Try.prog Cw_2 := addC_ok r10_Write_tok Cw_1_ok
abbrev r10_Join_l0_X : Type := Int × TRow × ByteArray × (List TCell)
def r10_Join_l0_T (x : r10_Join_l0_X) : St := ⟨56, 6, [(5, .own 1 0), (9, .own 4 0), (10, .v (.int .i64 x.1))], [(1, some (.box 71 [.v (.string x.2.1.key), .sl .cell x.2.1.cells])), (4, some (.box 71 [.v (.string x.2.2.1), .sq 5])), (5, some (.arr 55 8 (.ty .cell x.2.2.2)))]⟩
def r10_Join_l0_un : St → Option r10_Join_l0_X
 | ⟨56, 6, [(5, .own 1 0), (9, .own 4 0), (10, .v (.int .i64 z0))], [(1, some (.box 71 [.v (.string z1), .sl .cell z2])), (4, some (.box 71 [.v (.string z3), .sq 5])), (5, some (.arr 55 8 (.ty .cell z4)))]⟩ => some (z0, ⟨z1, z2⟩, z3, z4)
 | _ => none
theorem r10_Join_l0_unok : ∀ s x, r10_Join_l0_un s = some x → s = r10_Join_l0_T x := fun s x h => by
 unfold r10_Join_l0_un at h
 split at h
 ·cases h; rfl
 ·cases h
def r10_Join_l0_S : Shape := ⟨5, 6, [5, 9, 10], [], [(1, 1), (4, 4), (5, 5)], [1, 4, 5], [], [1, 4, 5]⟩
def r10_Join_l0_E : Entry := ⟨[], [(1, 1), (4, 4), (3, 5)], [5, 9, 10], [1, 4, 3]⟩
def r10_Join_l0_f_k0 (a0 : Int) (_a1 : TRow) (_a2 : ByteArray) (a3 : List TCell) : Bool := !!decide (a0 < (↑a3.length : Int))
def r10_Join_l0_f_3 (a0 : Int) (a1 : TRow) (_a2 : ByteArray) (a3 : List TCell) : List TCell := a3.set a0.toNat (twoC (a3.getD a0.toNat (dflt TC.cell)) (a1.2.getD a0.toNat (dflt TC.cell)))
def r10_Join_l0_next (x : r10_Join_l0_X) : r10_Join_l0_X := (IntKind.i64.wrap (x.1 + (1 : Int)), x.2.1, x.2.2.1, r10_Join_l0_f_3 x.1 x.2.1 x.2.2.1 x.2.2.2)
def r10_Join_l0_goes (x : r10_Join_l0_X) : Cnd := some ((r10_Join_l0_f_k0 x.1 x.2.1 x.2.2.1 x.2.2.2))
def r10_Join_l0_psA (x : r10_Join_l0_X) : List Prop := [((r10_Join_l0_f_k0 x.1 x.2.1 x.2.2.1 x.2.2.2) = true → (0 : Int) ≤ x.1 ∧ x.1 < (↑x.2.2.2.length : Int)), ((r10_Join_l0_f_k0 x.1 x.2.1 x.2.2.1 x.2.2.2) = true → x.1.toNat < x.2.2.2.length), ((r10_Join_l0_f_k0 x.1 x.2.1 x.2.2.1 x.2.2.2) = true → (0 : Int) ≤ x.1 ∧ x.1 < (↑x.2.1.2.length : Int)), ((r10_Join_l0_f_k0 x.1 x.2.1 x.2.2.1 x.2.2.2) = true → (0 : Int) ≤ x.1 ∧ x.1 < (↑x.2.2.2.length : Int)), ((r10_Join_l0_f_k0 x.1 x.2.1 x.2.2.1 x.2.2.2) = true → x.1.toNat < x.2.2.2.length)]
def r10_Join_l0_ps (x : r10_Join_l0_X) : List Prop := [((r10_Join_l0_f_k0 x.1 x.2.1 x.2.2.1 x.2.2.2) = true → (0 : Int) ≤ x.1 ∧ x.1 < (↑x.2.2.2.length : Int)), ((r10_Join_l0_f_k0 x.1 x.2.1 x.2.2.1 x.2.2.2) = true → (0 : Int) ≤ x.1 ∧ x.1 < (↑x.2.1.2.length : Int))]
def r10_Join_l0_outs (x : r10_Join_l0_X) : Outs := [(some 0, some (!decide (x.1 < (↑x.2.2.2.length : Int))), ⟨56, 6, [], [(1, some (.box 71 [.v (.string x.2.1.1), .sl .cell x.2.1.2])), (4, some (.box 71 [.v (.string x.2.2.1), .sq 5])), (5, some (.arr 55 8 (.ty .cell x.2.2.2)))]⟩)]
def r10_Join_l0_fuel (x : r10_Join_l0_X) : Nat := ((↑x.2.2.2.length : Int) - x.1).toNat
def r10_Join_l0_run (x : r10_Join_l0_X) : r10_Join_l0_X := iterX r10_Join_l0_next r10_Join_l0_goes (r10_Join_l0_fuel x) x
set_option maxRecDepth 100000 in
theorem r10_Join_l0_ev (a0 : Int) (a1 : TRow) (a2 : ByteArray) (a3 : List TCell) : roundE (envT Cw_2 L0) 9 (loopAt Try.prog 74 0) r10_Join_l0_S (r10_Join_l0_T (a0, a1, a2, a3)) = some (r10_Join_l0_psA (a0, a1, a2, a3), r10_Join_l0_outs (a0, a1, a2, a3), r10_Join_l0_goes (a0, a1, a2, a3), r10_Join_l0_T (r10_Join_l0_next (a0, a1, a2, a3))) := by kernel_rfl
set_option maxRecDepth 100000 in
theorem r10_Join_l0_hA (a0 : Int) (a1 : TRow) (a2 : ByteArray) (a3 : List TCell) (hp : ∀ p ∈ r10_Join_l0_ps (a0, a1, a2, a3), p) : ∀ p ∈ r10_Join_l0_psA (a0, a1, a2, a3), p := by
 have n0 : ((r10_Join_l0_f_k0 a0 a1 a2 a3) = true → (0 : Int) ≤ a0 ∧ a0 < (↑a3.length : Int)) := hp _ (List.mem_cons_self ..)
 have n1 : ((r10_Join_l0_f_k0 a0 a1 a2 a3) = true → a0.toNat < a3.length) := by intro h0; have g := n0 h0; omega
 have n2 : ((r10_Join_l0_f_k0 a0 a1 a2 a3) = true → (0 : Int) ≤ a0 ∧ a0 < (↑a1.2.length : Int)) := hp _ (List.mem_cons_of_mem _ (List.mem_cons_self ..))
 exact (needs_cons n0 (needs_cons n1 (needs_cons n2 (needs_cons n0 (needs_cons n1 needs_nil)))))
noncomputable def r10_Join_l0_row := rowL (envT Cw_2 L0) (loopAt Try.prog 74 0) r10_Join_l0_S r10_Join_l0_E r10_Join_l0_un r10_Join_l0_fuel r10_Join_l0_next r10_Join_l0_goes r10_Join_l0_ps r10_Join_l0_outs
theorem r10_Join_l0_rok : ∀ s b ps outs, r10_Join_l0_row s = some (b, ps, outs) → Wf s ⟨ps, outs, none⟩ ∧ LoopOk (envT C0 L0) b s ps outs :=
 rowP_ok (T := r10_Join_l0_T) Cw_2_ok L0_ok (u := 9) (by kernel_rfl) (by decide) (fun ⟨a0, a1, a2, a3⟩ => r10_Join_l0_ev a0 a1 a2 a3) (fun ⟨a0, a1, a2, a3⟩ => r10_Join_l0_hA a0 a1 a2 a3) r10_Join_l0_unok (fun _ => okOuts_ok (n := 56) rfl) fun _ _ => rfl
noncomputable def r10_Join_l0_L := addLp 0 r10_Join_l0_row L0
theorem r10_Join_l0_Lok : LpOk r10_Join_l0_L := addLp_ok r10_Join_l0_rok L0_ok
def r10_Join_k2 (_a0 : List TGroup) (a1 : TRow) (a2 : TRow) : Bool := !a1.1.toList == a2.1.toList
def r10_Join_k1 (a0 : List TGroup) (_a1 : TRow) (a2 : TRow) : Bool := goodRow a0 a2 != (0 : Int)
def r10_Join_k0 (a0 : List TGroup) (a1 : TRow) (_a2 : TRow) : Bool := goodRow a0 a1 != (0 : Int)
def r10_Join_0 (a0 : List TGroup) (a1 : TRow) (a2 : TRow) : ByteArray := bif (r10_Join_k0 a0 a1 a2) then ByteArray.mk #[] else bif (r10_Join_k1 a0 a1 a2) then ByteArray.mk #[] else bif (r10_Join_k2 a0 a1 a2) then ByteArray.mk #[] else (r10_Join_l0_run ((0 : Int), a2, a1.1, r10_Copy_1 a1)).snd.snd.fst
def r10_Join_1 (a0 : List TGroup) (a1 : TRow) (a2 : TRow) : Int := bif (r10_Join_k0 a0 a1 a2) then goodRow a0 a1 else bif (r10_Join_k1 a0 a1 a2) then goodRow a0 a2 else bif (r10_Join_k2 a0 a1 a2) then (100 : Int) else (0 : Int)
def r10_Join_2 (a0 : List TGroup) (a1 : TRow) (a2 : TRow) : List TCell := bif (r10_Join_k0 a0 a1 a2) then [] else bif (r10_Join_k1 a0 a1 a2) then [] else bif (r10_Join_k2 a0 a1 a2) then [] else (r10_Join_l0_run ((0 : Int), a2, a1.1, r10_Copy_1 a1)).snd.snd.snd
def r10_Join_r (a0 : List TGroup) (a1 : TRow) (a2 : TRow) : A := .tup [.agg [.v (.string (r10_Join_0 a0 a1 a2)), .sq 0], .v (.int .i64 (r10_Join_1 a0 a1 a2))]
def r10_Join_o (a0 : List TGroup) (a1 : TRow) (a2 : TRow) : Objs := [(0, some (.arr 55 8 (.ty .cell (r10_Join_2 a0 a1 a2))))]
def r10_Join_ps (a0 : List TGroup) (a1 : TRow) (a2 : TRow) : List Prop := [(∀ (g : TGroup), g ∈ a0 → wideN g.1.size), ((!(r10_Join_k0 a0 a1 a2)) = true → ∀ (g : TGroup), g ∈ a0 → wideN g.1.size), ((!(r10_Join_k0 a0 a1 a2)) = true → (!(r10_Join_k1 a0 a1 a2)) = true → (!(r10_Join_k2 a0 a1 a2)) = true → boundP ((0 : Nat) + a1.2.length)), ((!(r10_Join_k0 a0 a1 a2)) = true → (!(r10_Join_k1 a0 a1 a2)) = true → (!(r10_Join_k2 a0 a1 a2)) = true → needX r10_Join_l0_next r10_Join_l0_goes r10_Join_l0_ps (r10_Join_l0_fuel ((0 : Int), a2, a1.1, r10_Copy_1 a1)) ((0 : Int), a2, a1.1, r10_Copy_1 a1))]
set_option maxRecDepth 100000 in
theorem r10_Join_ev (a0 : List TGroup) (a1 : TRow) (a2 : TRow) : evF (envT Cw_2 r10_Join_l0_L) 9 74 [.sl .group a0, valA .row a1, valA .row a2] 0 [] = some (1, r10_Join_r a0 a1 a2, 1, r10_Join_o a0 a1 a2, [(∀ (g : TGroup), g ∈ a0 → wideN g.1.size), ((!(r10_Join_k0 a0 a1 a2)) = true → ∀ (g : TGroup), g ∈ a0 → wideN g.1.size), ((!(r10_Join_k0 a0 a1 a2)) = true → (!(r10_Join_k1 a0 a1 a2)) = true → (!(r10_Join_k2 a0 a1 a2)) = true → boundP ((0 : Nat) + a1.2.length)), ((!(r10_Join_k0 a0 a1 a2)) = true → (!(r10_Join_k1 a0 a1 a2)) = true → (!(r10_Join_k2 a0 a1 a2)) = true → loopAt Try.prog (74 : FuncId) (0 : Nat) = loopAt Try.prog (74 : FuncId) (0 : Nat)), ((!(r10_Join_k0 a0 a1 a2)) = true → (!(r10_Join_k1 a0 a1 a2)) = true → (!(r10_Join_k2 a0 a1 a2)) = true → needX r10_Join_l0_next r10_Join_l0_goes r10_Join_l0_ps (r10_Join_l0_fuel ((0 : Int), a2, a1.1, r10_Copy_1 a1)) ((0 : Int), a2, a1.1, r10_Copy_1 a1))]) := by kernel_rfl
set_option maxRecDepth 100000 in
theorem r10_Join_c (a0 : List TGroup) (a1 : TRow) (a2 : TRow) (hp : ∀ p ∈ r10_Join_ps a0 a1 a2, p) : CallOk Try.prog 74 [.sl .group a0, valA .row a1, valA .row a2] 0 [] 1 (r10_Join_r a0 a1 a2) 1 (r10_Join_o a0 a1 a2) := by
 have n0 : (∀ (g : TGroup), g ∈ a0 → wideN g.1.size) := hp _ (List.mem_cons_self ..)
 have n1 : ((!(r10_Join_k0 a0 a1 a2)) = true → ∀ (g : TGroup), g ∈ a0 → wideN g.1.size) := hp _ (List.mem_cons_of_mem _ (List.mem_cons_self ..))
 have n2 : ((!(r10_Join_k0 a0 a1 a2)) = true → (!(r10_Join_k1 a0 a1 a2)) = true → (!(r10_Join_k2 a0 a1 a2)) = true → boundP ((0 : Nat) + a1.2.length)) := hp _ (List.mem_cons_of_mem _ (List.mem_cons_of_mem _ (List.mem_cons_self ..)))
 have n3 : ((!(r10_Join_k0 a0 a1 a2)) = true → (!(r10_Join_k1 a0 a1 a2)) = true → (!(r10_Join_k2 a0 a1 a2)) = true → loopAt Try.prog (74 : FuncId) (0 : Nat) = loopAt Try.prog (74 : FuncId) (0 : Nat)) := by intros; rfl
 have n4 : ((!(r10_Join_k0 a0 a1 a2)) = true → (!(r10_Join_k1 a0 a1 a2)) = true → (!(r10_Join_k2 a0 a1 a2)) = true → needX r10_Join_l0_next r10_Join_l0_goes r10_Join_l0_ps (r10_Join_l0_fuel ((0 : Int), a2, a1.1, r10_Copy_1 a1)) ((0 : Int), a2, a1.1, r10_Copy_1 a1)) := hp _ (List.mem_cons_of_mem _ (List.mem_cons_of_mem _ (List.mem_cons_of_mem _ (List.mem_cons_self ..))))
 exact evF_ok (envP_ok Cw_2_ok r10_Join_l0_Lok) (r10_Join_ev a0 a1 a2) (needs_cons n0 (needs_cons n1 (needs_cons n2 (needs_cons n3 (needs_cons n4 needs_nil)))))
def r10_Join_t : List A → Nat → Objs → Option CRes
 | [y0, y1, y2], nx, o => match argL .group y0, argU .row y1, argU .row y2 with
  | some a0, some (a1, p1), some (a2, p2) => some (1, (r10_Join_r a0 a1 a2).pk (shiftR nx), nx + 1, shiftO nx (r10_Join_o a0 a1 a2) ++ o, p1 ++ (p2 ++ (r10_Join_ps a0 a1 a2)))
  | _, _, _ => none
 | _, _, _ => none
theorem r10_Join_tok : TOk Try.prog 74 r10_Join_t := fun args nx o k x nx' o' ps h => by
 unfold r10_Join_t at h
 split at h <;> first | (cases h; done) | skip
 split at h <;> first | (cases h; done) | skip
 rename_i a0 a1 p1 a2 p2 e0 e1 e2
 cases h
 refine ⟨fun hp => ?_, _, rfl⟩
 have q1 := fun p hm => hp p (List.mem_append.2 (.inl hm))
 have r1 := fun p hm => hp p (List.mem_append.2 (.inr hm))
 have q2 := fun p hm => r1 p (List.mem_append.2 (.inl hm))
 have r2 := fun p hm => r1 p (List.mem_append.2 (.inr hm))
 refine callOk_args (callOk_shift (r10_Join_c a0 a1 a2 r2) (Nat.le_refl _) (freeL_cons rfl (freeL_cons (valA_free _ _) (freeL_cons (valA_free _ _) freeL_nil))) nx o) fun F N R vs hl => ?_
 obtain ⟨v0, w0, rfl, h0, hl⟩ := hl.inv
 obtain ⟨v1, w1, rfl, h1, hl⟩ := hl.inv
 obtain ⟨v2, w2, rfl, h2, hl⟩ := hl.inv
 exact HL.cons (argL_ok e0 h0) (HL.cons (argU_ok e1 q1 h1) (HL.cons (argU_ok e2 q2 h2) (hl)))
noncomputable def Cw_3 := addC 74 r10_Join_t Cw_2
theorem Cw_3_ok : COk Try.prog Cw_3 := addC_ok r10_Join_tok Cw_2_ok
abbrev l10_RowWrites_l0_X : Type := Int × Int × ByteArray × (List TCell)
def l10_RowWrites_l0_T (x : l10_RowWrites_l0_X) : St := ⟨181, 16, [(9, .own 8 0), (79, .v (.int .i64 x.1)), (80, .v (.int .i64 x.2.1))], [(8, some (.box 71 [.v (.string x.2.2.1), .sq 15])), (15, some (.arr 55 8 (.ty .cell x.2.2.2)))]⟩
def l10_RowWrites_l0_un : St → Option l10_RowWrites_l0_X
 | ⟨181, 16, [(9, .own 8 0), (79, .v (.int .i64 z0)), (80, .v (.int .i64 z1))], [(8, some (.box 71 [.v (.string z2), .sq 15])), (15, some (.arr 55 8 (.ty .cell z3)))]⟩ => some (z0, z1, z2, z3)
 | _ => none
theorem l10_RowWrites_l0_unok : ∀ s x, l10_RowWrites_l0_un s = some x → s = l10_RowWrites_l0_T x := fun s x h => by
 unfold l10_RowWrites_l0_un at h
 split at h
 ·cases h; rfl
 ·cases h
def l10_RowWrites_l0_S : Shape := ⟨15, 16, [9, 79, 80], [], [(8, 8), (15, 15)], [8, 15], [], [8, 15]⟩
def l10_RowWrites_l0_E : Entry := ⟨[], [(8, 8), (7, 15)], [9, 79, 80], [8, 7]⟩
def l10_RowWrites_l0_f_3 (_a0 : Int) (a1 : Int) (_a2 : ByteArray) (a3 : List TCell) : List TCell := a3.set a1.toNat (TCell.mk (TStamp.mk (IntKind.i64.wrap ((a3.getD a1.toNat (dflt TC.cell)).1.1 + (1 : Int))) (a3.getD a1.toNat (dflt TC.cell)).1.2) (a3.getD a1.toNat (dflt TC.cell)).2 (a3.getD a1.toNat (dflt TC.cell)).3 (a3.getD a1.toNat (dflt TC.cell)).4 (a3.getD a1.toNat (dflt TC.cell)).5)
def l10_RowWrites_l0_next (x : l10_RowWrites_l0_X) : l10_RowWrites_l0_X := (x.1, IntKind.i64.wrap (x.2.1 + (1 : Int)), x.2.2.1, l10_RowWrites_l0_f_3 x.1 x.2.1 x.2.2.1 x.2.2.2)
def l10_RowWrites_l0_goes (x : l10_RowWrites_l0_X) : Cnd := some (!!decide (x.2.1 < x.1))
def l10_RowWrites_l0_psA (x : l10_RowWrites_l0_X) : List Prop := [((!!decide (x.2.1 < x.1)) = true → (0 : Int) ≤ x.2.1 ∧ x.2.1 < (↑x.2.2.2.length : Int)), ((!!decide (x.2.1 < x.1)) = true → x.2.1.toNat < x.2.2.2.length), ((!!decide (x.2.1 < x.1)) = true → (0 : Int) ≤ x.2.1 ∧ x.2.1 < (↑x.2.2.2.length : Int)), ((!!decide (x.2.1 < x.1)) = true → x.2.1.toNat < x.2.2.2.length)]
def l10_RowWrites_l0_ps (x : l10_RowWrites_l0_X) : List Prop := [((!!decide (x.2.1 < x.1)) = true → (0 : Int) ≤ x.2.1 ∧ x.2.1 < (↑x.2.2.2.length : Int))]
def l10_RowWrites_l0_outs (x : l10_RowWrites_l0_X) : Outs := [(some 0, some (!decide (x.2.1 < x.1)), ⟨181, 16, [], [(8, some (.box 71 [.v (.string x.2.2.1), .sq 15])), (15, some (.arr 55 8 (.ty .cell x.2.2.2)))]⟩)]
def l10_RowWrites_l0_fuel (x : l10_RowWrites_l0_X) : Nat := (x.1 - x.2.1).toNat
def l10_RowWrites_l0_run (x : l10_RowWrites_l0_X) : l10_RowWrites_l0_X := iterX l10_RowWrites_l0_next l10_RowWrites_l0_goes (l10_RowWrites_l0_fuel x) x
set_option maxRecDepth 100000 in
theorem l10_RowWrites_l0_ev (a0 : Int) (a1 : Int) (a2 : ByteArray) (a3 : List TCell) : roundE (envT Cw_3 L0) 9 (loopAt Try.prog 15 0) l10_RowWrites_l0_S (l10_RowWrites_l0_T (a0, a1, a2, a3)) = some (l10_RowWrites_l0_psA (a0, a1, a2, a3), l10_RowWrites_l0_outs (a0, a1, a2, a3), l10_RowWrites_l0_goes (a0, a1, a2, a3), l10_RowWrites_l0_T (l10_RowWrites_l0_next (a0, a1, a2, a3))) := by kernel_rfl
set_option maxRecDepth 100000 in
theorem l10_RowWrites_l0_hA (a0 : Int) (a1 : Int) (a2 : ByteArray) (a3 : List TCell) (hp : ∀ p ∈ l10_RowWrites_l0_ps (a0, a1, a2, a3), p) : ∀ p ∈ l10_RowWrites_l0_psA (a0, a1, a2, a3), p := by
 have n0 : ((!!decide (a1 < a0)) = true → (0 : Int) ≤ a1 ∧ a1 < (↑a3.length : Int)) := hp _ (List.mem_cons_self ..)
 have n1 : ((!!decide (a1 < a0)) = true → a1.toNat < a3.length) := by intro h0; have g := n0 h0; omega
 exact (needs_cons n0 (needs_cons n1 (needs_cons n0 (needs_cons n1 needs_nil))))
noncomputable def l10_RowWrites_l0_row := rowL (envT Cw_3 L0) (loopAt Try.prog 15 0) l10_RowWrites_l0_S l10_RowWrites_l0_E l10_RowWrites_l0_un l10_RowWrites_l0_fuel l10_RowWrites_l0_next l10_RowWrites_l0_goes l10_RowWrites_l0_ps l10_RowWrites_l0_outs
theorem l10_RowWrites_l0_rok : ∀ s b ps outs, l10_RowWrites_l0_row s = some (b, ps, outs) → Wf s ⟨ps, outs, none⟩ ∧ LoopOk (envT C0 L0) b s ps outs :=
 rowP_ok (T := l10_RowWrites_l0_T) Cw_3_ok L0_ok (u := 9) (by kernel_rfl) (by decide) (fun ⟨a0, a1, a2, a3⟩ => l10_RowWrites_l0_ev a0 a1 a2 a3) (fun ⟨a0, a1, a2, a3⟩ => l10_RowWrites_l0_hA a0 a1 a2 a3) l10_RowWrites_l0_unok (fun _ => okOuts_ok (n := 181) rfl) fun _ _ => rfl
noncomputable def l10_RowWrites_l0_L := addLp 0 l10_RowWrites_l0_row L0
theorem l10_RowWrites_l0_Lok : LpOk l10_RowWrites_l0_L := addLp_ok l10_RowWrites_l0_rok L0_ok
abbrev l10_RowWrites_l2_X : Type := Int × Int × ByteArray × (List TCell)
def l10_RowWrites_l2_T (x : l10_RowWrites_l2_X) : St := ⟨181, 17, [(13, .own 12 0), (97, .v (.int .i64 x.1)), (98, .v (.int .i64 x.2.1))], [(12, some (.box 71 [.v (.string x.2.2.1), .sq 16])), (16, some (.arr 55 8 (.ty .cell x.2.2.2)))]⟩
def l10_RowWrites_l2_un : St → Option l10_RowWrites_l2_X
 | ⟨181, 17, [(13, .own 12 0), (97, .v (.int .i64 z0)), (98, .v (.int .i64 z1))], [(12, some (.box 71 [.v (.string z2), .sq 16])), (16, some (.arr 55 8 (.ty .cell z3)))]⟩ => some (z0, z1, z2, z3)
 | _ => none
theorem l10_RowWrites_l2_unok : ∀ s x, l10_RowWrites_l2_un s = some x → s = l10_RowWrites_l2_T x := fun s x h => by
 unfold l10_RowWrites_l2_un at h
 split at h
 ·cases h; rfl
 ·cases h
def l10_RowWrites_l2_S : Shape := ⟨16, 17, [13, 97, 98], [], [(12, 12), (16, 16)], [12, 16], [], [12, 16]⟩
def l10_RowWrites_l2_E : Entry := ⟨[], [(12, 12), (11, 16)], [13, 97, 98], [12, 11]⟩
def l10_RowWrites_l2_f_3 (_a0 : Int) (a1 : Int) (_a2 : ByteArray) (a3 : List TCell) : List TCell := a3.set a1.toNat (TCell.mk (TStamp.mk (IntKind.i64.wrap ((a3.getD a1.toNat (dflt TC.cell)).1.1 + (1 : Int))) (a3.getD a1.toNat (dflt TC.cell)).1.2) (a3.getD a1.toNat (dflt TC.cell)).2 (a3.getD a1.toNat (dflt TC.cell)).3 (a3.getD a1.toNat (dflt TC.cell)).4 (a3.getD a1.toNat (dflt TC.cell)).5)
def l10_RowWrites_l2_next (x : l10_RowWrites_l2_X) : l10_RowWrites_l2_X := (x.1, IntKind.i64.wrap (x.2.1 + (1 : Int)), x.2.2.1, l10_RowWrites_l2_f_3 x.1 x.2.1 x.2.2.1 x.2.2.2)
def l10_RowWrites_l2_goes (x : l10_RowWrites_l2_X) : Cnd := some (!!decide (x.2.1 < x.1))
def l10_RowWrites_l2_psA (x : l10_RowWrites_l2_X) : List Prop := [((!!decide (x.2.1 < x.1)) = true → (0 : Int) ≤ x.2.1 ∧ x.2.1 < (↑x.2.2.2.length : Int)), ((!!decide (x.2.1 < x.1)) = true → x.2.1.toNat < x.2.2.2.length), ((!!decide (x.2.1 < x.1)) = true → (0 : Int) ≤ x.2.1 ∧ x.2.1 < (↑x.2.2.2.length : Int)), ((!!decide (x.2.1 < x.1)) = true → x.2.1.toNat < x.2.2.2.length)]
def l10_RowWrites_l2_ps (x : l10_RowWrites_l2_X) : List Prop := [((!!decide (x.2.1 < x.1)) = true → (0 : Int) ≤ x.2.1 ∧ x.2.1 < (↑x.2.2.2.length : Int))]
def l10_RowWrites_l2_outs (x : l10_RowWrites_l2_X) : Outs := [(some 2, some (!decide (x.2.1 < x.1)), ⟨181, 17, [], [(12, some (.box 71 [.v (.string x.2.2.1), .sq 16])), (16, some (.arr 55 8 (.ty .cell x.2.2.2)))]⟩)]
def l10_RowWrites_l2_fuel (x : l10_RowWrites_l2_X) : Nat := (x.1 - x.2.1).toNat
def l10_RowWrites_l2_run (x : l10_RowWrites_l2_X) : l10_RowWrites_l2_X := iterX l10_RowWrites_l2_next l10_RowWrites_l2_goes (l10_RowWrites_l2_fuel x) x
set_option maxRecDepth 100000 in
theorem l10_RowWrites_l2_ev (a0 : Int) (a1 : Int) (a2 : ByteArray) (a3 : List TCell) : roundE (envT Cw_3 l10_RowWrites_l0_L) 9 (loopAt Try.prog 15 2) l10_RowWrites_l2_S (l10_RowWrites_l2_T (a0, a1, a2, a3)) = some (l10_RowWrites_l2_psA (a0, a1, a2, a3), l10_RowWrites_l2_outs (a0, a1, a2, a3), l10_RowWrites_l2_goes (a0, a1, a2, a3), l10_RowWrites_l2_T (l10_RowWrites_l2_next (a0, a1, a2, a3))) := by kernel_rfl
set_option maxRecDepth 100000 in
theorem l10_RowWrites_l2_hA (a0 : Int) (a1 : Int) (a2 : ByteArray) (a3 : List TCell) (hp : ∀ p ∈ l10_RowWrites_l2_ps (a0, a1, a2, a3), p) : ∀ p ∈ l10_RowWrites_l2_psA (a0, a1, a2, a3), p := by
 have n0 : ((!!decide (a1 < a0)) = true → (0 : Int) ≤ a1 ∧ a1 < (↑a3.length : Int)) := hp _ (List.mem_cons_self ..)
 have n1 : ((!!decide (a1 < a0)) = true → a1.toNat < a3.length) := by intro h0; have g := n0 h0; omega
 exact (needs_cons n0 (needs_cons n1 (needs_cons n0 (needs_cons n1 needs_nil))))
noncomputable def l10_RowWrites_l2_row := rowL (envT Cw_3 l10_RowWrites_l0_L) (loopAt Try.prog 15 2) l10_RowWrites_l2_S l10_RowWrites_l2_E l10_RowWrites_l2_un l10_RowWrites_l2_fuel l10_RowWrites_l2_next l10_RowWrites_l2_goes l10_RowWrites_l2_ps l10_RowWrites_l2_outs
theorem l10_RowWrites_l2_rok : ∀ s b ps outs, l10_RowWrites_l2_row s = some (b, ps, outs) → Wf s ⟨ps, outs, none⟩ ∧ LoopOk (envT C0 L0) b s ps outs :=
 rowP_ok (T := l10_RowWrites_l2_T) Cw_3_ok l10_RowWrites_l0_Lok (u := 9) (by kernel_rfl) (by decide) (fun ⟨a0, a1, a2, a3⟩ => l10_RowWrites_l2_ev a0 a1 a2 a3) (fun ⟨a0, a1, a2, a3⟩ => l10_RowWrites_l2_hA a0 a1 a2 a3) l10_RowWrites_l2_unok (fun _ => okOuts_ok (n := 181) rfl) fun _ _ => rfl
noncomputable def l10_RowWrites_l2_L := addLp 2 l10_RowWrites_l2_row l10_RowWrites_l0_L
theorem l10_RowWrites_l2_Lok : LpOk l10_RowWrites_l2_L := addLp_ok l10_RowWrites_l2_rok l10_RowWrites_l0_Lok
abbrev l10_RowWrites_l4_X : Type := Int × Int × ByteArray × (List TCell)
def l10_RowWrites_l4_T (x : l10_RowWrites_l4_X) : St := ⟨181, 18, [(11, .own 10 0), (115, .v (.int .i64 x.1)), (116, .v (.int .i64 x.2.1))], [(10, some (.box 71 [.v (.string x.2.2.1), .sq 17])), (17, some (.arr 55 8 (.ty .cell x.2.2.2)))]⟩
def l10_RowWrites_l4_un : St → Option l10_RowWrites_l4_X
 | ⟨181, 18, [(11, .own 10 0), (115, .v (.int .i64 z0)), (116, .v (.int .i64 z1))], [(10, some (.box 71 [.v (.string z2), .sq 17])), (17, some (.arr 55 8 (.ty .cell z3)))]⟩ => some (z0, z1, z2, z3)
 | _ => none
theorem l10_RowWrites_l4_unok : ∀ s x, l10_RowWrites_l4_un s = some x → s = l10_RowWrites_l4_T x := fun s x h => by
 unfold l10_RowWrites_l4_un at h
 split at h
 ·cases h; rfl
 ·cases h
def l10_RowWrites_l4_S : Shape := ⟨17, 18, [11, 115, 116], [], [(10, 10), (17, 17)], [10, 17], [], [10, 17]⟩
def l10_RowWrites_l4_E : Entry := ⟨[], [(10, 10), (9, 17)], [11, 115, 116], [10, 9]⟩
def l10_RowWrites_l4_f_3 (_a0 : Int) (a1 : Int) (_a2 : ByteArray) (a3 : List TCell) : List TCell := a3.set a1.toNat (TCell.mk (TStamp.mk (IntKind.i64.wrap ((a3.getD a1.toNat (dflt TC.cell)).1.1 + (1 : Int))) (a3.getD a1.toNat (dflt TC.cell)).1.2) (a3.getD a1.toNat (dflt TC.cell)).2 (a3.getD a1.toNat (dflt TC.cell)).3 (a3.getD a1.toNat (dflt TC.cell)).4 (a3.getD a1.toNat (dflt TC.cell)).5)
def l10_RowWrites_l4_next (x : l10_RowWrites_l4_X) : l10_RowWrites_l4_X := (x.1, IntKind.i64.wrap (x.2.1 + (1 : Int)), x.2.2.1, l10_RowWrites_l4_f_3 x.1 x.2.1 x.2.2.1 x.2.2.2)
def l10_RowWrites_l4_goes (x : l10_RowWrites_l4_X) : Cnd := some (!!decide (x.2.1 < x.1))
def l10_RowWrites_l4_psA (x : l10_RowWrites_l4_X) : List Prop := [((!!decide (x.2.1 < x.1)) = true → (0 : Int) ≤ x.2.1 ∧ x.2.1 < (↑x.2.2.2.length : Int)), ((!!decide (x.2.1 < x.1)) = true → x.2.1.toNat < x.2.2.2.length), ((!!decide (x.2.1 < x.1)) = true → (0 : Int) ≤ x.2.1 ∧ x.2.1 < (↑x.2.2.2.length : Int)), ((!!decide (x.2.1 < x.1)) = true → x.2.1.toNat < x.2.2.2.length)]
def l10_RowWrites_l4_ps (x : l10_RowWrites_l4_X) : List Prop := [((!!decide (x.2.1 < x.1)) = true → (0 : Int) ≤ x.2.1 ∧ x.2.1 < (↑x.2.2.2.length : Int))]
def l10_RowWrites_l4_outs (x : l10_RowWrites_l4_X) : Outs := [(some 4, some (!decide (x.2.1 < x.1)), ⟨181, 18, [], [(10, some (.box 71 [.v (.string x.2.2.1), .sq 17])), (17, some (.arr 55 8 (.ty .cell x.2.2.2)))]⟩)]
def l10_RowWrites_l4_fuel (x : l10_RowWrites_l4_X) : Nat := (x.1 - x.2.1).toNat
def l10_RowWrites_l4_run (x : l10_RowWrites_l4_X) : l10_RowWrites_l4_X := iterX l10_RowWrites_l4_next l10_RowWrites_l4_goes (l10_RowWrites_l4_fuel x) x
set_option maxRecDepth 100000 in
theorem l10_RowWrites_l4_ev (a0 : Int) (a1 : Int) (a2 : ByteArray) (a3 : List TCell) : roundE (envT Cw_3 l10_RowWrites_l2_L) 9 (loopAt Try.prog 15 4) l10_RowWrites_l4_S (l10_RowWrites_l4_T (a0, a1, a2, a3)) = some (l10_RowWrites_l4_psA (a0, a1, a2, a3), l10_RowWrites_l4_outs (a0, a1, a2, a3), l10_RowWrites_l4_goes (a0, a1, a2, a3), l10_RowWrites_l4_T (l10_RowWrites_l4_next (a0, a1, a2, a3))) := by kernel_rfl
set_option maxRecDepth 100000 in
theorem l10_RowWrites_l4_hA (a0 : Int) (a1 : Int) (a2 : ByteArray) (a3 : List TCell) (hp : ∀ p ∈ l10_RowWrites_l4_ps (a0, a1, a2, a3), p) : ∀ p ∈ l10_RowWrites_l4_psA (a0, a1, a2, a3), p := by
 have n0 : ((!!decide (a1 < a0)) = true → (0 : Int) ≤ a1 ∧ a1 < (↑a3.length : Int)) := hp _ (List.mem_cons_self ..)
 have n1 : ((!!decide (a1 < a0)) = true → a1.toNat < a3.length) := by intro h0; have g := n0 h0; omega
 exact (needs_cons n0 (needs_cons n1 (needs_cons n0 (needs_cons n1 needs_nil))))
noncomputable def l10_RowWrites_l4_row := rowL (envT Cw_3 l10_RowWrites_l2_L) (loopAt Try.prog 15 4) l10_RowWrites_l4_S l10_RowWrites_l4_E l10_RowWrites_l4_un l10_RowWrites_l4_fuel l10_RowWrites_l4_next l10_RowWrites_l4_goes l10_RowWrites_l4_ps l10_RowWrites_l4_outs
theorem l10_RowWrites_l4_rok : ∀ s b ps outs, l10_RowWrites_l4_row s = some (b, ps, outs) → Wf s ⟨ps, outs, none⟩ ∧ LoopOk (envT C0 L0) b s ps outs :=
 rowP_ok (T := l10_RowWrites_l4_T) Cw_3_ok l10_RowWrites_l2_Lok (u := 9) (by kernel_rfl) (by decide) (fun ⟨a0, a1, a2, a3⟩ => l10_RowWrites_l4_ev a0 a1 a2 a3) (fun ⟨a0, a1, a2, a3⟩ => l10_RowWrites_l4_hA a0 a1 a2 a3) l10_RowWrites_l4_unok (fun _ => okOuts_ok (n := 181) rfl) fun _ _ => rfl
noncomputable def l10_RowWrites_l4_L := addLp 4 l10_RowWrites_l4_row l10_RowWrites_l2_L
theorem l10_RowWrites_l4_Lok : LpOk l10_RowWrites_l4_L := addLp_ok l10_RowWrites_l4_rok l10_RowWrites_l2_Lok
abbrev l10_RowWrites_l6_X : Type := Int × Int × ByteArray × (List TCell)
def l10_RowWrites_l6_T (x : l10_RowWrites_l6_X) : St := ⟨181, 19, [(15, .own 14 0), (133, .v (.int .i64 x.1)), (134, .v (.int .i64 x.2.1))], [(14, some (.box 71 [.v (.string x.2.2.1), .sq 18])), (18, some (.arr 55 8 (.ty .cell x.2.2.2)))]⟩
def l10_RowWrites_l6_un : St → Option l10_RowWrites_l6_X
 | ⟨181, 19, [(15, .own 14 0), (133, .v (.int .i64 z0)), (134, .v (.int .i64 z1))], [(14, some (.box 71 [.v (.string z2), .sq 18])), (18, some (.arr 55 8 (.ty .cell z3)))]⟩ => some (z0, z1, z2, z3)
 | _ => none
theorem l10_RowWrites_l6_unok : ∀ s x, l10_RowWrites_l6_un s = some x → s = l10_RowWrites_l6_T x := fun s x h => by
 unfold l10_RowWrites_l6_un at h
 split at h
 ·cases h; rfl
 ·cases h
def l10_RowWrites_l6_S : Shape := ⟨18, 19, [15, 133, 134], [], [(14, 14), (18, 18)], [14, 18], [], [14, 18]⟩
def l10_RowWrites_l6_E : Entry := ⟨[], [(14, 14), (13, 18)], [15, 133, 134], [14, 13]⟩
def l10_RowWrites_l6_f_3 (_a0 : Int) (a1 : Int) (_a2 : ByteArray) (a3 : List TCell) : List TCell := a3.set a1.toNat (TCell.mk (TStamp.mk (IntKind.i64.wrap ((a3.getD a1.toNat (dflt TC.cell)).1.1 + (1 : Int))) (a3.getD a1.toNat (dflt TC.cell)).1.2) (a3.getD a1.toNat (dflt TC.cell)).2 (a3.getD a1.toNat (dflt TC.cell)).3 (a3.getD a1.toNat (dflt TC.cell)).4 (a3.getD a1.toNat (dflt TC.cell)).5)
def l10_RowWrites_l6_next (x : l10_RowWrites_l6_X) : l10_RowWrites_l6_X := (x.1, IntKind.i64.wrap (x.2.1 + (1 : Int)), x.2.2.1, l10_RowWrites_l6_f_3 x.1 x.2.1 x.2.2.1 x.2.2.2)
def l10_RowWrites_l6_goes (x : l10_RowWrites_l6_X) : Cnd := some (!!decide (x.2.1 < x.1))
def l10_RowWrites_l6_psA (x : l10_RowWrites_l6_X) : List Prop := [((!!decide (x.2.1 < x.1)) = true → (0 : Int) ≤ x.2.1 ∧ x.2.1 < (↑x.2.2.2.length : Int)), ((!!decide (x.2.1 < x.1)) = true → x.2.1.toNat < x.2.2.2.length), ((!!decide (x.2.1 < x.1)) = true → (0 : Int) ≤ x.2.1 ∧ x.2.1 < (↑x.2.2.2.length : Int)), ((!!decide (x.2.1 < x.1)) = true → x.2.1.toNat < x.2.2.2.length)]
def l10_RowWrites_l6_ps (x : l10_RowWrites_l6_X) : List Prop := [((!!decide (x.2.1 < x.1)) = true → (0 : Int) ≤ x.2.1 ∧ x.2.1 < (↑x.2.2.2.length : Int))]
def l10_RowWrites_l6_outs (x : l10_RowWrites_l6_X) : Outs := [(some 6, some (!decide (x.2.1 < x.1)), ⟨181, 19, [], [(14, some (.box 71 [.v (.string x.2.2.1), .sq 18])), (18, some (.arr 55 8 (.ty .cell x.2.2.2)))]⟩)]
def l10_RowWrites_l6_fuel (x : l10_RowWrites_l6_X) : Nat := (x.1 - x.2.1).toNat
def l10_RowWrites_l6_run (x : l10_RowWrites_l6_X) : l10_RowWrites_l6_X := iterX l10_RowWrites_l6_next l10_RowWrites_l6_goes (l10_RowWrites_l6_fuel x) x
set_option maxRecDepth 100000 in
theorem l10_RowWrites_l6_ev (a0 : Int) (a1 : Int) (a2 : ByteArray) (a3 : List TCell) : roundE (envT Cw_3 l10_RowWrites_l4_L) 9 (loopAt Try.prog 15 6) l10_RowWrites_l6_S (l10_RowWrites_l6_T (a0, a1, a2, a3)) = some (l10_RowWrites_l6_psA (a0, a1, a2, a3), l10_RowWrites_l6_outs (a0, a1, a2, a3), l10_RowWrites_l6_goes (a0, a1, a2, a3), l10_RowWrites_l6_T (l10_RowWrites_l6_next (a0, a1, a2, a3))) := by kernel_rfl
set_option maxRecDepth 100000 in
theorem l10_RowWrites_l6_hA (a0 : Int) (a1 : Int) (a2 : ByteArray) (a3 : List TCell) (hp : ∀ p ∈ l10_RowWrites_l6_ps (a0, a1, a2, a3), p) : ∀ p ∈ l10_RowWrites_l6_psA (a0, a1, a2, a3), p := by
 have n0 : ((!!decide (a1 < a0)) = true → (0 : Int) ≤ a1 ∧ a1 < (↑a3.length : Int)) := hp _ (List.mem_cons_self ..)
 have n1 : ((!!decide (a1 < a0)) = true → a1.toNat < a3.length) := by intro h0; have g := n0 h0; omega
 exact (needs_cons n0 (needs_cons n1 (needs_cons n0 (needs_cons n1 needs_nil))))
noncomputable def l10_RowWrites_l6_row := rowL (envT Cw_3 l10_RowWrites_l4_L) (loopAt Try.prog 15 6) l10_RowWrites_l6_S l10_RowWrites_l6_E l10_RowWrites_l6_un l10_RowWrites_l6_fuel l10_RowWrites_l6_next l10_RowWrites_l6_goes l10_RowWrites_l6_ps l10_RowWrites_l6_outs
theorem l10_RowWrites_l6_rok : ∀ s b ps outs, l10_RowWrites_l6_row s = some (b, ps, outs) → Wf s ⟨ps, outs, none⟩ ∧ LoopOk (envT C0 L0) b s ps outs :=
 rowP_ok (T := l10_RowWrites_l6_T) Cw_3_ok l10_RowWrites_l4_Lok (u := 9) (by kernel_rfl) (by decide) (fun ⟨a0, a1, a2, a3⟩ => l10_RowWrites_l6_ev a0 a1 a2 a3) (fun ⟨a0, a1, a2, a3⟩ => l10_RowWrites_l6_hA a0 a1 a2 a3) l10_RowWrites_l6_unok (fun _ => okOuts_ok (n := 181) rfl) fun _ _ => rfl
noncomputable def l10_RowWrites_l6_L := addLp 6 l10_RowWrites_l6_row l10_RowWrites_l4_L
theorem l10_RowWrites_l6_Lok : LpOk l10_RowWrites_l6_L := addLp_ok l10_RowWrites_l6_rok l10_RowWrites_l4_Lok
def l10_RowWrites_k3 (a0 : List TGroup) (a1 : TTwo) (a2 : TRow) : Bool := !l10_light_0 a0 [a1.1, a2] || decide ((↑a1.3.4.size : Int) > (1000 : Int))
def l10_RowWrites_k2 (a0 : List TGroup) (a1 : TTwo) (a2 : TRow) : List TCell := (l10_RowWrites_l2_run ((↑(jnL a0 (TRow.mk a1.1.1 (r10_Copy_1 a1.1)) (TRow.mk a2.1 (r10_Copy_1 a2))).length : Int), (0 : Int), jnK a0 (TRow.mk a1.1.1 (r10_Copy_1 a1.1)) (TRow.mk a2.1 (r10_Copy_1 a2)), jnL a0 (TRow.mk a1.1.1 (r10_Copy_1 a1.1)) (TRow.mk a2.1 (r10_Copy_1 a2)))).snd.snd.snd
def l10_RowWrites_k1 (a0 : List TGroup) (a1 : TTwo) (_a2 : TRow) : Bool := eqRw (TRow.mk (l10_RowWrites_l0_run ((↑(wrL a0 (TRow.mk a1.1.1 (r10_Copy_1 a1.1)) a1.2 a1.3).length : Int), (0 : Int), wrK a0 (TRow.mk a1.1.1 (r10_Copy_1 a1.1)) a1.2 a1.3, wrL a0 (TRow.mk a1.1.1 (r10_Copy_1 a1.1)) a1.2 a1.3)).snd.snd.fst (l10_RowWrites_l0_run ((↑(wrL a0 (TRow.mk a1.1.1 (r10_Copy_1 a1.1)) a1.2 a1.3).length : Int), (0 : Int), wrK a0 (TRow.mk a1.1.1 (r10_Copy_1 a1.1)) a1.2 a1.3, wrL a0 (TRow.mk a1.1.1 (r10_Copy_1 a1.1)) a1.2 a1.3)).snd.snd.snd) (TRow.mk (l10_RowWrites_l4_run ((↑(r10_Write_2 a0 a1.1 a1.2 a1.3).length : Int), (0 : Int), r10_Write_0 a0 a1.1 a1.2 a1.3, r10_Write_2 a0 a1.1 a1.2 a1.3)).snd.snd.fst (l10_RowWrites_l4_run ((↑(r10_Write_2 a0 a1.1 a1.2 a1.3).length : Int), (0 : Int), r10_Write_0 a0 a1.1 a1.2 a1.3, r10_Write_2 a0 a1.1 a1.2 a1.3)).snd.snd.snd) && wrE a0 (TRow.mk a1.1.1 (r10_Copy_1 a1.1)) a1.2 a1.3 == r10_Write_1 a0 a1.1 a1.2 a1.3
def l10_RowWrites_k0 (a0 : List TGroup) (a1 : TTwo) (a2 : TRow) : Bool := (l10_RowWrites_k1 a0 a1 a2) && eqRw (TRow.mk (l10_RowWrites_l2_run ((↑(jnL a0 (TRow.mk a1.1.1 (r10_Copy_1 a1.1)) (TRow.mk a2.1 (r10_Copy_1 a2))).length : Int), (0 : Int), jnK a0 (TRow.mk a1.1.1 (r10_Copy_1 a1.1)) (TRow.mk a2.1 (r10_Copy_1 a2)), jnL a0 (TRow.mk a1.1.1 (r10_Copy_1 a1.1)) (TRow.mk a2.1 (r10_Copy_1 a2)))).snd.snd.fst (l10_RowWrites_k2 a0 a1 a2)) (TRow.mk (l10_RowWrites_l6_run ((↑(r10_Join_2 a0 a1.1 a2).length : Int), (0 : Int), r10_Join_0 a0 a1.1 a2, r10_Join_2 a0 a1.1 a2)).snd.snd.fst (l10_RowWrites_l6_run ((↑(r10_Join_2 a0 a1.1 a2).length : Int), (0 : Int), r10_Join_0 a0 a1.1 a2, r10_Join_2 a0 a1.1 a2)).snd.snd.snd) && jnE a0 (TRow.mk a1.1.1 (r10_Copy_1 a1.1)) (TRow.mk a2.1 (r10_Copy_1 a2)) == r10_Join_1 a0 a1.1 a2 && eqRw (TRow.mk a1.1.1 (r10_Copy_1 a1.1)) a1.1
def l10_RowWrites_0 (a0 : List TGroup) (a1 : TTwo) (a2 : TRow) : Bool := bif (l10_RowWrites_k3 a0 a1 a2) then true else (l10_RowWrites_k0 a0 a1 a2) && eqRw (TRow.mk a2.1 (r10_Copy_1 a2)) a2 && true
def l10_RowWrites_r (a0 : List TGroup) (a1 : TTwo) (a2 : TRow) : A := .v (.bool (l10_RowWrites_0 a0 a1 a2))
def l10_RowWrites_o (_a0 : List TGroup) (_a1 : TTwo) (_a2 : TRow) : Objs := []
def l10_RowWrites_ps (a0 : List TGroup) (a1 : TTwo) (a2 : TRow) : List Prop := [(wideN a0.length ∧ wideN (2 : Nat) ∧ ∀ (r : TRow), r ∈ [a1.1, a2] → wideN r.1.size ∧ wideN r.2.length ∧ ∀ (c : TCell), c ∈ r.2 → wideN c.4.size), ((!(l10_RowWrites_k3 a0 a1 a2)) = true → boundP ((0 : Nat) + a1.1.2.length)), ((!(l10_RowWrites_k3 a0 a1 a2)) = true → boundP ((0 : Nat) + a2.2.length)), ((!(l10_RowWrites_k3 a0 a1 a2)) = true → ∀ (g : TGroup), g ∈ a0 → wideN g.1.size), ((!(l10_RowWrites_k3 a0 a1 a2)) = true → (!r10_Write_k1 a0 a1.1 a1.2 a1.3) = true → (!r10_Write_k0 a0 a1.1 a1.2 a1.3) = true → (0 : Int) ≤ a1.2 ∧ a1.2 < (↑a0.length : Int)), ((!(l10_RowWrites_k3 a0 a1 a2)) = true → (!r10_Write_k1 a0 a1.1 a1.2 a1.3) = true → (!r10_Write_k0 a0 a1.1 a1.2 a1.3) = true → (!!r08_Good_0 (a0.getD a1.2.toNat (dflt TC.group)).2 a1.3) = true → boundP ((0 : Nat) + a1.1.2.length)), ((!(l10_RowWrites_k3 a0 a1 a2)) = true → (!r10_Write_k1 a0 a1.1 a1.2 a1.3) = true → (!r10_Write_k0 a0 a1.1 a1.2 a1.3) = true → (!!r08_Good_0 (a0.getD a1.2.toNat (dflt TC.group)).2 a1.3) = true → (0 : Int) ≤ a1.2 ∧ a1.2 < (↑(r10_Copy_1 a1.1).length : Int)), ((!(l10_RowWrites_k3 a0 a1 a2)) = true → (!r10_Join_k0 a0 a1.1 a2) = true → ∀ (g : TGroup), g ∈ a0 → wideN g.1.size), ((!(l10_RowWrites_k3 a0 a1 a2)) = true → (!r10_Join_k0 a0 a1.1 a2) = true → (!r10_Join_k1 a0 a1.1 a2) = true → (!r10_Join_k2 a0 a1.1 a2) = true → boundP ((0 : Nat) + a1.1.2.length)), ((!(l10_RowWrites_k3 a0 a1 a2)) = true → (!r10_Join_k0 a0 a1.1 a2) = true → (!r10_Join_k1 a0 a1.1 a2) = true → (!r10_Join_k2 a0 a1.1 a2) = true → needX r10_Join_l0_next r10_Join_l0_goes r10_Join_l0_ps (r10_Join_l0_fuel ((0 : Int), a2, a1.1.1, r10_Copy_1 a1.1)) ((0 : Int), a2, a1.1.1, r10_Copy_1 a1.1)), ((!(l10_RowWrites_k3 a0 a1 a2)) = true → needX l10_RowWrites_l0_next l10_RowWrites_l0_goes l10_RowWrites_l0_ps (l10_RowWrites_l0_fuel ((↑(wrL a0 (TRow.mk a1.1.1 (r10_Copy_1 a1.1)) a1.2 a1.3).length : Int), (0 : Int), wrK a0 (TRow.mk a1.1.1 (r10_Copy_1 a1.1)) a1.2 a1.3, wrL a0 (TRow.mk a1.1.1 (r10_Copy_1 a1.1)) a1.2 a1.3)) ((↑(wrL a0 (TRow.mk a1.1.1 (r10_Copy_1 a1.1)) a1.2 a1.3).length : Int), (0 : Int), wrK a0 (TRow.mk a1.1.1 (r10_Copy_1 a1.1)) a1.2 a1.3, wrL a0 (TRow.mk a1.1.1 (r10_Copy_1 a1.1)) a1.2 a1.3)), ((!(l10_RowWrites_k3 a0 a1 a2)) = true → needX l10_RowWrites_l2_next l10_RowWrites_l2_goes l10_RowWrites_l2_ps (l10_RowWrites_l2_fuel ((↑(jnL a0 (TRow.mk a1.1.1 (r10_Copy_1 a1.1)) (TRow.mk a2.1 (r10_Copy_1 a2))).length : Int), (0 : Int), jnK a0 (TRow.mk a1.1.1 (r10_Copy_1 a1.1)) (TRow.mk a2.1 (r10_Copy_1 a2)), jnL a0 (TRow.mk a1.1.1 (r10_Copy_1 a1.1)) (TRow.mk a2.1 (r10_Copy_1 a2)))) ((↑(jnL a0 (TRow.mk a1.1.1 (r10_Copy_1 a1.1)) (TRow.mk a2.1 (r10_Copy_1 a2))).length : Int), (0 : Int), jnK a0 (TRow.mk a1.1.1 (r10_Copy_1 a1.1)) (TRow.mk a2.1 (r10_Copy_1 a2)), jnL a0 (TRow.mk a1.1.1 (r10_Copy_1 a1.1)) (TRow.mk a2.1 (r10_Copy_1 a2)))), ((!(l10_RowWrites_k3 a0 a1 a2)) = true → needX l10_RowWrites_l4_next l10_RowWrites_l4_goes l10_RowWrites_l4_ps (l10_RowWrites_l4_fuel ((↑(r10_Write_2 a0 a1.1 a1.2 a1.3).length : Int), (0 : Int), r10_Write_0 a0 a1.1 a1.2 a1.3, r10_Write_2 a0 a1.1 a1.2 a1.3)) ((↑(r10_Write_2 a0 a1.1 a1.2 a1.3).length : Int), (0 : Int), r10_Write_0 a0 a1.1 a1.2 a1.3, r10_Write_2 a0 a1.1 a1.2 a1.3)), ((!(l10_RowWrites_k3 a0 a1 a2)) = true → needX l10_RowWrites_l6_next l10_RowWrites_l6_goes l10_RowWrites_l6_ps (l10_RowWrites_l6_fuel ((↑(r10_Join_2 a0 a1.1 a2).length : Int), (0 : Int), r10_Join_0 a0 a1.1 a2, r10_Join_2 a0 a1.1 a2)) ((↑(r10_Join_2 a0 a1.1 a2).length : Int), (0 : Int), r10_Join_0 a0 a1.1 a2, r10_Join_2 a0 a1.1 a2)), ((!(l10_RowWrites_k3 a0 a1 a2)) = true → boundP (l10_RowWrites_l0_run ((↑(wrL a0 (TRow.mk a1.1.1 (r10_Copy_1 a1.1)) a1.2 a1.3).length : Int), (0 : Int), wrK a0 (TRow.mk a1.1.1 (r10_Copy_1 a1.1)) a1.2 a1.3, wrL a0 (TRow.mk a1.1.1 (r10_Copy_1 a1.1)) a1.2 a1.3)).snd.snd.snd.length), ((!(l10_RowWrites_k3 a0 a1 a2)) = true → (l10_RowWrites_k1 a0 a1 a2) = true → boundP (l10_RowWrites_k2 a0 a1 a2).length), ((!(l10_RowWrites_k3 a0 a1 a2)) = true → ((l10_RowWrites_k1 a0 a1 a2) && eqRw (TRow.mk (l10_RowWrites_l2_run ((↑(jnL a0 (TRow.mk a1.1.1 (r10_Copy_1 a1.1)) (TRow.mk a2.1 (r10_Copy_1 a2))).length : Int), (0 : Int), jnK a0 (TRow.mk a1.1.1 (r10_Copy_1 a1.1)) (TRow.mk a2.1 (r10_Copy_1 a2)), jnL a0 (TRow.mk a1.1.1 (r10_Copy_1 a1.1)) (TRow.mk a2.1 (r10_Copy_1 a2)))).snd.snd.fst (l10_RowWrites_k2 a0 a1 a2)) (TRow.mk (l10_RowWrites_l6_run ((↑(r10_Join_2 a0 a1.1 a2).length : Int), (0 : Int), r10_Join_0 a0 a1.1 a2, r10_Join_2 a0 a1.1 a2)).snd.snd.fst (l10_RowWrites_l6_run ((↑(r10_Join_2 a0 a1.1 a2).length : Int), (0 : Int), r10_Join_0 a0 a1.1 a2, r10_Join_2 a0 a1.1 a2)).snd.snd.snd) && jnE a0 (TRow.mk a1.1.1 (r10_Copy_1 a1.1)) (TRow.mk a2.1 (r10_Copy_1 a2)) == r10_Join_1 a0 a1.1 a2) = true → boundP (r10_Copy_1 a1.1).length), ((!(l10_RowWrites_k3 a0 a1 a2)) = true → (l10_RowWrites_k0 a0 a1 a2) = true → boundP (r10_Copy_1 a2).length)]
set_option maxRecDepth 100000 in
theorem l10_RowWrites_ev (a0 : List TGroup) (a1 : TTwo) (a2 : TRow) : evF (envT Cw_3 l10_RowWrites_l6_L) 9 15 [.sl .group a0, valA .two a1, valA .row a2] 0 [] = some (1, l10_RowWrites_r a0 a1 a2, 0, l10_RowWrites_o a0 a1 a2, [(wideN a0.length ∧ wideN (2 : Nat) ∧ ∀ (r : TRow), r ∈ [a1.1, a2] → wideN r.1.size ∧ wideN r.2.length ∧ ∀ (c : TCell), c ∈ r.2 → wideN c.4.size), ((!(l10_RowWrites_k3 a0 a1 a2)) = true → boundP ((0 : Nat) + a1.1.2.length)), ((!(l10_RowWrites_k3 a0 a1 a2)) = true → boundP ((0 : Nat) + a2.2.length)), ((!(l10_RowWrites_k3 a0 a1 a2)) = true → ∀ (g : TGroup), g ∈ a0 → wideN g.1.size), ((!(l10_RowWrites_k3 a0 a1 a2)) = true → (!r10_Write_k1 a0 a1.1 a1.2 a1.3) = true → (!r10_Write_k0 a0 a1.1 a1.2 a1.3) = true → (0 : Int) ≤ a1.2 ∧ a1.2 < (↑a0.length : Int)), ((!(l10_RowWrites_k3 a0 a1 a2)) = true → (!r10_Write_k1 a0 a1.1 a1.2 a1.3) = true → (!r10_Write_k0 a0 a1.1 a1.2 a1.3) = true → (!!r08_Good_0 (a0.getD a1.2.toNat (dflt TC.group)).2 a1.3) = true → boundP ((0 : Nat) + a1.1.2.length)), ((!(l10_RowWrites_k3 a0 a1 a2)) = true → (!r10_Write_k1 a0 a1.1 a1.2 a1.3) = true → (!r10_Write_k0 a0 a1.1 a1.2 a1.3) = true → (!!r08_Good_0 (a0.getD a1.2.toNat (dflt TC.group)).2 a1.3) = true → (0 : Int) ≤ a1.2 ∧ a1.2 < (↑(r10_Copy_1 a1.1).length : Int)), ((!(l10_RowWrites_k3 a0 a1 a2)) = true → ∀ (g : TGroup), g ∈ a0 → wideN g.1.size), ((!(l10_RowWrites_k3 a0 a1 a2)) = true → (!r10_Join_k0 a0 a1.1 a2) = true → ∀ (g : TGroup), g ∈ a0 → wideN g.1.size), ((!(l10_RowWrites_k3 a0 a1 a2)) = true → (!r10_Join_k0 a0 a1.1 a2) = true → (!r10_Join_k1 a0 a1.1 a2) = true → (!r10_Join_k2 a0 a1.1 a2) = true → boundP ((0 : Nat) + a1.1.2.length)), ((!(l10_RowWrites_k3 a0 a1 a2)) = true → (!r10_Join_k0 a0 a1.1 a2) = true → (!r10_Join_k1 a0 a1.1 a2) = true → (!r10_Join_k2 a0 a1.1 a2) = true → needX r10_Join_l0_next r10_Join_l0_goes r10_Join_l0_ps (r10_Join_l0_fuel ((0 : Int), a2, a1.1.1, r10_Copy_1 a1.1)) ((0 : Int), a2, a1.1.1, r10_Copy_1 a1.1)), ((!(l10_RowWrites_k3 a0 a1 a2)) = true → loopAt Try.prog (15 : FuncId) (0 : Nat) = loopAt Try.prog (15 : FuncId) (0 : Nat)), ((!(l10_RowWrites_k3 a0 a1 a2)) = true → needX l10_RowWrites_l0_next l10_RowWrites_l0_goes l10_RowWrites_l0_ps (l10_RowWrites_l0_fuel ((↑(wrL a0 (TRow.mk a1.1.1 (r10_Copy_1 a1.1)) a1.2 a1.3).length : Int), (0 : Int), wrK a0 (TRow.mk a1.1.1 (r10_Copy_1 a1.1)) a1.2 a1.3, wrL a0 (TRow.mk a1.1.1 (r10_Copy_1 a1.1)) a1.2 a1.3)) ((↑(wrL a0 (TRow.mk a1.1.1 (r10_Copy_1 a1.1)) a1.2 a1.3).length : Int), (0 : Int), wrK a0 (TRow.mk a1.1.1 (r10_Copy_1 a1.1)) a1.2 a1.3, wrL a0 (TRow.mk a1.1.1 (r10_Copy_1 a1.1)) a1.2 a1.3)), ((!(l10_RowWrites_k3 a0 a1 a2)) = true → loopAt Try.prog (15 : FuncId) (2 : Nat) = loopAt Try.prog (15 : FuncId) (2 : Nat)), ((!(l10_RowWrites_k3 a0 a1 a2)) = true → needX l10_RowWrites_l2_next l10_RowWrites_l2_goes l10_RowWrites_l2_ps (l10_RowWrites_l2_fuel ((↑(jnL a0 (TRow.mk a1.1.1 (r10_Copy_1 a1.1)) (TRow.mk a2.1 (r10_Copy_1 a2))).length : Int), (0 : Int), jnK a0 (TRow.mk a1.1.1 (r10_Copy_1 a1.1)) (TRow.mk a2.1 (r10_Copy_1 a2)), jnL a0 (TRow.mk a1.1.1 (r10_Copy_1 a1.1)) (TRow.mk a2.1 (r10_Copy_1 a2)))) ((↑(jnL a0 (TRow.mk a1.1.1 (r10_Copy_1 a1.1)) (TRow.mk a2.1 (r10_Copy_1 a2))).length : Int), (0 : Int), jnK a0 (TRow.mk a1.1.1 (r10_Copy_1 a1.1)) (TRow.mk a2.1 (r10_Copy_1 a2)), jnL a0 (TRow.mk a1.1.1 (r10_Copy_1 a1.1)) (TRow.mk a2.1 (r10_Copy_1 a2)))), ((!(l10_RowWrites_k3 a0 a1 a2)) = true → loopAt Try.prog (15 : FuncId) (4 : Nat) = loopAt Try.prog (15 : FuncId) (4 : Nat)), ((!(l10_RowWrites_k3 a0 a1 a2)) = true → needX l10_RowWrites_l4_next l10_RowWrites_l4_goes l10_RowWrites_l4_ps (l10_RowWrites_l4_fuel ((↑(r10_Write_2 a0 a1.1 a1.2 a1.3).length : Int), (0 : Int), r10_Write_0 a0 a1.1 a1.2 a1.3, r10_Write_2 a0 a1.1 a1.2 a1.3)) ((↑(r10_Write_2 a0 a1.1 a1.2 a1.3).length : Int), (0 : Int), r10_Write_0 a0 a1.1 a1.2 a1.3, r10_Write_2 a0 a1.1 a1.2 a1.3)), ((!(l10_RowWrites_k3 a0 a1 a2)) = true → loopAt Try.prog (15 : FuncId) (6 : Nat) = loopAt Try.prog (15 : FuncId) (6 : Nat)), ((!(l10_RowWrites_k3 a0 a1 a2)) = true → needX l10_RowWrites_l6_next l10_RowWrites_l6_goes l10_RowWrites_l6_ps (l10_RowWrites_l6_fuel ((↑(r10_Join_2 a0 a1.1 a2).length : Int), (0 : Int), r10_Join_0 a0 a1.1 a2, r10_Join_2 a0 a1.1 a2)) ((↑(r10_Join_2 a0 a1.1 a2).length : Int), (0 : Int), r10_Join_0 a0 a1.1 a2, r10_Join_2 a0 a1.1 a2)), ((!(l10_RowWrites_k3 a0 a1 a2)) = true → boundP (l10_RowWrites_l0_run ((↑(wrL a0 (TRow.mk a1.1.1 (r10_Copy_1 a1.1)) a1.2 a1.3).length : Int), (0 : Int), wrK a0 (TRow.mk a1.1.1 (r10_Copy_1 a1.1)) a1.2 a1.3, wrL a0 (TRow.mk a1.1.1 (r10_Copy_1 a1.1)) a1.2 a1.3)).snd.snd.snd.length), ((!(l10_RowWrites_k3 a0 a1 a2)) = true → (l10_RowWrites_k1 a0 a1 a2) = true → boundP (l10_RowWrites_k2 a0 a1 a2).length), ((!(l10_RowWrites_k3 a0 a1 a2)) = true → ((l10_RowWrites_k1 a0 a1 a2) && eqRw (TRow.mk (l10_RowWrites_l2_run ((↑(jnL a0 (TRow.mk a1.1.1 (r10_Copy_1 a1.1)) (TRow.mk a2.1 (r10_Copy_1 a2))).length : Int), (0 : Int), jnK a0 (TRow.mk a1.1.1 (r10_Copy_1 a1.1)) (TRow.mk a2.1 (r10_Copy_1 a2)), jnL a0 (TRow.mk a1.1.1 (r10_Copy_1 a1.1)) (TRow.mk a2.1 (r10_Copy_1 a2)))).snd.snd.fst (l10_RowWrites_k2 a0 a1 a2)) (TRow.mk (l10_RowWrites_l6_run ((↑(r10_Join_2 a0 a1.1 a2).length : Int), (0 : Int), r10_Join_0 a0 a1.1 a2, r10_Join_2 a0 a1.1 a2)).snd.snd.fst (l10_RowWrites_l6_run ((↑(r10_Join_2 a0 a1.1 a2).length : Int), (0 : Int), r10_Join_0 a0 a1.1 a2, r10_Join_2 a0 a1.1 a2)).snd.snd.snd) && jnE a0 (TRow.mk a1.1.1 (r10_Copy_1 a1.1)) (TRow.mk a2.1 (r10_Copy_1 a2)) == r10_Join_1 a0 a1.1 a2) = true → boundP (r10_Copy_1 a1.1).length), ((!(l10_RowWrites_k3 a0 a1 a2)) = true → (l10_RowWrites_k0 a0 a1 a2) = true → boundP (r10_Copy_1 a2).length)]) := by kernel_rfl
set_option maxRecDepth 100000 in
theorem l10_RowWrites_c (a0 : List TGroup) (a1 : TTwo) (a2 : TRow) (hp : ∀ p ∈ l10_RowWrites_ps a0 a1 a2, p) : CallOk Try.prog 15 [.sl .group a0, valA .two a1, valA .row a2] 0 [] 1 (l10_RowWrites_r a0 a1 a2) 0 (l10_RowWrites_o a0 a1 a2) := by
 have n0 : (wideN a0.length ∧ wideN (2 : Nat) ∧ ∀ (r : TRow), r ∈ [a1.1, a2] → wideN r.1.size ∧ wideN r.2.length ∧ ∀ (c : TCell), c ∈ r.2 → wideN c.4.size) := hp _ (List.mem_cons_self ..)
 have n1 : ((!(l10_RowWrites_k3 a0 a1 a2)) = true → boundP ((0 : Nat) + a1.1.2.length)) := hp _ (List.mem_cons_of_mem _ (List.mem_cons_self ..))
 have n2 : ((!(l10_RowWrites_k3 a0 a1 a2)) = true → boundP ((0 : Nat) + a2.2.length)) := hp _ (List.mem_cons_of_mem _ (List.mem_cons_of_mem _ (List.mem_cons_self ..)))
 have n3 : ((!(l10_RowWrites_k3 a0 a1 a2)) = true → ∀ (g : TGroup), g ∈ a0 → wideN g.1.size) := hp _ (List.mem_cons_of_mem _ (List.mem_cons_of_mem _ (List.mem_cons_of_mem _ (List.mem_cons_self ..))))
 have n4 : ((!(l10_RowWrites_k3 a0 a1 a2)) = true → (!r10_Write_k1 a0 a1.1 a1.2 a1.3) = true → (!r10_Write_k0 a0 a1.1 a1.2 a1.3) = true → (0 : Int) ≤ a1.2 ∧ a1.2 < (↑a0.length : Int)) := hp _ (List.mem_cons_of_mem _ (List.mem_cons_of_mem _ (List.mem_cons_of_mem _ (List.mem_cons_of_mem _ (List.mem_cons_self ..)))))
 have n5 : ((!(l10_RowWrites_k3 a0 a1 a2)) = true → (!r10_Write_k1 a0 a1.1 a1.2 a1.3) = true → (!r10_Write_k0 a0 a1.1 a1.2 a1.3) = true → (!!r08_Good_0 (a0.getD a1.2.toNat (dflt TC.group)).2 a1.3) = true → boundP ((0 : Nat) + a1.1.2.length)) := hp _ (List.mem_cons_of_mem _ (List.mem_cons_of_mem _ (List.mem_cons_of_mem _ (List.mem_cons_of_mem _ (List.mem_cons_of_mem _ (List.mem_cons_self ..))))))
 have n6 : ((!(l10_RowWrites_k3 a0 a1 a2)) = true → (!r10_Write_k1 a0 a1.1 a1.2 a1.3) = true → (!r10_Write_k0 a0 a1.1 a1.2 a1.3) = true → (!!r08_Good_0 (a0.getD a1.2.toNat (dflt TC.group)).2 a1.3) = true → (0 : Int) ≤ a1.2 ∧ a1.2 < (↑(r10_Copy_1 a1.1).length : Int)) := hp _ (List.mem_cons_of_mem _ (List.mem_cons_of_mem _ (List.mem_cons_of_mem _ (List.mem_cons_of_mem _ (List.mem_cons_of_mem _ (List.mem_cons_of_mem _ (List.mem_cons_self ..)))))))
 have n8 : ((!(l10_RowWrites_k3 a0 a1 a2)) = true → (!r10_Join_k0 a0 a1.1 a2) = true → ∀ (g : TGroup), g ∈ a0 → wideN g.1.size) := hp _ (List.mem_cons_of_mem _ (List.mem_cons_of_mem _ (List.mem_cons_of_mem _ (List.mem_cons_of_mem _ (List.mem_cons_of_mem _ (List.mem_cons_of_mem _ (List.mem_cons_of_mem _ (List.mem_cons_self ..))))))))
 have n9 : ((!(l10_RowWrites_k3 a0 a1 a2)) = true → (!r10_Join_k0 a0 a1.1 a2) = true → (!r10_Join_k1 a0 a1.1 a2) = true → (!r10_Join_k2 a0 a1.1 a2) = true → boundP ((0 : Nat) + a1.1.2.length)) := hp _ (List.mem_cons_of_mem _ (List.mem_cons_of_mem _ (List.mem_cons_of_mem _ (List.mem_cons_of_mem _ (List.mem_cons_of_mem _ (List.mem_cons_of_mem _ (List.mem_cons_of_mem _ (List.mem_cons_of_mem _ (List.mem_cons_self ..)))))))))
 have n10 : ((!(l10_RowWrites_k3 a0 a1 a2)) = true → (!r10_Join_k0 a0 a1.1 a2) = true → (!r10_Join_k1 a0 a1.1 a2) = true → (!r10_Join_k2 a0 a1.1 a2) = true → needX r10_Join_l0_next r10_Join_l0_goes r10_Join_l0_ps (r10_Join_l0_fuel ((0 : Int), a2, a1.1.1, r10_Copy_1 a1.1)) ((0 : Int), a2, a1.1.1, r10_Copy_1 a1.1)) := hp _ (List.mem_cons_of_mem _ (List.mem_cons_of_mem _ (List.mem_cons_of_mem _ (List.mem_cons_of_mem _ (List.mem_cons_of_mem _ (List.mem_cons_of_mem _ (List.mem_cons_of_mem _ (List.mem_cons_of_mem _ (List.mem_cons_of_mem _ (List.mem_cons_self ..))))))))))
 have n11 : ((!(l10_RowWrites_k3 a0 a1 a2)) = true → loopAt Try.prog (15 : FuncId) (0 : Nat) = loopAt Try.prog (15 : FuncId) (0 : Nat)) := by intros; rfl
 have n12 : ((!(l10_RowWrites_k3 a0 a1 a2)) = true → needX l10_RowWrites_l0_next l10_RowWrites_l0_goes l10_RowWrites_l0_ps (l10_RowWrites_l0_fuel ((↑(wrL a0 (TRow.mk a1.1.1 (r10_Copy_1 a1.1)) a1.2 a1.3).length : Int), (0 : Int), wrK a0 (TRow.mk a1.1.1 (r10_Copy_1 a1.1)) a1.2 a1.3, wrL a0 (TRow.mk a1.1.1 (r10_Copy_1 a1.1)) a1.2 a1.3)) ((↑(wrL a0 (TRow.mk a1.1.1 (r10_Copy_1 a1.1)) a1.2 a1.3).length : Int), (0 : Int), wrK a0 (TRow.mk a1.1.1 (r10_Copy_1 a1.1)) a1.2 a1.3, wrL a0 (TRow.mk a1.1.1 (r10_Copy_1 a1.1)) a1.2 a1.3)) := hp _ (List.mem_cons_of_mem _ (List.mem_cons_of_mem _ (List.mem_cons_of_mem _ (List.mem_cons_of_mem _ (List.mem_cons_of_mem _ (List.mem_cons_of_mem _ (List.mem_cons_of_mem _ (List.mem_cons_of_mem _ (List.mem_cons_of_mem _ (List.mem_cons_of_mem _ (List.mem_cons_self ..)))))))))))
 have n13 : ((!(l10_RowWrites_k3 a0 a1 a2)) = true → loopAt Try.prog (15 : FuncId) (2 : Nat) = loopAt Try.prog (15 : FuncId) (2 : Nat)) := by intros; rfl
 have n14 : ((!(l10_RowWrites_k3 a0 a1 a2)) = true → needX l10_RowWrites_l2_next l10_RowWrites_l2_goes l10_RowWrites_l2_ps (l10_RowWrites_l2_fuel ((↑(jnL a0 (TRow.mk a1.1.1 (r10_Copy_1 a1.1)) (TRow.mk a2.1 (r10_Copy_1 a2))).length : Int), (0 : Int), jnK a0 (TRow.mk a1.1.1 (r10_Copy_1 a1.1)) (TRow.mk a2.1 (r10_Copy_1 a2)), jnL a0 (TRow.mk a1.1.1 (r10_Copy_1 a1.1)) (TRow.mk a2.1 (r10_Copy_1 a2)))) ((↑(jnL a0 (TRow.mk a1.1.1 (r10_Copy_1 a1.1)) (TRow.mk a2.1 (r10_Copy_1 a2))).length : Int), (0 : Int), jnK a0 (TRow.mk a1.1.1 (r10_Copy_1 a1.1)) (TRow.mk a2.1 (r10_Copy_1 a2)), jnL a0 (TRow.mk a1.1.1 (r10_Copy_1 a1.1)) (TRow.mk a2.1 (r10_Copy_1 a2)))) := hp _ (List.mem_cons_of_mem _ (List.mem_cons_of_mem _ (List.mem_cons_of_mem _ (List.mem_cons_of_mem _ (List.mem_cons_of_mem _ (List.mem_cons_of_mem _ (List.mem_cons_of_mem _ (List.mem_cons_of_mem _ (List.mem_cons_of_mem _ (List.mem_cons_of_mem _ (List.mem_cons_of_mem _ (List.mem_cons_self ..))))))))))))
 have n15 : ((!(l10_RowWrites_k3 a0 a1 a2)) = true → loopAt Try.prog (15 : FuncId) (4 : Nat) = loopAt Try.prog (15 : FuncId) (4 : Nat)) := by intros; rfl
 have n16 : ((!(l10_RowWrites_k3 a0 a1 a2)) = true → needX l10_RowWrites_l4_next l10_RowWrites_l4_goes l10_RowWrites_l4_ps (l10_RowWrites_l4_fuel ((↑(r10_Write_2 a0 a1.1 a1.2 a1.3).length : Int), (0 : Int), r10_Write_0 a0 a1.1 a1.2 a1.3, r10_Write_2 a0 a1.1 a1.2 a1.3)) ((↑(r10_Write_2 a0 a1.1 a1.2 a1.3).length : Int), (0 : Int), r10_Write_0 a0 a1.1 a1.2 a1.3, r10_Write_2 a0 a1.1 a1.2 a1.3)) := hp _ (List.mem_cons_of_mem _ (List.mem_cons_of_mem _ (List.mem_cons_of_mem _ (List.mem_cons_of_mem _ (List.mem_cons_of_mem _ (List.mem_cons_of_mem _ (List.mem_cons_of_mem _ (List.mem_cons_of_mem _ (List.mem_cons_of_mem _ (List.mem_cons_of_mem _ (List.mem_cons_of_mem _ (List.mem_cons_of_mem _ (List.mem_cons_self ..)))))))))))))
 have n17 : ((!(l10_RowWrites_k3 a0 a1 a2)) = true → loopAt Try.prog (15 : FuncId) (6 : Nat) = loopAt Try.prog (15 : FuncId) (6 : Nat)) := by intros; rfl
 have n18 : ((!(l10_RowWrites_k3 a0 a1 a2)) = true → needX l10_RowWrites_l6_next l10_RowWrites_l6_goes l10_RowWrites_l6_ps (l10_RowWrites_l6_fuel ((↑(r10_Join_2 a0 a1.1 a2).length : Int), (0 : Int), r10_Join_0 a0 a1.1 a2, r10_Join_2 a0 a1.1 a2)) ((↑(r10_Join_2 a0 a1.1 a2).length : Int), (0 : Int), r10_Join_0 a0 a1.1 a2, r10_Join_2 a0 a1.1 a2)) := hp _ (List.mem_cons_of_mem _ (List.mem_cons_of_mem _ (List.mem_cons_of_mem _ (List.mem_cons_of_mem _ (List.mem_cons_of_mem _ (List.mem_cons_of_mem _ (List.mem_cons_of_mem _ (List.mem_cons_of_mem _ (List.mem_cons_of_mem _ (List.mem_cons_of_mem _ (List.mem_cons_of_mem _ (List.mem_cons_of_mem _ (List.mem_cons_of_mem _ (List.mem_cons_self ..))))))))))))))
 have n19 : ((!(l10_RowWrites_k3 a0 a1 a2)) = true → boundP (l10_RowWrites_l0_run ((↑(wrL a0 (TRow.mk a1.1.1 (r10_Copy_1 a1.1)) a1.2 a1.3).length : Int), (0 : Int), wrK a0 (TRow.mk a1.1.1 (r10_Copy_1 a1.1)) a1.2 a1.3, wrL a0 (TRow.mk a1.1.1 (r10_Copy_1 a1.1)) a1.2 a1.3)).snd.snd.snd.length) := hp _ (List.mem_cons_of_mem _ (List.mem_cons_of_mem _ (List.mem_cons_of_mem _ (List.mem_cons_of_mem _ (List.mem_cons_of_mem _ (List.mem_cons_of_mem _ (List.mem_cons_of_mem _ (List.mem_cons_of_mem _ (List.mem_cons_of_mem _ (List.mem_cons_of_mem _ (List.mem_cons_of_mem _ (List.mem_cons_of_mem _ (List.mem_cons_of_mem _ (List.mem_cons_of_mem _ (List.mem_cons_self ..)))))))))))))))
 have n20 : ((!(l10_RowWrites_k3 a0 a1 a2)) = true → (l10_RowWrites_k1 a0 a1 a2) = true → boundP (l10_RowWrites_k2 a0 a1 a2).length) := hp _ (List.mem_cons_of_mem _ (List.mem_cons_of_mem _ (List.mem_cons_of_mem _ (List.mem_cons_of_mem _ (List.mem_cons_of_mem _ (List.mem_cons_of_mem _ (List.mem_cons_of_mem _ (List.mem_cons_of_mem _ (List.mem_cons_of_mem _ (List.mem_cons_of_mem _ (List.mem_cons_of_mem _ (List.mem_cons_of_mem _ (List.mem_cons_of_mem _ (List.mem_cons_of_mem _ (List.mem_cons_of_mem _ (List.mem_cons_self ..))))))))))))))))
 have n21 : ((!(l10_RowWrites_k3 a0 a1 a2)) = true → ((l10_RowWrites_k1 a0 a1 a2) && eqRw (TRow.mk (l10_RowWrites_l2_run ((↑(jnL a0 (TRow.mk a1.1.1 (r10_Copy_1 a1.1)) (TRow.mk a2.1 (r10_Copy_1 a2))).length : Int), (0 : Int), jnK a0 (TRow.mk a1.1.1 (r10_Copy_1 a1.1)) (TRow.mk a2.1 (r10_Copy_1 a2)), jnL a0 (TRow.mk a1.1.1 (r10_Copy_1 a1.1)) (TRow.mk a2.1 (r10_Copy_1 a2)))).snd.snd.fst (l10_RowWrites_k2 a0 a1 a2)) (TRow.mk (l10_RowWrites_l6_run ((↑(r10_Join_2 a0 a1.1 a2).length : Int), (0 : Int), r10_Join_0 a0 a1.1 a2, r10_Join_2 a0 a1.1 a2)).snd.snd.fst (l10_RowWrites_l6_run ((↑(r10_Join_2 a0 a1.1 a2).length : Int), (0 : Int), r10_Join_0 a0 a1.1 a2, r10_Join_2 a0 a1.1 a2)).snd.snd.snd) && jnE a0 (TRow.mk a1.1.1 (r10_Copy_1 a1.1)) (TRow.mk a2.1 (r10_Copy_1 a2)) == r10_Join_1 a0 a1.1 a2) = true → boundP (r10_Copy_1 a1.1).length) := hp _ (List.mem_cons_of_mem _ (List.mem_cons_of_mem _ (List.mem_cons_of_mem _ (List.mem_cons_of_mem _ (List.mem_cons_of_mem _ (List.mem_cons_of_mem _ (List.mem_cons_of_mem _ (List.mem_cons_of_mem _ (List.mem_cons_of_mem _ (List.mem_cons_of_mem _ (List.mem_cons_of_mem _ (List.mem_cons_of_mem _ (List.mem_cons_of_mem _ (List.mem_cons_of_mem _ (List.mem_cons_of_mem _ (List.mem_cons_of_mem _ (List.mem_cons_self ..)))))))))))))))))
 have n22 : ((!(l10_RowWrites_k3 a0 a1 a2)) = true → (l10_RowWrites_k0 a0 a1 a2) = true → boundP (r10_Copy_1 a2).length) := hp _ (List.mem_cons_of_mem _ (List.mem_cons_of_mem _ (List.mem_cons_of_mem _ (List.mem_cons_of_mem _ (List.mem_cons_of_mem _ (List.mem_cons_of_mem _ (List.mem_cons_of_mem _ (List.mem_cons_of_mem _ (List.mem_cons_of_mem _ (List.mem_cons_of_mem _ (List.mem_cons_of_mem _ (List.mem_cons_of_mem _ (List.mem_cons_of_mem _ (List.mem_cons_of_mem _ (List.mem_cons_of_mem _ (List.mem_cons_of_mem _ (List.mem_cons_of_mem _ (List.mem_cons_self ..))))))))))))))))))
 exact evF_ok (envP_ok Cw_3_ok l10_RowWrites_l6_Lok) (l10_RowWrites_ev a0 a1 a2) (needs_cons n0 (needs_cons n1 (needs_cons n2 (needs_cons n3 (needs_cons n4 (needs_cons n5 (needs_cons n6 (needs_cons n3 (needs_cons n8 (needs_cons n9 (needs_cons n10 (needs_cons n11 (needs_cons n12 (needs_cons n13 (needs_cons n14 (needs_cons n15 (needs_cons n16 (needs_cons n17 (needs_cons n18 (needs_cons n19 (needs_cons n20 (needs_cons n21 (needs_cons n22 needs_nil)))))))))))))))))))))))
end Go.Proofs.Yteebobbhhgmeiaa
namespace Go.Proofs.Yteebobbhhgmeiaa
open Go.RowKit
theorem r10w_eq (l : List TGroup) (r : TRow) (g : Int) (c : TCell) : r10_Write_1 l r g c = wrE l r g c ∧ r10_Write_0 l r g c = wrK l r g c ∧ r10_Write_2 l r g c = wrL l r g c := by
 have e1 : r10_Write_1 l r g c = wrE l r g c := by
  unfold r10_Write_1 wrE
  rw [r08_Good_eq]
  rfl
 refine ⟨e1, ?_, ?_⟩
 ·by_cases h : wrE l r g c = 0
  ·obtain ⟨h1, h2, h3⟩ := wrE_0.1 h
   unfold r10_Write_0 wrK r10_Write_k1 r10_Write_k0
   rw [h, h1, decide_eq_false (by omega), decide_eq_false (by omega), r08_Good_eq]
   have h3' : goodC (l.getD g.toNat (dflt TC.group)).2 c = true := h3
   rw [h3']
   rfl
  ·have hne : (wrE l r g c == 0) = false := by simpa using h
   unfold wrK
   rw [hne, cond_false]
   unfold wrE at h
   unfold r10_Write_0 r10_Write_k1 r10_Write_k0
   cases h1 : goodRow l r != 0 with
   | true => rfl
   | false =>
    rw [h1, cond_false] at h
    cases h2 : decide (g < 0) || decide (g ≥ (l.length : Int)) with
    | true => rfl
    | false =>
     rw [h2, cond_false] at h
     rw [r08_Good_eq]
     cases h3 : goodC (l.getD g.toNat (dflt TC.group)).2 c with
     | false => rfl
     | true =>
      have h3' : goodC (polN l g.toNat) c = true := h3
      rw [h3'] at h
      exact absurd rfl h
 ·by_cases h : wrE l r g c = 0
  ·obtain ⟨h1, h2, h3⟩ := wrE_0.1 h
   unfold r10_Write_2 wrL r10_Write_k1 r10_Write_k0
   rw [h, h1, decide_eq_false (by omega), decide_eq_false (by omega), r08_Good_eq]
   have h3' : goodC (l.getD g.toNat (dflt TC.group)).2 c = true := h3
   rw [h3']
   show r.cells.set g.toNat (twoC (cellN r.cells g.toNat) c) = r.cells.set g.toNat (joinC (cellN r.cells g.toNat) c)
   rw [join_good (goodRow_at h1 (by omega : g.toNat < l.length))]
  ·have hne : (wrE l r g c == 0) = false := by simpa using h
   unfold wrL
   rw [hne, cond_false]
   unfold wrE at h
   unfold r10_Write_2 r10_Write_k1 r10_Write_k0
   cases h1 : goodRow l r != 0 with
   | true => rfl
   | false =>
    rw [h1, cond_false] at h
    cases h2 : decide (g < 0) || decide (g ≥ (l.length : Int)) with
    | true => rfl
    | false =>
     rw [h2, cond_false] at h
     rw [r08_Good_eq]
     cases h3 : goodC (l.getD g.toNat (dflt TC.group)).2 c with
     | false => rfl
     | true =>
      have h3' : goodC (polN l g.toNat) c = true := h3
      rw [h3'] at h
      exact absurd rfl h
theorem r10j_loop {l : List TGroup} {a b : TRow} (ha : goodRow l a = 0) (hb : goodRow l b = 0) :
  needX r10_Join_l0_next r10_Join_l0_goes r10_Join_l0_ps (r10_Join_l0_fuel (0, b, a.key, a.cells)) (0, b, a.key, a.cells) ∧ r10_Join_l0_run (0, b, a.key, a.cells) = ((a.cells.length : Int), b, a.key, jnN a.cells b.cells a.cells.length) := by
 have h1 := (goodRow_0 ha).2.1
 have h2 := (goodRow_0 hb).2.1
 have h4 := (goodP_0 (goodRow_0 ha).1).2
 have hlen := fun i => jnN_len a.cells b.cells i
 obtain ⟨h5, k, hk, hx, _, hst, _⟩ := scanB (fun i => ((i : Int), b, a.key, jnN a.cells b.cells i) : Nat → r10_Join_l0_X) a.cells.length (fun _ => false) r10_Join_l0_next r10_Join_l0_goes r10_Join_l0_ps (r10_Join_l0_fuel (0, b, a.key, a.cells)) (0, b, a.key, a.cells) rfl (by show a.cells.length ≤ ((a.cells.length : Int) - 0).toNat; omega)
  (fun i _ _ => by
   show (!!decide ((i : Int) < ((jnN a.cells b.cells i).length : Int))) = _
   rw [nn, hlen, dlt, Bool.not_false, Bool.and_true])
  (fun i hi _ => by
   show (IntKind.i64.wrap ((i : Int) + 1), b, a.key, r10_Join_l0_f_3 (i : Int) b a.key (jnN a.cells b.cells i)) = (((i + 1 : Nat) : Int), b, a.key, jnN a.cells b.cells (i + 1))
   unfold r10_Join_l0_f_3
   rw [wsucc (by omega), Int.toNat_natCast]
   show (_, _, _, (jnN a.cells b.cells i).set i (twoC (cellN (jnN a.cells b.cells i) i) (cellN b.cells i))) = (_, _, _, (jnN a.cells b.cells i).set i (joinC (cellN (jnN a.cells b.cells i) i) (cellN b.cells i)))
   have e : cellN (jnN a.cells b.cells i) i = cellN a.cells i := by
    rw [jnN_at a.cells b.cells i hi i, decide_eq_false (Nat.lt_irrefl i)]
    rfl
   rw [e, join_good (goodRow_at ha (by omega : i < l.length))])
  (fun i hi _ => by
   have hin : r10_Join_l0_f_k0 (i : Int) b a.key (jnN a.cells b.cells i) = true → (i : Int) < ((jnN a.cells b.cells i).length : Int) := fun h => by
    unfold r10_Join_l0_f_k0 at h
    rw [nn] at h
    exact of_decide_eq_true h
   refine needs_cons (fun h => ⟨by show (0 : Int) ≤ (i : Int); omega, hin h⟩) (needs_cons (fun h => ⟨by show (0 : Int) ≤ (i : Int); omega, ?_⟩) needs_nil)
   have := hin h
   rw [hlen] at this
   show (i : Int) < (b.cells.length : Int)
   omega)
 have hkn : k = a.cells.length := by
  rcases Nat.lt_or_ge k a.cells.length with h | h
  ·exact absurd (hst h) (by decide)
  ·omega
 subst hkn
 exact ⟨h5, hx⟩
theorem r10j_eq (l : List TGroup) (a b : TRow) : r10_Join_1 l a b = jnE l a b ∧ r10_Join_0 l a b = jnK l a b ∧ r10_Join_2 l a b = jnL l a b := by
 have hkey : r10_Join_k2 l a b = !(a.key == b.key) := by
  unfold r10_Join_k2
  rw [tlb]
 have e1 : r10_Join_1 l a b = jnE l a b := by
  unfold r10_Join_1 jnE
  rw [hkey]
  rfl
 have split : ∀ {α : Type} (z : α) (f : α), (bif r10_Join_k0 l a b then z else bif r10_Join_k1 l a b then z else bif r10_Join_k2 l a b then z else f) = bif jnE l a b == 0 then f else z := fun z f => by
  by_cases h : jnE l a b = 0
  ·obtain ⟨h1, h2, h3⟩ := jnE_0.1 h
   have k0 : r10_Join_k0 l a b = false := by unfold r10_Join_k0; rw [h1]; rfl
   have k1 : r10_Join_k1 l a b = false := by unfold r10_Join_k1; rw [h2]; rfl
   rw [k0, k1, hkey, h3, beq_self_eq_true, h]
   rfl
  ·have hne : (jnE l a b == 0) = false := by simpa using h
   rw [hne, cond_false]
   cases h1 : r10_Join_k0 l a b with
   | true => rfl
   | false =>
    cases h2 : r10_Join_k1 l a b with
    | true => rfl
    | false =>
     cases h3 : r10_Join_k2 l a b with
     | true => rfl
     | false =>
      rw [hkey] at h3
      refine absurd (jnE_0.2 ⟨?_, ?_, ?_⟩) h
      ·unfold r10_Join_k0 at h1; simpa using h1
      ·unfold r10_Join_k1 at h2; simpa using h2
      ·simpa using h3
 refine ⟨e1, ?_, ?_⟩
 ·unfold r10_Join_0
  rw [split]
  unfold jnK
  by_cases h : jnE l a b = 0
  ·obtain ⟨h1, h2, h3⟩ := jnE_0.1 h
   rw [h]
   show (r10_Join_l0_run (0, b, a.key, a.cells)).snd.snd.fst = a.key
   rw [(r10j_loop h1 h2).2]
  ·have hne : (jnE l a b == 0) = false := by simpa using h
   rw [hne]
   rfl
 ·unfold r10_Join_2
  rw [split]
  unfold jnL
  by_cases h : jnE l a b = 0
  ·obtain ⟨h1, h2, h3⟩ := jnE_0.1 h
   have hl : a.cells.length = b.cells.length := (goodRow_0 h1).2.1.trans (goodRow_0 h2).2.1.symm
   rw [h]
   show (r10_Join_l0_run (0, b, a.key, a.cells)).snd.snd.snd = jnN a.cells b.cells b.cells.length
   rw [(r10j_loop h1 h2).2, hl]
  ·have hne : (jnE l a b == 0) = false := by simpa using h
   rw [hne]
   rfl
def spN (n : Int) (key : ByteArray) (ws : List TCell) : Nat → List TCell
 | 0 => ws
 | i + 1 => l10_RowWrites_l0_f_3 n (i : Int) key (spN n key ws i)
theorem spN_len (n : Int) (key : ByteArray) (ws : List TCell) : ∀ i, (spN n key ws i).length = ws.length
 | 0 => rfl
 | i + 1 => by
  unfold spN l10_RowWrites_l0_f_3
  rw [List.length_set, spN_len n key ws i]
theorem sp_loop (key : ByteArray) (ws : List TCell) (h5 : ws.length ≤ 5000) :
  needX l10_RowWrites_l0_next l10_RowWrites_l0_goes l10_RowWrites_l0_ps (l10_RowWrites_l0_fuel ((ws.length : Int), 0, key, ws)) ((ws.length : Int), 0, key, ws) ∧ (l10_RowWrites_l0_run ((ws.length : Int), 0, key, ws)).2.2.2.length = ws.length := by
 obtain ⟨h1, k, hk, hx, _, hst, _⟩ := scanB (fun i => ((ws.length : Int), (i : Int), key, spN (ws.length : Int) key ws i) : Nat → l10_RowWrites_l0_X) ws.length (fun _ => false) l10_RowWrites_l0_next l10_RowWrites_l0_goes l10_RowWrites_l0_ps (l10_RowWrites_l0_fuel ((ws.length : Int), 0, key, ws)) ((ws.length : Int), 0, key, ws) rfl (by show ws.length ≤ ((ws.length : Int) - 0).toNat; omega)
  (fun i _ _ => by
   show (!!decide ((i : Int) < (ws.length : Int))) = _
   rw [nn, dlt, Bool.not_false, Bool.and_true])
  (fun i hi _ => by
   show ((ws.length : Int), IntKind.i64.wrap ((i : Int) + 1), key, l10_RowWrites_l0_f_3 (ws.length : Int) (i : Int) key (spN (ws.length : Int) key ws i)) = _
   rw [wsucc (by omega)]
   rfl)
  (fun i hi _ => by
   refine needs_cons (fun h => ⟨by show (0 : Int) ≤ (i : Int); omega, ?_⟩) needs_nil
   have h' : (!!decide ((i : Int) < (ws.length : Int))) = true := h
   rw [nn] at h'
   have := of_decide_eq_true h'
   show (i : Int) < ((spN (ws.length : Int) key ws i).length : Int)
   rw [spN_len]
   exact this)
 refine ⟨h1, ?_⟩
 have hx' : l10_RowWrites_l0_run ((ws.length : Int), 0, key, ws) = ((ws.length : Int), (k : Int), key, spN (ws.length : Int) key ws k) := hx
 rw [hx']
 exact spN_len _ _ _ _
theorem rw_true (a0 : List TGroup) (a1 : TTwo) (a2 : TRow) (w0 : a0.length ≤ maxLen ∧ ∀ y ∈ a0, Wfd .group y) (w1 : Wfd .row a1.1) (w2 : Wfd .row a2) : (∀ p ∈ l10_RowWrites_ps a0 a1 a2, p) ∧ l10_RowWrites_0 a0 a1 a2 = true := by
 have hwr : ∀ {r : TRow}, Wfd .row r → wideN r.1.size ∧ wideN r.2.length ∧ ∀ c ∈ r.2, wideN c.4.size := fun {r} w => ⟨w.1, w.2.1, fun c hc => (w.2.2 c hc).2.2.2.1⟩
 have hw : wideN a0.length ∧ wideN (2 : Nat) ∧ ∀ r ∈ [a1.1, a2], wideN r.1.size ∧ wideN r.2.length ∧ ∀ c ∈ r.2, wideN c.4.size := ⟨w0.1, by unfold wideN; omega, fun r hr => by
  rcases List.mem_cons.1 hr with rfl | hr
  ·exact hwr w1
  ·rw [List.mem_singleton.1 hr]; exact hwr w2⟩
 have hlt : (!(l10_RowWrites_k3 a0 a1 a2)) = true → a1.1.cells.length ≤ 5000 ∧ a2.cells.length ≤ 5000 := fun h => by
  unfold l10_RowWrites_k3 at h
  rw [Bool.not_or, Bool.and_eq_true, Bool.not_not] at h
  have := ((light_eq a0 [a1.1, a2] hw.1 hw.2.1 hw.2.2).2 h.1).2
  exact ⟨(this a1.1 (List.mem_cons_self ..)).2.1, (this a2 (List.mem_cons_of_mem _ (List.mem_cons_self ..))).2.1⟩
 have hn : ∀ g ∈ a0, wideN g.name.size := fun g hg => (w0.2 g hg).1
 obtain ⟨q1, q2, q3⟩ := r10w_eq a0 a1.1 a1.2 a1.3
 obtain ⟨j1, j2, j3⟩ := r10j_eq a0 a1.1 a2
 have lw : (wrL a0 a1.1 a1.2 a1.3).length ≤ 4 := by
  unfold wrL
  by_cases h : wrE a0 a1.1 a1.2 a1.3 = 0
  ·obtain ⟨h1, _, _⟩ := wrE_0.1 h
   rw [h]
   show (wrCs a1.1.cells a1.2.toNat a1.3).length ≤ 4
   rw [wrCs_len, (goodRow_0 h1).2.1]
   exact (goodP_0 (goodRow_0 h1).1).2
  ·have hne : (wrE a0 a1.1 a1.2 a1.3 == 0) = false := by simpa using h
   rw [hne]
   exact Nat.zero_le _
 have lj : (jnL a0 a1.1 a2).length ≤ 4 := by
  unfold jnL
  by_cases h : jnE a0 a1.1 a2 = 0
  ·obtain ⟨h1, _, _⟩ := jnE_0.1 h
   rw [h]
   show (jnN a1.1.cells a2.cells a2.cells.length).length ≤ 4
   rw [jnN_len, (goodRow_0 h1).2.1]
   exact (goodP_0 (goodRow_0 h1).1).2
  ·have hne : (jnE a0 a1.1 a2 == 0) = false := by simpa using h
   rw [hne]
   exact Nat.zero_le _
 have sw := sp_loop (wrK a0 a1.1 a1.2 a1.3) (wrL a0 a1.1 a1.2 a1.3) (by omega)
 have sj := sp_loop (jnK a0 a1.1 a2) (jnL a0 a1.1 a2) (by omega)
 have hg : (!r10_Write_k1 a0 a1.1 a1.2 a1.3) = true → (!r10_Write_k0 a0 a1.1 a1.2 a1.3) = true → goodRow a0 a1.1 = 0 ∧ 0 ≤ a1.2 ∧ a1.2 < (a0.length : Int) := fun h1 h2 => by
  unfold r10_Write_k1 at h1
  unfold r10_Write_k0 at h2
  simp only [Bool.not_or, Bool.and_eq_true, Bool.not_eq_true', decide_eq_false_iff_not] at h2
  exact ⟨by simpa using h1, by omega, by omega⟩
 have hj : (!r10_Join_k0 a0 a1.1 a2) = true → (!r10_Join_k1 a0 a1.1 a2) = true → goodRow a0 a1.1 = 0 ∧ goodRow a0 a2 = 0 := fun h1 h2 => by
  unfold r10_Join_k0 at h1
  unfold r10_Join_k1 at h2
  exact ⟨by simpa using h1, by simpa using h2⟩
 refine ⟨needs_cons hw (needs_cons (fun h => ?_) (needs_cons (fun h => ?_) (needs_cons (fun _ => hn) (needs_cons (fun _ h1 h2 => (hg h1 h2).2) (needs_cons (fun h _ _ _ => ?_) (needs_cons (fun _ h1 h2 _ => ?_) (needs_cons (fun _ _ => hn) (needs_cons (fun h _ _ _ => ?_) (needs_cons (fun _ h1 h2 _ => ?_) (needs_cons (fun _ => sw.1) (needs_cons (fun _ => sj.1) (needs_cons (fun _ => ?_) (needs_cons (fun _ => ?_) ?_))))))))))))), ?_⟩
 ·have := (hlt h).1; unfold boundP; omega
 ·have := (hlt h).2; unfold boundP; omega
 ·have := (hlt h).1; unfold boundP; omega
 ·obtain ⟨g1, g2⟩ := hg h1 h2
  have : (r10_Copy_1 a1.1).length = a0.length := (goodRow_0 g1).2.1
  rw [this]
  exact g2
 ·have := (hlt h).1; unfold boundP; omega
 ·obtain ⟨g1, g2⟩ := hj h1 h2
  exact (r10j_loop g1 g2).1
 ·rw [q2, q3]; exact sw.1
 ·rw [j2, j3]; exact sj.1
 ·have e0 : ∀ {n : Nat}, n ≤ 5000 → boundP n := fun h => by unfold boundP; omega
  refine needs_cons (fun _ => ?_) (needs_cons (fun _ _ => ?_) (needs_cons (fun h _ => e0 (hlt h).1) (needs_cons (fun h _ => e0 (hlt h).2) needs_nil)))
  ·refine e0 ?_
   have := sw.2
   show (l10_RowWrites_l0_run ((↑(wrL a0 a1.1 a1.2 a1.3).length : Int), (0 : Int), wrK a0 a1.1 a1.2 a1.3, wrL a0 a1.1 a1.2 a1.3)).snd.snd.snd.length ≤ 5000
   rw [this]
   omega
  ·refine e0 ?_
   have := sj.2
   show (l10_RowWrites_l0_run ((↑(jnL a0 a1.1 a2).length : Int), (0 : Int), jnK a0 a1.1 a2, jnL a0 a1.1 a2)).snd.snd.snd.length ≤ 5000
   rw [this]
   omega
 ·unfold l10_RowWrites_0
  cases l10_RowWrites_k3 a0 a1 a2 with
  | true => rfl
  | false =>
   rw [cond_false]
   have k1 : l10_RowWrites_k1 a0 a1 a2 = true := by
    unfold l10_RowWrites_k1
    rw [q1, q2, q3, Bool.and_eq_true, eqRw_iff]
    exact ⟨rfl, beq_self_eq_true _⟩
   have k0 : l10_RowWrites_k0 a0 a1 a2 = true := by
    unfold l10_RowWrites_k0 l10_RowWrites_k2
    rw [k1, j1, j2, j3, Bool.true_and, Bool.and_eq_true, Bool.and_eq_true, eqRw_iff, eqRw_iff]
    exact ⟨⟨rfl, beq_self_eq_true _⟩, rfl⟩
   rw [k0, Bool.true_and, Bool.and_true]
   exact eqRw_iff.2 rfl
end Go.Proofs.Yteebobbhhgmeiaa
namespace Go.Proofs.Yteebobbhhgmeiaa
open Go.RowKit
set_option maxRecDepth 100000
theorem op3 : Opn Try.prog .i64 3 := opn_i64 Try.underlying3
theorem op4 : Opn Try.prog .bool 4 := opn_bool Try.underlying4
theorem op9 : Opn Try.prog .str 9 := opn_str Try.underlying9
theorem op31 : Opn Try.prog .vec 31 := fun en w base spare held m cs y h => by
 obtain ⟨xs, n, _, _, hl, hz, hg⟩ := DataW.trod_array Try.underlying31 h
 have hl : cs.length = 2 := hl.trans (by kernel_rfl)
 obtain ⟨x0, w0, g0⟩ := arrO (i := 0) (k := 1) op3 (by kernel_rfl) (by omega) (by omega) hg
 obtain ⟨x1, w1, g1⟩ := arrO (i := 1) (k := 1) op3 (by kernel_rfl) (by omega) (by omega) hg
 exact ⟨⟨x0, x1⟩, ⟨w0, w1⟩, fun F N nx hF => HLd (o := 0) (k := 1) (g0 F N nx hF) (HLd (o := 1) (k := 1) (g1 F N nx hF) (HLe (o := 2) hl))⟩
theorem op51 : Opn Try.prog .stamp 51 := fun en w base spare held m cs y h => by
 obtain ⟨xs, n, _, _, hl, hz, hg⟩ := DataW.trod_struct Try.underlying51 h
 have hz : xs.length = 2 := hz
 have hl : cs.length = 2 := hl.trans (by kernel_rfl)
 obtain ⟨x0, w0, g0⟩ := fldO (i := 0) (o := 0) (k := 1) op3 rfl rfl rfl (by kernel_rfl) (by omega) hg
 obtain ⟨x1, w1, g1⟩ := fldO (i := 1) (o := 1) (k := 1) op3 rfl rfl rfl (by kernel_rfl) (by omega) hg
 exact ⟨⟨x0, x1⟩, ⟨w0, w1⟩, fun F N nx hF => HLd (o := 0) (k := 1) (g0 F N nx hF) (HLd (o := 1) (k := 1) (g1 F N nx hF) (HLe (o := 2) hl))⟩
theorem op55 : Opn Try.prog .cell 55 := fun en w base spare held m cs y h => by
 obtain ⟨xs, n, _, _, hl, hz, hg⟩ := DataW.trod_struct Try.underlying55 h
 have hz : xs.length = 5 := hz
 have hl : cs.length = 8 := hl.trans (by kernel_rfl)
 obtain ⟨x0, w0, g0⟩ := fldO (i := 0) (o := 0) (k := 2) op51 rfl rfl rfl (by kernel_rfl) (by omega) hg
 obtain ⟨x1, w1, g1⟩ := fldO (i := 1) (o := 2) (k := 2) op31 rfl rfl rfl (by kernel_rfl) (by omega) hg
 obtain ⟨x2, w2, g2⟩ := fldO (i := 2) (o := 4) (k := 1) op4 rfl rfl rfl (by kernel_rfl) (by omega) hg
 obtain ⟨x3, w3, g3⟩ := fldO (i := 3) (o := 5) (k := 1) op9 rfl rfl rfl (by kernel_rfl) (by omega) hg
 obtain ⟨x4, w4, g4⟩ := fldO (i := 4) (o := 6) (k := 2) op31 rfl rfl rfl (by kernel_rfl) (by omega) hg
 exact ⟨⟨x0, x1, x2, x3, x4⟩, ⟨w0, w1, w2, w3, w4⟩, fun F N nx hF => HLd (o := 0) (k := 2) (g0 F N nx hF) (HLd (o := 2) (k := 2) (g1 F N nx hF) (HLd (o := 4) (k := 1) (g2 F N nx hF) (HLd (o := 5) (k := 1) (g3 F N nx hF) (HLd (o := 6) (k := 2) (g4 F N nx hF) (HLe (o := 8) hl)))))⟩
theorem op79 : Opn Try.prog .group 79 := fun en w base spare held m cs y h => by
 obtain ⟨xs, n, _, _, hl, hz, hg⟩ := DataW.trod_struct Try.underlying79 h
 have hz : xs.length = 2 := hz
 have hl : cs.length = 2 := hl.trans (by kernel_rfl)
 obtain ⟨x0, w0, g0⟩ := fldO (i := 0) (o := 0) (k := 1) op9 rfl rfl rfl (by kernel_rfl) (by omega) hg
 obtain ⟨x1, w1, g1⟩ := fldO (i := 1) (o := 1) (k := 1) op3 rfl rfl rfl (by kernel_rfl) (by omega) hg
 exact ⟨⟨x0, x1⟩, ⟨w0, w1⟩, fun F N nx hF => HLd (o := 0) (k := 1) (g0 F N nx hF) (HLd (o := 1) (k := 1) (g1 F N nx hF) (HLe (o := 2) hl))⟩
theorem opL66 : OpnLs Try.prog .group 66 := opn_list Try.underlying66 (by kernel_rfl) op79
theorem opL69 : OpnLs Try.prog .cell 69 := opn_list Try.underlying69 (by kernel_rfl) op55
theorem op71 : Opn Try.prog .row 71 := fun en w base spare held m cs y h => by
 obtain ⟨xs, n, _, _, hl, hz, hg⟩ := DataW.trod_struct Try.underlying71 h
 have hz : xs.length = 2 := hz
 have hl : cs.length = 2 := hl.trans (by kernel_rfl)
 obtain ⟨x0, w0, g0⟩ := fldO (i := 0) (o := 0) (k := 1) op9 rfl rfl rfl (by kernel_rfl) (by omega) hg
 obtain ⟨x1, w1, g1⟩ := fldL (i := 1) (o := 1) (k := 1) opL69 rfl rfl rfl (by kernel_rfl) (by omega) hg
 exact ⟨⟨x0, x1⟩, ⟨w0, w1⟩, fun F N nx hF => HLd (o := 0) (k := 1) (g0 F N nx hF) (HLd (o := 1) (k := 1) (g1 F N nx hF) (HLe (o := 2) hl))⟩
theorem op112 : Opn Try.prog .two 112 := fun en w base spare held m cs y h => by
 obtain ⟨xs, n, _, _, hl, hz, hg⟩ := DataW.trod_struct Try.underlying112 h
 have hz : xs.length = 3 := hz
 have hl : cs.length = 11 := hl.trans (by kernel_rfl)
 obtain ⟨x0, w0, g0⟩ := fldO (i := 0) (o := 0) (k := 2) op71 rfl rfl rfl (by kernel_rfl) (by omega) hg
 obtain ⟨x1, w1, g1⟩ := fldO (i := 1) (o := 2) (k := 1) op3 rfl rfl rfl (by kernel_rfl) (by omega) hg
 obtain ⟨x2, w2, g2⟩ := fldO (i := 2) (o := 3) (k := 8) op55 rfl rfl rfl (by kernel_rfl) (by omega) hg
 exact ⟨⟨x0, x1, x2⟩, ⟨w0, w1, w2⟩, fun F N nx hF => HLd (o := 0) (k := 2) (g0 F N nx hF) (HLd (o := 2) (k := 1) (g1 F N nx hF) (HLd (o := 3) (k := 8) (g2 F N nx hF) (HLe (o := 11) hl)))⟩
end Go.Proofs.Yteebobbhhgmeiaa
namespace Go.Proofs.Yteebobbhhgmeiaa
open Go.ChangeShapes Go.WideShapes Go.ChangeAt Go.RowKit
theorem own : ownKnob Try.prog.godebug = none := by kernel_rfl
theorem laidOut : laidOutB Try.prog = true := by kernel_rfl
section
variable {P : Program} {H : Type} {enc : TypeId × Value → H} {w : World} {base : Nat} {spare : Nat → Bool} {held : Bool} {v : Value} {d : DataW H} {p : List MemPlace}
theorem agg_of_struct {r : Reach} {b0 : Nat} {t : TypeId} {fs : Array Field} (hu : P.underlying t = some (.struct fs)) (h : Value.okWide P w r b0 t v) : ∃ cs, v = .agg cs ∧ cs.size = P.cellsOf t := by
 unfold Value.okWide at h
 rw [hu] at h
 obtain ⟨cs, h1, h2, _⟩ := h
 exact ⟨cs, h1, h2⟩
end
theorem below_trodAll {H : Type} {enc : TypeId × Value → H} {W W' : World} (hb : Below W.heap.size W W') : ∀ (ts : List TypeId) (vs : List Value) (ds : List (DataW H)) (ps : List MemPlace),
  (∀ t ∈ ts, Try.prog.readableRec t = true ∧ t < Try.prog.types.size) → DataW.TrodAll enc Try.prog W 0 (fun _ => true) true ts vs ds ps → (∀ x ∈ ps, x.block < W.heap.size) →
  DataW.TrodAll enc Try.prog W' 0 (fun b => decide (b < W.heap.size)) true ts vs ds ps
 | [], vs, ds, ps, _, h, _ => by
  obtain ⟨rfl, rfl, rfl⟩ := trodAll_nil h
  exact trodAll_mk0
 | t :: ts, vs, ds, ps, hr, h, hlt => by
  obtain ⟨v, vs', d, ds', p, q, rfl, rfl, rfl, h0, h1⟩ := trodAll_cons h
  exact trodAll_cons_mk (Below.trod laidOut (hr t (by simp)).1 (hr t (by simp)).2 h0 hb fun x hx => hlt x (by simp [hx]))
   (below_trodAll hb ts vs' ds' q (fun t' ht' => hr t' (by simp [ht'])) h1 fun x hx => hlt x (by simp [hx]))
section
variable {H : Type} {enc : TypeId × Value → H} {w : World} {base : Nat} {spare : Nat → Bool} {held : Bool} {v : Value} {d : DataW H} {p : List MemPlace}
end
end Go.Proofs.Yteebobbhhgmeiaa
namespace Go.Proofs.Yteebobbhhgmeiaa
open Go.RowKit Go.WideShapes Go.ChangeShapes
section
variable {H : Type} {en : TypeId × Value → H} {P : Program} {w : World} {base : Nat} {spare : Nat → Bool} {held : Bool} {t e : TypeId} {v : Value} {d : DataW H} {p : List MemPlace} {r : Reach} {b0 : Nat} {c : TC}
theorem arg_list (ht : P.underlying t = some (.slice e)) (ho : OpnLs P c t) (hv : Value.okWide P w r b0 t v) (h : DataW.Trod en P w base spare held t v d p) :
  ∃ l : List (U c), (l.length ≤ maxLen ∧ ∀ x ∈ l, Wfd c x) ∧ ∀ (F : Nat → Prop) (N : Nm) (nx : Nat), FB w F → Hv F N nx w (.sl c l) v := by
 obtain ⟨a, len, cap, rfl⟩ := okWide_slice ht hv
 obtain ⟨fuel, hf⟩ := h
 obtain ⟨l, h1, h2⟩ := ho en w base spare held fuel _ _ hf
 refine ⟨l, h1, fun F N nx hF => ?_⟩
 obtain ⟨y, ys, e, h3, _⟩ := (h2 F N nx hF).inv
 have e' : [Value.slice a len cap] = y :: ys := e
 cases e'
 exact h3
theorem arg_agg {cs : Array Value} (ho : Opn P c t) (ha : c.isAgg = true) (hv : v = .agg cs) (h : DataW.Trod en P w base spare held t v d p) :
  ∃ x : U c, Wfd c x ∧ ∀ (F : Nat → Prop) (N : Nm) (nx : Nat), FB w F → Hv F N nx w (valA c x) v := by
 subst hv
 obtain ⟨fuel, hf⟩ := h
 obtain ⟨x, h2, h3⟩ := ho en w base spare held fuel _ _ hf
 exact ⟨x, h2, fun F N nx hF => hl_agg (h3 F N nx hF) ha⟩
theorem arg_struct {fs : Array Field} (ht : P.underlying t = some (.struct fs)) (ho : Opn P c t) (ha : c.isAgg = true) (hv : Value.okWide P w r b0 t v) (h : DataW.Trod en P w base spare held t v d p) :
  ∃ x : U c, Wfd c x ∧ ∀ (F : Nat → Prop) (N : Nm) (nx : Nat), FB w F → Hv F N nx w (valA c x) v := by
 obtain ⟨cs, hcs, _⟩ := agg_of_struct ht hv
 exact arg_agg ho ha hcs h
end
theorem call_top {P : Program} {f : FuncId} {args : List A} {nx' : Nat} {o' : Objs} {b : Bool} (h : CallOk P f args 0 [] 1 (.v (.bool b)) nx' o') (W : World) (vs : List Value) (ha : ∀ (F : Nat → Prop) (N : Nm) (nx : Nat), FB W F → HL F N nx W args vs) :
  Calls P f vs.toArray W fun e W' => e = .returned (.bool b) ∧ Below W.heap.size W W' := by
 have hr : HRel (fun b => b < W.heap.size) ⟨fun _ => 0, fun _ => .nilFunc⟩ 0 [] W := ⟨fun g hg => hg, fun i ob hi => (by cases hi), fun i ob g hi => (by cases hi), fun i j x y g hi => (by cases hi)⟩
 refine (h _ _ W vs hr (ha _ _ _ fun b hb => hb)).mono fun e W' ⟨y, F', N', he, _, _, hy, hb⟩ => ?_
 rw [hy.v_inv] at he
 exact ⟨he, hb (Nat.le_refl _)⟩
end Go.Proofs.Yteebobbhhgmeiaa
namespace Go.Proofs.Yteebobbhhgmeiaa.rowWrites
open Go.ChangeShapes Go.WideShapes Go.ChangeAt Go.RowKit
set_option maxRecDepth 100000 in
theorem lifted (os : Os) (started : os.Started) (H : Type) (enc : TypeId × Value → H) :
  ReturnsInHanded {} Try.checked os 15 .any (Rows.rowWritesSpec.pre6 enc Try.prog Try.f15 Rows.rowWritesRow.domain false) (Rows.rowWritesSpec.post enc Try.prog Try.f15 false true false false) := by
 refine returnsInHanded_of_change (C := Try.checked) own started (by kernel_rfl) Try.func15
  (ChangeSpec.witness6 (enc := enc) (C := Try.checked) false ⟨#[], #[.slice none 0 0, .agg #[.string ⟨#[]⟩, .slice none 0 0, .int .i64 0, .int .i64 0, .int .i64 0, .int .i64 0, .int .i64 0, .bool false, .string ⟨#[]⟩, .int .i64 0, .int .i64 0], .agg #[.string ⟨#[]⟩, .slice none 0 0]], []⟩ 8 (by kernel_rfl) (by kernel_rfl) (by kernel_rfl) (by kernel_rfl)) ?_
 intro W base args ds gs before hval0 hW hcnd _
 have hval : ∀ (j : Nat) t v, Try.f15.params[j]? = some t → args[j]? = some v → Value.okWide Try.prog W .any base t v := hval0
 have hW' := hW
 have hlt : ∀ x ∈ before, x.block < W.heap.size := fun x hx => hW.lt x hx
 obtain ⟨p, q, hA0, hV, rfl, hfz, hnd⟩ := hW
 have hA : DataW.TrodAll enc Try.prog W 0 (fun _ => true) true Try.f15.params.toList args.toList ds p := hA0
 rw [Try.params15] at hA hval
 have hA' := hA
 obtain ⟨v0, vs0, d0, ds0, p0, q0, hargs, rfl, rfl, h0, r0⟩ := trodAll_cons hA
 obtain ⟨v1, vs1, d1, ds1, p1, q1, rfl, rfl, rfl, h1, r1⟩ := trodAll_cons r0
 obtain ⟨v2, vs2, d2, ds2, p2, q2, rfl, rfl, rfl, h2, r2⟩ := trodAll_cons r1
 obtain ⟨rfl, rfl, rfl⟩ := trodAll_nil r2
 obtain rfl : args = #[v0, v1, v2] := by cases args; simp_all
 obtain ⟨rfl, rfl⟩ := trodVars_none hV
 obtain ⟨a0, w0, g0⟩ := arg_list Try.underlying66 opL66 (hval 0 66 v0 rfl rfl) h0
 obtain ⟨a1, w1, g1⟩ := arg_struct Try.underlying112 op112 rfl (hval 1 112 v1 rfl rfl) h1
 obtain ⟨a2, w2, g2⟩ := arg_struct Try.underlying71 op71 rfl (hval 2 71 v2 rfl rfl) h2
 obtain ⟨hn, ht⟩ := rw_true a0 a1 a2 w0 w1.1 w2
 have hc := l10_RowWrites_c a0 a1 a2 hn
 have hr : l10_RowWrites_r a0 a1 a2 = .v (.bool true) := by show A.v (.bool (l10_RowWrites_0 a0 a1 a2)) = _; rw [ht]
 rw [hr] at hc
 refine (call_top hc W [v0, v1, v2] fun F N nx hF => HL.cons (g0 F N nx hF) (HL.cons (g1 F N nx hF) (HL.cons (g2 F N nx hF) (HL.nil)))).mono fun e W' ⟨he, bel⟩ => ?_
 subst he
 have hread : ∀ t ∈ [66, 112, 71], Try.prog.readableRec t = true ∧ t < Try.prog.types.size := by
  intro t ht
  simp only [List.mem_cons, List.not_mem_nil, or_false] at ht
  rcases ht with rfl | rfl | rfl
  all_goals exact ⟨by kernel_rfl, of_decide_eq_true (by kernel_rfl)⟩
 exact ⟨_, rfl, _, _, _, [], _, [], hW', trodAll_mk1 (shut_bool Try.underlying4 _),
  below_trodAll bel _ _ _ _ hread hA' (fun x hx => hlt x (by simpa using hx)), rfl, bel.frame _, fun h => by cases h⟩
theorem tA : Try.prog.funcNamed Rows.rowWritesRow.func = some 15 := by kernel_rfl
theorem b0 : (Rows.rowWritesRow.wf (OpenSpec.ofChange Rows.rowWritesSpec)) = true := by kernel_rfl
theorem b1 : (laidOutB Try.prog) = true := by kernel_rfl
theorem b2 : (mapsRowed Try.prog) = true := by kernel_rfl
theorem b3 : (Try.f15.params.all (Try.prog.readableRec ·)) = true := by kernel_rfl
theorem b4 : (namedTie Try.prog Rows.rowWritesRow.named Rows.rowWritesSpec.vars) = true := by kernel_rfl
theorem b5 : ((Rows.rowWritesRow.stops == [])) = true := by kernel_rfl
theorem b6 : ((Try.prog.stops == [])) = true := by kernel_rfl
theorem b7 : ((Rows.rowWritesRow.knobs == [])) = true := by kernel_rfl
theorem b8 : ((Try.prog.stopKnobs == [])) = true := by kernel_rfl
theorem b9 : ((Rows.rowWritesRow.inPlace == Try.prog.inPlace 15)) = true := by kernel_rfl
theorem b10 : ((Rows.rowWritesRow.unfollowed == Try.prog.unfollowed 15)) = true := by kernel_rfl
theorem b11 : ((Rows.rowWritesRow.recurses == Try.prog.recurses 15)) = true := by kernel_rfl
theorem b12 : ((Rows.rowWritesRow.named == Try.prog.varsNamed 15)) = true := by kernel_rfl
theorem b13 : ((Rows.rowWritesRow.maps == (Try.f15.params.toList ++ Rows.rowWritesSpec.plain.varTypes Try.prog).any (Try.prog.mapsRec ·))) = true := by kernel_rfl
theorem b14 : ((Rows.rowWritesRow.ifaces == (Try.f15.params.toList ++ Rows.rowWritesSpec.plain.varTypes Try.prog).any (Try.prog.ifacesRec ·))) = true := by kernel_rfl
theorem b15 : ((Rows.rowWritesRow.mapsOut == Try.prog.mapsAmong Try.f15.resultTypes.toList)) = true := by kernel_rfl
theorem b16 : ((Rows.rowWritesRow.loops == (Try.f15.params.toList ++ Rows.rowWritesSpec.plain.varTypes Try.prog).any (Try.prog.loopsFrom ·))) = true := by kernel_rfl
theorem b17 : ((Rows.rowWritesRow.wideKeys == (Try.f15.params.toList ++ Rows.rowWritesSpec.plain.varTypes Try.prog ++ Try.f15.resultTypes.toList).any (Try.prog.wideKeysFrom ·))) = true := by kernel_rfl
theorem b18 : (Rows.rowWritesSpec.vars.all (Try.prog.varReadable ·)) = true := by kernel_rfl
theorem b19 : (Try.f15.resultTypes.all (fun t => Try.prog.readableRec t && decide (t < Try.prog.types.size))) = true := by kernel_rfl
theorem b20 : ((Rows.rowWritesRow.ifacesOut == Try.f15.resultTypes.toList.any (Try.prog.ifacesRec ·))) = true := by kernel_rfl
theorem b21 : ((Rows.rowWritesRow.loopsOut == Try.f15.resultTypes.toList.any (Try.prog.loopsFrom ·))) = true := by kernel_rfl
theorem b22 : ((Rows.rowWritesRow.plainKeys == Try.prog.plainKeys)) = true := by kernel_rfl
theorem b23 : (Rows.rowWritesRow.shortTexts.isNone) = true := by kernel_rfl
theorem b24 : (Try.prog.stopsHeard) = true := by kernel_rfl
theorem b25 : (Try.prog.mayEnter) = true := by kernel_rfl
theorem b26 : ((Rows.rowWritesRow.lifted == Try.prog.liftsFinal)) = true := by kernel_rfl
theorem b27 : ((Try.prog.make == some Rows.rowWritesRow.make)) = true := by kernel_rfl
theorem b28 : ((Rows.rowWritesRow.kinds == (if Rows.rowWritesRow.domain.isEmpty then [] else Try.f15.params.toList.map fun t => match Try.prog.underlying t with | some (.int k) => some k | _ => none))) = true := by kernel_rfl
theorem b29 : ((Rows.rowWritesRow.pinned == Rows.rowWritesRow.pinnedBy)) = true := by kernel_rfl
theorem b30 : ((Rows.rowWritesRow.veiled == (Try.f15.params.toList ++ Rows.rowWritesSpec.plain.varTypes Try.prog ++ Try.f15.resultTypes.toList).any (Try.prog.veiledRec ·))) = true := by kernel_rfl
theorem b31 : (Rows.rowWritesRow.veiledFits Try.prog Try.f15.params.toList (Try.f15.params.toList ++ Rows.rowWritesSpec.plain.varTypes Try.prog ++ Try.f15.resultTypes.toList)) = true := by kernel_rfl
theorem andI {a b : Bool} (h : a = true) (g : b = true) : (a && b) = true := by rw [h, g]; rfl
theorem e1 : (Rows.rowWritesRow.wf (OpenSpec.ofChange Rows.rowWritesSpec) && laidOutB Try.prog) = true := andI b0 b1
theorem e2 : (Rows.rowWritesRow.wf (OpenSpec.ofChange Rows.rowWritesSpec) && laidOutB Try.prog && mapsRowed Try.prog) = true := andI e1 b2
theorem e3 : (Rows.rowWritesRow.wf (OpenSpec.ofChange Rows.rowWritesSpec) && laidOutB Try.prog && mapsRowed Try.prog && Try.f15.params.all (Try.prog.readableRec ·)) = true := andI e2 b3
theorem e4 : (Rows.rowWritesRow.wf (OpenSpec.ofChange Rows.rowWritesSpec) && laidOutB Try.prog && mapsRowed Try.prog && Try.f15.params.all (Try.prog.readableRec ·) && namedTie Try.prog Rows.rowWritesRow.named Rows.rowWritesSpec.vars) = true := andI e3 b4
theorem e5 : (Rows.rowWritesRow.wf (OpenSpec.ofChange Rows.rowWritesSpec) && laidOutB Try.prog && mapsRowed Try.prog && Try.f15.params.all (Try.prog.readableRec ·) && namedTie Try.prog Rows.rowWritesRow.named Rows.rowWritesSpec.vars && (Rows.rowWritesRow.stops == [])) = true := andI e4 b5
theorem e6 : (Rows.rowWritesRow.wf (OpenSpec.ofChange Rows.rowWritesSpec) && laidOutB Try.prog && mapsRowed Try.prog && Try.f15.params.all (Try.prog.readableRec ·) && namedTie Try.prog Rows.rowWritesRow.named Rows.rowWritesSpec.vars && (Rows.rowWritesRow.stops == []) && (Try.prog.stops == [])) = true := andI e5 b6
theorem e7 : (Rows.rowWritesRow.wf (OpenSpec.ofChange Rows.rowWritesSpec) && laidOutB Try.prog && mapsRowed Try.prog && Try.f15.params.all (Try.prog.readableRec ·) && namedTie Try.prog Rows.rowWritesRow.named Rows.rowWritesSpec.vars && (Rows.rowWritesRow.stops == []) && (Try.prog.stops == []) && (Rows.rowWritesRow.knobs == [])) = true := andI e6 b7
theorem e8 : (Rows.rowWritesRow.wf (OpenSpec.ofChange Rows.rowWritesSpec) && laidOutB Try.prog && mapsRowed Try.prog && Try.f15.params.all (Try.prog.readableRec ·) && namedTie Try.prog Rows.rowWritesRow.named Rows.rowWritesSpec.vars && (Rows.rowWritesRow.stops == []) && (Try.prog.stops == []) && (Rows.rowWritesRow.knobs == []) && (Try.prog.stopKnobs == [])) = true := andI e7 b8
theorem e9 : (Rows.rowWritesRow.wf (OpenSpec.ofChange Rows.rowWritesSpec) && laidOutB Try.prog && mapsRowed Try.prog && Try.f15.params.all (Try.prog.readableRec ·) && namedTie Try.prog Rows.rowWritesRow.named Rows.rowWritesSpec.vars && (Rows.rowWritesRow.stops == []) && (Try.prog.stops == []) && (Rows.rowWritesRow.knobs == []) && (Try.prog.stopKnobs == []) && (Rows.rowWritesRow.inPlace == Try.prog.inPlace 15)) = true := andI e8 b9
theorem e10 : (Rows.rowWritesRow.wf (OpenSpec.ofChange Rows.rowWritesSpec) && laidOutB Try.prog && mapsRowed Try.prog && Try.f15.params.all (Try.prog.readableRec ·) && namedTie Try.prog Rows.rowWritesRow.named Rows.rowWritesSpec.vars && (Rows.rowWritesRow.stops == []) && (Try.prog.stops == []) && (Rows.rowWritesRow.knobs == []) && (Try.prog.stopKnobs == []) && (Rows.rowWritesRow.inPlace == Try.prog.inPlace 15) && (Rows.rowWritesRow.unfollowed == Try.prog.unfollowed 15)) = true := andI e9 b10
theorem e11 : (Rows.rowWritesRow.wf (OpenSpec.ofChange Rows.rowWritesSpec) && laidOutB Try.prog && mapsRowed Try.prog && Try.f15.params.all (Try.prog.readableRec ·) && namedTie Try.prog Rows.rowWritesRow.named Rows.rowWritesSpec.vars && (Rows.rowWritesRow.stops == []) && (Try.prog.stops == []) && (Rows.rowWritesRow.knobs == []) && (Try.prog.stopKnobs == []) && (Rows.rowWritesRow.inPlace == Try.prog.inPlace 15) && (Rows.rowWritesRow.unfollowed == Try.prog.unfollowed 15) && (Rows.rowWritesRow.recurses == Try.prog.recurses 15)) = true := andI e10 b11
theorem e12 : (Rows.rowWritesRow.wf (OpenSpec.ofChange Rows.rowWritesSpec) && laidOutB Try.prog && mapsRowed Try.prog && Try.f15.params.all (Try.prog.readableRec ·) && namedTie Try.prog Rows.rowWritesRow.named Rows.rowWritesSpec.vars && (Rows.rowWritesRow.stops == []) && (Try.prog.stops == []) && (Rows.rowWritesRow.knobs == []) && (Try.prog.stopKnobs == []) && (Rows.rowWritesRow.inPlace == Try.prog.inPlace 15) && (Rows.rowWritesRow.unfollowed == Try.prog.unfollowed 15) && (Rows.rowWritesRow.recurses == Try.prog.recurses 15) && (Rows.rowWritesRow.named == Try.prog.varsNamed 15)) = true := andI e11 b12
theorem e13 : (Rows.rowWritesRow.wf (OpenSpec.ofChange Rows.rowWritesSpec) && laidOutB Try.prog && mapsRowed Try.prog && Try.f15.params.all (Try.prog.readableRec ·) && namedTie Try.prog Rows.rowWritesRow.named Rows.rowWritesSpec.vars && (Rows.rowWritesRow.stops == []) && (Try.prog.stops == []) && (Rows.rowWritesRow.knobs == []) && (Try.prog.stopKnobs == []) && (Rows.rowWritesRow.inPlace == Try.prog.inPlace 15) && (Rows.rowWritesRow.unfollowed == Try.prog.unfollowed 15) && (Rows.rowWritesRow.recurses == Try.prog.recurses 15) && (Rows.rowWritesRow.named == Try.prog.varsNamed 15) && (Rows.rowWritesRow.maps == (Try.f15.params.toList ++ Rows.rowWritesSpec.plain.varTypes Try.prog).any (Try.prog.mapsRec ·))) = true := andI e12 b13
theorem e14 : (Rows.rowWritesRow.wf (OpenSpec.ofChange Rows.rowWritesSpec) && laidOutB Try.prog && mapsRowed Try.prog && Try.f15.params.all (Try.prog.readableRec ·) && namedTie Try.prog Rows.rowWritesRow.named Rows.rowWritesSpec.vars && (Rows.rowWritesRow.stops == []) && (Try.prog.stops == []) && (Rows.rowWritesRow.knobs == []) && (Try.prog.stopKnobs == []) && (Rows.rowWritesRow.inPlace == Try.prog.inPlace 15) && (Rows.rowWritesRow.unfollowed == Try.prog.unfollowed 15) && (Rows.rowWritesRow.recurses == Try.prog.recurses 15) && (Rows.rowWritesRow.named == Try.prog.varsNamed 15) && (Rows.rowWritesRow.maps == (Try.f15.params.toList ++ Rows.rowWritesSpec.plain.varTypes Try.prog).any (Try.prog.mapsRec ·)) && (Rows.rowWritesRow.ifaces == (Try.f15.params.toList ++ Rows.rowWritesSpec.plain.varTypes Try.prog).any (Try.prog.ifacesRec ·))) = true := andI e13 b14
theorem e15 : (Rows.rowWritesRow.wf (OpenSpec.ofChange Rows.rowWritesSpec) && laidOutB Try.prog && mapsRowed Try.prog && Try.f15.params.all (Try.prog.readableRec ·) && namedTie Try.prog Rows.rowWritesRow.named Rows.rowWritesSpec.vars && (Rows.rowWritesRow.stops == []) && (Try.prog.stops == []) && (Rows.rowWritesRow.knobs == []) && (Try.prog.stopKnobs == []) && (Rows.rowWritesRow.inPlace == Try.prog.inPlace 15) && (Rows.rowWritesRow.unfollowed == Try.prog.unfollowed 15) && (Rows.rowWritesRow.recurses == Try.prog.recurses 15) && (Rows.rowWritesRow.named == Try.prog.varsNamed 15) && (Rows.rowWritesRow.maps == (Try.f15.params.toList ++ Rows.rowWritesSpec.plain.varTypes Try.prog).any (Try.prog.mapsRec ·)) && (Rows.rowWritesRow.ifaces == (Try.f15.params.toList ++ Rows.rowWritesSpec.plain.varTypes Try.prog).any (Try.prog.ifacesRec ·)) && (Rows.rowWritesRow.mapsOut == Try.prog.mapsAmong Try.f15.resultTypes.toList)) = true := andI e14 b15
theorem e16 : (Rows.rowWritesRow.wf (OpenSpec.ofChange Rows.rowWritesSpec) && laidOutB Try.prog && mapsRowed Try.prog && Try.f15.params.all (Try.prog.readableRec ·) && namedTie Try.prog Rows.rowWritesRow.named Rows.rowWritesSpec.vars && (Rows.rowWritesRow.stops == []) && (Try.prog.stops == []) && (Rows.rowWritesRow.knobs == []) && (Try.prog.stopKnobs == []) && (Rows.rowWritesRow.inPlace == Try.prog.inPlace 15) && (Rows.rowWritesRow.unfollowed == Try.prog.unfollowed 15) && (Rows.rowWritesRow.recurses == Try.prog.recurses 15) && (Rows.rowWritesRow.named == Try.prog.varsNamed 15) && (Rows.rowWritesRow.maps == (Try.f15.params.toList ++ Rows.rowWritesSpec.plain.varTypes Try.prog).any (Try.prog.mapsRec ·)) && (Rows.rowWritesRow.ifaces == (Try.f15.params.toList ++ Rows.rowWritesSpec.plain.varTypes Try.prog).any (Try.prog.ifacesRec ·)) && (Rows.rowWritesRow.mapsOut == Try.prog.mapsAmong Try.f15.resultTypes.toList) && (Rows.rowWritesRow.loops == (Try.f15.params.toList ++ Rows.rowWritesSpec.plain.varTypes Try.prog).any (Try.prog.loopsFrom ·))) = true := andI e15 b16
theorem e17 : (Rows.rowWritesRow.wf (OpenSpec.ofChange Rows.rowWritesSpec) && laidOutB Try.prog && mapsRowed Try.prog && Try.f15.params.all (Try.prog.readableRec ·) && namedTie Try.prog Rows.rowWritesRow.named Rows.rowWritesSpec.vars && (Rows.rowWritesRow.stops == []) && (Try.prog.stops == []) && (Rows.rowWritesRow.knobs == []) && (Try.prog.stopKnobs == []) && (Rows.rowWritesRow.inPlace == Try.prog.inPlace 15) && (Rows.rowWritesRow.unfollowed == Try.prog.unfollowed 15) && (Rows.rowWritesRow.recurses == Try.prog.recurses 15) && (Rows.rowWritesRow.named == Try.prog.varsNamed 15) && (Rows.rowWritesRow.maps == (Try.f15.params.toList ++ Rows.rowWritesSpec.plain.varTypes Try.prog).any (Try.prog.mapsRec ·)) && (Rows.rowWritesRow.ifaces == (Try.f15.params.toList ++ Rows.rowWritesSpec.plain.varTypes Try.prog).any (Try.prog.ifacesRec ·)) && (Rows.rowWritesRow.mapsOut == Try.prog.mapsAmong Try.f15.resultTypes.toList) && (Rows.rowWritesRow.loops == (Try.f15.params.toList ++ Rows.rowWritesSpec.plain.varTypes Try.prog).any (Try.prog.loopsFrom ·)) && (Rows.rowWritesRow.wideKeys == (Try.f15.params.toList ++ Rows.rowWritesSpec.plain.varTypes Try.prog ++ Try.f15.resultTypes.toList).any (Try.prog.wideKeysFrom ·))) = true := andI e16 b17
theorem e18 : (Rows.rowWritesRow.wf (OpenSpec.ofChange Rows.rowWritesSpec) && laidOutB Try.prog && mapsRowed Try.prog && Try.f15.params.all (Try.prog.readableRec ·) && namedTie Try.prog Rows.rowWritesRow.named Rows.rowWritesSpec.vars && (Rows.rowWritesRow.stops == []) && (Try.prog.stops == []) && (Rows.rowWritesRow.knobs == []) && (Try.prog.stopKnobs == []) && (Rows.rowWritesRow.inPlace == Try.prog.inPlace 15) && (Rows.rowWritesRow.unfollowed == Try.prog.unfollowed 15) && (Rows.rowWritesRow.recurses == Try.prog.recurses 15) && (Rows.rowWritesRow.named == Try.prog.varsNamed 15) && (Rows.rowWritesRow.maps == (Try.f15.params.toList ++ Rows.rowWritesSpec.plain.varTypes Try.prog).any (Try.prog.mapsRec ·)) && (Rows.rowWritesRow.ifaces == (Try.f15.params.toList ++ Rows.rowWritesSpec.plain.varTypes Try.prog).any (Try.prog.ifacesRec ·)) && (Rows.rowWritesRow.mapsOut == Try.prog.mapsAmong Try.f15.resultTypes.toList) && (Rows.rowWritesRow.loops == (Try.f15.params.toList ++ Rows.rowWritesSpec.plain.varTypes Try.prog).any (Try.prog.loopsFrom ·)) && (Rows.rowWritesRow.wideKeys == (Try.f15.params.toList ++ Rows.rowWritesSpec.plain.varTypes Try.prog ++ Try.f15.resultTypes.toList).any (Try.prog.wideKeysFrom ·)) && Rows.rowWritesSpec.vars.all (Try.prog.varReadable ·)) = true := andI e17 b18
theorem e19 : (Rows.rowWritesRow.wf (OpenSpec.ofChange Rows.rowWritesSpec) && laidOutB Try.prog && mapsRowed Try.prog && Try.f15.params.all (Try.prog.readableRec ·) && namedTie Try.prog Rows.rowWritesRow.named Rows.rowWritesSpec.vars && (Rows.rowWritesRow.stops == []) && (Try.prog.stops == []) && (Rows.rowWritesRow.knobs == []) && (Try.prog.stopKnobs == []) && (Rows.rowWritesRow.inPlace == Try.prog.inPlace 15) && (Rows.rowWritesRow.unfollowed == Try.prog.unfollowed 15) && (Rows.rowWritesRow.recurses == Try.prog.recurses 15) && (Rows.rowWritesRow.named == Try.prog.varsNamed 15) && (Rows.rowWritesRow.maps == (Try.f15.params.toList ++ Rows.rowWritesSpec.plain.varTypes Try.prog).any (Try.prog.mapsRec ·)) && (Rows.rowWritesRow.ifaces == (Try.f15.params.toList ++ Rows.rowWritesSpec.plain.varTypes Try.prog).any (Try.prog.ifacesRec ·)) && (Rows.rowWritesRow.mapsOut == Try.prog.mapsAmong Try.f15.resultTypes.toList) && (Rows.rowWritesRow.loops == (Try.f15.params.toList ++ Rows.rowWritesSpec.plain.varTypes Try.prog).any (Try.prog.loopsFrom ·)) && (Rows.rowWritesRow.wideKeys == (Try.f15.params.toList ++ Rows.rowWritesSpec.plain.varTypes Try.prog ++ Try.f15.resultTypes.toList).any (Try.prog.wideKeysFrom ·)) && Rows.rowWritesSpec.vars.all (Try.prog.varReadable ·) && Try.f15.resultTypes.all (fun t => Try.prog.readableRec t && decide (t < Try.prog.types.size))) = true := andI e18 b19
theorem e20 : (Rows.rowWritesRow.wf (OpenSpec.ofChange Rows.rowWritesSpec) && laidOutB Try.prog && mapsRowed Try.prog && Try.f15.params.all (Try.prog.readableRec ·) && namedTie Try.prog Rows.rowWritesRow.named Rows.rowWritesSpec.vars && (Rows.rowWritesRow.stops == []) && (Try.prog.stops == []) && (Rows.rowWritesRow.knobs == []) && (Try.prog.stopKnobs == []) && (Rows.rowWritesRow.inPlace == Try.prog.inPlace 15) && (Rows.rowWritesRow.unfollowed == Try.prog.unfollowed 15) && (Rows.rowWritesRow.recurses == Try.prog.recurses 15) && (Rows.rowWritesRow.named == Try.prog.varsNamed 15) && (Rows.rowWritesRow.maps == (Try.f15.params.toList ++ Rows.rowWritesSpec.plain.varTypes Try.prog).any (Try.prog.mapsRec ·)) && (Rows.rowWritesRow.ifaces == (Try.f15.params.toList ++ Rows.rowWritesSpec.plain.varTypes Try.prog).any (Try.prog.ifacesRec ·)) && (Rows.rowWritesRow.mapsOut == Try.prog.mapsAmong Try.f15.resultTypes.toList) && (Rows.rowWritesRow.loops == (Try.f15.params.toList ++ Rows.rowWritesSpec.plain.varTypes Try.prog).any (Try.prog.loopsFrom ·)) && (Rows.rowWritesRow.wideKeys == (Try.f15.params.toList ++ Rows.rowWritesSpec.plain.varTypes Try.prog ++ Try.f15.resultTypes.toList).any (Try.prog.wideKeysFrom ·)) && Rows.rowWritesSpec.vars.all (Try.prog.varReadable ·) && Try.f15.resultTypes.all (fun t => Try.prog.readableRec t && decide (t < Try.prog.types.size)) && (Rows.rowWritesRow.ifacesOut == Try.f15.resultTypes.toList.any (Try.prog.ifacesRec ·))) = true := andI e19 b20
theorem e21 : (Rows.rowWritesRow.wf (OpenSpec.ofChange Rows.rowWritesSpec) && laidOutB Try.prog && mapsRowed Try.prog && Try.f15.params.all (Try.prog.readableRec ·) && namedTie Try.prog Rows.rowWritesRow.named Rows.rowWritesSpec.vars && (Rows.rowWritesRow.stops == []) && (Try.prog.stops == []) && (Rows.rowWritesRow.knobs == []) && (Try.prog.stopKnobs == []) && (Rows.rowWritesRow.inPlace == Try.prog.inPlace 15) && (Rows.rowWritesRow.unfollowed == Try.prog.unfollowed 15) && (Rows.rowWritesRow.recurses == Try.prog.recurses 15) && (Rows.rowWritesRow.named == Try.prog.varsNamed 15) && (Rows.rowWritesRow.maps == (Try.f15.params.toList ++ Rows.rowWritesSpec.plain.varTypes Try.prog).any (Try.prog.mapsRec ·)) && (Rows.rowWritesRow.ifaces == (Try.f15.params.toList ++ Rows.rowWritesSpec.plain.varTypes Try.prog).any (Try.prog.ifacesRec ·)) && (Rows.rowWritesRow.mapsOut == Try.prog.mapsAmong Try.f15.resultTypes.toList) && (Rows.rowWritesRow.loops == (Try.f15.params.toList ++ Rows.rowWritesSpec.plain.varTypes Try.prog).any (Try.prog.loopsFrom ·)) && (Rows.rowWritesRow.wideKeys == (Try.f15.params.toList ++ Rows.rowWritesSpec.plain.varTypes Try.prog ++ Try.f15.resultTypes.toList).any (Try.prog.wideKeysFrom ·)) && Rows.rowWritesSpec.vars.all (Try.prog.varReadable ·) && Try.f15.resultTypes.all (fun t => Try.prog.readableRec t && decide (t < Try.prog.types.size)) && (Rows.rowWritesRow.ifacesOut == Try.f15.resultTypes.toList.any (Try.prog.ifacesRec ·)) && (Rows.rowWritesRow.loopsOut == Try.f15.resultTypes.toList.any (Try.prog.loopsFrom ·))) = true := andI e20 b21
theorem e22 : (Rows.rowWritesRow.wf (OpenSpec.ofChange Rows.rowWritesSpec) && laidOutB Try.prog && mapsRowed Try.prog && Try.f15.params.all (Try.prog.readableRec ·) && namedTie Try.prog Rows.rowWritesRow.named Rows.rowWritesSpec.vars && (Rows.rowWritesRow.stops == []) && (Try.prog.stops == []) && (Rows.rowWritesRow.knobs == []) && (Try.prog.stopKnobs == []) && (Rows.rowWritesRow.inPlace == Try.prog.inPlace 15) && (Rows.rowWritesRow.unfollowed == Try.prog.unfollowed 15) && (Rows.rowWritesRow.recurses == Try.prog.recurses 15) && (Rows.rowWritesRow.named == Try.prog.varsNamed 15) && (Rows.rowWritesRow.maps == (Try.f15.params.toList ++ Rows.rowWritesSpec.plain.varTypes Try.prog).any (Try.prog.mapsRec ·)) && (Rows.rowWritesRow.ifaces == (Try.f15.params.toList ++ Rows.rowWritesSpec.plain.varTypes Try.prog).any (Try.prog.ifacesRec ·)) && (Rows.rowWritesRow.mapsOut == Try.prog.mapsAmong Try.f15.resultTypes.toList) && (Rows.rowWritesRow.loops == (Try.f15.params.toList ++ Rows.rowWritesSpec.plain.varTypes Try.prog).any (Try.prog.loopsFrom ·)) && (Rows.rowWritesRow.wideKeys == (Try.f15.params.toList ++ Rows.rowWritesSpec.plain.varTypes Try.prog ++ Try.f15.resultTypes.toList).any (Try.prog.wideKeysFrom ·)) && Rows.rowWritesSpec.vars.all (Try.prog.varReadable ·) && Try.f15.resultTypes.all (fun t => Try.prog.readableRec t && decide (t < Try.prog.types.size)) && (Rows.rowWritesRow.ifacesOut == Try.f15.resultTypes.toList.any (Try.prog.ifacesRec ·)) && (Rows.rowWritesRow.loopsOut == Try.f15.resultTypes.toList.any (Try.prog.loopsFrom ·)) && (Rows.rowWritesRow.plainKeys == Try.prog.plainKeys)) = true := andI e21 b22
theorem e23 : (Rows.rowWritesRow.wf (OpenSpec.ofChange Rows.rowWritesSpec) && laidOutB Try.prog && mapsRowed Try.prog && Try.f15.params.all (Try.prog.readableRec ·) && namedTie Try.prog Rows.rowWritesRow.named Rows.rowWritesSpec.vars && (Rows.rowWritesRow.stops == []) && (Try.prog.stops == []) && (Rows.rowWritesRow.knobs == []) && (Try.prog.stopKnobs == []) && (Rows.rowWritesRow.inPlace == Try.prog.inPlace 15) && (Rows.rowWritesRow.unfollowed == Try.prog.unfollowed 15) && (Rows.rowWritesRow.recurses == Try.prog.recurses 15) && (Rows.rowWritesRow.named == Try.prog.varsNamed 15) && (Rows.rowWritesRow.maps == (Try.f15.params.toList ++ Rows.rowWritesSpec.plain.varTypes Try.prog).any (Try.prog.mapsRec ·)) && (Rows.rowWritesRow.ifaces == (Try.f15.params.toList ++ Rows.rowWritesSpec.plain.varTypes Try.prog).any (Try.prog.ifacesRec ·)) && (Rows.rowWritesRow.mapsOut == Try.prog.mapsAmong Try.f15.resultTypes.toList) && (Rows.rowWritesRow.loops == (Try.f15.params.toList ++ Rows.rowWritesSpec.plain.varTypes Try.prog).any (Try.prog.loopsFrom ·)) && (Rows.rowWritesRow.wideKeys == (Try.f15.params.toList ++ Rows.rowWritesSpec.plain.varTypes Try.prog ++ Try.f15.resultTypes.toList).any (Try.prog.wideKeysFrom ·)) && Rows.rowWritesSpec.vars.all (Try.prog.varReadable ·) && Try.f15.resultTypes.all (fun t => Try.prog.readableRec t && decide (t < Try.prog.types.size)) && (Rows.rowWritesRow.ifacesOut == Try.f15.resultTypes.toList.any (Try.prog.ifacesRec ·)) && (Rows.rowWritesRow.loopsOut == Try.f15.resultTypes.toList.any (Try.prog.loopsFrom ·)) && (Rows.rowWritesRow.plainKeys == Try.prog.plainKeys) && Rows.rowWritesRow.shortTexts.isNone) = true := andI e22 b23
theorem e24 : (Rows.rowWritesRow.wf (OpenSpec.ofChange Rows.rowWritesSpec) && laidOutB Try.prog && mapsRowed Try.prog && Try.f15.params.all (Try.prog.readableRec ·) && namedTie Try.prog Rows.rowWritesRow.named Rows.rowWritesSpec.vars && (Rows.rowWritesRow.stops == []) && (Try.prog.stops == []) && (Rows.rowWritesRow.knobs == []) && (Try.prog.stopKnobs == []) && (Rows.rowWritesRow.inPlace == Try.prog.inPlace 15) && (Rows.rowWritesRow.unfollowed == Try.prog.unfollowed 15) && (Rows.rowWritesRow.recurses == Try.prog.recurses 15) && (Rows.rowWritesRow.named == Try.prog.varsNamed 15) && (Rows.rowWritesRow.maps == (Try.f15.params.toList ++ Rows.rowWritesSpec.plain.varTypes Try.prog).any (Try.prog.mapsRec ·)) && (Rows.rowWritesRow.ifaces == (Try.f15.params.toList ++ Rows.rowWritesSpec.plain.varTypes Try.prog).any (Try.prog.ifacesRec ·)) && (Rows.rowWritesRow.mapsOut == Try.prog.mapsAmong Try.f15.resultTypes.toList) && (Rows.rowWritesRow.loops == (Try.f15.params.toList ++ Rows.rowWritesSpec.plain.varTypes Try.prog).any (Try.prog.loopsFrom ·)) && (Rows.rowWritesRow.wideKeys == (Try.f15.params.toList ++ Rows.rowWritesSpec.plain.varTypes Try.prog ++ Try.f15.resultTypes.toList).any (Try.prog.wideKeysFrom ·)) && Rows.rowWritesSpec.vars.all (Try.prog.varReadable ·) && Try.f15.resultTypes.all (fun t => Try.prog.readableRec t && decide (t < Try.prog.types.size)) && (Rows.rowWritesRow.ifacesOut == Try.f15.resultTypes.toList.any (Try.prog.ifacesRec ·)) && (Rows.rowWritesRow.loopsOut == Try.f15.resultTypes.toList.any (Try.prog.loopsFrom ·)) && (Rows.rowWritesRow.plainKeys == Try.prog.plainKeys) && Rows.rowWritesRow.shortTexts.isNone && Try.prog.stopsHeard) = true := andI e23 b24
theorem e25 : (Rows.rowWritesRow.wf (OpenSpec.ofChange Rows.rowWritesSpec) && laidOutB Try.prog && mapsRowed Try.prog && Try.f15.params.all (Try.prog.readableRec ·) && namedTie Try.prog Rows.rowWritesRow.named Rows.rowWritesSpec.vars && (Rows.rowWritesRow.stops == []) && (Try.prog.stops == []) && (Rows.rowWritesRow.knobs == []) && (Try.prog.stopKnobs == []) && (Rows.rowWritesRow.inPlace == Try.prog.inPlace 15) && (Rows.rowWritesRow.unfollowed == Try.prog.unfollowed 15) && (Rows.rowWritesRow.recurses == Try.prog.recurses 15) && (Rows.rowWritesRow.named == Try.prog.varsNamed 15) && (Rows.rowWritesRow.maps == (Try.f15.params.toList ++ Rows.rowWritesSpec.plain.varTypes Try.prog).any (Try.prog.mapsRec ·)) && (Rows.rowWritesRow.ifaces == (Try.f15.params.toList ++ Rows.rowWritesSpec.plain.varTypes Try.prog).any (Try.prog.ifacesRec ·)) && (Rows.rowWritesRow.mapsOut == Try.prog.mapsAmong Try.f15.resultTypes.toList) && (Rows.rowWritesRow.loops == (Try.f15.params.toList ++ Rows.rowWritesSpec.plain.varTypes Try.prog).any (Try.prog.loopsFrom ·)) && (Rows.rowWritesRow.wideKeys == (Try.f15.params.toList ++ Rows.rowWritesSpec.plain.varTypes Try.prog ++ Try.f15.resultTypes.toList).any (Try.prog.wideKeysFrom ·)) && Rows.rowWritesSpec.vars.all (Try.prog.varReadable ·) && Try.f15.resultTypes.all (fun t => Try.prog.readableRec t && decide (t < Try.prog.types.size)) && (Rows.rowWritesRow.ifacesOut == Try.f15.resultTypes.toList.any (Try.prog.ifacesRec ·)) && (Rows.rowWritesRow.loopsOut == Try.f15.resultTypes.toList.any (Try.prog.loopsFrom ·)) && (Rows.rowWritesRow.plainKeys == Try.prog.plainKeys) && Rows.rowWritesRow.shortTexts.isNone && Try.prog.stopsHeard && Try.prog.mayEnter) = true := andI e24 b25
theorem e26 : (Rows.rowWritesRow.wf (OpenSpec.ofChange Rows.rowWritesSpec) && laidOutB Try.prog && mapsRowed Try.prog && Try.f15.params.all (Try.prog.readableRec ·) && namedTie Try.prog Rows.rowWritesRow.named Rows.rowWritesSpec.vars && (Rows.rowWritesRow.stops == []) && (Try.prog.stops == []) && (Rows.rowWritesRow.knobs == []) && (Try.prog.stopKnobs == []) && (Rows.rowWritesRow.inPlace == Try.prog.inPlace 15) && (Rows.rowWritesRow.unfollowed == Try.prog.unfollowed 15) && (Rows.rowWritesRow.recurses == Try.prog.recurses 15) && (Rows.rowWritesRow.named == Try.prog.varsNamed 15) && (Rows.rowWritesRow.maps == (Try.f15.params.toList ++ Rows.rowWritesSpec.plain.varTypes Try.prog).any (Try.prog.mapsRec ·)) && (Rows.rowWritesRow.ifaces == (Try.f15.params.toList ++ Rows.rowWritesSpec.plain.varTypes Try.prog).any (Try.prog.ifacesRec ·)) && (Rows.rowWritesRow.mapsOut == Try.prog.mapsAmong Try.f15.resultTypes.toList) && (Rows.rowWritesRow.loops == (Try.f15.params.toList ++ Rows.rowWritesSpec.plain.varTypes Try.prog).any (Try.prog.loopsFrom ·)) && (Rows.rowWritesRow.wideKeys == (Try.f15.params.toList ++ Rows.rowWritesSpec.plain.varTypes Try.prog ++ Try.f15.resultTypes.toList).any (Try.prog.wideKeysFrom ·)) && Rows.rowWritesSpec.vars.all (Try.prog.varReadable ·) && Try.f15.resultTypes.all (fun t => Try.prog.readableRec t && decide (t < Try.prog.types.size)) && (Rows.rowWritesRow.ifacesOut == Try.f15.resultTypes.toList.any (Try.prog.ifacesRec ·)) && (Rows.rowWritesRow.loopsOut == Try.f15.resultTypes.toList.any (Try.prog.loopsFrom ·)) && (Rows.rowWritesRow.plainKeys == Try.prog.plainKeys) && Rows.rowWritesRow.shortTexts.isNone && Try.prog.stopsHeard && Try.prog.mayEnter && (Rows.rowWritesRow.lifted == Try.prog.liftsFinal)) = true := andI e25 b26
theorem e27 : (Rows.rowWritesRow.wf (OpenSpec.ofChange Rows.rowWritesSpec) && laidOutB Try.prog && mapsRowed Try.prog && Try.f15.params.all (Try.prog.readableRec ·) && namedTie Try.prog Rows.rowWritesRow.named Rows.rowWritesSpec.vars && (Rows.rowWritesRow.stops == []) && (Try.prog.stops == []) && (Rows.rowWritesRow.knobs == []) && (Try.prog.stopKnobs == []) && (Rows.rowWritesRow.inPlace == Try.prog.inPlace 15) && (Rows.rowWritesRow.unfollowed == Try.prog.unfollowed 15) && (Rows.rowWritesRow.recurses == Try.prog.recurses 15) && (Rows.rowWritesRow.named == Try.prog.varsNamed 15) && (Rows.rowWritesRow.maps == (Try.f15.params.toList ++ Rows.rowWritesSpec.plain.varTypes Try.prog).any (Try.prog.mapsRec ·)) && (Rows.rowWritesRow.ifaces == (Try.f15.params.toList ++ Rows.rowWritesSpec.plain.varTypes Try.prog).any (Try.prog.ifacesRec ·)) && (Rows.rowWritesRow.mapsOut == Try.prog.mapsAmong Try.f15.resultTypes.toList) && (Rows.rowWritesRow.loops == (Try.f15.params.toList ++ Rows.rowWritesSpec.plain.varTypes Try.prog).any (Try.prog.loopsFrom ·)) && (Rows.rowWritesRow.wideKeys == (Try.f15.params.toList ++ Rows.rowWritesSpec.plain.varTypes Try.prog ++ Try.f15.resultTypes.toList).any (Try.prog.wideKeysFrom ·)) && Rows.rowWritesSpec.vars.all (Try.prog.varReadable ·) && Try.f15.resultTypes.all (fun t => Try.prog.readableRec t && decide (t < Try.prog.types.size)) && (Rows.rowWritesRow.ifacesOut == Try.f15.resultTypes.toList.any (Try.prog.ifacesRec ·)) && (Rows.rowWritesRow.loopsOut == Try.f15.resultTypes.toList.any (Try.prog.loopsFrom ·)) && (Rows.rowWritesRow.plainKeys == Try.prog.plainKeys) && Rows.rowWritesRow.shortTexts.isNone && Try.prog.stopsHeard && Try.prog.mayEnter && (Rows.rowWritesRow.lifted == Try.prog.liftsFinal) && (Try.prog.make == some Rows.rowWritesRow.make)) = true := andI e26 b27
theorem e28 : (Rows.rowWritesRow.wf (OpenSpec.ofChange Rows.rowWritesSpec) && laidOutB Try.prog && mapsRowed Try.prog && Try.f15.params.all (Try.prog.readableRec ·) && namedTie Try.prog Rows.rowWritesRow.named Rows.rowWritesSpec.vars && (Rows.rowWritesRow.stops == []) && (Try.prog.stops == []) && (Rows.rowWritesRow.knobs == []) && (Try.prog.stopKnobs == []) && (Rows.rowWritesRow.inPlace == Try.prog.inPlace 15) && (Rows.rowWritesRow.unfollowed == Try.prog.unfollowed 15) && (Rows.rowWritesRow.recurses == Try.prog.recurses 15) && (Rows.rowWritesRow.named == Try.prog.varsNamed 15) && (Rows.rowWritesRow.maps == (Try.f15.params.toList ++ Rows.rowWritesSpec.plain.varTypes Try.prog).any (Try.prog.mapsRec ·)) && (Rows.rowWritesRow.ifaces == (Try.f15.params.toList ++ Rows.rowWritesSpec.plain.varTypes Try.prog).any (Try.prog.ifacesRec ·)) && (Rows.rowWritesRow.mapsOut == Try.prog.mapsAmong Try.f15.resultTypes.toList) && (Rows.rowWritesRow.loops == (Try.f15.params.toList ++ Rows.rowWritesSpec.plain.varTypes Try.prog).any (Try.prog.loopsFrom ·)) && (Rows.rowWritesRow.wideKeys == (Try.f15.params.toList ++ Rows.rowWritesSpec.plain.varTypes Try.prog ++ Try.f15.resultTypes.toList).any (Try.prog.wideKeysFrom ·)) && Rows.rowWritesSpec.vars.all (Try.prog.varReadable ·) && Try.f15.resultTypes.all (fun t => Try.prog.readableRec t && decide (t < Try.prog.types.size)) && (Rows.rowWritesRow.ifacesOut == Try.f15.resultTypes.toList.any (Try.prog.ifacesRec ·)) && (Rows.rowWritesRow.loopsOut == Try.f15.resultTypes.toList.any (Try.prog.loopsFrom ·)) && (Rows.rowWritesRow.plainKeys == Try.prog.plainKeys) && Rows.rowWritesRow.shortTexts.isNone && Try.prog.stopsHeard && Try.prog.mayEnter && (Rows.rowWritesRow.lifted == Try.prog.liftsFinal) && (Try.prog.make == some Rows.rowWritesRow.make) && (Rows.rowWritesRow.kinds == (if Rows.rowWritesRow.domain.isEmpty then [] else Try.f15.params.toList.map fun t => match Try.prog.underlying t with | some (.int k) => some k | _ => none))) = true := andI e27 b28
theorem e29 : (Rows.rowWritesRow.wf (OpenSpec.ofChange Rows.rowWritesSpec) && laidOutB Try.prog && mapsRowed Try.prog && Try.f15.params.all (Try.prog.readableRec ·) && namedTie Try.prog Rows.rowWritesRow.named Rows.rowWritesSpec.vars && (Rows.rowWritesRow.stops == []) && (Try.prog.stops == []) && (Rows.rowWritesRow.knobs == []) && (Try.prog.stopKnobs == []) && (Rows.rowWritesRow.inPlace == Try.prog.inPlace 15) && (Rows.rowWritesRow.unfollowed == Try.prog.unfollowed 15) && (Rows.rowWritesRow.recurses == Try.prog.recurses 15) && (Rows.rowWritesRow.named == Try.prog.varsNamed 15) && (Rows.rowWritesRow.maps == (Try.f15.params.toList ++ Rows.rowWritesSpec.plain.varTypes Try.prog).any (Try.prog.mapsRec ·)) && (Rows.rowWritesRow.ifaces == (Try.f15.params.toList ++ Rows.rowWritesSpec.plain.varTypes Try.prog).any (Try.prog.ifacesRec ·)) && (Rows.rowWritesRow.mapsOut == Try.prog.mapsAmong Try.f15.resultTypes.toList) && (Rows.rowWritesRow.loops == (Try.f15.params.toList ++ Rows.rowWritesSpec.plain.varTypes Try.prog).any (Try.prog.loopsFrom ·)) && (Rows.rowWritesRow.wideKeys == (Try.f15.params.toList ++ Rows.rowWritesSpec.plain.varTypes Try.prog ++ Try.f15.resultTypes.toList).any (Try.prog.wideKeysFrom ·)) && Rows.rowWritesSpec.vars.all (Try.prog.varReadable ·) && Try.f15.resultTypes.all (fun t => Try.prog.readableRec t && decide (t < Try.prog.types.size)) && (Rows.rowWritesRow.ifacesOut == Try.f15.resultTypes.toList.any (Try.prog.ifacesRec ·)) && (Rows.rowWritesRow.loopsOut == Try.f15.resultTypes.toList.any (Try.prog.loopsFrom ·)) && (Rows.rowWritesRow.plainKeys == Try.prog.plainKeys) && Rows.rowWritesRow.shortTexts.isNone && Try.prog.stopsHeard && Try.prog.mayEnter && (Rows.rowWritesRow.lifted == Try.prog.liftsFinal) && (Try.prog.make == some Rows.rowWritesRow.make) && (Rows.rowWritesRow.kinds == (if Rows.rowWritesRow.domain.isEmpty then [] else Try.f15.params.toList.map fun t => match Try.prog.underlying t with | some (.int k) => some k | _ => none)) && (Rows.rowWritesRow.pinned == Rows.rowWritesRow.pinnedBy)) = true := andI e28 b29
theorem e30 : (Rows.rowWritesRow.wf (OpenSpec.ofChange Rows.rowWritesSpec) && laidOutB Try.prog && mapsRowed Try.prog && Try.f15.params.all (Try.prog.readableRec ·) && namedTie Try.prog Rows.rowWritesRow.named Rows.rowWritesSpec.vars && (Rows.rowWritesRow.stops == []) && (Try.prog.stops == []) && (Rows.rowWritesRow.knobs == []) && (Try.prog.stopKnobs == []) && (Rows.rowWritesRow.inPlace == Try.prog.inPlace 15) && (Rows.rowWritesRow.unfollowed == Try.prog.unfollowed 15) && (Rows.rowWritesRow.recurses == Try.prog.recurses 15) && (Rows.rowWritesRow.named == Try.prog.varsNamed 15) && (Rows.rowWritesRow.maps == (Try.f15.params.toList ++ Rows.rowWritesSpec.plain.varTypes Try.prog).any (Try.prog.mapsRec ·)) && (Rows.rowWritesRow.ifaces == (Try.f15.params.toList ++ Rows.rowWritesSpec.plain.varTypes Try.prog).any (Try.prog.ifacesRec ·)) && (Rows.rowWritesRow.mapsOut == Try.prog.mapsAmong Try.f15.resultTypes.toList) && (Rows.rowWritesRow.loops == (Try.f15.params.toList ++ Rows.rowWritesSpec.plain.varTypes Try.prog).any (Try.prog.loopsFrom ·)) && (Rows.rowWritesRow.wideKeys == (Try.f15.params.toList ++ Rows.rowWritesSpec.plain.varTypes Try.prog ++ Try.f15.resultTypes.toList).any (Try.prog.wideKeysFrom ·)) && Rows.rowWritesSpec.vars.all (Try.prog.varReadable ·) && Try.f15.resultTypes.all (fun t => Try.prog.readableRec t && decide (t < Try.prog.types.size)) && (Rows.rowWritesRow.ifacesOut == Try.f15.resultTypes.toList.any (Try.prog.ifacesRec ·)) && (Rows.rowWritesRow.loopsOut == Try.f15.resultTypes.toList.any (Try.prog.loopsFrom ·)) && (Rows.rowWritesRow.plainKeys == Try.prog.plainKeys) && Rows.rowWritesRow.shortTexts.isNone && Try.prog.stopsHeard && Try.prog.mayEnter && (Rows.rowWritesRow.lifted == Try.prog.liftsFinal) && (Try.prog.make == some Rows.rowWritesRow.make) && (Rows.rowWritesRow.kinds == (if Rows.rowWritesRow.domain.isEmpty then [] else Try.f15.params.toList.map fun t => match Try.prog.underlying t with | some (.int k) => some k | _ => none)) && (Rows.rowWritesRow.pinned == Rows.rowWritesRow.pinnedBy) && (Rows.rowWritesRow.veiled == (Try.f15.params.toList ++ Rows.rowWritesSpec.plain.varTypes Try.prog ++ Try.f15.resultTypes.toList).any (Try.prog.veiledRec ·))) = true := andI e29 b30
theorem e31 : (Rows.rowWritesRow.wf (OpenSpec.ofChange Rows.rowWritesSpec) && laidOutB Try.prog && mapsRowed Try.prog && Try.f15.params.all (Try.prog.readableRec ·) && namedTie Try.prog Rows.rowWritesRow.named Rows.rowWritesSpec.vars && (Rows.rowWritesRow.stops == []) && (Try.prog.stops == []) && (Rows.rowWritesRow.knobs == []) && (Try.prog.stopKnobs == []) && (Rows.rowWritesRow.inPlace == Try.prog.inPlace 15) && (Rows.rowWritesRow.unfollowed == Try.prog.unfollowed 15) && (Rows.rowWritesRow.recurses == Try.prog.recurses 15) && (Rows.rowWritesRow.named == Try.prog.varsNamed 15) && (Rows.rowWritesRow.maps == (Try.f15.params.toList ++ Rows.rowWritesSpec.plain.varTypes Try.prog).any (Try.prog.mapsRec ·)) && (Rows.rowWritesRow.ifaces == (Try.f15.params.toList ++ Rows.rowWritesSpec.plain.varTypes Try.prog).any (Try.prog.ifacesRec ·)) && (Rows.rowWritesRow.mapsOut == Try.prog.mapsAmong Try.f15.resultTypes.toList) && (Rows.rowWritesRow.loops == (Try.f15.params.toList ++ Rows.rowWritesSpec.plain.varTypes Try.prog).any (Try.prog.loopsFrom ·)) && (Rows.rowWritesRow.wideKeys == (Try.f15.params.toList ++ Rows.rowWritesSpec.plain.varTypes Try.prog ++ Try.f15.resultTypes.toList).any (Try.prog.wideKeysFrom ·)) && Rows.rowWritesSpec.vars.all (Try.prog.varReadable ·) && Try.f15.resultTypes.all (fun t => Try.prog.readableRec t && decide (t < Try.prog.types.size)) && (Rows.rowWritesRow.ifacesOut == Try.f15.resultTypes.toList.any (Try.prog.ifacesRec ·)) && (Rows.rowWritesRow.loopsOut == Try.f15.resultTypes.toList.any (Try.prog.loopsFrom ·)) && (Rows.rowWritesRow.plainKeys == Try.prog.plainKeys) && Rows.rowWritesRow.shortTexts.isNone && Try.prog.stopsHeard && Try.prog.mayEnter && (Rows.rowWritesRow.lifted == Try.prog.liftsFinal) && (Try.prog.make == some Rows.rowWritesRow.make) && (Rows.rowWritesRow.kinds == (if Rows.rowWritesRow.domain.isEmpty then [] else Try.f15.params.toList.map fun t => match Try.prog.underlying t with | some (.int k) => some k | _ => none)) && (Rows.rowWritesRow.pinned == Rows.rowWritesRow.pinnedBy) && (Rows.rowWritesRow.veiled == (Try.f15.params.toList ++ Rows.rowWritesSpec.plain.varTypes Try.prog ++ Try.f15.resultTypes.toList).any (Try.prog.veiledRec ·)) && Rows.rowWritesRow.veiledFits Try.prog Try.f15.params.toList (Try.f15.params.toList ++ Rows.rowWritesSpec.plain.varTypes Try.prog ++ Try.f15.resultTypes.toList)) = true := andI e30 b31
set_option maxRecDepth 100000 in
theorem tB : joinedFacts Try.prog 15 Try.f15 Rows.rowWritesSpec Rows.rowWritesRow = true := by
 unfold joinedFacts
 exact e31
theorem tC : Try.f15.isInstance Try.prog Rows.rowWritesRow.origin Rows.rowWritesRow.targs := of_decide_eq_true (by kernel_rfl)
theorem tD0 : decide (Check.packageOf Try.f15.name = "main") = false := by kernel_rfl
theorem tD : Try.f15.isWrapper Try.prog Rows.rowWritesRow.wrapper Rows.rowWritesRow.mainSum := by
 unfold Func.isWrapper
 rw [if_neg (of_decide_eq_false tD0)]
 exact ⟨rfl, rfl⟩
theorem over : Rows.rowWritesRow.holds Try.pinned (OpenSpec.ofChange Rows.rowWritesSpec) :=
 OpenClaim.holds_of_wide 15 Try.f15 rfl rfl rfl rfl rfl rfl rfl ⟨rfl, rfl, rfl, rfl, rfl⟩ rfl rfl rfl rfl rfl tA Try.func15 tB tC tD
  (fun os started H enc _ => lifted os started H enc)
theorem proved : Rows.RowWritesSaid := over
end Go.Proofs.Yteebobbhhgmeiaa.rowWrites
