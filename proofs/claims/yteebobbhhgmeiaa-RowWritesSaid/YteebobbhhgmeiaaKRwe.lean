/- made by a program (rowgen.py): RowWrites: for every input the law returns true, and each argument reads behind the call as it read before. -/
import Derived.Test.YteebobbhhgmeiaaKRwd

namespace Go.Proofs.Yteebobbhhgmeiaa
open Go.RowKit
def vmax (a b : TVec) : TVec := ⟨max (max 0 a.a) b.a, max (max 0 a.b) b.b⟩
def knownC (c : TCell) : TVec := vmax c.vec c.dead
def knownR (cs : List TCell) : TVec := cs.foldl (fun v c => vmax v (knownC c)) ⟨0, 0⟩
def newE (l : List TGroup) (k : ByteArray) : Int := bif goodP l != 0 then goodP l else keyE k
def newR (l : List TGroup) (k : ByteArray) : TRow := ⟨bif newE l k != 0 then ⟨#[]⟩ else k, bif newE l k != 0 then [] else List.replicate l.length zeroC⟩
noncomputable def Ck_1 := addC 155 (inl (envT Cj L0) 4 155) Cj
theorem Ck_1_ok : COk Try.prog Ck_1 := addC_ok (inl_ok (envP_ok Cj_ok L0_ok) 4 155) Cj_ok
noncomputable def Ck_2 := addC 109 (inl (envT Ck_1 L0) 4 109) Ck_1
theorem Ck_2_ok : COk Try.prog Ck_2 := addC_ok (inl_ok (envP_ok Ck_1_ok L0_ok) 4 109) Ck_1_ok
def r06_Two_0 (a0 : TVec) (a1 : TVec) : TVec := TVec.mk (max (max (0 : Int) a0.1) a1.1) (max (max (0 : Int) a0.2) a1.2)
def r06_Two_r (a0 : TVec) (a1 : TVec) : A := .v (.agg ⟨[.int .i64 ((r06_Two_0 a0 a1).a), .int .i64 ((r06_Two_0 a0 a1).b)]⟩)
def r06_Two_o (_a0 : TVec) (_a1 : TVec) : Objs := []
def r06_Two_ps (_a0 : TVec) (_a1 : TVec) : List Prop := []
set_option maxRecDepth 100000 in
theorem r06_Two_ev (a0 : TVec) (a1 : TVec) : evF (envT Ck_2 L0) 9 110 [valA .vec a0, valA .vec a1] 0 [] = some (1, r06_Two_r a0 a1, 0, r06_Two_o a0 a1, [((0 : Int) ≤ (0 : Int) ∧ (0 : Int) < (↑(2 : Nat) : Int)), ((0 : Nat) < (2 : Nat)), ((0 : Int) ≤ (0 : Int) ∧ (0 : Int) < (↑(2 : Nat) : Int)), ((0 : Nat) < (2 : Nat)), ((0 : Int) ≤ (1 : Int) ∧ (1 : Int) < (↑(2 : Nat) : Int)), ((1 : Nat) < (2 : Nat)), ((0 : Int) ≤ (1 : Int) ∧ (1 : Int) < (↑(2 : Nat) : Int)), ((1 : Nat) < (2 : Nat))]) := by kernel_rfl
set_option maxRecDepth 100000 in
theorem r06_Two_c (a0 : TVec) (a1 : TVec) (_hp : ∀ p ∈ r06_Two_ps a0 a1, p) : CallOk Try.prog 110 [valA .vec a0, valA .vec a1] 0 [] 1 (r06_Two_r a0 a1) 0 (r06_Two_o a0 a1) := by
 have n0 : ((0 : Int) ≤ (0 : Int) ∧ (0 : Int) < (↑(2 : Nat) : Int)) := by first | rfl | decide +kernel
 have n1 : ((0 : Nat) < (2 : Nat)) := by first | rfl | decide +kernel
 have n4 : ((0 : Int) ≤ (1 : Int) ∧ (1 : Int) < (↑(2 : Nat) : Int)) := by first | rfl | decide +kernel
 have n5 : ((1 : Nat) < (2 : Nat)) := by first | rfl | decide +kernel
 exact evF_ok (envP_ok Ck_2_ok L0_ok) (r06_Two_ev a0 a1) (needs_cons n0 (needs_cons n1 (needs_cons n0 (needs_cons n1 (needs_cons n4 (needs_cons n5 (needs_cons n4 (needs_cons n5 needs_nil))))))))
def r06_Two_t : List A → Nat → Objs → Option CRes
 | [y0, y1], nx, o => match argU .vec y0, argU .vec y1 with
  | some (a0, p0), some (a1, p1) => some (1, (r06_Two_r a0 a1).pk (shiftR nx), nx + 0, shiftO nx (r06_Two_o a0 a1) ++ o, p0 ++ (p1 ++ (r06_Two_ps a0 a1)))
  | _, _ => none
 | _, _, _ => none
theorem r06_Two_tok : TOk Try.prog 110 r06_Two_t := fun args nx o k x nx' o' ps h => by
 unfold r06_Two_t at h
 split at h <;> first | (cases h; done) | skip
 split at h <;> first | (cases h; done) | skip
 rename_i a0 p0 a1 p1 e0 e1
 cases h
 refine ⟨fun hp => ?_, _, rfl⟩
 have q0 := fun p hm => hp p (List.mem_append.2 (.inl hm))
 have r0 := fun p hm => hp p (List.mem_append.2 (.inr hm))
 have q1 := fun p hm => r0 p (List.mem_append.2 (.inl hm))
 have r1 := fun p hm => r0 p (List.mem_append.2 (.inr hm))
 refine callOk_args (callOk_shift (r06_Two_c a0 a1 r1) (Nat.le_refl _) (freeL_cons (valA_free _ _) (freeL_cons (valA_free _ _) freeL_nil)) nx o) fun F N R vs hl => ?_
 obtain ⟨v0, w0, rfl, h0, hl⟩ := hl.inv
 obtain ⟨v1, w1, rfl, h1, hl⟩ := hl.inv
 exact HL.cons (argU_ok e0 q0 h0) (HL.cons (argU_ok e1 q1 h1) (hl))
noncomputable def Ck_3 := addC 110 r06_Two_t Ck_2
theorem Ck_3_ok : COk Try.prog Ck_3 := addC_ok r06_Two_tok Ck_2_ok
def r08_Known_0 (a0 : TCell) : TVec := r06_Two_0 a0.2 a0.5
def r08_Known_r (a0 : TCell) : A := .v (.agg ⟨[.int .i64 ((r08_Known_0 a0).a), .int .i64 ((r08_Known_0 a0).b)]⟩)
def r08_Known_o (_a0 : TCell) : Objs := []
def r08_Known_ps (_a0 : TCell) : List Prop := []
set_option maxRecDepth 100000 in
theorem r08_Known_ev (a0 : TCell) : evF (envT Ck_3 L0) 9 44 [valA .cell a0] 0 [] = some (1, r08_Known_r a0, 0, r08_Known_o a0, []) := by kernel_rfl
set_option maxRecDepth 100000 in
theorem r08_Known_c (a0 : TCell) (_hp : ∀ p ∈ r08_Known_ps a0, p) : CallOk Try.prog 44 [valA .cell a0] 0 [] 1 (r08_Known_r a0) 0 (r08_Known_o a0) := by
 exact evF_ok (envP_ok Ck_3_ok L0_ok) (r08_Known_ev a0) needs_nil
def r08_Known_t : List A → Nat → Objs → Option CRes
 | [y0], nx, o => match argU .cell y0 with
  | some (a0, p0) => some (1, (r08_Known_r a0).pk (shiftR nx), nx + 0, shiftO nx (r08_Known_o a0) ++ o, p0 ++ (r08_Known_ps a0))
  | _ => none
 | _, _, _ => none
theorem r08_Known_tok : TOk Try.prog 44 r08_Known_t := fun args nx o k x nx' o' ps h => by
 unfold r08_Known_t at h
 split at h <;> first | (cases h; done) | skip
 split at h <;> first | (cases h; done) | skip
 rename_i a0 p0 e0
 cases h
 refine ⟨fun hp => ?_, _, rfl⟩
 have q0 := fun p hm => hp p (List.mem_append.2 (.inl hm))
 have r0 := fun p hm => hp p (List.mem_append.2 (.inr hm))
 refine callOk_args (callOk_shift (r08_Known_c a0 r0) (Nat.le_refl _) (freeL_cons (valA_free _ _) freeL_nil) nx o) fun F N R vs hl => ?_
 obtain ⟨v0, w0, rfl, h0, hl⟩ := hl.inv
 exact HL.cons (argU_ok e0 q0 h0) (hl)
noncomputable def Ck_4 := addC 44 r08_Known_t Ck_3
theorem Ck_4_ok : COk Try.prog Ck_4 := addC_ok r08_Known_tok Ck_3_ok
def cell_Known_0 (a0 : TCell) : TVec := TVec.mk (max (max (0 : Int) a0.2.1) a0.5.1) (max (max (0 : Int) a0.2.2) a0.5.2)
def cell_Known_r (a0 : TCell) : A := .v (.agg ⟨[.int .i64 ((cell_Known_0 a0).a), .int .i64 ((cell_Known_0 a0).b)]⟩)
def cell_Known_o (_a0 : TCell) : Objs := []
def cell_Known_ps (_a0 : TCell) : List Prop := []
set_option maxRecDepth 100000 in
theorem cell_Known_ev (a0 : TCell) : evF (envT Ck_4 L0) 9 43 [valA .cell a0] 0 [] = some (1, cell_Known_r a0, 0, cell_Known_o a0, [((0 : Int) ≤ (0 : Int) ∧ (0 : Int) < (↑(2 : Nat) : Int)), ((0 : Nat) < (2 : Nat)), ((0 : Int) ≤ (0 : Int) ∧ (0 : Int) < (2 : Int)), ((0 : Nat) < (2 : Nat)), ((0 : Int) ≤ (0 : Int) ∧ (0 : Int) < (2 : Int)), ((0 : Nat) < (2 : Nat)), ((0 : Int) ≤ (0 : Int) ∧ (0 : Int) < (2 : Int)), ((0 : Nat) < (2 : Nat)), ((0 : Int) ≤ (1 : Int) ∧ (1 : Int) < (2 : Int)), ((1 : Nat) < (2 : Nat)), ((0 : Int) ≤ (1 : Int) ∧ (1 : Int) < (2 : Int)), ((1 : Nat) < (2 : Nat)), ((0 : Int) ≤ (1 : Int) ∧ (1 : Int) < (2 : Int)), ((1 : Nat) < (2 : Nat)), ((0 : Int) ≤ (1 : Int) ∧ (1 : Int) < (↑(2 : Nat) : Int)), ((1 : Nat) < (2 : Nat)), ((0 : Int) ≤ (0 : Int) ∧ (0 : Int) < (2 : Int)), ((0 : Nat) < (2 : Nat)), ((0 : Int) ≤ (0 : Int) ∧ (0 : Int) < (2 : Int)), ((0 : Nat) < (2 : Nat)), ((0 : Int) ≤ (0 : Int) ∧ (0 : Int) < (2 : Int)), ((0 : Nat) < (2 : Nat)), ((0 : Int) ≤ (1 : Int) ∧ (1 : Int) < (2 : Int)), ((1 : Nat) < (2 : Nat)), ((0 : Int) ≤ (1 : Int) ∧ (1 : Int) < (2 : Int)), ((1 : Nat) < (2 : Nat)), ((0 : Int) ≤ (1 : Int) ∧ (1 : Int) < (2 : Int)), ((1 : Nat) < (2 : Nat))]) := by kernel_rfl
set_option maxRecDepth 100000 in
theorem cell_Known_c (a0 : TCell) (_hp : ∀ p ∈ cell_Known_ps a0, p) : CallOk Try.prog 43 [valA .cell a0] 0 [] 1 (cell_Known_r a0) 0 (cell_Known_o a0) := by
 have n0 : ((0 : Int) ≤ (0 : Int) ∧ (0 : Int) < (↑(2 : Nat) : Int)) := by first | rfl | decide +kernel
 have n1 : ((0 : Nat) < (2 : Nat)) := by first | rfl | decide +kernel
 have n2 : ((0 : Int) ≤ (0 : Int) ∧ (0 : Int) < (2 : Int)) := by first | rfl | decide +kernel
 have n8 : ((0 : Int) ≤ (1 : Int) ∧ (1 : Int) < (2 : Int)) := by first | rfl | decide +kernel
 have n9 : ((1 : Nat) < (2 : Nat)) := by first | rfl | decide +kernel
 have n14 : ((0 : Int) ≤ (1 : Int) ∧ (1 : Int) < (↑(2 : Nat) : Int)) := by first | rfl | decide +kernel
 exact evF_ok (envP_ok Ck_4_ok L0_ok) (cell_Known_ev a0) (needs_cons n0 (needs_cons n1 (needs_cons n2 (needs_cons n1 (needs_cons n2 (needs_cons n1 (needs_cons n2 (needs_cons n1 (needs_cons n8 (needs_cons n9 (needs_cons n8 (needs_cons n9 (needs_cons n8 (needs_cons n9 (needs_cons n14 (needs_cons n9 (needs_cons n2 (needs_cons n1 (needs_cons n2 (needs_cons n1 (needs_cons n2 (needs_cons n1 (needs_cons n8 (needs_cons n9 (needs_cons n8 (needs_cons n9 (needs_cons n8 (needs_cons n9 needs_nil))))))))))))))))))))))))))))
def cell_Known_t : List A → Nat → Objs → Option CRes
 | [y0], nx, o => match argU .cell y0 with
  | some (a0, p0) => some (1, (cell_Known_r a0).pk (shiftR nx), nx + 0, shiftO nx (cell_Known_o a0) ++ o, p0 ++ (cell_Known_ps a0))
  | _ => none
 | _, _, _ => none
theorem cell_Known_tok : TOk Try.prog 43 cell_Known_t := fun args nx o k x nx' o' ps h => by
 unfold cell_Known_t at h
 split at h <;> first | (cases h; done) | skip
 split at h <;> first | (cases h; done) | skip
 rename_i a0 p0 e0
 cases h
 refine ⟨fun hp => ?_, _, rfl⟩
 have q0 := fun p hm => hp p (List.mem_append.2 (.inl hm))
 have r0 := fun p hm => hp p (List.mem_append.2 (.inr hm))
 refine callOk_args (callOk_shift (cell_Known_c a0 r0) (Nat.le_refl _) (freeL_cons (valA_free _ _) freeL_nil) nx o) fun F N R vs hl => ?_
 obtain ⟨v0, w0, rfl, h0, hl⟩ := hl.inv
 exact HL.cons (argU_ok e0 q0 h0) (hl)
noncomputable def Ck_5 := addC 43 cell_Known_t Ck_4
theorem Ck_5_ok : COk Try.prog Ck_5 := addC_ok cell_Known_tok Ck_4_ok
abbrev r10_Known_l0_X : Type := Int × TRow × TVec
def r10_Known_l0_T (x : r10_Known_l0_X) : St := ⟨21, 3, [(1, .own 0 0), (3, .own 2 0), (4, .v (.int .i64 x.1))], [(0, some (.box 71 [.v (.string x.2.1.key), .sl .cell x.2.1.cells])), (2, some (.box 31 [.v (.int .i64 x.2.2.a), .v (.int .i64 x.2.2.b)]))]⟩
def r10_Known_l0_un : St → Option r10_Known_l0_X
 | ⟨21, 3, [(1, .own 0 0), (3, .own 2 0), (4, .v (.int .i64 z0))], [(0, some (.box 71 [.v (.string z1), .sl .cell z2])), (2, some (.box 31 [.v (.int .i64 z3), .v (.int .i64 z4)]))]⟩ => some (z0, ⟨z1, z2⟩, ⟨z3, z4⟩)
 | _ => none
theorem r10_Known_l0_unok : ∀ s x, r10_Known_l0_un s = some x → s = r10_Known_l0_T x := fun s x h => by
 unfold r10_Known_l0_un at h
 split at h
 ·cases h; rfl
 ·cases h
def r10_Known_l0_S : Shape := ⟨3, 3, [1, 3, 4], [], [(0, 0), (2, 2)], [0, 2], [], [0, 2]⟩
def r10_Known_l0_E : Entry := ⟨[], [(0, 0), (2, 2)], [1, 3, 4], [0, 2]⟩
def r10_Known_l0_f_k0 (a0 : Int) (a1 : TRow) (_a2 : TVec) : Bool := !!decide (a0 < (↑a1.2.length : Int))
def r10_Known_l0_f_2 (a0 : Int) (a1 : TRow) (a2 : TVec) : TVec := r06_Two_0 a2 (r08_Known_0 (a1.2.getD a0.toNat (dflt TC.cell)))
def r10_Known_l0_next (x : r10_Known_l0_X) : r10_Known_l0_X := (IntKind.i64.wrap (x.1 + (1 : Int)), x.2.1, r10_Known_l0_f_2 x.1 x.2.1 x.2.2)
def r10_Known_l0_goes (x : r10_Known_l0_X) : Cnd := some ((r10_Known_l0_f_k0 x.1 x.2.1 x.2.2))
def r10_Known_l0_psA (x : r10_Known_l0_X) : List Prop := [((r10_Known_l0_f_k0 x.1 x.2.1 x.2.2) = true → (0 : Int) ≤ x.1 ∧ x.1 < (↑x.2.1.2.length : Int))]
def r10_Known_l0_ps (x : r10_Known_l0_X) : List Prop := [((r10_Known_l0_f_k0 x.1 x.2.1 x.2.2) = true → (0 : Int) ≤ x.1 ∧ x.1 < (↑x.2.1.2.length : Int))]
def r10_Known_l0_outs (x : r10_Known_l0_X) : Outs := [(some 0, some (!decide (x.1 < (↑x.2.1.2.length : Int))), ⟨21, 3, [], [(0, some (.box 71 [.v (.string x.2.1.1), .sl .cell x.2.1.2])), (2, some (.box 31 [.v (.int .i64 x.2.2.1), .v (.int .i64 x.2.2.2)]))]⟩)]
def r10_Known_l0_fuel (x : r10_Known_l0_X) : Nat := ((↑x.2.1.2.length : Int) - x.1).toNat
def r10_Known_l0_run (x : r10_Known_l0_X) : r10_Known_l0_X := iterX r10_Known_l0_next r10_Known_l0_goes (r10_Known_l0_fuel x) x
set_option maxRecDepth 100000 in
theorem r10_Known_l0_ev (a0 : Int) (a1 : TRow) (a2 : TVec) : roundE (envT Ck_5 L0) 9 (loopAt Try.prog 70 0) r10_Known_l0_S (r10_Known_l0_T (a0, a1, a2)) = some (r10_Known_l0_psA (a0, a1, a2), r10_Known_l0_outs (a0, a1, a2), r10_Known_l0_goes (a0, a1, a2), r10_Known_l0_T (r10_Known_l0_next (a0, a1, a2))) := by kernel_rfl
set_option maxRecDepth 100000 in
theorem r10_Known_l0_hA (a0 : Int) (a1 : TRow) (a2 : TVec) (hp : ∀ p ∈ r10_Known_l0_ps (a0, a1, a2), p) : ∀ p ∈ r10_Known_l0_psA (a0, a1, a2), p := by
 have n0 : ((r10_Known_l0_f_k0 a0 a1 a2) = true → (0 : Int) ≤ a0 ∧ a0 < (↑a1.2.length : Int)) := hp _ (List.mem_cons_self ..)
 exact (needs_cons n0 needs_nil)
noncomputable def r10_Known_l0_row := rowL (envT Ck_5 L0) (loopAt Try.prog 70 0) r10_Known_l0_S r10_Known_l0_E r10_Known_l0_un r10_Known_l0_fuel r10_Known_l0_next r10_Known_l0_goes r10_Known_l0_ps r10_Known_l0_outs
theorem r10_Known_l0_rok : ∀ s b ps outs, r10_Known_l0_row s = some (b, ps, outs) → Wf s ⟨ps, outs, none⟩ ∧ LoopOk (envT C0 L0) b s ps outs :=
 rowP_ok (T := r10_Known_l0_T) Ck_5_ok L0_ok (u := 9) (by kernel_rfl) (by decide) (fun ⟨a0, a1, a2⟩ => r10_Known_l0_ev a0 a1 a2) (fun ⟨a0, a1, a2⟩ => r10_Known_l0_hA a0 a1 a2) r10_Known_l0_unok (fun _ => okOuts_ok (n := 21) rfl) fun _ _ => rfl
noncomputable def r10_Known_l0_L := addLp 0 r10_Known_l0_row L0
theorem r10_Known_l0_Lok : LpOk r10_Known_l0_L := addLp_ok r10_Known_l0_rok L0_ok
def r10_Known_0 (a0 : TRow) : TVec := (r10_Known_l0_run ((0 : Int), a0, TVec.mk (0 : Int) (0 : Int))).snd.snd
def r10_Known_r (a0 : TRow) : A := .v (.agg ⟨[.int .i64 ((r10_Known_0 a0).a), .int .i64 ((r10_Known_0 a0).b)]⟩)
def r10_Known_o (_a0 : TRow) : Objs := []
def r10_Known_ps (a0 : TRow) : List Prop := [(needX r10_Known_l0_next r10_Known_l0_goes r10_Known_l0_ps (r10_Known_l0_fuel ((0 : Int), a0, TVec.mk (0 : Int) (0 : Int))) ((0 : Int), a0, TVec.mk (0 : Int) (0 : Int)))]
set_option maxRecDepth 100000 in
theorem r10_Known_ev (a0 : TRow) : evF (envT Ck_5 r10_Known_l0_L) 9 70 [valA .row a0] 0 [] = some (1, r10_Known_r a0, 0, r10_Known_o a0, [(loopAt Try.prog (70 : FuncId) (0 : Nat) = loopAt Try.prog (70 : FuncId) (0 : Nat)), (needX r10_Known_l0_next r10_Known_l0_goes r10_Known_l0_ps (r10_Known_l0_fuel ((0 : Int), a0, TVec.mk (0 : Int) (0 : Int))) ((0 : Int), a0, TVec.mk (0 : Int) (0 : Int)))]) := by kernel_rfl
set_option maxRecDepth 100000 in
theorem r10_Known_c (a0 : TRow) (hp : ∀ p ∈ r10_Known_ps a0, p) : CallOk Try.prog 70 [valA .row a0] 0 [] 1 (r10_Known_r a0) 0 (r10_Known_o a0) := by
 have n1 : (needX r10_Known_l0_next r10_Known_l0_goes r10_Known_l0_ps (r10_Known_l0_fuel ((0 : Int), a0, TVec.mk (0 : Int) (0 : Int))) ((0 : Int), a0, TVec.mk (0 : Int) (0 : Int))) := hp _ (List.mem_cons_self ..)
 exact evF_ok (envP_ok Ck_5_ok r10_Known_l0_Lok) (r10_Known_ev a0) (needs_cons rfl (needs_cons n1 needs_nil))
def r10_Known_r2 (a0 : TRow) : A := .v (.agg ⟨[.int .i64 (knownR a0.cells).a, .int .i64 (knownR a0.cells).b]⟩)
def r10_Known_o2 (_a0 : TRow) : Objs := []
def r10_Known_ps2 (a0 : TRow) : List Prop := [wideN a0.cells.length]
theorem knownR_succ (cs : List TCell) (i : Nat) (h : i < cs.length) : knownR (cs.take (i + 1)) = vmax (knownR (cs.take i)) (knownC (cs.getD i (dflt TC.cell))) := by
 unfold knownR
 rw [List.take_add_one, List.getElem?_eq_getElem h, List.getD_eq_getElem?_getD, List.getElem?_eq_getElem h, List.foldl_append]
 rfl
theorem r10_Known_eq (a : TRow) (hb : wideN a.cells.length) : (∀ p ∈ r10_Known_ps a, p) ∧ r10_Known_0 a = knownR a.cells := by
 unfold wideN at hb
 obtain ⟨h1, k, hk, hx, _, hst, _⟩ := scanB (fun i => (((i : Int), a, knownR (a.cells.take i)) : r10_Known_l0_X)) a.cells.length (fun _ => false) r10_Known_l0_next r10_Known_l0_goes r10_Known_l0_ps (r10_Known_l0_fuel (0, a, ⟨0, 0⟩)) (0, a, ⟨0, 0⟩) rfl (by show a.cells.length ≤ ((a.cells.length : Int) - 0).toNat; omega)
  (fun i _ _ => by
   show (!!decide ((i : Int) < (a.cells.length : Int))) = _
   rw [nn, dlt, Bool.not_false, Bool.and_true])
  (fun i hi _ => by
   show (IntKind.i64.wrap ((i : Int) + 1), a, vmax (knownR (a.cells.take i)) (knownC (a.cells.getD ((i : Int)).toNat (dflt TC.cell)))) = (((i + 1 : Nat) : Int), a, knownR (a.cells.take (i + 1)))
   rw [wsucc (by omega), Int.toNat_natCast, knownR_succ _ _ hi])
  (fun i _ _ => needs_cons (fun h => ⟨by show (0 : Int) ≤ (i : Int); omega, by
   have h' : (!!decide ((i : Int) < (a.cells.length : Int))) = true := h
   rw [nn] at h'; exact of_decide_eq_true h'⟩) needs_nil)
 refine ⟨needs_cons h1 needs_nil, ?_⟩
 have hkn : k = a.cells.length := by
  rcases Nat.lt_or_ge k a.cells.length with h | h
  ·exact absurd (hst h) (by decide)
  ·omega
 have hr : r10_Known_l0_run (0, a, ⟨0, 0⟩) = ((k : Int), a, knownR (a.cells.take k)) := hx
 show (r10_Known_l0_run (0, a, ⟨0, 0⟩)).snd.snd = _
 rw [hr, hkn, List.take_length]
theorem r10_Known_c2 (a0 : TRow) (hp : ∀ p ∈ r10_Known_ps2 a0, p) : CallOk Try.prog 70 [valA .row a0] 0 [] 1 (r10_Known_r2 a0) 0 (r10_Known_o2 a0) := by
 have hb : wideN a0.cells.length := hp _ (List.mem_cons_self ..)
 have h := r10_Known_c a0 (r10_Known_eq a0 hb).1
 unfold r10_Known_r at h
 rw [(r10_Known_eq a0 hb).2] at h
 exact h
def r10_Known_t : List A → Nat → Objs → Option CRes
 | [y0], nx, o => match argU .row y0 with
  | some (a0, p0) => some (1, (r10_Known_r2 a0).pk (shiftR nx), nx + 0, shiftO nx (r10_Known_o2 a0) ++ o, p0 ++ (r10_Known_ps2 a0))
  | _ => none
 | _, _, _ => none
theorem r10_Known_tok : TOk Try.prog 70 r10_Known_t := fun args nx o k x nx' o' ps h => by
 unfold r10_Known_t at h
 split at h <;> first | (cases h; done) | skip
 split at h <;> first | (cases h; done) | skip
 rename_i a0 p0 e0
 cases h
 refine ⟨fun hp => ?_, _, rfl⟩
 have q0 := fun p hm => hp p (List.mem_append.2 (.inl hm))
 have r0 := fun p hm => hp p (List.mem_append.2 (.inr hm))
 refine callOk_args (callOk_shift (r10_Known_c2 a0 r0) (Nat.le_refl _) (freeL_cons (valA_free _ _) freeL_nil) nx o) fun F N R vs hl => ?_
 obtain ⟨v0, w0, rfl, h0, hl⟩ := hl.inv
 exact HL.cons (argU_ok e0 q0 h0) (hl)
noncomputable def Ck_6 := addC 70 r10_Known_t Ck_5
theorem Ck_6_ok : COk Try.prog Ck_6 := addC_ok r10_Known_tok Ck_5_ok
abbrev row_Known_l0_X : Type := (List TCell) × Int × Int × TVec
def row_Known_l0_T (x : row_Known_l0_X) : St := ⟨19, 2, [(2, .own 1 0), (6, .sl .cell x.1), (7, .v (.int .i64 x.2.1)), (8, .v (.int .i64 x.2.2.1))], [(1, some (.box 31 [.v (.int .i64 x.2.2.2.a), .v (.int .i64 x.2.2.2.b)]))]⟩
def row_Known_l0_un : St → Option row_Known_l0_X
 | ⟨19, 2, [(2, .own 1 0), (6, .sl .cell z0), (7, .v (.int .i64 z1)), (8, .v (.int .i64 z2))], [(1, some (.box 31 [.v (.int .i64 z3), .v (.int .i64 z4)]))]⟩ => some (z0, z1, z2, ⟨z3, z4⟩)
 | _ => none
theorem row_Known_l0_unok : ∀ s x, row_Known_l0_un s = some x → s = row_Known_l0_T x := fun s x h => by
 unfold row_Known_l0_un at h
 split at h
 ·cases h; rfl
 ·cases h
def row_Known_l0_S : Shape := ⟨2, 2, [2, 6, 7, 8], [], [(1, 1)], [1], [], [1]⟩
def row_Known_l0_E : Entry := ⟨[], [(1, 1)], [2, 6, 7, 8], [1]⟩
def row_Known_l0_f_3 (a0 : List TCell) (_a1 : Int) (a2 : Int) (a3 : TVec) : TVec := TVec.mk (max (max (0 : Int) a3.1) (cell_Known_0 (a0.getD a2.toNat (dflt TC.cell))).1) (max (max (0 : Int) a3.2) (cell_Known_0 (a0.getD a2.toNat (dflt TC.cell))).2)
def row_Known_l0_next (x : row_Known_l0_X) : row_Known_l0_X := (x.1, x.2.1, IntKind.i64.wrap (x.2.2.1 + (1 : Int)), row_Known_l0_f_3 x.1 x.2.1 x.2.2.1 x.2.2.2)
def row_Known_l0_goes (x : row_Known_l0_X) : Cnd := some (!!decide (x.2.2.1 < x.2.1))
def row_Known_l0_psA (x : row_Known_l0_X) : List Prop := [((!!decide (x.2.2.1 < x.2.1)) = true → (0 : Int) ≤ x.2.2.1 ∧ x.2.2.1 < (↑x.1.length : Int)), ((!!decide (x.2.2.1 < x.2.1)) = true → (0 : Int) ≤ (0 : Int) ∧ (0 : Int) < (↑(2 : Nat) : Int)), ((!!decide (x.2.2.1 < x.2.1)) = true → (0 : Nat) < (2 : Nat)), ((!!decide (x.2.2.1 < x.2.1)) = true → (0 : Int) ≤ (0 : Int) ∧ (0 : Int) < (2 : Int)), ((!!decide (x.2.2.1 < x.2.1)) = true → (0 : Nat) < (2 : Nat)), ((!!decide (x.2.2.1 < x.2.1)) = true → (0 : Int) ≤ (0 : Int) ∧ (0 : Int) < (2 : Int)), ((!!decide (x.2.2.1 < x.2.1)) = true → (0 : Nat) < (2 : Nat)), ((!!decide (x.2.2.1 < x.2.1)) = true → (0 : Int) ≤ (0 : Int) ∧ (0 : Int) < (2 : Int)), ((!!decide (x.2.2.1 < x.2.1)) = true → (0 : Nat) < (2 : Nat)), ((!!decide (x.2.2.1 < x.2.1)) = true → (0 : Int) ≤ (1 : Int) ∧ (1 : Int) < (2 : Int)), ((!!decide (x.2.2.1 < x.2.1)) = true → (1 : Nat) < (2 : Nat)), ((!!decide (x.2.2.1 < x.2.1)) = true → (0 : Int) ≤ (1 : Int) ∧ (1 : Int) < (2 : Int)), ((!!decide (x.2.2.1 < x.2.1)) = true → (1 : Nat) < (2 : Nat)), ((!!decide (x.2.2.1 < x.2.1)) = true → (0 : Int) ≤ (1 : Int) ∧ (1 : Int) < (2 : Int)), ((!!decide (x.2.2.1 < x.2.1)) = true → (1 : Nat) < (2 : Nat)), ((!!decide (x.2.2.1 < x.2.1)) = true → (0 : Int) ≤ (1 : Int) ∧ (1 : Int) < (↑(2 : Nat) : Int)), ((!!decide (x.2.2.1 < x.2.1)) = true → (1 : Nat) < (2 : Nat)), ((!!decide (x.2.2.1 < x.2.1)) = true → (0 : Int) ≤ (0 : Int) ∧ (0 : Int) < (2 : Int)), ((!!decide (x.2.2.1 < x.2.1)) = true → (0 : Nat) < (2 : Nat)), ((!!decide (x.2.2.1 < x.2.1)) = true → (0 : Int) ≤ (0 : Int) ∧ (0 : Int) < (2 : Int)), ((!!decide (x.2.2.1 < x.2.1)) = true → (0 : Nat) < (2 : Nat)), ((!!decide (x.2.2.1 < x.2.1)) = true → (0 : Int) ≤ (0 : Int) ∧ (0 : Int) < (2 : Int)), ((!!decide (x.2.2.1 < x.2.1)) = true → (0 : Nat) < (2 : Nat)), ((!!decide (x.2.2.1 < x.2.1)) = true → (0 : Int) ≤ (1 : Int) ∧ (1 : Int) < (2 : Int)), ((!!decide (x.2.2.1 < x.2.1)) = true → (1 : Nat) < (2 : Nat)), ((!!decide (x.2.2.1 < x.2.1)) = true → (0 : Int) ≤ (1 : Int) ∧ (1 : Int) < (2 : Int)), ((!!decide (x.2.2.1 < x.2.1)) = true → (1 : Nat) < (2 : Nat)), ((!!decide (x.2.2.1 < x.2.1)) = true → (0 : Int) ≤ (1 : Int) ∧ (1 : Int) < (2 : Int)), ((!!decide (x.2.2.1 < x.2.1)) = true → (1 : Nat) < (2 : Nat))]
def row_Known_l0_ps (x : row_Known_l0_X) : List Prop := [((!!decide (x.2.2.1 < x.2.1)) = true → (0 : Int) ≤ x.2.2.1 ∧ x.2.2.1 < (↑x.1.length : Int))]
def row_Known_l0_outs (x : row_Known_l0_X) : Outs := [(some 0, some (!decide (x.2.2.1 < x.2.1)), ⟨19, 2, [], [(1, some (.box 31 [.v (.int .i64 x.2.2.2.1), .v (.int .i64 x.2.2.2.2)]))]⟩)]
def row_Known_l0_fuel (x : row_Known_l0_X) : Nat := (x.2.1 - x.2.2.1).toNat
def row_Known_l0_run (x : row_Known_l0_X) : row_Known_l0_X := iterX row_Known_l0_next row_Known_l0_goes (row_Known_l0_fuel x) x
set_option maxRecDepth 100000 in
theorem row_Known_l0_ev (a0 : List TCell) (a1 : Int) (a2 : Int) (a3 : TVec) : roundE (envT Ck_6 L0) 9 (loopAt Try.prog 69 0) row_Known_l0_S (row_Known_l0_T (a0, a1, a2, a3)) = some (row_Known_l0_psA (a0, a1, a2, a3), row_Known_l0_outs (a0, a1, a2, a3), row_Known_l0_goes (a0, a1, a2, a3), row_Known_l0_T (row_Known_l0_next (a0, a1, a2, a3))) := by kernel_rfl
set_option maxRecDepth 100000 in
theorem row_Known_l0_hA (a0 : List TCell) (a1 : Int) (a2 : Int) (a3 : TVec) (hp : ∀ p ∈ row_Known_l0_ps (a0, a1, a2, a3), p) : ∀ p ∈ row_Known_l0_psA (a0, a1, a2, a3), p := by
 have n0 : ((!!decide (a2 < a1)) = true → (0 : Int) ≤ a2 ∧ a2 < (↑a0.length : Int)) := hp _ (List.mem_cons_self ..)
 have n1 : ((!!decide (a2 < a1)) = true → (0 : Int) ≤ (0 : Int) ∧ (0 : Int) < (↑(2 : Nat) : Int)) := by omega
 have n2 : ((!!decide (a2 < a1)) = true → (0 : Nat) < (2 : Nat)) := by omega
 have n3 : ((!!decide (a2 < a1)) = true → (0 : Int) ≤ (0 : Int) ∧ (0 : Int) < (2 : Int)) := by omega
 have n9 : ((!!decide (a2 < a1)) = true → (0 : Int) ≤ (1 : Int) ∧ (1 : Int) < (2 : Int)) := by omega
 have n10 : ((!!decide (a2 < a1)) = true → (1 : Nat) < (2 : Nat)) := by omega
 have n15 : ((!!decide (a2 < a1)) = true → (0 : Int) ≤ (1 : Int) ∧ (1 : Int) < (↑(2 : Nat) : Int)) := by omega
 exact (needs_cons n0 (needs_cons n1 (needs_cons n2 (needs_cons n3 (needs_cons n2 (needs_cons n3 (needs_cons n2 (needs_cons n3 (needs_cons n2 (needs_cons n9 (needs_cons n10 (needs_cons n9 (needs_cons n10 (needs_cons n9 (needs_cons n10 (needs_cons n15 (needs_cons n10 (needs_cons n3 (needs_cons n2 (needs_cons n3 (needs_cons n2 (needs_cons n3 (needs_cons n2 (needs_cons n9 (needs_cons n10 (needs_cons n9 (needs_cons n10 (needs_cons n9 (needs_cons n10 needs_nil)))))))))))))))))))))))))))))
noncomputable def row_Known_l0_row := rowL (envT Ck_6 L0) (loopAt Try.prog 69 0) row_Known_l0_S row_Known_l0_E row_Known_l0_un row_Known_l0_fuel row_Known_l0_next row_Known_l0_goes row_Known_l0_ps row_Known_l0_outs
theorem row_Known_l0_rok : ∀ s b ps outs, row_Known_l0_row s = some (b, ps, outs) → Wf s ⟨ps, outs, none⟩ ∧ LoopOk (envT C0 L0) b s ps outs :=
 rowP_ok (T := row_Known_l0_T) Ck_6_ok L0_ok (u := 9) (by kernel_rfl) (by decide) (fun ⟨a0, a1, a2, a3⟩ => row_Known_l0_ev a0 a1 a2 a3) (fun ⟨a0, a1, a2, a3⟩ => row_Known_l0_hA a0 a1 a2 a3) row_Known_l0_unok (fun _ => okOuts_ok (n := 19) rfl) fun _ _ => rfl
noncomputable def row_Known_l0_L := addLp 0 row_Known_l0_row L0
theorem row_Known_l0_Lok : LpOk row_Known_l0_L := addLp_ok row_Known_l0_rok L0_ok
def row_Known_0 (a0 : TRow) : TVec := (row_Known_l0_run (a0.2, (↑a0.2.length : Int), (0 : Int), TVec.mk (0 : Int) (0 : Int))).snd.snd.snd
def row_Known_r (a0 : TRow) : A := .v (.agg ⟨[.int .i64 ((row_Known_0 a0).a), .int .i64 ((row_Known_0 a0).b)]⟩)
def row_Known_o (_a0 : TRow) : Objs := []
def row_Known_ps (a0 : TRow) : List Prop := [(needX row_Known_l0_next row_Known_l0_goes row_Known_l0_ps (row_Known_l0_fuel (a0.2, (↑a0.2.length : Int), (0 : Int), TVec.mk (0 : Int) (0 : Int))) (a0.2, (↑a0.2.length : Int), (0 : Int), TVec.mk (0 : Int) (0 : Int)))]
set_option maxRecDepth 100000 in
theorem row_Known_ev (a0 : TRow) : evF (envT Ck_6 row_Known_l0_L) 9 69 [valA .row a0] 0 [] = some (1, row_Known_r a0, 0, row_Known_o a0, [(loopAt Try.prog (69 : FuncId) (0 : Nat) = loopAt Try.prog (69 : FuncId) (0 : Nat)), (needX row_Known_l0_next row_Known_l0_goes row_Known_l0_ps (row_Known_l0_fuel (a0.2, (↑a0.2.length : Int), (0 : Int), TVec.mk (0 : Int) (0 : Int))) (a0.2, (↑a0.2.length : Int), (0 : Int), TVec.mk (0 : Int) (0 : Int)))]) := by kernel_rfl
set_option maxRecDepth 100000 in
theorem row_Known_c (a0 : TRow) (hp : ∀ p ∈ row_Known_ps a0, p) : CallOk Try.prog 69 [valA .row a0] 0 [] 1 (row_Known_r a0) 0 (row_Known_o a0) := by
 have n1 : (needX row_Known_l0_next row_Known_l0_goes row_Known_l0_ps (row_Known_l0_fuel (a0.2, (↑a0.2.length : Int), (0 : Int), TVec.mk (0 : Int) (0 : Int))) (a0.2, (↑a0.2.length : Int), (0 : Int), TVec.mk (0 : Int) (0 : Int))) := hp _ (List.mem_cons_self ..)
 exact evF_ok (envP_ok Ck_6_ok row_Known_l0_Lok) (row_Known_ev a0) (needs_cons rfl (needs_cons n1 needs_nil))
def row_Known_r2 (a0 : TRow) : A := .v (.agg ⟨[.int .i64 (knownR a0.cells).a, .int .i64 (knownR a0.cells).b]⟩)
def row_Known_o2 (_a0 : TRow) : Objs := []
def row_Known_ps2 (a0 : TRow) : List Prop := [wideN a0.cells.length]
theorem row_Known_eq (a : TRow) (hb : wideN a.cells.length) : (∀ p ∈ row_Known_ps a, p) ∧ row_Known_0 a = knownR a.cells := by
 unfold wideN at hb
 obtain ⟨h1, k, hk, hx, _, hst, _⟩ := scanB (fun i => ((a.2, (a.2.length : Int), (i : Int), knownR (a.cells.take i)) : row_Known_l0_X)) a.cells.length (fun _ => false) row_Known_l0_next row_Known_l0_goes row_Known_l0_ps (row_Known_l0_fuel (a.2, (a.2.length : Int), 0, ⟨0, 0⟩)) (a.2, (a.2.length : Int), 0, ⟨0, 0⟩) rfl (by show a.cells.length ≤ ((a.cells.length : Int) - 0).toNat; omega)
  (fun i _ _ => by
   show (!!decide ((i : Int) < (a.cells.length : Int))) = _
   rw [nn, dlt, Bool.not_false, Bool.and_true])
  (fun i hi _ => by
   show (a.2, (a.2.length : Int), IntKind.i64.wrap ((i : Int) + 1), vmax (knownR (a.cells.take i)) (knownC (a.cells.getD ((i : Int)).toNat (dflt TC.cell)))) = (a.2, (a.2.length : Int), ((i + 1 : Nat) : Int), knownR (a.cells.take (i + 1)))
   rw [wsucc (by omega), Int.toNat_natCast, knownR_succ _ _ hi])
  (fun i _ _ => needs_cons (fun h => ⟨by show (0 : Int) ≤ (i : Int); omega, by
   have h' : (!!decide ((i : Int) < (a.cells.length : Int))) = true := h
   rw [nn] at h'; exact of_decide_eq_true h'⟩) needs_nil)
 refine ⟨needs_cons h1 needs_nil, ?_⟩
 have hkn : k = a.cells.length := by
  rcases Nat.lt_or_ge k a.cells.length with h | h
  ·exact absurd (hst h) (by decide)
  ·omega
 have hr : row_Known_l0_run (a.2, (a.2.length : Int), 0, ⟨0, 0⟩) = (a.2, (a.2.length : Int), (k : Int), knownR (a.cells.take k)) := hx
 show (row_Known_l0_run (a.2, (a.2.length : Int), 0, ⟨0, 0⟩)).snd.snd.snd = _
 rw [hr, hkn, List.take_length]
theorem row_Known_c2 (a0 : TRow) (hp : ∀ p ∈ row_Known_ps2 a0, p) : CallOk Try.prog 69 [valA .row a0] 0 [] 1 (row_Known_r2 a0) 0 (row_Known_o2 a0) := by
 have hb : wideN a0.cells.length := hp _ (List.mem_cons_self ..)
 have h := row_Known_c a0 (row_Known_eq a0 hb).1
 unfold row_Known_r at h
 rw [(row_Known_eq a0 hb).2] at h
 exact h
def row_Known_t : List A → Nat → Objs → Option CRes
 | [y0], nx, o => match argU .row y0 with
  | some (a0, p0) => some (1, (row_Known_r2 a0).pk (shiftR nx), nx + 0, shiftO nx (row_Known_o2 a0) ++ o, p0 ++ (row_Known_ps2 a0))
  | _ => none
 | _, _, _ => none
theorem row_Known_tok : TOk Try.prog 69 row_Known_t := fun args nx o k x nx' o' ps h => by
 unfold row_Known_t at h
 split at h <;> first | (cases h; done) | skip
 split at h <;> first | (cases h; done) | skip
 rename_i a0 p0 e0
 cases h
 refine ⟨fun hp => ?_, _, rfl⟩
 have q0 := fun p hm => hp p (List.mem_append.2 (.inl hm))
 have r0 := fun p hm => hp p (List.mem_append.2 (.inr hm))
 refine callOk_args (callOk_shift (row_Known_c2 a0 r0) (Nat.le_refl _) (freeL_cons (valA_free _ _) freeL_nil) nx o) fun F N R vs hl => ?_
 obtain ⟨v0, w0, rfl, h0, hl⟩ := hl.inv
 exact HL.cons (argU_ok e0 q0 h0) (hl)
noncomputable def Ck_7 := addC 69 row_Known_t Ck_6
theorem Ck_7_ok : COk Try.prog Ck_7 := addC_ok row_Known_tok Ck_6_ok
abbrev r10_Empty_l0_X : Type := (List TGroup) × Int × ByteArray × (List TCell)
def r10_Empty_l0_T (x : r10_Empty_l0_X) : St := ⟨22, 4, [(0, .sl .group x.1), (5, .own 1 0), (6, .v (.int .i64 x.2.1))], [(1, some (.box 71 [.v (.string x.2.2.1), .sq 3])), (3, some (.arr 55 8 (.ty .cell x.2.2.2)))]⟩
def r10_Empty_l0_un : St → Option r10_Empty_l0_X
 | ⟨22, 4, [(0, .sl .group z0), (5, .own 1 0), (6, .v (.int .i64 z1))], [(1, some (.box 71 [.v (.string z2), .sq 3])), (3, some (.arr 55 8 (.ty .cell z3)))]⟩ => some (z0, z1, z2, z3)
 | _ => none
theorem r10_Empty_l0_unok : ∀ s x, r10_Empty_l0_un s = some x → s = r10_Empty_l0_T x := fun s x h => by
 unfold r10_Empty_l0_un at h
 split at h
 ·cases h; rfl
 ·cases h
def r10_Empty_l0_S : Shape := ⟨3, 4, [0, 5, 6], [], [(1, 1), (5, 3)], [1, 5], [], [1, 3]⟩
def r10_Empty_l0_E : Entry := ⟨[.nilB 1 1 55 .cell], [(1, 1), (2, 3)], [0, 5, 6], [1, 2]⟩
def r10_Empty_l0_f_k0 (a0 : List TGroup) (a1 : Int) (_a2 : ByteArray) (_a3 : List TCell) : Bool := !!decide (a1 < (↑a0.length : Int))
def r10_Empty_l0_f_3 (_a0 : List TGroup) (_a1 : Int) (_a2 : ByteArray) (a3 : List TCell) : List TCell := a3 ++ [TCell.mk (TStamp.mk (0 : Int) (0 : Int)) (TVec.mk (0 : Int) (0 : Int)) false (ByteArray.mk #[]) (TVec.mk (0 : Int) (0 : Int))]
def r10_Empty_l0_next (x : r10_Empty_l0_X) : r10_Empty_l0_X := (x.1, IntKind.i64.wrap (x.2.1 + (1 : Int)), x.2.2.1, r10_Empty_l0_f_3 x.1 x.2.1 x.2.2.1 x.2.2.2)
def r10_Empty_l0_goes (x : r10_Empty_l0_X) : Cnd := some ((r10_Empty_l0_f_k0 x.1 x.2.1 x.2.2.1 x.2.2.2))
def r10_Empty_l0_psA (x : r10_Empty_l0_X) : List Prop := [((r10_Empty_l0_f_k0 x.1 x.2.1 x.2.2.1 x.2.2.2) = true → boundP (x.2.2.2.length + (1 : Nat)))]
def r10_Empty_l0_ps (x : r10_Empty_l0_X) : List Prop := [((r10_Empty_l0_f_k0 x.1 x.2.1 x.2.2.1 x.2.2.2) = true → boundP (x.2.2.2.length + (1 : Nat)))]
def r10_Empty_l0_outs (x : r10_Empty_l0_X) : Outs := [(some 0, some (!decide (x.2.1 < (↑x.1.length : Int))), ⟨22, 4, [], [(1, some (.box 71 [.v (.string x.2.2.1), .sq 3])), (3, some (.arr 55 8 (.ty .cell x.2.2.2)))]⟩)]
def r10_Empty_l0_fuel (x : r10_Empty_l0_X) : Nat := ((↑x.1.length : Int) - x.2.1).toNat
def r10_Empty_l0_run (x : r10_Empty_l0_X) : r10_Empty_l0_X := iterX r10_Empty_l0_next r10_Empty_l0_goes (r10_Empty_l0_fuel x) x
set_option maxRecDepth 100000 in
theorem r10_Empty_l0_ev (a0 : List TGroup) (a1 : Int) (a2 : ByteArray) (a3 : List TCell) : roundE (envT Ck_7 L0) 9 (loopAt Try.prog 130 0) r10_Empty_l0_S (r10_Empty_l0_T (a0, a1, a2, a3)) = some (r10_Empty_l0_psA (a0, a1, a2, a3), r10_Empty_l0_outs (a0, a1, a2, a3), r10_Empty_l0_goes (a0, a1, a2, a3), r10_Empty_l0_T (r10_Empty_l0_next (a0, a1, a2, a3))) := by kernel_rfl
set_option maxRecDepth 100000 in
theorem r10_Empty_l0_hA (a0 : List TGroup) (a1 : Int) (a2 : ByteArray) (a3 : List TCell) (hp : ∀ p ∈ r10_Empty_l0_ps (a0, a1, a2, a3), p) : ∀ p ∈ r10_Empty_l0_psA (a0, a1, a2, a3), p := by
 have n0 : ((r10_Empty_l0_f_k0 a0 a1 a2 a3) = true → boundP (a3.length + (1 : Nat))) := hp _ (List.mem_cons_self ..)
 exact (needs_cons n0 needs_nil)
noncomputable def r10_Empty_l0_row := rowL (envT Ck_7 L0) (loopAt Try.prog 130 0) r10_Empty_l0_S r10_Empty_l0_E r10_Empty_l0_un r10_Empty_l0_fuel r10_Empty_l0_next r10_Empty_l0_goes r10_Empty_l0_ps r10_Empty_l0_outs
theorem r10_Empty_l0_rok : ∀ s b ps outs, r10_Empty_l0_row s = some (b, ps, outs) → Wf s ⟨ps, outs, none⟩ ∧ LoopOk (envT C0 L0) b s ps outs :=
 rowP_ok (T := r10_Empty_l0_T) Ck_7_ok L0_ok (u := 9) (by kernel_rfl) (by decide) (fun ⟨a0, a1, a2, a3⟩ => r10_Empty_l0_ev a0 a1 a2 a3) (fun ⟨a0, a1, a2, a3⟩ => r10_Empty_l0_hA a0 a1 a2 a3) r10_Empty_l0_unok (fun _ => okOuts_ok (n := 22) rfl) fun _ _ => rfl
noncomputable def r10_Empty_l0_L := addLp 0 r10_Empty_l0_row L0
theorem r10_Empty_l0_Lok : LpOk r10_Empty_l0_L := addLp_ok r10_Empty_l0_rok L0_ok
def r10_Empty_0 (a0 : List TGroup) (a1 : ByteArray) : ByteArray := (r10_Empty_l0_run (a0, (0 : Int), a1, [])).snd.snd.fst
def r10_Empty_1 (a0 : List TGroup) (a1 : ByteArray) : List TCell := (r10_Empty_l0_run (a0, (0 : Int), a1, [])).snd.snd.snd
def r10_Empty_r (a0 : List TGroup) (a1 : ByteArray) : A := .agg [.v (.string (r10_Empty_0 a0 a1)), .sq 0]
def r10_Empty_o (a0 : List TGroup) (a1 : ByteArray) : Objs := [(0, some (.arr 55 8 (.ty .cell (r10_Empty_1 a0 a1))))]
def r10_Empty_ps (a0 : List TGroup) (a1 : ByteArray) : List Prop := [(needX r10_Empty_l0_next r10_Empty_l0_goes r10_Empty_l0_ps (r10_Empty_l0_fuel (a0, (0 : Int), a1, [])) (a0, (0 : Int), a1, []))]
set_option maxRecDepth 100000 in
theorem r10_Empty_ev (a0 : List TGroup) (a1 : ByteArray) : evF (envT Ck_7 r10_Empty_l0_L) 9 130 [.sl .group a0, valA .str a1] 0 [] = some (1, r10_Empty_r a0 a1, 1, r10_Empty_o a0 a1, [(loopAt Try.prog (130 : FuncId) (0 : Nat) = loopAt Try.prog (130 : FuncId) (0 : Nat)), (needX r10_Empty_l0_next r10_Empty_l0_goes r10_Empty_l0_ps (r10_Empty_l0_fuel (a0, (0 : Int), a1, [])) (a0, (0 : Int), a1, []))]) := by kernel_rfl
set_option maxRecDepth 100000 in
theorem r10_Empty_c (a0 : List TGroup) (a1 : ByteArray) (hp : ∀ p ∈ r10_Empty_ps a0 a1, p) : CallOk Try.prog 130 [.sl .group a0, valA .str a1] 0 [] 1 (r10_Empty_r a0 a1) 1 (r10_Empty_o a0 a1) := by
 have n1 : (needX r10_Empty_l0_next r10_Empty_l0_goes r10_Empty_l0_ps (r10_Empty_l0_fuel (a0, (0 : Int), a1, [])) (a0, (0 : Int), a1, [])) := hp _ (List.mem_cons_self ..)
 exact evF_ok (envP_ok Ck_7_ok r10_Empty_l0_Lok) (r10_Empty_ev a0 a1) (needs_cons rfl (needs_cons n1 needs_nil))
def r10_Empty_r2 (_a0 : List TGroup) (a1 : ByteArray) : A := .agg [.v (.string a1), .sq 0]
def r10_Empty_o2 (a0 : List TGroup) (_a1 : ByteArray) : Objs := [(0, some (.arr 55 8 (.ty .cell (List.replicate a0.length zeroC))))]
def r10_Empty_ps2 (a0 : List TGroup) (_a1 : ByteArray) : List Prop := [boundP a0.length]
theorem r10_Empty_eq (l : List TGroup) (k : ByteArray) (hb : boundP l.length) : (∀ p ∈ r10_Empty_ps l k, p) ∧ r10_Empty_0 l k = k ∧ r10_Empty_1 l k = List.replicate l.length zeroC := by
 unfold boundP at hb
 obtain ⟨h1, n, hn, hx, _, hst, _⟩ := scanB (fun i => ((l, (i : Int), k, List.replicate i zeroC) : r10_Empty_l0_X)) l.length (fun _ => false) r10_Empty_l0_next r10_Empty_l0_goes r10_Empty_l0_ps (r10_Empty_l0_fuel (l, 0, k, [])) (l, 0, k, []) rfl (by show l.length ≤ ((l.length : Int) - 0).toNat; omega)
  (fun i _ _ => by
   show (!!decide ((i : Int) < (l.length : Int))) = _
   rw [nn, dlt, Bool.not_false, Bool.and_true])
  (fun i hi _ => by
   show (l, IntKind.i64.wrap ((i : Int) + 1), k, List.replicate i zeroC ++ [zeroC]) = (l, ((i + 1 : Nat) : Int), k, List.replicate (i + 1) zeroC)
   rw [wsucc (by omega), List.replicate_succ'])
  (fun i hi _ => needs_cons (fun h => by
   have h' : (!!decide ((i : Int) < (l.length : Int))) = true := h
   rw [nn] at h'
   have := of_decide_eq_true h'
   show boundP ((List.replicate i zeroC).length + 1)
   rw [List.length_replicate]; unfold boundP; omega) needs_nil)
 have hkn : n = l.length := by
  rcases Nat.lt_or_ge n l.length with h | h
  ·exact absurd (hst h) (by decide)
  ·omega
 have hr : r10_Empty_l0_run (l, 0, k, []) = (l, (n : Int), k, List.replicate n zeroC) := hx
 refine ⟨needs_cons h1 needs_nil, ?_, ?_⟩
 ·show (r10_Empty_l0_run (l, 0, k, [])).snd.snd.fst = _
  rw [hr]
 ·show (r10_Empty_l0_run (l, 0, k, [])).snd.snd.snd = _
  rw [hr, hkn]
theorem r10_Empty_c2 (a0 : List TGroup) (a1 : ByteArray) (hp : ∀ p ∈ r10_Empty_ps2 a0 a1, p) : CallOk Try.prog 130 [.sl .group a0, valA .str a1] 0 [] 1 (r10_Empty_r2 a0 a1) 1 (r10_Empty_o2 a0 a1) := by
 have hb : boundP a0.length := hp _ (List.mem_cons_self ..)
 obtain ⟨e1, e2, e3⟩ := r10_Empty_eq a0 a1 hb
 have h := r10_Empty_c a0 a1 e1
 unfold r10_Empty_r r10_Empty_o at h
 rw [e2, e3] at h
 exact h
def r10_Empty_t : List A → Nat → Objs → Option CRes
 | [y0, y1], nx, o => match argL .group y0, argU .str y1 with
  | some a0, some (a1, p1) => some (1, (r10_Empty_r2 a0 a1).pk (shiftR nx), nx + 1, shiftO nx (r10_Empty_o2 a0 a1) ++ o, p1 ++ (r10_Empty_ps2 a0 a1))
  | _, _ => none
 | _, _, _ => none
theorem r10_Empty_tok : TOk Try.prog 130 r10_Empty_t := fun args nx o k x nx' o' ps h => by
 unfold r10_Empty_t at h
 split at h <;> first | (cases h; done) | skip
 split at h <;> first | (cases h; done) | skip
 rename_i a0 a1 p1 e0 e1
 cases h
 refine ⟨fun hp => ?_, _, rfl⟩
 have q1 := fun p hm => hp p (List.mem_append.2 (.inl hm))
 have r1 := fun p hm => hp p (List.mem_append.2 (.inr hm))
 refine callOk_args (callOk_shift (r10_Empty_c2 a0 a1 r1) (Nat.le_refl _) (freeL_cons rfl (freeL_cons (valA_free _ _) freeL_nil)) nx o) fun F N R vs hl => ?_
 obtain ⟨v0, w0, rfl, h0, hl⟩ := hl.inv
 obtain ⟨v1, w1, rfl, h1, hl⟩ := hl.inv
 exact HL.cons (argL_ok e0 h0) (HL.cons (argU_ok e1 q1 h1) (hl))
noncomputable def Ck_8 := addC 130 r10_Empty_t Ck_7
theorem Ck_8_ok : COk Try.prog Ck_8 := addC_ok r10_Empty_tok Ck_7_ok
def r10_New_k1 (_a0 : List TGroup) (a1 : ByteArray) : Bool := keyE a1 != (0 : Int)
def r10_New_k0 (a0 : List TGroup) (_a1 : ByteArray) : Bool := goodP a0 != (0 : Int)
def r10_New_0 (a0 : List TGroup) (a1 : ByteArray) : ByteArray := bif (r10_New_k0 a0 a1) then ByteArray.mk #[] else bif (r10_New_k1 a0 a1) then ByteArray.mk #[] else a1
def r10_New_1 (a0 : List TGroup) (a1 : ByteArray) : Int := bif (r10_New_k0 a0 a1) then goodP a0 else bif (r10_New_k1 a0 a1) then keyE a1 else (0 : Int)
def r10_New_2 (a0 : List TGroup) (a1 : ByteArray) : List TCell := bif (r10_New_k0 a0 a1) then [] else bif (r10_New_k1 a0 a1) then [] else List.replicate a0.length zeroC
def r10_New_r (a0 : List TGroup) (a1 : ByteArray) : A := .tup [.agg [.v (.string (r10_New_0 a0 a1)), .sq 0], .v (.int .i64 (r10_New_1 a0 a1))]
def r10_New_o (a0 : List TGroup) (a1 : ByteArray) : Objs := [(0, some (.arr 55 8 (.ty .cell (r10_New_2 a0 a1))))]
def r10_New_ps (a0 : List TGroup) (a1 : ByteArray) : List Prop := [(∀ (g : TGroup), g ∈ a0 → wideN g.1.size), ((!(r10_New_k0 a0 a1)) = true → (!(r10_New_k1 a0 a1)) = true → boundP a0.length)]
set_option maxRecDepth 100000 in
theorem r10_New_ev (a0 : List TGroup) (a1 : ByteArray) : evF (envT Ck_8 L0) 9 63 [.sl .group a0, valA .str a1] 0 [] = some (1, r10_New_r a0 a1, 1, r10_New_o a0 a1, [(∀ (g : TGroup), g ∈ a0 → wideN g.1.size), ((!(r10_New_k0 a0 a1)) = true → (!(r10_New_k1 a0 a1)) = true → boundP a0.length)]) := by kernel_rfl
set_option maxRecDepth 100000 in
theorem r10_New_c (a0 : List TGroup) (a1 : ByteArray) (hp : ∀ p ∈ r10_New_ps a0 a1, p) : CallOk Try.prog 63 [.sl .group a0, valA .str a1] 0 [] 1 (r10_New_r a0 a1) 1 (r10_New_o a0 a1) := by
 have n0 : (∀ (g : TGroup), g ∈ a0 → wideN g.1.size) := hp _ (List.mem_cons_self ..)
 have n1 : ((!(r10_New_k0 a0 a1)) = true → (!(r10_New_k1 a0 a1)) = true → boundP a0.length) := hp _ (List.mem_cons_of_mem _ (List.mem_cons_self ..))
 exact evF_ok (envP_ok Ck_8_ok L0_ok) (r10_New_ev a0 a1) (needs_cons n0 (needs_cons n1 needs_nil))
def r10_New_r2 (a0 : List TGroup) (a1 : ByteArray) : A := .tup [.agg [.v (.string (newR a0 a1).key), .sq 0], .v (.int .i64 (newE a0 a1))]
def r10_New_o2 (a0 : List TGroup) (a1 : ByteArray) : Objs := [(0, some (.arr 55 8 (.ty .cell (newR a0 a1).cells)))]
def r10_New_ps2 (a0 : List TGroup) (_a1 : ByteArray) : List Prop := [∀ g ∈ a0, wideN g.name.size]
theorem r10_New_c2 (a0 : List TGroup) (a1 : ByteArray) (hp : ∀ p ∈ r10_New_ps2 a0 a1, p) : CallOk Try.prog 63 [.sl .group a0, valA .str a1] 0 [] 1 (r10_New_r2 a0 a1) 1 (r10_New_o2 a0 a1) := by
 have hb : ∀ g ∈ a0, wideN g.name.size := hp _ (List.mem_cons_self ..)
 have h := r10_New_c a0 a1 (needs_cons hb (needs_cons (fun h1 _ => by
  have h1' : goodP a0 = 0 := by
   have : (!(goodP a0 != 0)) = true := h1
   simpa using this
  have := (goodP_0 h1').2
  unfold boundP; omega) needs_nil))
 have e1 : r10_New_1 a0 a1 = newE a0 a1 := by
  unfold r10_New_1 r10_New_k0 r10_New_k1 newE
  cases goodP a0 != 0 with
  | true => rfl
  | false =>
   rw [cond_false, cond_false]
   cases hk : keyE a1 != 0 with
   | true => rfl
   | false => rw [cond_false]; exact (by simpa using hk : keyE a1 = 0).symm
 have e0 : r10_New_0 a0 a1 = (newR a0 a1).key := by
  unfold r10_New_0 r10_New_k0 r10_New_k1 newR newE
  cases hg : goodP a0 != 0 with
  | true => simp only [cond_true, hg]
  | false => rw [cond_false, cond_false]
 have e2 : r10_New_2 a0 a1 = (newR a0 a1).cells := by
  unfold r10_New_2 r10_New_k0 r10_New_k1 newR newE
  cases hg : goodP a0 != 0 with
  | true => simp only [cond_true, hg]
  | false => rw [cond_false, cond_false]
 unfold r10_New_r r10_New_o at h
 rw [e0, e1, e2] at h
 exact h
def r10_New_t : List A → Nat → Objs → Option CRes
 | [y0, y1], nx, o => match argL .group y0, argU .str y1 with
  | some a0, some (a1, p1) => some (1, (r10_New_r2 a0 a1).pk (shiftR nx), nx + 1, shiftO nx (r10_New_o2 a0 a1) ++ o, p1 ++ (r10_New_ps2 a0 a1))
  | _, _ => none
 | _, _, _ => none
theorem r10_New_tok : TOk Try.prog 63 r10_New_t := fun args nx o k x nx' o' ps h => by
 unfold r10_New_t at h
 split at h <;> first | (cases h; done) | skip
 split at h <;> first | (cases h; done) | skip
 rename_i a0 a1 p1 e0 e1
 cases h
 refine ⟨fun hp => ?_, _, rfl⟩
 have q1 := fun p hm => hp p (List.mem_append.2 (.inl hm))
 have r1 := fun p hm => hp p (List.mem_append.2 (.inr hm))
 refine callOk_args (callOk_shift (r10_New_c2 a0 a1 r1) (Nat.le_refl _) (freeL_cons rfl (freeL_cons (valA_free _ _) freeL_nil)) nx o) fun F N R vs hl => ?_
 obtain ⟨v0, w0, rfl, h0, hl⟩ := hl.inv
 obtain ⟨v1, w1, rfl, h1, hl⟩ := hl.inv
 exact HL.cons (argL_ok e0 h0) (HL.cons (argU_ok e1 q1 h1) (hl))
noncomputable def Ck_9 := addC 63 r10_New_t Ck_8
theorem Ck_9_ok : COk Try.prog Ck_9 := addC_ok r10_New_tok Ck_8_ok
def row_New_k1 (a0 : List TGroup) (_a1 : ByteArray) : List TCell := List.replicate (↑a0.length : Int).toNat (dflt TC.cell)
def row_New_k0 (a0 : List TGroup) (a1 : ByteArray) : Bool := goodRow a0 (TRow.mk a1 (row_New_k1 a0 a1)) != (0 : Int)
def row_New_0 (a0 : List TGroup) (a1 : ByteArray) : TRow := TRow.mk (bif (row_New_k0 a0 a1) then ByteArray.mk #[] else a1) (bif (row_New_k0 a0 a1) then [] else (row_New_k1 a0 a1))
def row_New_1 (a0 : List TGroup) (a1 : ByteArray) : Int := bif (row_New_k0 a0 a1) then goodRow a0 (TRow.mk a1 (row_New_k1 a0 a1)) else (0 : Int)
def row_New_r (a0 : List TGroup) (a1 : ByteArray) : A := .tup [.agg [.v (.string ((row_New_0 a0 a1).key)), .sl .cell ((row_New_0 a0 a1).cells)], .v (.int .i64 (row_New_1 a0 a1))]
def row_New_o (_a0 : List TGroup) (_a1 : ByteArray) : Objs := []
def row_New_ps (a0 : List TGroup) (_a1 : ByteArray) : List Prop := [((0 : Int) ≤ (↑a0.length : Int) ∧ (↑a0.length : Int) ≤ (↑a0.length : Int) ∧ (↑a0.length : Int) ≤ (549755813888 : Int))]
set_option maxRecDepth 100000 in
theorem row_New_ev (a0 : List TGroup) (a1 : ByteArray) : evF (envT Ck_9 L0) 9 62 [.sl .group a0, valA .str a1] 0 [] = some (1, row_New_r a0 a1, 0, row_New_o a0 a1, [((0 : Int) ≤ (↑a0.length : Int) ∧ (↑a0.length : Int) ≤ (↑a0.length : Int) ∧ (↑a0.length : Int) ≤ (549755813888 : Int))]) := by kernel_rfl
set_option maxRecDepth 100000 in
theorem row_New_c (a0 : List TGroup) (a1 : ByteArray) (hp : ∀ p ∈ row_New_ps a0 a1, p) : CallOk Try.prog 62 [.sl .group a0, valA .str a1] 0 [] 1 (row_New_r a0 a1) 0 (row_New_o a0 a1) := by
 have n0 : ((0 : Int) ≤ (↑a0.length : Int) ∧ (↑a0.length : Int) ≤ (↑a0.length : Int) ∧ (↑a0.length : Int) ≤ (549755813888 : Int)) := hp _ (List.mem_cons_self ..)
 exact evF_ok (envP_ok Ck_9_ok L0_ok) (row_New_ev a0 a1) (needs_cons n0 needs_nil)
def row_New_r2 (a0 : List TGroup) (a1 : ByteArray) : A := .tup [.agg [.v (.string (newR a0 a1).key), .sl .cell (newR a0 a1).cells], .v (.int .i64 (newE a0 a1))]
def row_New_o2 (_a0 : List TGroup) (_a1 : ByteArray) : Objs := []
def row_New_ps2 (a0 : List TGroup) (_a1 : ByteArray) : List Prop := [boundP a0.length]
theorem goodPs_pol : ∀ (l : List TGroup) (seen : List ByteArray), goodPs seen l = 0 → ∀ g ∈ l, polB g.policy = true
 | [], _, _, g, hg => by cases hg
 | x :: r, seen, h, g, hg => by
  unfold goodPs at h
  cases h1 : (nameB x.name && polB x.policy) with
  | false => rw [h1] at h; cases h
  | true =>
   rw [h1] at h
   cases h2 : seen.any (fun s => s == x.name) with
   | true => rw [h2] at h; cases h
   | false =>
    rw [h2] at h
    rcases List.mem_cons.1 hg with rfl | hg
    ·exact (Bool.and_eq_true_iff.1 h1).2
    ·exact goodPs_pol r _ h g hg
theorem goodP_pol {l : List TGroup} (h : goodP l = 0) : ∀ g ∈ l, polB g.policy = true := by
 have h4 := goodP_0 h
 unfold goodP at h
 rw [show (l.length == 0) = false by simpa using (by omega : l.length ≠ 0), decide_eq_false (show ¬ 4 < l.length by omega)] at h
 exact goodPs_pol l [] h
theorem goodC_zero {p : Int} (h : polB p = true) : goodC p zeroC = true := by
 unfold polB at h
 rcases (by simpa using h : p = 1 ∨ p = 2) with rfl | rfl <;> rfl
theorem goodRow_new (l : List TGroup) (k : ByteArray) : goodRow l ⟨k, List.replicate l.length zeroC⟩ = newE l k := by
 unfold goodRow newE keyE
 cases h : goodP l != 0 with
 | true => rfl
 | false =>
  rw [cond_false, cond_false]
  cases k.size == 0 with
  | true => rfl
  | false =>
   rw [cond_false, cond_false]
   cases decide (32 < k.size) with
   | true => rfl
   | false =>
    rw [cond_false, cond_false]
    have hl : ((TRow.mk k (List.replicate l.length zeroC)).cells.length != l.length) = false := by simp
    rw [hl, cond_false]
    have ha : (l.zip (TRow.mk k (List.replicate l.length zeroC)).cells).all (fun x => goodC x.1.policy x.2) = true := by
     rw [List.all_eq_true]
     rintro ⟨g, c⟩ hx
     have h1 := List.of_mem_zip hx
     have h2 : c = zeroC := List.eq_of_mem_replicate h1.2
     subst h2
     exact goodC_zero (goodP_pol (by simpa using h) g h1.1)
    rw [ha]
    rfl
theorem row_New_c2 (a0 : List TGroup) (a1 : ByteArray) (hp : ∀ p ∈ row_New_ps2 a0 a1, p) : CallOk Try.prog 62 [.sl .group a0, valA .str a1] 0 [] 1 (row_New_r2 a0 a1) 0 (row_New_o2 a0 a1) := by
 have hb : boundP a0.length := hp _ (List.mem_cons_self ..)
 unfold boundP at hb
 have h := row_New_c a0 a1 (needs_cons ⟨by omega, Int.le_refl _, by omega⟩ needs_nil)
 have ek : row_New_k1 a0 a1 = List.replicate a0.length zeroC := by unfold row_New_k1; rw [Int.toNat_natCast]; rfl
 have e1 : row_New_1 a0 a1 = newE a0 a1 := by
  unfold row_New_1 row_New_k0
  rw [ek, goodRow_new]
  cases hk : newE a0 a1 != 0 with
  | true => rfl
  | false => rw [cond_false]; exact (by simpa using hk : newE a0 a1 = 0).symm
 have e0 : row_New_0 a0 a1 = newR a0 a1 := by
  unfold row_New_0 row_New_k0 newR
  rw [ek, goodRow_new]
 unfold row_New_r at h
 rw [e0, e1] at h
 exact h
def row_New_t : List A → Nat → Objs → Option CRes
 | [y0, y1], nx, o => match argL .group y0, argU .str y1 with
  | some a0, some (a1, p1) => some (1, (row_New_r2 a0 a1).pk (shiftR nx), nx + 0, shiftO nx (row_New_o2 a0 a1) ++ o, p1 ++ (row_New_ps2 a0 a1))
  | _, _ => none
 | _, _, _ => none
theorem row_New_tok : TOk Try.prog 62 row_New_t := fun args nx o k x nx' o' ps h => by
 unfold row_New_t at h
 split at h <;> first | (cases h; done) | skip
 split at h <;> first | (cases h; done) | skip
 rename_i a0 a1 p1 e0 e1
 cases h
 refine ⟨fun hp => ?_, _, rfl⟩
 have q1 := fun p hm => hp p (List.mem_append.2 (.inl hm))
 have r1 := fun p hm => hp p (List.mem_append.2 (.inr hm))
 refine callOk_args (callOk_shift (row_New_c2 a0 a1 r1) (Nat.le_refl _) (freeL_cons rfl (freeL_cons (valA_free _ _) freeL_nil)) nx o) fun F N R vs hl => ?_
 obtain ⟨v0, w0, rfl, h0, hl⟩ := hl.inv
 obtain ⟨v1, w1, rfl, h1, hl⟩ := hl.inv
 exact HL.cons (argL_ok e0 h0) (HL.cons (argU_ok e1 q1 h1) (hl))
noncomputable def Ck_10 := addC 62 row_New_t Ck_9
theorem Ck_10_ok : COk Try.prog Ck_10 := addC_ok row_New_tok Ck_9_ok
noncomputable def Ck := Ck_10
theorem Ck_ok : COk Try.prog Ck := Ck_10_ok
end Go.Proofs.Yteebobbhhgmeiaa
namespace Go.Proofs.Yteebobbhhgmeiaa
open Go.RowKit
def covV (a b : TVec) : Bool := decide (b.a ≤ a.a) && decide (b.b ≤ a.b)
def seenB (p : Int) (c : TCell) : Bool := goodC p c && written c && !c.gone && covV c.vec c.dead
def seenT (p : Int) (c : TCell) : ByteArray := bif seenB p c then c.value else ⟨#[]⟩
def fieldsN (l : List TGroup) (cs : List TCell) : Nat → List TField
 | 0 => []
 | i + 1 => bif seenB (l.getD i (dflt TC.group)).policy (cs.getD i (dflt TC.cell)) then fieldsN l cs i ++ [⟨(i : Int), seenT (l.getD i (dflt TC.group)).policy (cs.getD i (dflt TC.cell))⟩] else fieldsN l cs i
def viewB (l : List TGroup) (r : TRow) : Bool := goodRow l r == 0 && !((fieldsN l r.cells l.length).length == 0)
def viewK (l : List TGroup) (r : TRow) : ByteArray := bif viewB l r then r.key else ⟨#[]⟩
def viewF (l : List TGroup) (r : TRow) : List TField := bif viewB l r then fieldsN l r.cells l.length else []
def eqFs : List TField → List TField → Bool
 | [], [] => true
 | x :: xs, y :: ys => x.group == y.group && x.value == y.value && eqFs xs ys
 | _, _ => false
def eqVw (a b : TView) : Bool := a.key == b.key && eqFs a.fields b.fields
def r08_Seen_k0 (a0 : Int) (a1 : TCell) : Bool := !r08_Good_0 a0 a1 || !r08_Written_0 a1 || a1.3 || !r06_Covers_0 a1.2 a1.5
def r08_Seen_0 (a0 : Int) (a1 : TCell) : ByteArray := bif (r08_Seen_k0 a0 a1) then ByteArray.mk #[] else a1.4
def r08_Seen_1 (a0 : Int) (a1 : TCell) : Bool := bif (r08_Seen_k0 a0 a1) then false else true
def r08_Seen_r (a0 : Int) (a1 : TCell) : A := .v (.tuple ⟨[.string (r08_Seen_0 a0 a1), .bool (r08_Seen_1 a0 a1)]⟩)
def r08_Seen_o (_a0 : Int) (_a1 : TCell) : Objs := []
def r08_Seen_ps (_a0 : Int) (_a1 : TCell) : List Prop := []
set_option maxRecDepth 100000 in
theorem r08_Seen_ev (a0 : Int) (a1 : TCell) : evF (envT Ck L0) 9 41 [valA .i64 a0, valA .cell a1] 0 [] = some (1, r08_Seen_r a0 a1, 0, r08_Seen_o a0 a1, []) := by kernel_rfl
set_option maxRecDepth 100000 in
theorem r08_Seen_c (a0 : Int) (a1 : TCell) (_hp : ∀ p ∈ r08_Seen_ps a0 a1, p) : CallOk Try.prog 41 [valA .i64 a0, valA .cell a1] 0 [] 1 (r08_Seen_r a0 a1) 0 (r08_Seen_o a0 a1) := by
 exact evF_ok (envP_ok Ck_ok L0_ok) (r08_Seen_ev a0 a1) needs_nil
def r08_Seen_t : List A → Nat → Objs → Option CRes
 | [y0, y1], nx, o => match argU .i64 y0, argU .cell y1 with
  | some (a0, p0), some (a1, p1) => some (1, (r08_Seen_r a0 a1).pk (shiftR nx), nx + 0, shiftO nx (r08_Seen_o a0 a1) ++ o, p0 ++ (p1 ++ (r08_Seen_ps a0 a1)))
  | _, _ => none
 | _, _, _ => none
theorem r08_Seen_tok : TOk Try.prog 41 r08_Seen_t := fun args nx o k x nx' o' ps h => by
 unfold r08_Seen_t at h
 split at h <;> first | (cases h; done) | skip
 split at h <;> first | (cases h; done) | skip
 rename_i a0 p0 a1 p1 e0 e1
 cases h
 refine ⟨fun hp => ?_, _, rfl⟩
 have q0 := fun p hm => hp p (List.mem_append.2 (.inl hm))
 have r0 := fun p hm => hp p (List.mem_append.2 (.inr hm))
 have q1 := fun p hm => r0 p (List.mem_append.2 (.inl hm))
 have r1 := fun p hm => r0 p (List.mem_append.2 (.inr hm))
 refine callOk_args (callOk_shift (r08_Seen_c a0 a1 r1) (Nat.le_refl _) (freeL_cons (valA_free _ _) (freeL_cons (valA_free _ _) freeL_nil)) nx o) fun F N R vs hl => ?_
 obtain ⟨v0, w0, rfl, h0, hl⟩ := hl.inv
 obtain ⟨v1, w1, rfl, h1, hl⟩ := hl.inv
 exact HL.cons (argU_ok e0 q0 h0) (HL.cons (argU_ok e1 q1 h1) (hl))
noncomputable def Cl_1 := addC 41 r08_Seen_t Ck
theorem Cl_1_ok : COk Try.prog Cl_1 := addC_ok r08_Seen_tok Ck_ok
theorem r08_Seen_eq (p : Int) (c : TCell) : r08_Seen_0 p c = seenT p c ∧ r08_Seen_1 p c = seenB p c := by
 have hk : r08_Seen_k0 p c = !seenB p c := by
  unfold r08_Seen_k0 seenB covV r06_Covers_0
  rw [r08_Good_eq, r08_Written_eq]
  show (!goodC p c || !written c || c.gone || !(decide (c.vec.a ≥ c.dead.a) && decide (c.vec.b ≥ c.dead.b))) = _
  cases goodC p c <;> cases written c <;> cases c.gone <;> rfl
 unfold r08_Seen_0 r08_Seen_1 seenT
 rw [hk]
 cases seenB p c <;> exact ⟨rfl, rfl⟩
theorem cell_Seen_eq (p : Int) (c : TCell) : cell_Seen_0 p c = seenT p c ∧ cell_Seen_1 p c = seenB p c := by
 have hm : ∀ x y : Int, (min x y == y) = decide (y ≤ x) := fun x y => by
  rw [Bool.eq_iff_iff, beq_iff_eq, decide_eq_true_eq]; omega
 have hk : cell_Seen_k0 p c = !seenB p c := by
  unfold cell_Seen_k0 seenB covV vec_Covers_0
  rw [cell_Good_eq, cell_written_eq]
  have h1 : ((vec_Meet_0 c.2 c.5).1 == c.5.1) = decide (c.dead.a ≤ c.vec.a) := hm _ _
  have h2 : ((vec_Meet_0 c.2 c.5).2 == c.5.2) = decide (c.dead.b ≤ c.vec.b) := hm _ _
  rw [h1, h2]
  show (!goodC p c || !written c || c.gone || !(decide (c.dead.a ≤ c.vec.a) && decide (c.dead.b ≤ c.vec.b))) = _
  cases goodC p c <;> cases written c <;> cases c.gone <;> rfl
 unfold cell_Seen_0 cell_Seen_1 seenT
 rw [hk]
 cases seenB p c <;> exact ⟨rfl, rfl⟩
theorem goodRow_0 {l : List TGroup} {r : TRow} (h : goodRow l r = 0) : goodP l = 0 ∧ r.cells.length = l.length ∧ r.key.size ≠ 0 ∧ r.key.size ≤ 32 ∧ (l.zip r.cells).all (fun x => goodC x.1.policy x.2) = true := by
 unfold goodRow at h
 cases h1 : goodP l != 0 with
 | true => rw [h1, cond_true] at h; rw [h] at h1; cases h1
 | false =>
  rw [h1, cond_false] at h
  cases h2 : r.key.size == 0 with
  | true => rw [h2] at h; cases h
  | false =>
   rw [h2, cond_false] at h
   cases h3 : decide (32 < r.key.size) with
   | true => rw [h3] at h; cases h
   | false =>
    rw [h3, cond_false] at h
    cases h4 : r.cells.length != l.length with
    | true => rw [h4] at h; cases h
    | false =>
     rw [h4, cond_false] at h
     cases h5 : (l.zip r.cells).all (fun x => goodC x.1.policy x.2) with
     | false => rw [h5] at h; cases h
     | true =>
      have := of_decide_eq_false h3
      exact ⟨by simpa using h1, by simpa using h4, by simpa using h2, by omega, rfl⟩
theorem fieldsN_len (l : List TGroup) (cs : List TCell) : ∀ i, (fieldsN l cs i).length ≤ i
 | 0 => Nat.le_refl _
 | i + 1 => by
  have := fieldsN_len l cs i
  unfold fieldsN
  cases seenB (l.getD i (dflt TC.group)).policy (cs.getD i (dflt TC.cell)) with
  | true => rw [cond_true, List.length_append]; simp; omega
  | false => rw [cond_false]; omega
abbrev r10_View_l0_X : Type := (List TGroup) × Int × TRow × ByteArray × (List TField)
def r10_View_l0_T (x : r10_View_l0_X) : St := ⟨53, 5, [(0, .sl .group x.1), (3, .own 0 0), (6, .own 2 0), (7, .v (.int .i64 x.2.1))], [(0, some (.box 71 [.v (.string x.2.2.1.key), .sl .cell x.2.2.1.cells])), (2, some (.box 94 [.v (.string x.2.2.2.1), .sq 4])), (4, some (.arr 142 2 (.ty .field x.2.2.2.2)))]⟩
def r10_View_l0_un : St → Option r10_View_l0_X
 | ⟨53, 5, [(0, .sl .group z0), (3, .own 0 0), (6, .own 2 0), (7, .v (.int .i64 z1))], [(0, some (.box 71 [.v (.string z2), .sl .cell z3])), (2, some (.box 94 [.v (.string z4), .sq 4])), (4, some (.arr 142 2 (.ty .field z5)))]⟩ => some (z0, z1, ⟨z2, z3⟩, z4, z5)
 | _ => none
theorem r10_View_l0_unok : ∀ s x, r10_View_l0_un s = some x → s = r10_View_l0_T x := fun s x h => by
 unfold r10_View_l0_un at h
 split at h
 ·cases h; rfl
 ·cases h
def r10_View_l0_S : Shape := ⟨4, 5, [0, 3, 6, 7], [], [(0, 0), (2, 2), (7, 4)], [0, 2, 7], [], [0, 2, 4]⟩
def r10_View_l0_E : Entry := ⟨[.nilB 2 1 142 .field], [(0, 0), (2, 2), (3, 4)], [0, 3, 6, 7], [0, 2, 3]⟩
def r10_View_l0_f_k0 (a0 : List TGroup) (a1 : Int) (_a2 : TRow) (_a3 : ByteArray) (_a4 : List TField) : Bool := !!decide (a1 < (↑a0.length : Int))
def r10_View_l0_f_3 (a0 : List TGroup) (a1 : Int) (a2 : TRow) (a3 : ByteArray) (_a4 : List TField) : ByteArray := bif r08_Seen_1 (a0.getD a1.toNat (dflt TC.group)).2 (a2.2.getD a1.toNat (dflt TC.cell)) then a3 else a3
def r10_View_l0_f_4 (a0 : List TGroup) (a1 : Int) (a2 : TRow) (_a3 : ByteArray) (a4 : List TField) : List TField := bif r08_Seen_1 (a0.getD a1.toNat (dflt TC.group)).2 (a2.2.getD a1.toNat (dflt TC.cell)) then a4 ++ [TField.mk a1 (r08_Seen_0 (a0.getD a1.toNat (dflt TC.group)).2 (a2.2.getD a1.toNat (dflt TC.cell)))] else a4
def r10_View_l0_next (x : r10_View_l0_X) : r10_View_l0_X := (x.1, IntKind.i64.wrap (x.2.1 + (1 : Int)), x.2.2.1, r10_View_l0_f_3 x.1 x.2.1 x.2.2.1 x.2.2.2.1 x.2.2.2.2, r10_View_l0_f_4 x.1 x.2.1 x.2.2.1 x.2.2.2.1 x.2.2.2.2)
def r10_View_l0_goes (x : r10_View_l0_X) : Cnd := some ((r10_View_l0_f_k0 x.1 x.2.1 x.2.2.1 x.2.2.2.1 x.2.2.2.2))
def r10_View_l0_psA (x : r10_View_l0_X) : List Prop := [((r10_View_l0_f_k0 x.1 x.2.1 x.2.2.1 x.2.2.2.1 x.2.2.2.2) = true → (0 : Int) ≤ x.2.1 ∧ x.2.1 < (↑x.1.length : Int)), ((r10_View_l0_f_k0 x.1 x.2.1 x.2.2.1 x.2.2.2.1 x.2.2.2.2) = true → (0 : Int) ≤ x.2.1 ∧ x.2.1 < (↑x.2.2.1.2.length : Int)), ((r10_View_l0_f_k0 x.1 x.2.1 x.2.2.1 x.2.2.2.1 x.2.2.2.2) = true → r08_Seen_1 (x.1.getD x.2.1.toNat (dflt TC.group)).2 (x.2.2.1.2.getD x.2.1.toNat (dflt TC.cell)) = true → boundP (x.2.2.2.2.length + (1 : Nat)))]
def r10_View_l0_ps (x : r10_View_l0_X) : List Prop := [((r10_View_l0_f_k0 x.1 x.2.1 x.2.2.1 x.2.2.2.1 x.2.2.2.2) = true → (0 : Int) ≤ x.2.1 ∧ x.2.1 < (↑x.1.length : Int)), ((r10_View_l0_f_k0 x.1 x.2.1 x.2.2.1 x.2.2.2.1 x.2.2.2.2) = true → (0 : Int) ≤ x.2.1 ∧ x.2.1 < (↑x.2.2.1.2.length : Int)), ((r10_View_l0_f_k0 x.1 x.2.1 x.2.2.1 x.2.2.2.1 x.2.2.2.2) = true → r08_Seen_1 (x.1.getD x.2.1.toNat (dflt TC.group)).2 (x.2.2.1.2.getD x.2.1.toNat (dflt TC.cell)) = true → boundP (x.2.2.2.2.length + (1 : Nat)))]
def r10_View_l0_outs (x : r10_View_l0_X) : Outs := [(some 0, some (!decide (x.2.1 < (↑x.1.length : Int))), ⟨53, 5, [], [(0, some (.box 71 [.v (.string x.2.2.1.1), .sl .cell x.2.2.1.2])), (2, some (.box 94 [.v (.string x.2.2.2.1), .sq 4])), (4, some (.arr 142 2 (.ty .field x.2.2.2.2)))]⟩)]
def r10_View_l0_fuel (x : r10_View_l0_X) : Nat := ((↑x.1.length : Int) - x.2.1).toNat
def r10_View_l0_run (x : r10_View_l0_X) : r10_View_l0_X := iterX r10_View_l0_next r10_View_l0_goes (r10_View_l0_fuel x) x
set_option maxRecDepth 100000 in
theorem r10_View_l0_ev (a0 : List TGroup) (a1 : Int) (a2 : TRow) (a3 : ByteArray) (a4 : List TField) : roundE (envT Cl_1 L0) 9 (loopAt Try.prog 64 0) r10_View_l0_S (r10_View_l0_T (a0, a1, a2, a3, a4)) = some (r10_View_l0_psA (a0, a1, a2, a3, a4), r10_View_l0_outs (a0, a1, a2, a3, a4), r10_View_l0_goes (a0, a1, a2, a3, a4), r10_View_l0_T (r10_View_l0_next (a0, a1, a2, a3, a4))) := by kernel_rfl
set_option maxRecDepth 100000 in
theorem r10_View_l0_hA (a0 : List TGroup) (a1 : Int) (a2 : TRow) (a3 : ByteArray) (a4 : List TField) (hp : ∀ p ∈ r10_View_l0_ps (a0, a1, a2, a3, a4), p) : ∀ p ∈ r10_View_l0_psA (a0, a1, a2, a3, a4), p := by
 have n0 : ((r10_View_l0_f_k0 a0 a1 a2 a3 a4) = true → (0 : Int) ≤ a1 ∧ a1 < (↑a0.length : Int)) := hp _ (List.mem_cons_self ..)
 have n1 : ((r10_View_l0_f_k0 a0 a1 a2 a3 a4) = true → (0 : Int) ≤ a1 ∧ a1 < (↑a2.2.length : Int)) := hp _ (List.mem_cons_of_mem _ (List.mem_cons_self ..))
 have n2 : ((r10_View_l0_f_k0 a0 a1 a2 a3 a4) = true → r08_Seen_1 (a0.getD a1.toNat (dflt TC.group)).2 (a2.2.getD a1.toNat (dflt TC.cell)) = true → boundP (a4.length + (1 : Nat))) := hp _ (List.mem_cons_of_mem _ (List.mem_cons_of_mem _ (List.mem_cons_self ..)))
 exact (needs_cons n0 (needs_cons n1 (needs_cons n2 needs_nil)))
noncomputable def r10_View_l0_row := rowL (envT Cl_1 L0) (loopAt Try.prog 64 0) r10_View_l0_S r10_View_l0_E r10_View_l0_un r10_View_l0_fuel r10_View_l0_next r10_View_l0_goes r10_View_l0_ps r10_View_l0_outs
theorem r10_View_l0_rok : ∀ s b ps outs, r10_View_l0_row s = some (b, ps, outs) → Wf s ⟨ps, outs, none⟩ ∧ LoopOk (envT C0 L0) b s ps outs :=
 rowP_ok (T := r10_View_l0_T) Cl_1_ok L0_ok (u := 9) (by kernel_rfl) (by decide) (fun ⟨a0, a1, a2, a3, a4⟩ => r10_View_l0_ev a0 a1 a2 a3 a4) (fun ⟨a0, a1, a2, a3, a4⟩ => r10_View_l0_hA a0 a1 a2 a3 a4) r10_View_l0_unok (fun _ => okOuts_ok (n := 53) rfl) fun _ _ => rfl
noncomputable def r10_View_l0_L := addLp 0 r10_View_l0_row L0
theorem r10_View_l0_Lok : LpOk r10_View_l0_L := addLp_ok r10_View_l0_rok L0_ok
def r10_View_k1 (a0 : List TGroup) (a1 : TRow) : Bool := goodRow a0 a1 != (0 : Int)
def r10_View_k0 (a0 : List TGroup) (a1 : TRow) : Bool := (↑(r10_View_l0_run (a0, (0 : Int), a1, a1.1, [])).snd.snd.snd.snd.length : Int) == (0 : Int)
def r10_View_0 (a0 : List TGroup) (a1 : TRow) : ByteArray := bif (r10_View_k1 a0 a1) then ByteArray.mk #[] else bif (r10_View_k0 a0 a1) then ByteArray.mk #[] else (r10_View_l0_run (a0, (0 : Int), a1, a1.1, [])).snd.snd.snd.fst
def r10_View_1 (a0 : List TGroup) (a1 : TRow) : Bool := bif (r10_View_k1 a0 a1) then false else bif (r10_View_k0 a0 a1) then false else true
def r10_View_2 (a0 : List TGroup) (a1 : TRow) : List TField := bif (r10_View_k1 a0 a1) then [] else bif (r10_View_k0 a0 a1) then [] else (r10_View_l0_run (a0, (0 : Int), a1, a1.1, [])).snd.snd.snd.snd
def r10_View_r (a0 : List TGroup) (a1 : TRow) : A := .tup [.agg [.v (.string (r10_View_0 a0 a1)), .sq 0], .v (.bool (r10_View_1 a0 a1))]
def r10_View_o (a0 : List TGroup) (a1 : TRow) : Objs := [(0, some (.arr 142 2 (.ty .field (r10_View_2 a0 a1))))]
def r10_View_ps (a0 : List TGroup) (a1 : TRow) : List Prop := [(∀ (g : TGroup), g ∈ a0 → wideN g.1.size), ((!(r10_View_k1 a0 a1)) = true → needX r10_View_l0_next r10_View_l0_goes r10_View_l0_ps (r10_View_l0_fuel (a0, (0 : Int), a1, a1.1, [])) (a0, (0 : Int), a1, a1.1, []))]
set_option maxRecDepth 100000 in
theorem r10_View_ev (a0 : List TGroup) (a1 : TRow) : evF (envT Cl_1 r10_View_l0_L) 9 64 [.sl .group a0, valA .row a1] 0 [] = some (1, r10_View_r a0 a1, 1, r10_View_o a0 a1, [(∀ (g : TGroup), g ∈ a0 → wideN g.1.size), ((!(r10_View_k1 a0 a1)) = true → loopAt Try.prog (64 : FuncId) (0 : Nat) = loopAt Try.prog (64 : FuncId) (0 : Nat)), ((!(r10_View_k1 a0 a1)) = true → needX r10_View_l0_next r10_View_l0_goes r10_View_l0_ps (r10_View_l0_fuel (a0, (0 : Int), a1, a1.1, [])) (a0, (0 : Int), a1, a1.1, []))]) := by kernel_rfl
set_option maxRecDepth 100000 in
theorem r10_View_c (a0 : List TGroup) (a1 : TRow) (hp : ∀ p ∈ r10_View_ps a0 a1, p) : CallOk Try.prog 64 [.sl .group a0, valA .row a1] 0 [] 1 (r10_View_r a0 a1) 1 (r10_View_o a0 a1) := by
 have n0 : (∀ (g : TGroup), g ∈ a0 → wideN g.1.size) := hp _ (List.mem_cons_self ..)
 have n1 : ((!(r10_View_k1 a0 a1)) = true → loopAt Try.prog (64 : FuncId) (0 : Nat) = loopAt Try.prog (64 : FuncId) (0 : Nat)) := by intros; rfl
 have n2 : ((!(r10_View_k1 a0 a1)) = true → needX r10_View_l0_next r10_View_l0_goes r10_View_l0_ps (r10_View_l0_fuel (a0, (0 : Int), a1, a1.1, [])) (a0, (0 : Int), a1, a1.1, [])) := hp _ (List.mem_cons_of_mem _ (List.mem_cons_self ..))
 exact evF_ok (envP_ok Cl_1_ok r10_View_l0_Lok) (r10_View_ev a0 a1) (needs_cons n0 (needs_cons n1 (needs_cons n2 needs_nil)))
def r10_View_r2 (a0 : List TGroup) (a1 : TRow) : A := .tup [.agg [.v (.string (viewK a0 a1)), .sq 0], .v (.bool (viewB a0 a1))]
def r10_View_o2 (a0 : List TGroup) (a1 : TRow) : Objs := [(0, some (.arr 142 2 (.ty .field (viewF a0 a1))))]
def r10_View_ps2 (a0 : List TGroup) (_a1 : TRow) : List Prop := [∀ g ∈ a0, wideN g.name.size]
theorem r10_View_loop (l : List TGroup) (r : TRow) (h0 : goodRow l r = 0) :
  needX r10_View_l0_next r10_View_l0_goes r10_View_l0_ps (r10_View_l0_fuel (l, 0, r, r.1, [])) (l, 0, r, r.1, []) ∧ r10_View_l0_run (l, 0, r, r.1, []) = (l, (l.length : Int), r, r.1, fieldsN l r.cells l.length) := by
 obtain ⟨hp, hlen, _⟩ := goodRow_0 h0
 have hl4 := (goodP_0 hp).2
 obtain ⟨h1, k, hk, hx, _, hst, _⟩ := scanB (fun i => ((l, (i : Int), r, r.1, fieldsN l r.cells i) : r10_View_l0_X)) l.length (fun _ => false) r10_View_l0_next r10_View_l0_goes r10_View_l0_ps (r10_View_l0_fuel (l, 0, r, r.1, [])) (l, 0, r, r.1, []) rfl (by show l.length ≤ ((l.length : Int) - 0).toNat; omega)
  (fun i _ _ => by
   show (!!decide ((i : Int) < (l.length : Int))) = _
   rw [nn, dlt, Bool.not_false, Bool.and_true])
  (fun i hi _ => by
   have hs := r08_Seen_eq (l.getD i (dflt TC.group)).2 (r.2.getD i (dflt TC.cell))
   show (l, IntKind.i64.wrap ((i : Int) + 1), r, (bif r08_Seen_1 (l.getD ((i : Int)).toNat (dflt TC.group)).2 (r.2.getD ((i : Int)).toNat (dflt TC.cell)) then r.1 else r.1), (bif r08_Seen_1 (l.getD ((i : Int)).toNat (dflt TC.group)).2 (r.2.getD ((i : Int)).toNat (dflt TC.cell)) then fieldsN l r.cells i ++ [TField.mk (i : Int) (r08_Seen_0 (l.getD ((i : Int)).toNat (dflt TC.group)).2 (r.2.getD ((i : Int)).toNat (dflt TC.cell)))] else fieldsN l r.cells i)) = (l, ((i + 1 : Nat) : Int), r, r.1, fieldsN l r.cells (i + 1))
   rw [wsucc (by omega), Int.toNat_natCast, hs.1, hs.2]
   have : ∀ b : Bool, (bif b then r.1 else r.1) = r.1 := fun b => by cases b <;> rfl
   rw [this]
   rfl)
  (fun i hi _ => by
   have hin : (!!decide ((i : Int) < (l.length : Int))) = true → (i : Int) < (l.length : Int) := fun h => by rw [nn] at h; exact of_decide_eq_true h
   exact needs_cons (fun h => ⟨by show (0 : Int) ≤ (i : Int); omega, hin h⟩) (needs_cons (fun h => ⟨by show (0 : Int) ≤ (i : Int); omega, by have := hin h; show (i : Int) < (r.cells.length : Int); omega⟩) (needs_cons (fun _ _ => by
    have := fieldsN_len l r.cells i
    show boundP ((fieldsN l r.cells i).length + 1)
    unfold boundP; omega) needs_nil)))
 have hkn : k = l.length := by
  rcases Nat.lt_or_ge k l.length with h | h
  ·exact absurd (hst h) (by decide)
  ·omega
 subst hkn
 exact ⟨h1, hx⟩
theorem r10_View_c2 (a0 : List TGroup) (a1 : TRow) (hp : ∀ p ∈ r10_View_ps2 a0 a1, p) : CallOk Try.prog 64 [.sl .group a0, valA .row a1] 0 [] 1 (r10_View_r2 a0 a1) 1 (r10_View_o2 a0 a1) := by
 have hb : ∀ g ∈ a0, wideN g.name.size := hp _ (List.mem_cons_self ..)
 have hz : (!(goodRow a0 a1 != 0)) = true → goodRow a0 a1 = 0 := fun h => by simpa using h
 have h := r10_View_c a0 a1 (needs_cons hb (needs_cons (fun h1 => (r10_View_loop a0 a1 (hz h1)).1) needs_nil))
 have hk1 : r10_View_k1 a0 a1 = (goodRow a0 a1 != 0) := rfl
 have e : r10_View_0 a0 a1 = viewK a0 a1 ∧ r10_View_1 a0 a1 = viewB a0 a1 ∧ r10_View_2 a0 a1 = viewF a0 a1 := by
  unfold r10_View_0 r10_View_1 r10_View_2 viewK viewF
  have hv : viewB a0 a1 = (goodRow a0 a1 == 0 && !((fieldsN a0 a1.cells a0.length).length == 0)) := rfl
  cases hg : goodRow a0 a1 != 0 with
  | true =>
   rw [hk1, hg]
   have : viewB a0 a1 = false := by
    rw [hv, show (goodRow a0 a1 == 0) = false by simpa using hg]
    rfl
   rw [this]
   exact ⟨rfl, rfl, rfl⟩
  | false =>
   have h0 : goodRow a0 a1 = 0 := by simpa using hg
   unfold r10_View_k0
   rw [hk1, hg, (r10_View_loop a0 a1 h0).2]
   have : viewB a0 a1 = !((fieldsN a0 a1.cells a0.length).length == 0) := by rw [hv, h0]; rfl
   rw [this]
   show (bif ((fieldsN a0 a1.cells a0.length).length : Int) == 0 then _ else _) = _ ∧ (bif ((fieldsN a0 a1.cells a0.length).length : Int) == 0 then _ else _) = _ ∧ (bif ((fieldsN a0 a1.cells a0.length).length : Int) == 0 then _ else _) = _
   rw [beq0i]
   cases (fieldsN a0 a1.cells a0.length).length == 0 <;> exact ⟨rfl, rfl, rfl⟩
 unfold r10_View_r r10_View_o at h
 rw [e.1, e.2.1, e.2.2] at h
 exact h
def r10_View_t : List A → Nat → Objs → Option CRes
 | [y0, y1], nx, o => match argL .group y0, argU .row y1 with
  | some a0, some (a1, p1) => some (1, (r10_View_r2 a0 a1).pk (shiftR nx), nx + 1, shiftO nx (r10_View_o2 a0 a1) ++ o, p1 ++ (r10_View_ps2 a0 a1))
  | _, _ => none
 | _, _, _ => none
theorem r10_View_tok : TOk Try.prog 64 r10_View_t := fun args nx o k x nx' o' ps h => by
 unfold r10_View_t at h
 split at h <;> first | (cases h; done) | skip
 split at h <;> first | (cases h; done) | skip
 rename_i a0 a1 p1 e0 e1
 cases h
 refine ⟨fun hp => ?_, _, rfl⟩
 have q1 := fun p hm => hp p (List.mem_append.2 (.inl hm))
 have r1 := fun p hm => hp p (List.mem_append.2 (.inr hm))
 refine callOk_args (callOk_shift (r10_View_c2 a0 a1 r1) (Nat.le_refl _) (freeL_cons rfl (freeL_cons (valA_free _ _) freeL_nil)) nx o) fun F N R vs hl => ?_
 obtain ⟨v0, w0, rfl, h0, hl⟩ := hl.inv
 obtain ⟨v1, w1, rfl, h1, hl⟩ := hl.inv
 exact HL.cons (argL_ok e0 h0) (HL.cons (argU_ok e1 q1 h1) (hl))
noncomputable def Cl_2 := addC 64 r10_View_t Cl_1
theorem Cl_2_ok : COk Try.prog Cl_2 := addC_ok r10_View_tok Cl_1_ok
abbrev row_View_l0_X : Type := (List TGroup) × Int × Int × TRow × ByteArray × (List TField)
def row_View_l0_T (x : row_View_l0_X) : St := ⟨53, 5, [(3, .own 0 0), (6, .own 2 0), (19, .sl .group x.1), (20, .v (.int .i64 x.2.1)), (21, .v (.int .i64 x.2.2.1))], [(0, some (.box 71 [.v (.string x.2.2.2.1.key), .sl .cell x.2.2.2.1.cells])), (2, some (.box 94 [.v (.string x.2.2.2.2.1), .sq 4])), (4, some (.arr 142 2 (.ty .field x.2.2.2.2.2)))]⟩
def row_View_l0_un : St → Option row_View_l0_X
 | ⟨53, 5, [(3, .own 0 0), (6, .own 2 0), (19, .sl .group z0), (20, .v (.int .i64 z1)), (21, .v (.int .i64 z2))], [(0, some (.box 71 [.v (.string z3), .sl .cell z4])), (2, some (.box 94 [.v (.string z5), .sq 4])), (4, some (.arr 142 2 (.ty .field z6)))]⟩ => some (z0, z1, z2, ⟨z3, z4⟩, z5, z6)
 | _ => none
theorem row_View_l0_unok : ∀ s x, row_View_l0_un s = some x → s = row_View_l0_T x := fun s x h => by
 unfold row_View_l0_un at h
 split at h
 ·cases h; rfl
 ·cases h
def row_View_l0_S : Shape := ⟨4, 5, [3, 6, 19, 20, 21], [], [(0, 0), (2, 2), (8, 4)], [0, 2, 8], [], [0, 2, 4]⟩
def row_View_l0_E : Entry := ⟨[.nilB 2 1 142 .field], [(0, 0), (2, 2), (3, 4)], [3, 6, 19, 20, 21], [0, 2, 3]⟩
def row_View_l0_f_4 (a0 : List TGroup) (_a1 : Int) (a2 : Int) (a3 : TRow) (a4 : ByteArray) (_a5 : List TField) : ByteArray := bif cell_Seen_1 (a0.getD a2.toNat (dflt TC.group)).2 (a3.2.getD a2.toNat (dflt TC.cell)) then a4 else a4
def row_View_l0_f_5 (a0 : List TGroup) (_a1 : Int) (a2 : Int) (a3 : TRow) (_a4 : ByteArray) (a5 : List TField) : List TField := bif cell_Seen_1 (a0.getD a2.toNat (dflt TC.group)).2 (a3.2.getD a2.toNat (dflt TC.cell)) then a5 ++ [TField.mk a2 (cell_Seen_0 (a0.getD a2.toNat (dflt TC.group)).2 (a3.2.getD a2.toNat (dflt TC.cell)))] else a5
def row_View_l0_next (x : row_View_l0_X) : row_View_l0_X := (x.1, x.2.1, IntKind.i64.wrap (x.2.2.1 + (1 : Int)), x.2.2.2.1, row_View_l0_f_4 x.1 x.2.1 x.2.2.1 x.2.2.2.1 x.2.2.2.2.1 x.2.2.2.2.2, row_View_l0_f_5 x.1 x.2.1 x.2.2.1 x.2.2.2.1 x.2.2.2.2.1 x.2.2.2.2.2)
def row_View_l0_goes (x : row_View_l0_X) : Cnd := some (!!decide (x.2.2.1 < x.2.1))
def row_View_l0_psA (x : row_View_l0_X) : List Prop := [((!!decide (x.2.2.1 < x.2.1)) = true → (0 : Int) ≤ x.2.2.1 ∧ x.2.2.1 < (↑x.1.length : Int)), ((!!decide (x.2.2.1 < x.2.1)) = true → (0 : Int) ≤ x.2.2.1 ∧ x.2.2.1 < (↑x.2.2.2.1.2.length : Int)), ((!!decide (x.2.2.1 < x.2.1)) = true → cell_Seen_1 (x.1.getD x.2.2.1.toNat (dflt TC.group)).2 (x.2.2.2.1.2.getD x.2.2.1.toNat (dflt TC.cell)) = true → boundP (x.2.2.2.2.2.length + (1 : Nat)))]
def row_View_l0_ps (x : row_View_l0_X) : List Prop := [((!!decide (x.2.2.1 < x.2.1)) = true → (0 : Int) ≤ x.2.2.1 ∧ x.2.2.1 < (↑x.1.length : Int)), ((!!decide (x.2.2.1 < x.2.1)) = true → (0 : Int) ≤ x.2.2.1 ∧ x.2.2.1 < (↑x.2.2.2.1.2.length : Int)), ((!!decide (x.2.2.1 < x.2.1)) = true → cell_Seen_1 (x.1.getD x.2.2.1.toNat (dflt TC.group)).2 (x.2.2.2.1.2.getD x.2.2.1.toNat (dflt TC.cell)) = true → boundP (x.2.2.2.2.2.length + (1 : Nat)))]
def row_View_l0_outs (x : row_View_l0_X) : Outs := [(some 0, some (!decide (x.2.2.1 < x.2.1)), ⟨53, 5, [], [(0, some (.box 71 [.v (.string x.2.2.2.1.1), .sl .cell x.2.2.2.1.2])), (2, some (.box 94 [.v (.string x.2.2.2.2.1), .sq 4])), (4, some (.arr 142 2 (.ty .field x.2.2.2.2.2)))]⟩)]
def row_View_l0_fuel (x : row_View_l0_X) : Nat := (x.2.1 - x.2.2.1).toNat
def row_View_l0_run (x : row_View_l0_X) : row_View_l0_X := iterX row_View_l0_next row_View_l0_goes (row_View_l0_fuel x) x
set_option maxRecDepth 100000 in
theorem row_View_l0_ev (a0 : List TGroup) (a1 : Int) (a2 : Int) (a3 : TRow) (a4 : ByteArray) (a5 : List TField) : roundE (envT Cl_2 L0) 9 (loopAt Try.prog 58 0) row_View_l0_S (row_View_l0_T (a0, a1, a2, a3, a4, a5)) = some (row_View_l0_psA (a0, a1, a2, a3, a4, a5), row_View_l0_outs (a0, a1, a2, a3, a4, a5), row_View_l0_goes (a0, a1, a2, a3, a4, a5), row_View_l0_T (row_View_l0_next (a0, a1, a2, a3, a4, a5))) := by kernel_rfl
set_option maxRecDepth 100000 in
theorem row_View_l0_hA (a0 : List TGroup) (a1 : Int) (a2 : Int) (a3 : TRow) (a4 : ByteArray) (a5 : List TField) (hp : ∀ p ∈ row_View_l0_ps (a0, a1, a2, a3, a4, a5), p) : ∀ p ∈ row_View_l0_psA (a0, a1, a2, a3, a4, a5), p := by
 have n0 : ((!!decide (a2 < a1)) = true → (0 : Int) ≤ a2 ∧ a2 < (↑a0.length : Int)) := hp _ (List.mem_cons_self ..)
 have n1 : ((!!decide (a2 < a1)) = true → (0 : Int) ≤ a2 ∧ a2 < (↑a3.2.length : Int)) := hp _ (List.mem_cons_of_mem _ (List.mem_cons_self ..))
 have n2 : ((!!decide (a2 < a1)) = true → cell_Seen_1 (a0.getD a2.toNat (dflt TC.group)).2 (a3.2.getD a2.toNat (dflt TC.cell)) = true → boundP (a5.length + (1 : Nat))) := hp _ (List.mem_cons_of_mem _ (List.mem_cons_of_mem _ (List.mem_cons_self ..)))
 exact (needs_cons n0 (needs_cons n1 (needs_cons n2 needs_nil)))
noncomputable def row_View_l0_row := rowL (envT Cl_2 L0) (loopAt Try.prog 58 0) row_View_l0_S row_View_l0_E row_View_l0_un row_View_l0_fuel row_View_l0_next row_View_l0_goes row_View_l0_ps row_View_l0_outs
theorem row_View_l0_rok : ∀ s b ps outs, row_View_l0_row s = some (b, ps, outs) → Wf s ⟨ps, outs, none⟩ ∧ LoopOk (envT C0 L0) b s ps outs :=
 rowP_ok (T := row_View_l0_T) Cl_2_ok L0_ok (u := 9) (by kernel_rfl) (by decide) (fun ⟨a0, a1, a2, a3, a4, a5⟩ => row_View_l0_ev a0 a1 a2 a3 a4 a5) (fun ⟨a0, a1, a2, a3, a4, a5⟩ => row_View_l0_hA a0 a1 a2 a3 a4 a5) row_View_l0_unok (fun _ => okOuts_ok (n := 53) rfl) fun _ _ => rfl
noncomputable def row_View_l0_L := addLp 0 row_View_l0_row L0
theorem row_View_l0_Lok : LpOk row_View_l0_L := addLp_ok row_View_l0_rok L0_ok
def row_View_k1 (a0 : List TGroup) (a1 : TRow) : Bool := goodRow a0 a1 != (0 : Int)
def row_View_k0 (a0 : List TGroup) (a1 : TRow) : Bool := (↑(row_View_l0_run (a0, (↑a0.length : Int), (0 : Int), a1, a1.1, [])).snd.snd.snd.snd.snd.length : Int) == (0 : Int)
def row_View_0 (a0 : List TGroup) (a1 : TRow) : ByteArray := bif (row_View_k1 a0 a1) then ByteArray.mk #[] else bif (row_View_k0 a0 a1) then ByteArray.mk #[] else (row_View_l0_run (a0, (↑a0.length : Int), (0 : Int), a1, a1.1, [])).snd.snd.snd.snd.fst
def row_View_1 (a0 : List TGroup) (a1 : TRow) : Bool := bif (row_View_k1 a0 a1) then false else bif (row_View_k0 a0 a1) then false else true
def row_View_2 (a0 : List TGroup) (a1 : TRow) : List TField := bif (row_View_k1 a0 a1) then [] else bif (row_View_k0 a0 a1) then [] else (row_View_l0_run (a0, (↑a0.length : Int), (0 : Int), a1, a1.1, [])).snd.snd.snd.snd.snd
def row_View_r (a0 : List TGroup) (a1 : TRow) : A := .tup [.agg [.v (.string (row_View_0 a0 a1)), .sq 0], .v (.bool (row_View_1 a0 a1))]
def row_View_o (a0 : List TGroup) (a1 : TRow) : Objs := [(0, some (.arr 142 2 (.ty .field (row_View_2 a0 a1))))]
def row_View_ps (a0 : List TGroup) (a1 : TRow) : List Prop := [((!(row_View_k1 a0 a1)) = true → needX row_View_l0_next row_View_l0_goes row_View_l0_ps (row_View_l0_fuel (a0, (↑a0.length : Int), (0 : Int), a1, a1.1, [])) (a0, (↑a0.length : Int), (0 : Int), a1, a1.1, []))]
set_option maxRecDepth 100000 in
theorem row_View_ev (a0 : List TGroup) (a1 : TRow) : evF (envT Cl_2 row_View_l0_L) 9 58 [.sl .group a0, valA .row a1] 0 [] = some (1, row_View_r a0 a1, 1, row_View_o a0 a1, [((!(row_View_k1 a0 a1)) = true → loopAt Try.prog (58 : FuncId) (0 : Nat) = loopAt Try.prog (58 : FuncId) (0 : Nat)), ((!(row_View_k1 a0 a1)) = true → needX row_View_l0_next row_View_l0_goes row_View_l0_ps (row_View_l0_fuel (a0, (↑a0.length : Int), (0 : Int), a1, a1.1, [])) (a0, (↑a0.length : Int), (0 : Int), a1, a1.1, []))]) := by kernel_rfl
set_option maxRecDepth 100000 in
theorem row_View_c (a0 : List TGroup) (a1 : TRow) (hp : ∀ p ∈ row_View_ps a0 a1, p) : CallOk Try.prog 58 [.sl .group a0, valA .row a1] 0 [] 1 (row_View_r a0 a1) 1 (row_View_o a0 a1) := by
 have n0 : ((!(row_View_k1 a0 a1)) = true → loopAt Try.prog (58 : FuncId) (0 : Nat) = loopAt Try.prog (58 : FuncId) (0 : Nat)) := by intros; rfl
 have n1 : ((!(row_View_k1 a0 a1)) = true → needX row_View_l0_next row_View_l0_goes row_View_l0_ps (row_View_l0_fuel (a0, (↑a0.length : Int), (0 : Int), a1, a1.1, [])) (a0, (↑a0.length : Int), (0 : Int), a1, a1.1, [])) := hp _ (List.mem_cons_self ..)
 exact evF_ok (envP_ok Cl_2_ok row_View_l0_Lok) (row_View_ev a0 a1) (needs_cons n0 (needs_cons n1 needs_nil))
def row_View_r2 (a0 : List TGroup) (a1 : TRow) : A := .tup [.agg [.v (.string (viewK a0 a1)), .sq 0], .v (.bool (viewB a0 a1))]
def row_View_o2 (a0 : List TGroup) (a1 : TRow) : Objs := [(0, some (.arr 142 2 (.ty .field (viewF a0 a1))))]
def row_View_ps2 (_a0 : List TGroup) (_a1 : TRow) : List Prop := []
theorem row_View_loop (l : List TGroup) (r : TRow) (h0 : goodRow l r = 0) :
  needX row_View_l0_next row_View_l0_goes row_View_l0_ps (row_View_l0_fuel (l, (l.length : Int), 0, r, r.1, [])) (l, (l.length : Int), 0, r, r.1, []) ∧ row_View_l0_run (l, (l.length : Int), 0, r, r.1, []) = (l, (l.length : Int), (l.length : Int), r, r.1, fieldsN l r.cells l.length) := by
 obtain ⟨hp, hlen, _⟩ := goodRow_0 h0
 have hl4 := (goodP_0 hp).2
 obtain ⟨h1, k, hk, hx, _, hst, _⟩ := scanB (fun i => ((l, (l.length : Int), (i : Int), r, r.1, fieldsN l r.cells i) : row_View_l0_X)) l.length (fun _ => false) row_View_l0_next row_View_l0_goes row_View_l0_ps (row_View_l0_fuel (l, (l.length : Int), 0, r, r.1, [])) (l, (l.length : Int), 0, r, r.1, []) rfl (by show l.length ≤ ((l.length : Int) - 0).toNat; omega)
  (fun i _ _ => by
   show (!!decide ((i : Int) < (l.length : Int))) = _
   rw [nn, dlt, Bool.not_false, Bool.and_true])
  (fun i hi _ => by
   have hs := cell_Seen_eq (l.getD i (dflt TC.group)).2 (r.2.getD i (dflt TC.cell))
   show (l, (l.length : Int), IntKind.i64.wrap ((i : Int) + 1), r, (bif cell_Seen_1 (l.getD ((i : Int)).toNat (dflt TC.group)).2 (r.2.getD ((i : Int)).toNat (dflt TC.cell)) then r.1 else r.1), (bif cell_Seen_1 (l.getD ((i : Int)).toNat (dflt TC.group)).2 (r.2.getD ((i : Int)).toNat (dflt TC.cell)) then fieldsN l r.cells i ++ [TField.mk (i : Int) (cell_Seen_0 (l.getD ((i : Int)).toNat (dflt TC.group)).2 (r.2.getD ((i : Int)).toNat (dflt TC.cell)))] else fieldsN l r.cells i)) = (l, (l.length : Int), ((i + 1 : Nat) : Int), r, r.1, fieldsN l r.cells (i + 1))
   rw [wsucc (by omega), Int.toNat_natCast, hs.1, hs.2]
   have : ∀ b : Bool, (bif b then r.1 else r.1) = r.1 := fun b => by cases b <;> rfl
   rw [this]
   rfl)
  (fun i hi _ => by
   have hin : (!!decide ((i : Int) < (l.length : Int))) = true → (i : Int) < (l.length : Int) := fun h => by rw [nn] at h; exact of_decide_eq_true h
   exact needs_cons (fun h => ⟨by show (0 : Int) ≤ (i : Int); omega, hin h⟩) (needs_cons (fun h => ⟨by show (0 : Int) ≤ (i : Int); omega, by have := hin h; show (i : Int) < (r.cells.length : Int); omega⟩) (needs_cons (fun _ _ => by
    have := fieldsN_len l r.cells i
    show boundP ((fieldsN l r.cells i).length + 1)
    unfold boundP; omega) needs_nil)))
 have hkn : k = l.length := by
  rcases Nat.lt_or_ge k l.length with h | h
  ·exact absurd (hst h) (by decide)
  ·omega
 subst hkn
 exact ⟨h1, hx⟩
theorem row_View_c2 (a0 : List TGroup) (a1 : TRow) (_hp : ∀ p ∈ row_View_ps2 a0 a1, p) : CallOk Try.prog 58 [.sl .group a0, valA .row a1] 0 [] 1 (row_View_r2 a0 a1) 1 (row_View_o2 a0 a1) := by
 have hz : (!(goodRow a0 a1 != 0)) = true → goodRow a0 a1 = 0 := fun h => by simpa using h
 have h := row_View_c a0 a1 (needs_cons (fun h1 => (row_View_loop a0 a1 (hz h1)).1) needs_nil)
 have hk1 : row_View_k1 a0 a1 = (goodRow a0 a1 != 0) := rfl
 have e : row_View_0 a0 a1 = viewK a0 a1 ∧ row_View_1 a0 a1 = viewB a0 a1 ∧ row_View_2 a0 a1 = viewF a0 a1 := by
  unfold row_View_0 row_View_1 row_View_2 viewK viewF
  have hv : viewB a0 a1 = (goodRow a0 a1 == 0 && !((fieldsN a0 a1.cells a0.length).length == 0)) := rfl
  cases hg : goodRow a0 a1 != 0 with
  | true =>
   rw [hk1, hg]
   have : viewB a0 a1 = false := by
    rw [hv, show (goodRow a0 a1 == 0) = false by simpa using hg]
    rfl
   rw [this]
   exact ⟨rfl, rfl, rfl⟩
  | false =>
   have h0 : goodRow a0 a1 = 0 := by simpa using hg
   unfold row_View_k0
   rw [hk1, hg, (row_View_loop a0 a1 h0).2]
   have : viewB a0 a1 = !((fieldsN a0 a1.cells a0.length).length == 0) := by rw [hv, h0]; rfl
   rw [this]
   show (bif ((fieldsN a0 a1.cells a0.length).length : Int) == 0 then _ else _) = _ ∧ (bif ((fieldsN a0 a1.cells a0.length).length : Int) == 0 then _ else _) = _ ∧ (bif ((fieldsN a0 a1.cells a0.length).length : Int) == 0 then _ else _) = _
   rw [beq0i]
   cases (fieldsN a0 a1.cells a0.length).length == 0 <;> exact ⟨rfl, rfl, rfl⟩
 unfold row_View_r row_View_o at h
 rw [e.1, e.2.1, e.2.2] at h
 exact h
def row_View_t : List A → Nat → Objs → Option CRes
 | [y0, y1], nx, o => match argL .group y0, argU .row y1 with
  | some a0, some (a1, p1) => some (1, (row_View_r2 a0 a1).pk (shiftR nx), nx + 1, shiftO nx (row_View_o2 a0 a1) ++ o, p1 ++ (row_View_ps2 a0 a1))
  | _, _ => none
 | _, _, _ => none
theorem row_View_tok : TOk Try.prog 58 row_View_t := fun args nx o k x nx' o' ps h => by
 unfold row_View_t at h
 split at h <;> first | (cases h; done) | skip
 split at h <;> first | (cases h; done) | skip
 rename_i a0 a1 p1 e0 e1
 cases h
 refine ⟨fun hp => ?_, _, rfl⟩
 have q1 := fun p hm => hp p (List.mem_append.2 (.inl hm))
 have r1 := fun p hm => hp p (List.mem_append.2 (.inr hm))
 refine callOk_args (callOk_shift (row_View_c2 a0 a1 r1) (Nat.le_refl _) (freeL_cons rfl (freeL_cons (valA_free _ _) freeL_nil)) nx o) fun F N R vs hl => ?_
 obtain ⟨v0, w0, rfl, h0, hl⟩ := hl.inv
 obtain ⟨v1, w1, rfl, h1, hl⟩ := hl.inv
 exact HL.cons (argL_ok e0 h0) (HL.cons (argU_ok e1 q1 h1) (hl))
noncomputable def Cl_3 := addC 58 row_View_t Cl_2
theorem Cl_3_ok : COk Try.prog Cl_3 := addC_ok row_View_tok Cl_2_ok
abbrev r10_SameView_l0_X : Type := Int × TView × TView
def r10_SameView_l0_T (x : r10_SameView_l0_X) : St := ⟨38, 2, [(2, .own 0 0), (3, .own 1 0), (5, .v (.int .i64 x.1))], [(0, some (.box 94 [.v (.string x.2.1.key), .sl .field x.2.1.fields])), (1, some (.box 94 [.v (.string x.2.2.key), .sl .field x.2.2.fields]))]⟩
def r10_SameView_l0_un : St → Option r10_SameView_l0_X
 | ⟨38, 2, [(2, .own 0 0), (3, .own 1 0), (5, .v (.int .i64 z0))], [(0, some (.box 94 [.v (.string z1), .sl .field z2])), (1, some (.box 94 [.v (.string z3), .sl .field z4]))]⟩ => some (z0, ⟨z1, z2⟩, ⟨z3, z4⟩)
 | _ => none
theorem r10_SameView_l0_unok : ∀ s x, r10_SameView_l0_un s = some x → s = r10_SameView_l0_T x := fun s x h => by
 unfold r10_SameView_l0_un at h
 split at h
 ·cases h; rfl
 ·cases h
def r10_SameView_l0_S : Shape := ⟨2, 2, [2, 3, 5], [], [(0, 0), (1, 1)], [0, 1], [4], [0, 1]⟩
def r10_SameView_l0_E : Entry := ⟨[], [(0, 0), (1, 1)], [2, 3, 5], [0, 1]⟩
def r10_SameView_l0_f_k1 (a0 : Int) (a1 : TView) (_a2 : TView) : Bool := !!decide (a0 < (↑a1.2.length : Int))
def r10_SameView_l0_f_k0 (a0 : Int) (a1 : TView) (a2 : TView) : Bool := (r10_SameView_l0_f_k1 a0 a1 a2) && !((a1.2.getD a0.toNat (dflt TC.field)).1 == (a2.2.getD a0.toNat (dflt TC.field)).1 && (a1.2.getD a0.toNat (dflt TC.field)).2.toList == (a2.2.getD a0.toNat (dflt TC.field)).2.toList)
def r10_SameView_l0_f_3 (a0 : Int) (a1 : TView) (a2 : TView) : Bool := (r10_SameView_l0_f_k1 a0 a1 a2) && !(r10_SameView_l0_f_k0 a0 a1 a2)
def r10_SameView_l0_next (x : r10_SameView_l0_X) : r10_SameView_l0_X := (IntKind.i64.wrap (x.1 + (1 : Int)), x.2.1, x.2.2)
def r10_SameView_l0_goes (x : r10_SameView_l0_X) : Cnd := some (r10_SameView_l0_f_3 x.1 x.2.1 x.2.2)
def r10_SameView_l0_psA (x : r10_SameView_l0_X) : List Prop := [((r10_SameView_l0_f_k1 x.1 x.2.1 x.2.2) = true → (0 : Int) ≤ x.1 ∧ x.1 < (↑x.2.1.2.length : Int)), ((r10_SameView_l0_f_k1 x.1 x.2.1 x.2.2) = true → (0 : Int) ≤ x.1 ∧ x.1 < (↑x.2.2.2.length : Int))]
def r10_SameView_l0_ps (x : r10_SameView_l0_X) : List Prop := [((r10_SameView_l0_f_k1 x.1 x.2.1 x.2.2) = true → (0 : Int) ≤ x.1 ∧ x.1 < (↑x.2.1.2.length : Int)), ((r10_SameView_l0_f_k1 x.1 x.2.1 x.2.2) = true → (0 : Int) ≤ x.1 ∧ x.1 < (↑x.2.2.2.length : Int))]
def r10_SameView_l0_outs (x : r10_SameView_l0_X) : Outs := [(some 0, some (!decide (x.1 < (↑x.2.1.2.length : Int))), ⟨38, 2, [(4, .dead)], [(0, some (.box 94 [.v (.string x.2.1.1), .sl .field x.2.1.2])), (1, some (.box 94 [.v (.string x.2.2.1), .sl .field x.2.2.2]))]⟩), (none, some ((r10_SameView_l0_f_k0 x.1 x.2.1 x.2.2)), ⟨38, 2, [(4, .v (.bool (false)))], [(0, some (.box 94 [.v (.string x.2.1.1), .sl .field x.2.1.2])), (1, some (.box 94 [.v (.string x.2.2.1), .sl .field x.2.2.2]))]⟩)]
def r10_SameView_l0_fuel (x : r10_SameView_l0_X) : Nat := ((↑x.2.1.2.length : Int) - x.1).toNat
def r10_SameView_l0_run (x : r10_SameView_l0_X) : r10_SameView_l0_X := iterX r10_SameView_l0_next r10_SameView_l0_goes (r10_SameView_l0_fuel x) x
set_option maxRecDepth 100000 in
theorem r10_SameView_l0_ev (a0 : Int) (a1 : TView) (a2 : TView) : roundE (envT Cl_3 L0) 9 (loopAt Try.prog 59 0) r10_SameView_l0_S (r10_SameView_l0_T (a0, a1, a2)) = some (r10_SameView_l0_psA (a0, a1, a2), r10_SameView_l0_outs (a0, a1, a2), r10_SameView_l0_goes (a0, a1, a2), r10_SameView_l0_T (r10_SameView_l0_next (a0, a1, a2))) := by kernel_rfl
set_option maxRecDepth 100000 in
theorem r10_SameView_l0_hA (a0 : Int) (a1 : TView) (a2 : TView) (hp : ∀ p ∈ r10_SameView_l0_ps (a0, a1, a2), p) : ∀ p ∈ r10_SameView_l0_psA (a0, a1, a2), p := by
 have n0 : ((r10_SameView_l0_f_k1 a0 a1 a2) = true → (0 : Int) ≤ a0 ∧ a0 < (↑a1.2.length : Int)) := hp _ (List.mem_cons_self ..)
 have n1 : ((r10_SameView_l0_f_k1 a0 a1 a2) = true → (0 : Int) ≤ a0 ∧ a0 < (↑a2.2.length : Int)) := hp _ (List.mem_cons_of_mem _ (List.mem_cons_self ..))
 exact (needs_cons n0 (needs_cons n1 needs_nil))
noncomputable def r10_SameView_l0_row := rowL (envT Cl_3 L0) (loopAt Try.prog 59 0) r10_SameView_l0_S r10_SameView_l0_E r10_SameView_l0_un r10_SameView_l0_fuel r10_SameView_l0_next r10_SameView_l0_goes r10_SameView_l0_ps r10_SameView_l0_outs
theorem r10_SameView_l0_rok : ∀ s b ps outs, r10_SameView_l0_row s = some (b, ps, outs) → Wf s ⟨ps, outs, none⟩ ∧ LoopOk (envT C0 L0) b s ps outs :=
 rowP_ok (T := r10_SameView_l0_T) Cl_3_ok L0_ok (u := 9) (by kernel_rfl) (by decide) (fun ⟨a0, a1, a2⟩ => r10_SameView_l0_ev a0 a1 a2) (fun ⟨a0, a1, a2⟩ => r10_SameView_l0_hA a0 a1 a2) r10_SameView_l0_unok (fun _ => okOuts_ok (n := 38) rfl) fun _ _ => rfl
noncomputable def r10_SameView_l0_L := addLp 0 r10_SameView_l0_row L0
theorem r10_SameView_l0_Lok : LpOk r10_SameView_l0_L := addLp_ok r10_SameView_l0_rok L0_ok
def r10_SameView_k1 (a0 : TView) (a1 : TView) : r10_SameView_l0_X := r10_SameView_l0_run ((0 : Int), a0, a1)
def r10_SameView_k0 (a0 : TView) (a1 : TView) : Bool := !a0.1.toList == a1.1.toList || (↑a0.2.length : Int) != (↑a1.2.length : Int)
def r10_SameView_0 (a0 : TView) (a1 : TView) : Bool := bif (r10_SameView_k0 a0 a1) then false else bif r10_SameView_l0_f_k0 (r10_SameView_k1 a0 a1).fst (r10_SameView_k1 a0 a1).snd.fst (r10_SameView_k1 a0 a1).snd.snd then false else true
def r10_SameView_r (a0 : TView) (a1 : TView) : A := .v (.bool (r10_SameView_0 a0 a1))
def r10_SameView_o (_a0 : TView) (_a1 : TView) : Objs := []
def r10_SameView_ps (a0 : TView) (a1 : TView) : List Prop := [((!(r10_SameView_k0 a0 a1)) = true → needX r10_SameView_l0_next r10_SameView_l0_goes r10_SameView_l0_ps (r10_SameView_l0_fuel ((0 : Int), a0, a1)) ((0 : Int), a0, a1))]
set_option maxRecDepth 100000 in
theorem r10_SameView_ev (a0 : TView) (a1 : TView) : evF (envT Cl_3 r10_SameView_l0_L) 9 59 [valA .view a0, valA .view a1] 0 [] = some (1, r10_SameView_r a0 a1, 0, r10_SameView_o a0 a1, [((!(r10_SameView_k0 a0 a1)) = true → loopAt Try.prog (59 : FuncId) (0 : Nat) = loopAt Try.prog (59 : FuncId) (0 : Nat)), ((!(r10_SameView_k0 a0 a1)) = true → needX r10_SameView_l0_next r10_SameView_l0_goes r10_SameView_l0_ps (r10_SameView_l0_fuel ((0 : Int), a0, a1)) ((0 : Int), a0, a1))]) := by kernel_rfl
set_option maxRecDepth 100000 in
theorem r10_SameView_c (a0 : TView) (a1 : TView) (hp : ∀ p ∈ r10_SameView_ps a0 a1, p) : CallOk Try.prog 59 [valA .view a0, valA .view a1] 0 [] 1 (r10_SameView_r a0 a1) 0 (r10_SameView_o a0 a1) := by
 have n0 : ((!(r10_SameView_k0 a0 a1)) = true → loopAt Try.prog (59 : FuncId) (0 : Nat) = loopAt Try.prog (59 : FuncId) (0 : Nat)) := by intros; rfl
 have n1 : ((!(r10_SameView_k0 a0 a1)) = true → needX r10_SameView_l0_next r10_SameView_l0_goes r10_SameView_l0_ps (r10_SameView_l0_fuel ((0 : Int), a0, a1)) ((0 : Int), a0, a1)) := hp _ (List.mem_cons_self ..)
 exact evF_ok (envP_ok Cl_3_ok r10_SameView_l0_Lok) (r10_SameView_ev a0 a1) (needs_cons n0 (needs_cons n1 needs_nil))
def r10_SameView_r2 (a0 : TView) (a1 : TView) : A := .v (.bool (eqVw a0 a1))
def r10_SameView_o2 (_a0 : TView) (_a1 : TView) : Objs := []
def r10_SameView_ps2 (a0 : TView) (_a1 : TView) : List Prop := [wideN a0.fields.length]
theorem eqFs_iff : ∀ {a b : List TField}, eqFs a b = true ↔ a = b
 | [], [] => by simp [eqFs]
 | [], _ :: _ => by simp [eqFs]
 | _ :: _, [] => by simp [eqFs]
 | ⟨g, v⟩ :: xs, ⟨g', v'⟩ :: ys => by
  unfold eqFs
  rw [Bool.and_eq_true, Bool.and_eq_true, beq_iff_eq, beq_iff_eq, eqFs_iff]
  simp
theorem eqFs_N : ∀ (a b : List TField), a.length = b.length → eqFs a b = allN a.length (fun i => (a.getD i (dflt TC.field)).1 == (b.getD i (dflt TC.field)).1 && (a.getD i (dflt TC.field)).2 == (b.getD i (dflt TC.field)).2) := fun a b h => by
 rw [Bool.eq_iff_iff, eqFs_iff, allN_iff]
 constructor
 ·rintro rfl i _
  simp
 ·intro g
  refine List.ext_getElem h fun i h1 h2 => ?_
  have := g i h1
  rw [List.getD_eq_getElem?_getD, List.getD_eq_getElem?_getD, List.getElem?_eq_getElem h1, List.getElem?_eq_getElem h2, Option.getD_some, Option.getD_some, Bool.and_eq_true, beq_iff_eq, beq_iff_eq] at this
  revert this
  generalize a[i] = x
  generalize b[i] = y
  cases x; cases y
  rintro ⟨rfl, rfl⟩
  rfl
theorem r10_SameView_eq (a b : TView) (hb : wideN a.fields.length) : (∀ p ∈ r10_SameView_ps a b, p) ∧ r10_SameView_0 a b = eqVw a b := by
 unfold wideN at hb
 have hk0 : r10_SameView_k0 a b = (!(a.key == b.key) || a.fields.length != b.fields.length) := by
  show (!(a.key.toList == b.key.toList) || ((a.fields.length : Int) != (b.fields.length : Int))) = _
  rw [tlb]
  congr 1
  rw [Bool.eq_iff_iff, bne_iff_ne, bne_iff_ne]; omega
 have main : r10_SameView_k0 a b = false → needX r10_SameView_l0_next r10_SameView_l0_goes r10_SameView_l0_ps (r10_SameView_l0_fuel (0, a, b)) (0, a, b) ∧ r10_SameView_l0_f_k0 (r10_SameView_k1 a b).fst (r10_SameView_k1 a b).snd.fst (r10_SameView_k1 a b).snd.snd = !eqFs a.fields b.fields := fun h0 => by
  rw [hk0] at h0
  have hlen : a.fields.length = b.fields.length := by simpa using (Bool.or_eq_false_iff.1 h0).2
  have hf : ∀ i : Nat, r10_SameView_l0_f_k0 (i : Int) a b = (decide (i < a.fields.length) && !((a.fields.getD i (dflt TC.field)).1 == (b.fields.getD i (dflt TC.field)).1 && (a.fields.getD i (dflt TC.field)).2 == (b.fields.getD i (dflt TC.field)).2)) := fun i => by
   unfold r10_SameView_l0_f_k0 r10_SameView_l0_f_k1
   rw [nn, dlt, Int.toNat_natCast, tlb]
  obtain ⟨h1, k, hk, hx, _, _, hb'⟩ := scanB (fun i => (((i : Int), a, b) : r10_SameView_l0_X)) a.fields.length (fun i => !((a.fields.getD i (dflt TC.field)).1 == (b.fields.getD i (dflt TC.field)).1 && (a.fields.getD i (dflt TC.field)).2 == (b.fields.getD i (dflt TC.field)).2)) r10_SameView_l0_next r10_SameView_l0_goes r10_SameView_l0_ps (r10_SameView_l0_fuel (0, a, b)) (0, a, b) rfl (by show a.fields.length ≤ ((a.fields.length : Int) - 0).toNat; omega)
   (fun i _ _ => by
    show ((!!decide ((i : Int) < (a.fields.length : Int))) && !r10_SameView_l0_f_k0 i a b) = _
    rw [hf, nn, dlt]
    cases decide (i < a.fields.length) <;> rfl)
   (fun i hi _ => by
    show (IntKind.i64.wrap ((i : Int) + 1), a, b) = (((i + 1 : Nat) : Int), a, b)
    rw [wsucc (by omega)])
   (fun i _ _ => by
    have hin : (!!decide ((i : Int) < (a.fields.length : Int))) = true → (i : Int) < (a.fields.length : Int) := fun h => by rw [nn] at h; exact of_decide_eq_true h
    exact needs_cons (fun h => ⟨by show (0 : Int) ≤ (i : Int); omega, hin h⟩) (needs_cons (fun h => ⟨by show (0 : Int) ≤ (i : Int); omega, by have := hin h; show (i : Int) < (b.fields.length : Int); omega⟩) needs_nil))
  refine ⟨h1, ?_⟩
  have hr : r10_SameView_k1 a b = ((k : Int), a, b) := hx
  rw [hr]
  show r10_SameView_l0_f_k0 (k : Int) a b = _
  rw [hf, hb', eqFs_N _ _ hlen]
  congr 1
  exact allN_congr fun i _ => Bool.not_not _
 refine ⟨needs_cons (fun h => (main (by simpa using h)).1) needs_nil, ?_⟩
 unfold r10_SameView_0 eqVw
 cases h0 : r10_SameView_k0 a b with
 | true =>
  rw [hk0] at h0
  rw [cond_true]
  cases hk : a.key == b.key with
  | false => rfl
  | true =>
   rw [hk] at h0
   have hne : a.fields.length ≠ b.fields.length := by simpa using h0
   cases he : eqFs a.fields b.fields with
   | false => rfl
   | true => exact absurd (congrArg List.length (eqFs_iff.1 he)) hne
 | false =>
  rw [cond_false, (main h0).2]
  rw [hk0] at h0
  have : (a.key == b.key) = true := by simpa using (Bool.or_eq_false_iff.1 h0).1
  rw [this, Bool.true_and]
  cases eqFs a.fields b.fields <;> rfl
theorem r10_SameView_c2 (a0 : TView) (a1 : TView) (hp : ∀ p ∈ r10_SameView_ps2 a0 a1, p) : CallOk Try.prog 59 [valA .view a0, valA .view a1] 0 [] 1 (r10_SameView_r2 a0 a1) 0 (r10_SameView_o2 a0 a1) := by
 have hb : wideN a0.fields.length := hp _ (List.mem_cons_self ..)
 have h := r10_SameView_c a0 a1 (r10_SameView_eq a0 a1 hb).1
 unfold r10_SameView_r at h
 rw [(r10_SameView_eq a0 a1 hb).2] at h
 exact h
def r10_SameView_t : List A → Nat → Objs → Option CRes
 | [y0, y1], nx, o => match argU .view y0, argU .view y1 with
  | some (a0, p0), some (a1, p1) => some (1, (r10_SameView_r2 a0 a1).pk (shiftR nx), nx + 0, shiftO nx (r10_SameView_o2 a0 a1) ++ o, p0 ++ (p1 ++ (r10_SameView_ps2 a0 a1)))
  | _, _ => none
 | _, _, _ => none
theorem r10_SameView_tok : TOk Try.prog 59 r10_SameView_t := fun args nx o k x nx' o' ps h => by
 unfold r10_SameView_t at h
 split at h <;> first | (cases h; done) | skip
 split at h <;> first | (cases h; done) | skip
 rename_i a0 p0 a1 p1 e0 e1
 cases h
 refine ⟨fun hp => ?_, _, rfl⟩
 have q0 := fun p hm => hp p (List.mem_append.2 (.inl hm))
 have r0 := fun p hm => hp p (List.mem_append.2 (.inr hm))
 have q1 := fun p hm => r0 p (List.mem_append.2 (.inl hm))
 have r1 := fun p hm => r0 p (List.mem_append.2 (.inr hm))
 refine callOk_args (callOk_shift (r10_SameView_c2 a0 a1 r1) (Nat.le_refl _) (freeL_cons (valA_free _ _) (freeL_cons (valA_free _ _) freeL_nil)) nx o) fun F N R vs hl => ?_
 obtain ⟨v0, w0, rfl, h0, hl⟩ := hl.inv
 obtain ⟨v1, w1, rfl, h1, hl⟩ := hl.inv
 exact HL.cons (argU_ok e0 q0 h0) (HL.cons (argU_ok e1 q1 h1) (hl))
noncomputable def Cl_4 := addC 59 r10_SameView_t Cl_3
theorem Cl_4_ok : COk Try.prog Cl_4 := addC_ok r10_SameView_tok Cl_3_ok
noncomputable def Cl := Cl_4
theorem Cl_ok : COk Try.prog Cl := Cl_4_ok
end Go.Proofs.Yteebobbhhgmeiaa
namespace Go.Proofs.Yteebobbhhgmeiaa
open Go.RowKit Go.Shelf
attribute [local go_sem] Oper.semAt_some
def OwnB (base : Nat) (W : World) (y : Value) (bs : List UInt8) : Prop := OwnR W 5 1 y bs.length (bs.map byteV) ∧ ∀ g, blkOf y = some g → base ≤ g
theorem OwnB.keep {base : Nat} {W W' : World} {y : Value} {bs : List UInt8} (h : OwnB base W y bs) (hk : ∀ g, base ≤ g → blkOf y = some g → W'.heap[g]? = W.heap[g]?) : OwnB base W' y bs := ⟨h.1.keep fun g hg => hk g (h.2 g hg) hg, h.2⟩
theorem OwnB.mono {b b' : Nat} {W : World} {y : Value} {bs : List UInt8} (h : OwnB b W y bs) (hb : b' ≤ b) : OwnB b' W y bs := ⟨h.1, fun g hg => Nat.le_trans hb (h.2 g hg)⟩
theorem ownB_own (b0 b : Nat) (t : TypeId) (f : List (TGroup × TCell) → List UInt8) : Own (fun s W => ∃ y, W.heap[b0]? = some (.cells #[y] t (0, 0)) ∧ OwnB b W y (f s)) := fun s W W' row ⟨y, h1, h2⟩ hg hr => by
 have key : ∀ (g : Nat) (o : Obj), W.heap[g]? = some o → o.isCells = true → W'.heap[g]? = W.heap[g]? := fun g o ho hc => by
  refine hg.block g (blk_lt ho) fun e => ?_
  obtain ⟨o', h3, h4⟩ := hr g e.symm
  rw [ho] at h3
  cases h3
  rw [hc] at h4
  cases h4
 refine ⟨y, (key b0 _ h1 rfl).trans h1, h2.keep fun g _ hgy => ?_⟩
 rcases h2.1.2 with ⟨a, e1, _⟩ | ⟨g', cap, cur, e1, e3, _⟩
 ·rw [e1] at hgy; cases a <;> cases hgy
 ·rw [e1] at hgy
  cases hgy
  exact key _ _ e3 rfl
theorem OwnB.form {base : Nat} {W : World} {y : Value} {bs : List UInt8} (h : OwnB base W y bs) : ∃ a n c, y = .slice a n c := by
 obtain ⟨a, c, e, _⟩ := h.1.form
 exact ⟨a, _, c, e⟩
theorem KB.setCell {n₀ X : Nat} (W : World) (v : Value) : KB n₀ X W (W.setCell ⟨X, 0, none⟩ v) :=
 ⟨rfl, rfl, rfl, by rw [set_size]; exact Nat.le_refl _, fun k _ hk => Below.heap_setCell W ⟨X, 0, none⟩ v k hk⟩
theorem flat_len {α : Type} (F : α → List UInt8) (n : Nat) (h : ∀ x, (F x).length ≤ n) : ∀ l : List α, (l.flatMap F).length ≤ l.length * n
 | [] => by simp
 | x :: r => by
  have := flat_len F n h r
  have := h x
  rw [List.flatMap_cons, List.length_append, List.length_cons, Nat.succ_mul]
  omega
set_option maxRecDepth 100000 in
set_option maxHeartbeats 1000000 in
theorem rput_calls (w : World) (a0 a1 : Option Addr) (gs : List TGroup) (cs : List TCell) (key : ByteArray) (cap0 cap1 : Nat) (na ncap : Nat) (ab : Option Addr) (b0 : List UInt8) (pc : Int → TCell → List UInt8) (Nx : Nat)
  (hpc : ∀ q c, (pc q c).length ≤ Nx)
  (hGd : ∀ W, Below w.heap.size w W → Calls Try.prog 65 #[.slice a0 gs.length cap0, .agg #[.string key, .slice a1 cs.length cap1]] W fun e W' => e = .returned (.int .i64 0) ∧ Below W.heap.size W W')
  (hl1 : 1 ≤ gs.length) (hl4 : gs.length ≤ 4) (hlen0 : Nat.beq cs.length gs.length = true)
  (hPT : ∀ W, Below w.heap.size w W → Calls Try.prog 122 #[.slice ab na ncap, .string key] W fun e W' => ∃ y, e = .returned y ∧ Below W.heap.size W W' ∧ OwnB W.heap.size W' y b0)
  (hCP : ∀ W v bs q c base, OwnB base W v bs → bs.length ≤ b0.length + 4 * Nx → Calls Try.prog 56 #[v, .int .i64 q, cV c] W fun e W' => ∃ y, e = .returned y ∧ Below W.heap.size W W' ∧ OwnB W.heap.size W' y (bs ++ pc q c))
  (hG : 0 < gs.length → ∃ b off, a0 = some ⟨b, off, none⟩ ∧ GsAt w.heap.size w.heap.size w b off gs)
  (hS : 0 < cs.length → ∃ b off, a1 = some ⟨b, off, none⟩ ∧ CsAt w.heap.size w.heap.size w b off cs) :
  Calls Try.prog 79 #[.slice ab na ncap, .slice a0 gs.length cap0, .agg #[.string key, .slice a1 cs.length cap1]] w fun e W' => ∃ y, e = .returned y ∧ Below w.heap.size w W' ∧ OwnB w.heap.size W' y (b0 ++ (gs.zip cs).flatMap (fun x => pc x.1.policy x.2)) := by
 refine (callsIn_wide (n := 5)).1 ?_
 refine callsIn_of_wp_marks Try.func79 rfl trivial ?_ rfl
 simp only [Try.ntmps79, List.size_toArray, List.length_cons, List.length_nil, Nat.reduceAdd, Nat.reduceSub, Array.replicate_succ, Array.replicate_zero, List.push_toArray, List.append_toArray, List.nil_append, List.cons_append]
 have hw2 : Below w.heap.size w ((w.alloc (.cells #[.slice ab na ncap] 84)).alloc (.cells #[.string key, .slice a1 cs.length cap1] 71)) := ((Below.refl _ w).alloc (Nat.le_refl _) _).alloc (by simp) _
 have hr1 := alloc_old (.cells #[.string key, .slice a1 cs.length cap1] 71) (alloc_new (w := w) (.cells #[.slice ab na ncap] 84) rfl)
 have hr2 := alloc_new (w := w.alloc (.cells #[.slice ab na ncap] 84)) (.cells #[.string key, .slice a1 cs.length cap1] 71) (n := w.heap.size + 1) (by simp)
 obtain ⟨k0, k1⟩ := cb2 hr2
 have k2 := cb1 hr1
 gi_wp2_with (first
  | (refine ⟨trivial, ?_⟩; gi_at_call 65; refine (callsIn_wide.2 (hGd _ hw2)).mono ?_; rintro e W1 ⟨rfl, hb1⟩; have hx1 := blk_next hr1 hb1; have hx2 := blk_next hr2 hb1; have d0 := cb1 hx1; have f0 := fb1 hx1; obtain ⟨c0, c1⟩ := cb2 hx2; have hB1 : Below w.heap.size w W1 := hw2.trans (hb1.mono (by simp; omega)); clear hr1 hr2 hb1 k0 k1 k2)
  | (refine ⟨trivial, ?_⟩; gi_at_call 122; refine (callsIn_wide.2 (hPT _ hB1)).mono ?_; rintro e W2 ⟨y0, rfl, hb2, hy0⟩; obtain ⟨ya, yc, rfl, hyc⟩ := hy0.1.form; have hz1 := blk_next hx1 hb2; have hz2 := blk_next hx2 hb2; have d2 := cb1 hz1; have f2 := fb1 hz1; obtain ⟨c2, c3⟩ := cb2 hz2; have hB2 : Below w.heap.size w W2 := hB1.trans (hb2.mono hB1.size); clear d0 f0 c0 c1)
  | (refine ⟨trivial, ?_⟩; gi_at_call 132; refine (parts_in _ _ _ _ _ _ _).mono ?_; rintro e W3 ⟨rfl, rfl⟩))
 have hlen : cs.length = gs.length := Nat.eq_of_beq_eq_true hlen0
 have hy1 := set_same (i := 0) hz1 (.slice ya b0.length yc)
 have hy2 := set_far hz2 (p := ⟨w.heap.size, 0, none⟩) (by simp) (.slice ya b0.length yc)
 have hB3 : Below w.heap.size w (W2.setCell ⟨w.heap.size, 0, none⟩ (.slice ya b0.length yc)) := hB2.setCell (p := ⟨w.heap.size, 0, none⟩) (Nat.le_refl _) _
 have hs1 := blk_lt hx2
 have hs2 := blk_lt hy2
 have hyo : OwnB (w.heap.size + 1) (W2.setCell ⟨w.heap.size, 0, none⟩ (.slice ya b0.length yc)) (.slice ya b0.length yc) b0 := (hy0.mono (Nat.le_of_lt hs1)).keep fun g hg _ => Below.heap_setCell W2 ⟨w.heap.size, 0, none⟩ _ g (by simp; omega)
 have hVs : (W2.setCell ⟨w.heap.size, 0, none⟩ (.slice ya b0.length yc)).heap.size = W2.heap.size := set_size _ _ _
 rw [← hVs]
 generalize W2.setCell ⟨w.heap.size, 0, none⟩ (.slice ya b0.length yc) = V at hy1 hy2 hB3 hs2 hyo ⊢
 clear hVs
 clear hz1 hz2 d2 f2 c2 c3 hx1 hx2 hb2 hy0
 obtain ⟨b, off, rfl, hg⟩ := hG (by omega)
 obtain ⟨b', off', rfl, hc⟩ := hS (by omega)
 have hW2 : Below V.heap.size V ((V.alloc (.cells #[.slice (some ⟨b, off, none⟩) gs.length cap0] 66)).alloc (.cells #[.string key, .slice (some ⟨b', off', none⟩) cs.length cap1] 71)) := ((Below.refl _ V).alloc (Nat.le_refl _) _).alloc (by simp) _
 have hv2 := alloc_old (.cells #[.string key, .slice (some ⟨b', off', none⟩) cs.length cap1] 71) (alloc_new (w := V) (.cells #[.slice (some ⟨b, off, none⟩) gs.length cap0] 66) rfl)
 have hv3 := alloc_new (w := V.alloc (.cells #[.slice (some ⟨b, off, none⟩) gs.length cap0] 66)) (.cells #[.string key, .slice (some ⟨b', off', none⟩) cs.length cap1] 71) (n := V.heap.size + 1) (by simp)
 have hz1 := blk_next hy1 hW2
 have hz3 := blk_lt hv3
 have hB4 := hB3.trans (hW2.mono hB3.size)
 have hyo2 : OwnB (w.heap.size + 1) ((V.alloc (.cells #[.slice (some ⟨b, off, none⟩) gs.length cap0] 66)).alloc (.cells #[.string key, .slice (some ⟨b', off', none⟩) cs.length cap1] 71)) (.slice ya b0.length yc) b0 := hyo.keep fun g _ hgy => hW2.block g (hyo.1.lt hgy)
 clear hyo hs1
 rw [show V.heap.size = V.heap.size from rfl] at hv2
 generalize hVW : (V.alloc (.cells #[.slice (some ⟨b, off, none⟩) gs.length cap0] 66)).alloc (.cells #[.string key, .slice (some ⟨b', off', none⟩) cs.length cap1] 71) = W2 at hW2 hv2 hv3 hz1 hz3 hB4 hyo2 ⊢
 have hlt0 := blk_lt hy1
 have hg2 : GsAt W2.heap.size w.heap.size W2 b off gs := ⟨⟨by have := hg.1.1; omega, by have := hg.1.1; omega⟩, fun j g hj => ⟨(hB4.cell (p := ⟨b, _, none⟩) hg.1.1).trans (hg.2 j g hj).1, (hB4.cell (p := ⟨b, _, none⟩) hg.1.1).trans (hg.2 j g hj).2⟩⟩
 have hc2 : CsAt W2.heap.size w.heap.size W2 b' off' cs := by
  refine ⟨⟨by have := hc.1.1; omega, by have := hc.1.1; omega⟩, fun j c hj => ?_⟩
  have k : ∀ o, W2.cell? ⟨b', o, none⟩ = w.cell? ⟨b', o, none⟩ := fun o => hB4.cell (p := ⟨b', o, none⟩) hc.1.1
  simp only [k]
  exact hc.2 j c hj
 refine wpIn_rangeFunc_ownH (F := Fence.wide) rfl (by omega) (gf := 165) (lb := #[.pointer (some ⟨V.heap.size, 0, none⟩), .pointer (some ⟨V.heap.size + 1, 0, none⟩)]) rfl trivial (enters_of Try.func165 (by kernel_rfl) rfl)
  (parts_stops _ (by omega) V.heap.size (V.heap.size + 1) W2.heap.size w.heap.size b off cap0 b' off' cap1 gs cs hlen hl4 W2 (Nat.le_refl _) (cb1 hv2) (cb2 hv3).2 ⟨by omega, by omega⟩ ⟨by omega, by omega⟩ hg2 hc2)
  KB.trans (KB.putObj (Nat.le_refl _)) (Below.refl _ _) (fun _ => rfl)
  (fun pre W => (∃ y, W.heap[w.heap.size]? = some (.cells #[y] 84 (0, 0)) ∧ OwnB (w.heap.size + 1) W y (b0 ++ pre.flatMap (fun x => pc x.1.policy x.2))) ∧ Below w.heap.size w W ∧ W2.heap.size ≤ W.heap.size)
  (fun _ _ _ => False)
  (OwnFrom.and (Own.from (ownB_own w.heap.size (w.heap.size + 1) 84 (fun pre => b0 ++ pre.flatMap (fun x => pc x.1.policy x.2))) _) (OwnFrom.and (ownFrom_below (Nat.le_refl _) hB4.size) (ownFrom_size _ _)))
  (fun _ _ _ _ _ hs _ _ => hs)
  ⟨⟨_, hz1, by simpa using hyo2⟩, hB4, Nat.le_refl _⟩
  (fun x a' W => (∃ B6 B7, a' = { tmps := #[Value.slice ab na ncap, Value.slice (some ⟨b, off, none⟩) gs.length cap0,
     Value.agg #[Value.string key, Value.slice (some ⟨b', off', none⟩) cs.length cap1],
     Value.pointer (some { block := w.heap.size, off := 0 }), undef,
     Value.pointer (some { block := w.heap.size + 1, off := 0 }), Value.slice none 0 0, Value.pointer (some ⟨B6, 0, none⟩), Value.pointer (some ⟨B7, 0, none⟩),
     Value.slice (some ⟨b, off, none⟩) gs.length cap0, Value.agg #[Value.string key, Value.slice (some ⟨b', off', none⟩) cs.length cap1],
     Value.int IntKind.i64 0, Value.bool false, undef, undef, undef, Value.slice ab na ncap,
     Value.pointer (some { block := w.heap.size + 1, off := 0 }), Value.string key, Value.slice ya b0.length yc,
     Value.slice (some ⟨b, off, none⟩) gs.length cap0, Value.agg #[Value.string key, Value.slice (some ⟨b', off', none⟩) cs.length cap1],
     Value.func (Fn.func 165) #[] #[Value.pointer (some { block := V.heap.size, off := 0 }), Value.pointer (some { block := V.heap.size + 1, off := 0 })],
     gV x.1, cV x.2, undef, undef, undef, undef, undef, undef], defers := [] } ∧
    (W.heap[B6]? = some (.cells #[.string x.1.name, .int .i64 x.1.policy] 79 (0, 0)) ∧ W.heap[B7]? = some (.cells #[.int .i64 x.2.stamp.n, .int .i64 x.2.stamp.site, .int .i64 x.2.vec.a, .int .i64 x.2.vec.b, .bool x.2.gone, .string x.2.value, .int .i64 x.2.dead.a, .int .i64 x.2.dead.b] 55 (0, 0)))))
  (fun x a' => Own.from (fun s X Y row hs hgr hr => by
   obtain ⟨B6, B7, e1, e2, e3⟩ := hs
   exact ⟨B6, B7, e1, blk_own B6 _ _ s X Y row e2 hgr hr, blk_own B7 _ _ s X Y row e3 hgr hr⟩) _) ?assign ?body ?done ?stop
 case assign =>
  rintro l pre x W K ⟨⟨y, i1, i2⟩, i3, i4⟩ hK
  clear hlen hlen0
  dsimp only [encP, gV, cV] at hK ⊢
  gi_wp2
  have hb : Below W.heap.size W ((W.alloc (.cells #[.string x.1.name, .int .i64 x.1.policy] 79)).alloc (.cells #[.int .i64 x.2.stamp.n, .int .i64 x.2.stamp.site, .int .i64 x.2.vec.a, .int .i64 x.2.vec.b, .bool x.2.gone, .string x.2.value, .int .i64 x.2.dead.a, .int .i64 x.2.dead.b] 55)) := ((Below.refl _ W).alloc (Nat.le_refl _) _).alloc (by simp) _
  exact hK _ _ (keepsFrom_below _ hb) (KB.of_below (hb.mono i4)) ⟨⟨y, blk_next i1 hb, i2.keep fun g _ hgy => hb.block g (i2.1.lt hgy)⟩, i3.trans (hb.mono i3.size), Nat.le_trans i4 hb.size⟩ ⟨W.heap.size, W.heap.size + 1, rfl, alloc_old _ (alloc_new _ rfl), alloc_new _ (by simp)⟩
 case body =>
  rintro l pre x a' W hl hr ⟨⟨y, i1, i2⟩, i3, i4⟩ ⟨B6, B7, rfl, e6, e7⟩ hlt
  obtain ⟨yb, ym, yd, rfl⟩ := i2.form
  obtain ⟨k0, k1⟩ := cb2 e6
  obtain ⟨m0, m1, m2, m3, m4, m5, m6, m7⟩ := cb8 e7
  have d0 := cb1 i1
  have hbl : (b0 ++ pre.flatMap (fun x => pc x.1.policy x.2)).length ≤ b0.length + 4 * Nx := by
   have := flat_len (fun x : TGroup × TCell => pc x.1.policy x.2) Nx (fun x => hpc _ _) pre
   have h2 : pre.length * Nx ≤ 4 * Nx := Nat.mul_le_mul_right _ (by omega)
   rw [List.length_append]
   omega
  clear hlen hlen0
  generalize hbe : b0 ++ pre.flatMap (fun x => pc x.1.policy x.2) = bs at *
  gi_wp2_with (refine ⟨trivial, ?_⟩; gi_at_call 56; refine (CallsIn.inRound l (callsIn_wide.2 (hCP _ _ bs x.1.policy x.2 _ i2 hbl))).mono ?_; rintro e W' ⟨y', rfl, hb, hy'⟩; obtain ⟨ye, yn, yf, rfl⟩ := hy'.form; have q1 := blk_next i1 hb; have d4 := cb1 q1; have f4 := fb1 q1)
  have hw := blk_lt i1
  refine ⟨(keepsFrom_below _ hb).trans ((KeepsOthers.setCell _ _ _).from _), (KB.of_below (hb.mono i4)).trans (KB.setCell _ _), ⟨_, set_same (i := 0) q1 _, ?_⟩, (i3.trans (hb.mono i3.size)).setCell (p := ⟨w.heap.size, 0, none⟩) (Nat.le_refl _) _, Nat.le_trans i4 (by rw [set_size]; exact hb.size)⟩
  rw [List.flatMap_append, ← List.append_assoc, hbe]
  simp only [List.flatMap_cons, List.flatMap_nil, List.append_nil]
  exact (hy'.mono (b' := w.heap.size + 1) (by omega)).keep fun g hg _ => Below.heap_setCell W' ⟨w.heap.size, 0, none⟩ _ g (by simp; omega)
 case done =>
  rintro D ys W hD rfl ⟨⟨y, i1, i2⟩, i3, i4⟩ hK
  obtain ⟨yb, ym, yd, rfl⟩ := i2.form
  have d0 := cb1 i1
  clear hlen hlen0
  gi_wp2
  refine ⟨by simp, .inl ⟨_, _, rfl, run_takeDeferred hK, ?_⟩⟩
  refine ⟨_, results_tmp rfl _ _ _, _, rfl, i3.trans (belowK_b (w := w) (Nat.le_refl _) W D _ _ (by have := hB4.size; omega) hK rfl rfl), (i2.mono (Nat.le_succ _)).keep fun g _ hgy => ?_⟩
  refine World.putObj_heap_other fun e => ?_
  subst e
  rcases i2.1.2 with ⟨a, e1, _⟩ | ⟨g', cap, cur, e1, e3, _⟩
  ·rw [e1] at hgy; cases a <;> cases hgy
  ·rw [e1] at hgy
   cases hgy
   rw [hK] at e3
   cases e3
 case stop =>
  rintro D c pre W hD _ h _
  exact h.elim
end Go.Proofs.Yteebobbhhgmeiaa
namespace Go.Proofs.Yteebobbhhgmeiaa
open Go.RowKit
def putRow (l : List TGroup) (r : TRow) : List UInt8 := putT r.key ++ (l.zip r.cells).flatMap (fun x => putC x.1.policy x.2)
def putRw (l : List TGroup) (r : TRow) : List UInt8 := bif goodRow l r == 0 then putRow l r else []
def row_Put_k0 (_a0 : List UInt8) (a1 : List TGroup) (a2 : TRow) : Bool := goodRow a1 a2 != (0 : Int)
def row_Put_0 (a0 : List UInt8) (_a1 : List TGroup) (_a2 : TRow) : List UInt8 := [] ++ a0
def row_Put_r (_a0 : List UInt8) (_a1 : List TGroup) (_a2 : TRow) : A := .sq 0
def row_Put_o (a0 : List UInt8) (a1 : List TGroup) (a2 : TRow) : Objs := [(0, some (.arr 5 1 (.ty .u8 (row_Put_0 a0 a1 a2))))]
def row_Put_ps (a0 : List UInt8) (a1 : List TGroup) (a2 : TRow) : List Prop := [((row_Put_k0 a0 a1 a2) = true → boundP ((0 : Nat) + a0.length)), ((!(row_Put_k0 a0 a1 a2)) = true → boundP (a0.length + (8 : Nat) + a2.1.size)), ((!(row_Put_k0 a0 a1 a2)) = true → Stuck (4 : Nat))]
set_option maxRecDepth 100000 in
theorem row_Put_ev (a0 : List UInt8) (a1 : List TGroup) (a2 : TRow) : evF (envT Cl L0) 9 79 [valA .bytes a0, .sl .group a1, valA .row a2] 0 [] = some (1, row_Put_r a0 a1 a2, 1, row_Put_o a0 a1 a2, [((row_Put_k0 a0 a1 a2) = true → boundP ((0 : Nat) + a0.length)), ((!(row_Put_k0 a0 a1 a2)) = true → boundP (a0.length + (8 : Nat) + a2.1.size)), ((!(row_Put_k0 a0 a1 a2)) = true → Stuck (4 : Nat))]) := by kernel_rfl
set_option maxRecDepth 100000 in
theorem row_Put_c (a0 : List UInt8) (a1 : List TGroup) (a2 : TRow) (hp : ∀ p ∈ row_Put_ps a0 a1 a2, p) : CallOk Try.prog 79 [valA .bytes a0, .sl .group a1, valA .row a2] 0 [] 1 (row_Put_r a0 a1 a2) 1 (row_Put_o a0 a1 a2) := by
 have n0 : ((row_Put_k0 a0 a1 a2) = true → boundP ((0 : Nat) + a0.length)) := hp _ (List.mem_cons_self ..)
 have n1 : ((!(row_Put_k0 a0 a1 a2)) = true → boundP (a0.length + (8 : Nat) + a2.1.size)) := hp _ (List.mem_cons_of_mem _ (List.mem_cons_self ..))
 have n2 : ((!(row_Put_k0 a0 a1 a2)) = true → Stuck (4 : Nat)) := hp _ (List.mem_cons_of_mem _ (List.mem_cons_of_mem _ (List.mem_cons_self ..)))
 exact evF_ok (envP_ok Cl_ok L0_ok) (row_Put_ev a0 a1 a2) (needs_cons n0 (needs_cons n1 (needs_cons n2 needs_nil)))
def row_Put_r2 (_a0 : List UInt8) (_a1 : List TGroup) (_a2 : TRow) : A := .sq 0
def row_Put_o2 (a0 : List UInt8) (a1 : List TGroup) (a2 : TRow) : Objs := [(0, some (.arr 5 1 (.ty .u8 (a0 ++ putRw a1 a2))))]
def row_Put_ps2 (a0 : List UInt8) (_a1 : List TGroup) (_a2 : TRow) : List Prop := [boundP (a0.length + 1024)]
section
variable {F : Nat → Prop} {N : Nm} {nx : Nat} {R : World}
theorem byte_rows : ∀ {l : List UInt8} {zs : List Value}, zs.length = l.length → (∀ k, k < l.length → HL F N nx R [.v (byteV (l.getD k 0))] ((zs.drop (k * 1)).take 1)) → zs = l.map byteV
 | [], [], _, _ => rfl
 | [], _ :: _, h, _ => by cases h
 | _ :: _, [], h, _ => by cases h
 | x :: l, z :: zs, h, g => by
  have h0 := g 0 (Nat.succ_pos _)
  obtain ⟨v, vs, e1, e2, e3⟩ := h0.inv
  have hz : z = byteV x := by
   have e1' : [z] = v :: vs := e1
   injection e1' with e1' _
   rw [e1']
   exact e2.v_inv
  rw [List.map_cons, ← hz, byte_rows (l := l) (zs := zs) (by simpa using h) fun k hk => by
   have := g (k + 1) (Nat.succ_lt_succ hk)
   simpa [Nat.mul_one] using this]
theorem rows_byte {l : List UInt8} {k : Nat} (hk : k < l.length) : HL F N nx R [.v (byteV (l.getD k 0))] (((l.map byteV).drop (k * 1)).take 1) := by
 rw [Nat.mul_one, List.drop_eq_getElem_cons (by simpa using hk), List.take_succ_cons, List.take_zero, List.getElem_map, List.getD_eq_getElem?_getD, List.getElem?_eq_getElem hk]
 exact HL.cons (.v _) HL.nil
theorem OwnB.sl {base : Nat} {y : Value} {bs : List UInt8} (h : OwnB base R y bs) (N : Nm) : (∀ g, blkOf y = some g → g < R.heap.size) ∧ Hv (fun g => blkOf y = some g) N 0 R (.sl .u8 bs) y := by
 refine ⟨fun g hg => h.1.lt hg, ?_⟩
 obtain ⟨hl, h2⟩ := h.1
 rcases h2 with ⟨a, e1, e2⟩ | ⟨g, cap, cur, e1, e2, e3, _, e5, e6⟩
 ·obtain rfl : bs = [] := List.eq_nil_of_length_eq_zero e2
  rw [e1]
  exact Hv.sl_nil rfl
 ·rw [e1]
  refine Hv.of_sl e3 fun hn => ⟨⟨g, 0, none⟩, rfl, ?_, fun i d hd j x hx => ?_⟩
  ·obtain ⟨m, hm⟩ : ∃ m, bs.length = m + 1 := ⟨bs.length - 1, by omega⟩
   rw [hm]
   rfl
  ·cases j with
   | succ j => cases hx
   | zero =>
    have hi := (List.getElem?_eq_some_iff.1 hd).1
    have hz : (bs.map byteV)[i]? = some (byteV d) := by rw [List.getElem?_map, hd]; rfl
    rw [← e6, List.getElem?_take_of_lt (by omega)] at hz
    obtain rfl : A.v (byteV d) = x := Option.some.inj hx
    refine ⟨byteV d, ?_, .v _⟩
    rw [add_add, add_mk, blk_cell e2]
    show cur[0 + (i * 1 + 0)]? = _
    rw [Nat.zero_add, Nat.add_zero, Nat.mul_one]
    simpa using hz
end
theorem CallOk.bytes {P : Program} {f : FuncId} {args : List A} {bs : List UInt8} (h : CallOk P f args 0 [] 1 (.sq 0) 1 [(0, some (.arr 5 1 (.ty .u8 bs)))]) {F : Nat → Prop} {N : Nm} {R : World} {vs : List Value} (hF : ∀ g, F g → g < R.heap.size) (hv : HL F N 0 R args vs) :
  Calls P f vs.toArray R fun e R' => ∃ y, e = .returned y ∧ Below R.heap.size R R' ∧ OwnB R.heap.size R' y bs := by
 refine (h F N R vs (HRel.bare hF) hv).mono fun e R' ⟨y, F', N', e1, h2, h3, h4, h5⟩ => ⟨y, e1, h5 (Nat.le_refl _), ?_⟩
 obtain rfl : y = N'.q 0 := by cases h4; rfl
 obtain ⟨_, zs, g1, g2⟩ := h2.ob 0 _ rfl
 have e : zs = bs.map byteV := byte_rows (F := F') (N := N') (nx := 1) (R := R') (by rw [g1.1]; exact Nat.mul_one _) g2
 rw [e] at g1
 refine ⟨g1, fun g hg => ?_⟩
 rcases h3.foot g ⟨0, _, rfl, hg⟩ with ⟨i, ob, hl, _⟩ | h
 ·cases hl
 ·exact h
theorem OwnB.made {P : Program} {f : FuncId} {F : Nat → Prop} {N : Nm} {R : World} {vs : List Value} {bs : List UInt8} (hR : HRel F N 0 [] R)
  (h : Calls P f vs.toArray R fun e R' => ∃ y, e = .returned y ∧ Below R.heap.size R R' ∧ OwnB R.heap.size R' y bs) :
  Calls P f vs.toArray R fun e R' => ∃ y F' N', e = .returned y ∧ HRel F' N' 1 [(0, some (.arr 5 1 (.ty .u8 bs)))] R' ∧ Step F N 0 [] R F' N' 1 [(0, some (.arr 5 1 (.ty .u8 bs)))] R' ∧ Hv F' N' 1 R' (.sq 0) y ∧ (1 ≤ 1 → Below R.heap.size R R') := by
 refine h.mono fun e R' ⟨y, e1, hb, h2, h3⟩ => ⟨y, F, N.setQ 0 y, e1, ?_, ?_, ?_, fun _ => hb⟩
 ·have hq : (N.setQ 0 y).q 0 = y := by show setF N.q 0 y 0 = y; exact setF_same _ _ _
  have one : ∀ i ob, lookO i [(0, some (Ob.arr 5 1 (.ty .u8 bs)))] = some ob → i = 0 ∧ ob = .arr 5 1 (.ty .u8 bs) := fun i ob hl => by
   cases i with
   | zero => cases hl; exact ⟨rfl, rfl⟩
   | succ i => cases hl
  refine ⟨fun g hg => Nat.lt_of_lt_of_le (hR.flt g hg) hb.size, fun i ob hl => ?_, fun i ob g hl hg hF => ?_, fun i j x z g hl hl' _ _ => (one i x hl).1.trans (one j z hl').1.symm⟩
  ·obtain ⟨rfl, rfl⟩ := one i ob hl
   exact ⟨Nat.succ_pos _, bs.map byteV, by rw [hq]; exact h2, fun k hk => rows_byte hk⟩
  ·obtain ⟨rfl, rfl⟩ := one i ob hl
   have hg' : blkOf ((N.setQ 0 y).q 0) = some g := hg
   rw [hq] at hg'
   have := hR.flt g hF
   have := h3 g hg'
   omega
 ·refine ⟨Nat.zero_le _, fun i hi => absurd hi (Nat.not_lt_zero _), fun i hi => absurd hi (Nat.not_lt_zero _), fun _ h => h, fun _ h => .inl h, fun g ⟨i, ob, hl, hg⟩ => .inr ?_, hb.os, hb.tape, hb.output, hb.size, fun g hg _ => hb.block g hg⟩
  cases i with
  | succ i => cases hl
  | zero =>
   cases hl
   have hg' : blkOf ((N.setQ 0 y).q 0) = some g := hg
   rw [show (N.setQ 0 y).q 0 = y by show setF N.q 0 y 0 = y; exact setF_same _ _ _] at hg'
   exact h3 g hg'
 ·have hq : (N.setQ 0 y).q 0 = y := by show setF N.q 0 y 0 = y; exact setF_same _ _ _
  have := Hv.sq (F := F) (N := N.setQ 0 y) (nx := 1) (R := R') (i := 0) (Nat.succ_pos _)
  rw [hq] at this
  exact this
theorem putC_80 (p : Int) (c : TCell) : (putC p c).length ≤ 128 := by
 unfold putC bodyC
 cases hg : goodC p c with
 | false => exact Nat.zero_le _
 | true =>
  have n8 := putN_8 (flagsC c)
  have s8 := putS_8 c.stamp
  have v16 := putV_16 c.vec
  have d16 := putV_16 c.dead
  have t8 := putT_8 c.value
  cases hw : written c with
  | false => cases zeroV c.dead <;> simp only [cond_true, cond_false, List.length_append, List.length_nil] <;> omega
  | true =>
   have := ((goodC_iff.1 hg).st hw).2.2.2.1
   cases zeroV c.dead <;> cases c.gone <;> simp only [cond_true, cond_false, List.length_append, List.length_nil] <;> omega
theorem row_Put_c2 (a0 : List UInt8) (a1 : List TGroup) (a2 : TRow) (hp : ∀ p ∈ row_Put_ps2 a0 a1 a2, p) : CallOk Try.prog 79 [valA .bytes a0, .sl .group a1, valA .row a2] 0 [] 1 (row_Put_r2 a0 a1 a2) 1 (row_Put_o2 a0 a1 a2) := by
 have hb : boundP (a0.length + 1024) := hp _ (List.mem_cons_self ..)
 unfold boundP at hb
 cases hg : goodRow a1 a2 == 0 with
 | false =>
  have hk : row_Put_k0 a0 a1 a2 = true := by
   show (goodRow a1 a2 != 0) = true
   simpa using hg
  have h := row_Put_c a0 a1 a2 (needs_cons (fun _ => by unfold boundP; omega) (needs_cons (fun h => by rw [hk] at h; cases h) (needs_cons (fun h => by rw [hk] at h; cases h) needs_nil)))
  have e : row_Put_o a0 a1 a2 = row_Put_o2 a0 a1 a2 := by
   unfold row_Put_o row_Put_o2 row_Put_0 putRw
   rw [hg, cond_false, List.append_nil, List.nil_append]
  rw [e] at h
  exact h
 | true =>
  have h0 : goodRow a1 a2 = 0 := by simpa using hg
  obtain ⟨h1, hlen, _, h32, _⟩ := goodRow_0 h0
  obtain ⟨hl1, hl4⟩ := goodP_0 h1
  intro F N R vs hR hv
  obtain ⟨v, vs, rfl, hv0, hv⟩ := hv.inv
  obtain ⟨v0, vs, rfl, k0, hv⟩ := hv.inv
  obtain ⟨v1, vs, rfl, k1, hv⟩ := hv.inv
  rw [hv.inv0]
  have hv0' := hv0
  obtain ⟨ab, ncap, rfl, _⟩ := Hv.sl_inv (c := .u8) (l := a0) hv0
  obtain ⟨us, rfl, k2⟩ := Hv.agg_inv (xs := [.v (.string a2.key), .sl .cell a2.cells]) k1
  obtain ⟨u0, us, rfl, m0, k2⟩ := k2.inv
  obtain ⟨u1, us, rfl, m1, k2⟩ := k2.inv
  obtain rfl := k2.inv0
  obtain rfl := m0.v_inv
  obtain ⟨aa, cap0, rfl, g0⟩ := gs_at hR.flt k0
  obtain ⟨ac, cap1, rfl, g1⟩ := cs_at hR.flt m1
  have ho : row_Put_o2 a0 a1 a2 = [(0, some (.arr 5 1 (.ty .u8 ((a0 ++ putT a2.key) ++ (a1.zip a2.cells).flatMap (fun x => putC x.1.policy x.2)))))] := by
   unfold row_Put_o2 putRw putRow
   rw [hg, cond_true, List.append_assoc]
  rw [ho]
  refine OwnB.made hR (rput_calls R aa ac a1 a2.cells a2.key cap0 cap1 a0.length ncap ab (a0 ++ putT a2.key) putC 128 putC_80 ?_ hl1 hl4 (by rw [hlen]; exact beq_self _) ?_ ?_ g0 g1)
  ·intro W hW
   have h : Calls Try.prog 65 #[.slice aa a1.length cap0, .agg #[.string a2.key, .slice ac a2.cells.length cap1]] W fun e W' => e = .returned (.int .i64 (goodRow a1 a2)) ∧ Below W.heap.size W W' := (row_Good_c2 a1 a2 (fun _ h => by cases h)).plain (F := F) (N := N) (R := W) (vs := [.slice aa a1.length cap0, .agg #[.string a2.key, .slice ac a2.cells.length cap1]]) (fun g hg => Nat.lt_of_lt_of_le (hR.flt g hg) hW.size) (HL.cons (k0.step (hR.grow hW).2) (HL.cons (k1.step (hR.grow hW).2) HL.nil))
   rw [h0] at h
   exact h
  ·intro W hW
   exact (num_PutText_c2 a0 a2.key (needs_cons (by unfold boundP; omega) needs_nil)).bytes (F := F) (N := N) (R := W) (vs := [_, .string a2.key]) (fun g hg => Nat.lt_of_lt_of_le (hR.flt g hg) hW.size) (HL.cons (hv0'.step (hR.grow hW).2) (HL.cons (.v _) HL.nil))
  ·intro W v bs q c base ho hl
   obtain ⟨f1, f2⟩ := ho.sl N
   have h8 := putT_8 a2.key
   rw [List.length_append] at hl
   exact (cell_Put_c2 bs q c (needs_cons (by unfold boundP; omega) needs_nil)).bytes (F := fun g => blkOf v = some g) (N := N) (R := W) (vs := [v, .int .i64 q, cV c]) f1 (HL.cons f2 (HL.cons (.v _) (HL.cons (.v _) HL.nil)))
def row_Put_t : List A → Nat → Objs → Option CRes
 | [y0, y1, y2], nx, o => match argU .bytes y0, argL .group y1, argU .row y2 with
  | some (a0, p0), some a1, some (a2, p2) => some (1, (row_Put_r2 a0 a1 a2).pk (shiftR nx), nx + 1, shiftO nx (row_Put_o2 a0 a1 a2) ++ o, p0 ++ (p2 ++ (row_Put_ps2 a0 a1 a2)))
  | _, _, _ => none
 | _, _, _ => none
theorem row_Put_tok : TOk Try.prog 79 row_Put_t := fun args nx o k x nx' o' ps h => by
 unfold row_Put_t at h
 split at h <;> first | (cases h; done) | skip
 split at h <;> first | (cases h; done) | skip
 rename_i a0 p0 a1 a2 p2 e0 e1 e2
 cases h
 refine ⟨fun hp => ?_, _, rfl⟩
 have q0 := fun p hm => hp p (List.mem_append.2 (.inl hm))
 have r0 := fun p hm => hp p (List.mem_append.2 (.inr hm))
 have q2 := fun p hm => r0 p (List.mem_append.2 (.inl hm))
 have r2 := fun p hm => r0 p (List.mem_append.2 (.inr hm))
 refine callOk_args (callOk_shift (row_Put_c2 a0 a1 a2 r2) (Nat.le_refl _) (freeL_cons (valA_free _ _) (freeL_cons rfl (freeL_cons (valA_free _ _) freeL_nil))) nx o) fun F N R vs hl => ?_
 obtain ⟨v0, w0, rfl, h0, hl⟩ := hl.inv
 obtain ⟨v1, w1, rfl, h1, hl⟩ := hl.inv
 obtain ⟨v2, w2, rfl, h2, hl⟩ := hl.inv
 exact HL.cons (argU_ok e0 q0 h0) (HL.cons (argL_ok e1 h1) (HL.cons (argU_ok e2 q2 h2) (hl)))
noncomputable def Cm_1 := addC 79 row_Put_t Cl
theorem Cm_1_ok : COk Try.prog Cm_1 := addC_ok row_Put_tok Cl_ok
def r01_Add_0 (a0 : Int) (a1 : Int) (a2 : Int) : Int := bif decide (a0 > a2) || decide (a1 > a2) || decide (a0 > IntKind.i64.wrap (a2 - a1)) then IntKind.i64.wrap (a2 + (1 : Int)) else IntKind.i64.wrap (a0 + a1)
def r01_Add_r (a0 : Int) (a1 : Int) (a2 : Int) : A := .v (.int .i64 (r01_Add_0 a0 a1 a2))
def r01_Add_o (_a0 : Int) (_a1 : Int) (_a2 : Int) : Objs := []
def r01_Add_ps (_a0 : Int) (_a1 : Int) (_a2 : Int) : List Prop := []
set_option maxRecDepth 100000 in
theorem r01_Add_ev (a0 : Int) (a1 : Int) (a2 : Int) : evF (envT Cm_1 L0) 9 111 [valA .i64 a0, valA .i64 a1, valA .i64 a2] 0 [] = some (1, r01_Add_r a0 a1 a2, 0, r01_Add_o a0 a1 a2, []) := by kernel_rfl
set_option maxRecDepth 100000 in
theorem r01_Add_c (a0 : Int) (a1 : Int) (a2 : Int) (_hp : ∀ p ∈ r01_Add_ps a0 a1 a2, p) : CallOk Try.prog 111 [valA .i64 a0, valA .i64 a1, valA .i64 a2] 0 [] 1 (r01_Add_r a0 a1 a2) 0 (r01_Add_o a0 a1 a2) := by
 exact evF_ok (envP_ok Cm_1_ok L0_ok) (r01_Add_ev a0 a1 a2) needs_nil
def r01_Add_t : List A → Nat → Objs → Option CRes
 | [y0, y1, y2], nx, o => match argU .i64 y0, argU .i64 y1, argU .i64 y2 with
  | some (a0, p0), some (a1, p1), some (a2, p2) => some (1, (r01_Add_r a0 a1 a2).pk (shiftR nx), nx + 0, shiftO nx (r01_Add_o a0 a1 a2) ++ o, p0 ++ (p1 ++ (p2 ++ (r01_Add_ps a0 a1 a2))))
  | _, _, _ => none
 | _, _, _ => none
theorem r01_Add_tok : TOk Try.prog 111 r01_Add_t := fun args nx o k x nx' o' ps h => by
 unfold r01_Add_t at h
 split at h <;> first | (cases h; done) | skip
 split at h <;> first | (cases h; done) | skip
 rename_i a0 p0 a1 p1 a2 p2 e0 e1 e2
 cases h
 refine ⟨fun hp => ?_, _, rfl⟩
 have q0 := fun p hm => hp p (List.mem_append.2 (.inl hm))
 have r0 := fun p hm => hp p (List.mem_append.2 (.inr hm))
 have q1 := fun p hm => r0 p (List.mem_append.2 (.inl hm))
 have r1 := fun p hm => r0 p (List.mem_append.2 (.inr hm))
 have q2 := fun p hm => r1 p (List.mem_append.2 (.inl hm))
 have r2 := fun p hm => r1 p (List.mem_append.2 (.inr hm))
 refine callOk_args (callOk_shift (r01_Add_c a0 a1 a2 r2) (Nat.le_refl _) (freeL_cons (valA_free _ _) (freeL_cons (valA_free _ _) (freeL_cons (valA_free _ _) freeL_nil))) nx o) fun F N R vs hl => ?_
 obtain ⟨v0, w0, rfl, h0, hl⟩ := hl.inv
 obtain ⟨v1, w1, rfl, h1, hl⟩ := hl.inv
 obtain ⟨v2, w2, rfl, h2, hl⟩ := hl.inv
 exact HL.cons (argU_ok e0 q0 h0) (HL.cons (argU_ok e1 q1 h1) (HL.cons (argU_ok e2 q2 h2) (hl)))
noncomputable def Cm_2 := addC 111 r01_Add_t Cm_1
theorem Cm_2_ok : COk Try.prog Cm_2 := addC_ok r01_Add_tok Cm_1_ok
theorem add_ok {n k m : Int} (hn : 0 ≤ n) (hk : 0 ≤ k ∧ k ≤ 9223372036854775807) (hm : 0 ≤ m ∧ m ≤ 1099511627776) : (r01_Add_0 n k m ≤ m → n + k ≤ m) ∧ 0 ≤ r01_Add_0 n k m ∧ (n + k ≤ m → r01_Add_0 n k m = n + k) := by
 unfold r01_Add_0
 rw [i64_in (n := m - k) (by omega), i64_in (n := m + 1) (by omega)]
 by_cases h : n + k ≤ m
 ·have e : (decide (n > m) || decide (k > m) || decide (n > m - k)) = false := by
   rw [decide_eq_false (by omega), decide_eq_false (by omega), decide_eq_false (by omega)]; rfl
  rw [e, cond_false, i64_in (by omega)]
  exact ⟨fun _ => h, by omega, fun _ => rfl⟩
 ·have e : (decide (n > m) || decide (k > m) || decide (n > m - k)) = true := by
   rw [decide_eq_true (p := n > m - k) (by omega), Bool.or_true]
  rw [e, cond_true]
  exact ⟨fun h' => by omega, by omega, fun h' => absurd h' h⟩
theorem sz_in {k : Nat} (h : wideN k) : (0 : Int) ≤ (k : Int) ∧ (k : Int) ≤ 9223372036854775807 := by unfold wideN at h; omega
abbrev l10_light_l2_X : Type := (List TRow) × Int × Int × Int
def l10_light_l2_T (x : l10_light_l2_X) : St := ⟨64, 0, [(1, .sl .row x.1), (5, .v (.int .i64 x.2.1)), (6, .v (.int .i64 x.2.2.1)), (7, .v (.int .i64 x.2.2.2))], []⟩
def l10_light_l2_un : St → Option l10_light_l2_X
 | ⟨64, 0, [(1, .sl .row z0), (5, .v (.int .i64 z1)), (6, .v (.int .i64 z2)), (7, .v (.int .i64 z3))], []⟩ => some (z0, z1, z2, z3)
 | _ => none
theorem l10_light_l2_unok : ∀ s x, l10_light_l2_un s = some x → s = l10_light_l2_T x := fun s x h => by
 unfold l10_light_l2_un at h
 split at h
 ·cases h; rfl
 ·cases h
def l10_light_l2_S : Shape := ⟨0, 0, [1, 5, 6, 7], [], [], [], [5], []⟩
def l10_light_l2_E : Entry := ⟨[], [], [1, 5, 6, 7], []⟩
def l10_light_l2_f_k0 (a0 : List TRow) (a1 : Int) (a2 : Int) (a3 : Int) : Bool := !!(decide (a3 < (↑(a0.getD a2.toNat (dflt TC.row)).2.length : Int)) && decide (a1 ≤ (5000 : Int)))
def l10_light_l2_f_1 (a0 : List TRow) (a1 : Int) (a2 : Int) (a3 : Int) : Int := r01_Add_0 a1 (↑((a0.getD a2.toNat (dflt TC.row)).2.getD a3.toNat (dflt TC.cell)).4.size : Int) (5000 : Int)
def l10_light_l2_f_8 (a0 : List TRow) (a1 : Int) (a2 : Int) (a3 : Int) : Bool := !(decide (a3 < (↑(a0.getD a2.toNat (dflt TC.row)).2.length : Int)) && decide (a1 ≤ (5000 : Int)))
def l10_light_l2_next (x : l10_light_l2_X) : l10_light_l2_X := (x.1, l10_light_l2_f_1 x.1 x.2.1 x.2.2.1 x.2.2.2, x.2.2.1, IntKind.i64.wrap (x.2.2.2 + (1 : Int)))
def l10_light_l2_goes (x : l10_light_l2_X) : Cnd := some ((l10_light_l2_f_k0 x.1 x.2.1 x.2.2.1 x.2.2.2))
def l10_light_l2_psA (x : l10_light_l2_X) : List Prop := [((0 : Int) ≤ x.2.2.1 ∧ x.2.2.1 < (↑x.1.length : Int)), ((l10_light_l2_f_k0 x.1 x.2.1 x.2.2.1 x.2.2.2) = true → (0 : Int) ≤ x.2.2.1 ∧ x.2.2.1 < (↑x.1.length : Int)), ((l10_light_l2_f_k0 x.1 x.2.1 x.2.2.1 x.2.2.2) = true → (0 : Int) ≤ x.2.2.2 ∧ x.2.2.2 < (↑(x.1.getD x.2.2.1.toNat (dflt TC.row)).2.length : Int))]
def l10_light_l2_ps (x : l10_light_l2_X) : List Prop := [((0 : Int) ≤ x.2.2.1 ∧ x.2.2.1 < (↑x.1.length : Int)), ((l10_light_l2_f_k0 x.1 x.2.1 x.2.2.1 x.2.2.2) = true → (0 : Int) ≤ x.2.2.1 ∧ x.2.2.1 < (↑x.1.length : Int)), ((l10_light_l2_f_k0 x.1 x.2.1 x.2.2.1 x.2.2.2) = true → (0 : Int) ≤ x.2.2.2 ∧ x.2.2.2 < (↑(x.1.getD x.2.2.1.toNat (dflt TC.row)).2.length : Int))]
def l10_light_l2_outs (x : l10_light_l2_X) : Outs := [(some 2, some (l10_light_l2_f_8 x.1 x.2.1 x.2.2.1 x.2.2.2), ⟨64, 0, [(5, .v (.int .i64 x.2.1))], []⟩)]
def l10_light_l2_fuel (x : l10_light_l2_X) : Nat := ((↑(x.1.getD x.2.2.1.toNat (dflt TC.row)).2.length : Int) - x.2.2.2).toNat
def l10_light_l2_run (x : l10_light_l2_X) : l10_light_l2_X := iterX l10_light_l2_next l10_light_l2_goes (l10_light_l2_fuel x) x
set_option maxRecDepth 100000 in
theorem l10_light_l2_ev (a0 : List TRow) (a1 : Int) (a2 : Int) (a3 : Int) : roundE (envT Cm_2 L0) 9 (loopAt Try.prog 60 2) l10_light_l2_S (l10_light_l2_T (a0, a1, a2, a3)) = some (l10_light_l2_psA (a0, a1, a2, a3), l10_light_l2_outs (a0, a1, a2, a3), l10_light_l2_goes (a0, a1, a2, a3), l10_light_l2_T (l10_light_l2_next (a0, a1, a2, a3))) := by kernel_rfl
set_option maxRecDepth 100000 in
theorem l10_light_l2_hA (a0 : List TRow) (a1 : Int) (a2 : Int) (a3 : Int) (hp : ∀ p ∈ l10_light_l2_ps (a0, a1, a2, a3), p) : ∀ p ∈ l10_light_l2_psA (a0, a1, a2, a3), p := by
 have n0 : ((0 : Int) ≤ a2 ∧ a2 < (↑a0.length : Int)) := hp _ (List.mem_cons_self ..)
 have n1 : ((l10_light_l2_f_k0 a0 a1 a2 a3) = true → (0 : Int) ≤ a2 ∧ a2 < (↑a0.length : Int)) := hp _ (List.mem_cons_of_mem _ (List.mem_cons_self ..))
 have n2 : ((l10_light_l2_f_k0 a0 a1 a2 a3) = true → (0 : Int) ≤ a3 ∧ a3 < (↑(a0.getD a2.toNat (dflt TC.row)).2.length : Int)) := hp _ (List.mem_cons_of_mem _ (List.mem_cons_of_mem _ (List.mem_cons_self ..)))
 exact (needs_cons n0 (needs_cons n1 (needs_cons n2 needs_nil)))
noncomputable def l10_light_l2_row := rowL (envT Cm_2 L0) (loopAt Try.prog 60 2) l10_light_l2_S l10_light_l2_E l10_light_l2_un l10_light_l2_fuel l10_light_l2_next l10_light_l2_goes l10_light_l2_ps l10_light_l2_outs
theorem l10_light_l2_rok : ∀ s b ps outs, l10_light_l2_row s = some (b, ps, outs) → Wf s ⟨ps, outs, none⟩ ∧ LoopOk (envT C0 L0) b s ps outs :=
 rowP_ok (T := l10_light_l2_T) Cm_2_ok L0_ok (u := 9) (by kernel_rfl) (by decide) (fun ⟨a0, a1, a2, a3⟩ => l10_light_l2_ev a0 a1 a2 a3) (fun ⟨a0, a1, a2, a3⟩ => l10_light_l2_hA a0 a1 a2 a3) l10_light_l2_unok (fun _ => okOuts_ok (n := 64) rfl) fun _ _ => rfl
noncomputable def l10_light_l2_L := addLp 2 l10_light_l2_row L0
theorem l10_light_l2_Lok : LpOk l10_light_l2_L := addLp_ok l10_light_l2_rok L0_ok
abbrev l10_light_l0_X : Type := (List TRow) × Int × Int
def l10_light_l0_T (x : l10_light_l0_X) : St := ⟨64, 0, [(1, .sl .row x.1), (5, .v (.int .i64 x.2.1)), (6, .v (.int .i64 x.2.2))], []⟩
def l10_light_l0_un : St → Option l10_light_l0_X
 | ⟨64, 0, [(1, .sl .row z0), (5, .v (.int .i64 z1)), (6, .v (.int .i64 z2))], []⟩ => some (z0, z1, z2)
 | _ => none
theorem l10_light_l0_unok : ∀ s x, l10_light_l0_un s = some x → s = l10_light_l0_T x := fun s x h => by
 unfold l10_light_l0_un at h
 split at h
 ·cases h; rfl
 ·cases h
def l10_light_l0_S : Shape := ⟨0, 0, [1, 5, 6], [], [], [], [5], []⟩
def l10_light_l0_E : Entry := ⟨[], [], [1, 5, 6], []⟩
def l10_light_l0_f_k0 (a0 : List TRow) (a1 : Int) (a2 : Int) : Bool := !!(decide (a2 < (↑a0.length : Int)) && decide (a1 ≤ (5000 : Int)))
def l10_light_l0_f_1 (a0 : List TRow) (a1 : Int) (a2 : Int) : Int := (l10_light_l2_run (a0, r01_Add_0 (r01_Add_0 a1 (↑(a0.getD a2.toNat (dflt TC.row)).1.size : Int) (5000 : Int)) (↑(a0.getD a2.toNat (dflt TC.row)).2.length : Int) (5000 : Int), a2, (0 : Int))).snd.fst
def l10_light_l0_f_8 (a0 : List TRow) (a1 : Int) (a2 : Int) : Bool := !(decide (a2 < (↑a0.length : Int)) && decide (a1 ≤ (5000 : Int)))
def l10_light_l0_next (x : l10_light_l0_X) : l10_light_l0_X := (x.1, l10_light_l0_f_1 x.1 x.2.1 x.2.2, IntKind.i64.wrap (x.2.2 + (1 : Int)))
def l10_light_l0_goes (x : l10_light_l0_X) : Cnd := some ((l10_light_l0_f_k0 x.1 x.2.1 x.2.2))
def l10_light_l0_psA (x : l10_light_l0_X) : List Prop := [((l10_light_l0_f_k0 x.1 x.2.1 x.2.2) = true → (0 : Int) ≤ x.2.2 ∧ x.2.2 < (↑x.1.length : Int)), ((l10_light_l0_f_k0 x.1 x.2.1 x.2.2) = true → (0 : Int) ≤ x.2.2 ∧ x.2.2 < (↑x.1.length : Int)), ((l10_light_l0_f_k0 x.1 x.2.1 x.2.2) = true → loopAt Try.prog (60 : FuncId) (2 : Nat) = loopAt Try.prog (60 : FuncId) (2 : Nat)), ((l10_light_l0_f_k0 x.1 x.2.1 x.2.2) = true → needX l10_light_l2_next l10_light_l2_goes l10_light_l2_ps (l10_light_l2_fuel (x.1, r01_Add_0 (r01_Add_0 x.2.1 (↑(x.1.getD x.2.2.toNat (dflt TC.row)).1.size : Int) (5000 : Int)) (↑(x.1.getD x.2.2.toNat (dflt TC.row)).2.length : Int) (5000 : Int), x.2.2, (0 : Int))) (x.1, r01_Add_0 (r01_Add_0 x.2.1 (↑(x.1.getD x.2.2.toNat (dflt TC.row)).1.size : Int) (5000 : Int)) (↑(x.1.getD x.2.2.toNat (dflt TC.row)).2.length : Int) (5000 : Int), x.2.2, (0 : Int)))]
def l10_light_l0_ps (x : l10_light_l0_X) : List Prop := [((l10_light_l0_f_k0 x.1 x.2.1 x.2.2) = true → (0 : Int) ≤ x.2.2 ∧ x.2.2 < (↑x.1.length : Int)), ((l10_light_l0_f_k0 x.1 x.2.1 x.2.2) = true → needX l10_light_l2_next l10_light_l2_goes l10_light_l2_ps (l10_light_l2_fuel (x.1, r01_Add_0 (r01_Add_0 x.2.1 (↑(x.1.getD x.2.2.toNat (dflt TC.row)).1.size : Int) (5000 : Int)) (↑(x.1.getD x.2.2.toNat (dflt TC.row)).2.length : Int) (5000 : Int), x.2.2, (0 : Int))) (x.1, r01_Add_0 (r01_Add_0 x.2.1 (↑(x.1.getD x.2.2.toNat (dflt TC.row)).1.size : Int) (5000 : Int)) (↑(x.1.getD x.2.2.toNat (dflt TC.row)).2.length : Int) (5000 : Int), x.2.2, (0 : Int)))]
def l10_light_l0_outs (x : l10_light_l0_X) : Outs := [(some 0, some (l10_light_l0_f_8 x.1 x.2.1 x.2.2), ⟨64, 0, [(5, .v (.int .i64 x.2.1))], []⟩)]
def l10_light_l0_fuel (x : l10_light_l0_X) : Nat := ((↑x.1.length : Int) - x.2.2).toNat
def l10_light_l0_run (x : l10_light_l0_X) : l10_light_l0_X := iterX l10_light_l0_next l10_light_l0_goes (l10_light_l0_fuel x) x
set_option maxRecDepth 100000 in
theorem l10_light_l0_ev (a0 : List TRow) (a1 : Int) (a2 : Int) : roundE (envT Cm_2 l10_light_l2_L) 9 (loopAt Try.prog 60 0) l10_light_l0_S (l10_light_l0_T (a0, a1, a2)) = some (l10_light_l0_psA (a0, a1, a2), l10_light_l0_outs (a0, a1, a2), l10_light_l0_goes (a0, a1, a2), l10_light_l0_T (l10_light_l0_next (a0, a1, a2))) := by kernel_rfl
set_option maxRecDepth 100000 in
theorem l10_light_l0_hA (a0 : List TRow) (a1 : Int) (a2 : Int) (hp : ∀ p ∈ l10_light_l0_ps (a0, a1, a2), p) : ∀ p ∈ l10_light_l0_psA (a0, a1, a2), p := by
 have n0 : ((l10_light_l0_f_k0 a0 a1 a2) = true → (0 : Int) ≤ a2 ∧ a2 < (↑a0.length : Int)) := hp _ (List.mem_cons_self ..)
 have n2 : ((l10_light_l0_f_k0 a0 a1 a2) = true → loopAt Try.prog (60 : FuncId) (2 : Nat) = loopAt Try.prog (60 : FuncId) (2 : Nat)) := by intros; rfl
 have n3 : ((l10_light_l0_f_k0 a0 a1 a2) = true → needX l10_light_l2_next l10_light_l2_goes l10_light_l2_ps (l10_light_l2_fuel (a0, r01_Add_0 (r01_Add_0 a1 (↑(a0.getD a2.toNat (dflt TC.row)).1.size : Int) (5000 : Int)) (↑(a0.getD a2.toNat (dflt TC.row)).2.length : Int) (5000 : Int), a2, (0 : Int))) (a0, r01_Add_0 (r01_Add_0 a1 (↑(a0.getD a2.toNat (dflt TC.row)).1.size : Int) (5000 : Int)) (↑(a0.getD a2.toNat (dflt TC.row)).2.length : Int) (5000 : Int), a2, (0 : Int))) := hp _ (List.mem_cons_of_mem _ (List.mem_cons_self ..))
 exact (needs_cons n0 (needs_cons n0 (needs_cons n2 (needs_cons n3 needs_nil))))
noncomputable def l10_light_l0_row := rowL (envT Cm_2 l10_light_l2_L) (loopAt Try.prog 60 0) l10_light_l0_S l10_light_l0_E l10_light_l0_un l10_light_l0_fuel l10_light_l0_next l10_light_l0_goes l10_light_l0_ps l10_light_l0_outs
theorem l10_light_l0_rok : ∀ s b ps outs, l10_light_l0_row s = some (b, ps, outs) → Wf s ⟨ps, outs, none⟩ ∧ LoopOk (envT C0 L0) b s ps outs :=
 rowP_ok (T := l10_light_l0_T) Cm_2_ok l10_light_l2_Lok (u := 9) (by kernel_rfl) (by decide) (fun ⟨a0, a1, a2⟩ => l10_light_l0_ev a0 a1 a2) (fun ⟨a0, a1, a2⟩ => l10_light_l0_hA a0 a1 a2) l10_light_l0_unok (fun _ => okOuts_ok (n := 64) rfl) fun _ _ => rfl
noncomputable def l10_light_l0_L := addLp 0 l10_light_l0_row l10_light_l2_L
theorem l10_light_l0_Lok : LpOk l10_light_l0_L := addLp_ok l10_light_l0_rok l10_light_l2_Lok
def l10_light_0 (a0 : List TGroup) (a1 : List TRow) : Bool := decide ((l10_light_l0_run (a1, r01_Add_0 (0 : Int) (↑a0.length : Int) (5000 : Int), (0 : Int))).snd.fst ≤ (5000 : Int))
def l10_light_r (a0 : List TGroup) (a1 : List TRow) : A := .v (.bool (l10_light_0 a0 a1))
def l10_light_o (_a0 : List TGroup) (_a1 : List TRow) : Objs := []
def l10_light_ps (a0 : List TGroup) (a1 : List TRow) : List Prop := [(needX l10_light_l0_next l10_light_l0_goes l10_light_l0_ps (l10_light_l0_fuel (a1, r01_Add_0 (0 : Int) (↑a0.length : Int) (5000 : Int), (0 : Int))) (a1, r01_Add_0 (0 : Int) (↑a0.length : Int) (5000 : Int), (0 : Int)))]
set_option maxRecDepth 100000 in
theorem l10_light_ev (a0 : List TGroup) (a1 : List TRow) : evF (envT Cm_2 l10_light_l0_L) 9 60 [.sl .group a0, valA .rows a1] 0 [] = some (1, l10_light_r a0 a1, 0, l10_light_o a0 a1, [(loopAt Try.prog (60 : FuncId) (0 : Nat) = loopAt Try.prog (60 : FuncId) (0 : Nat)), (needX l10_light_l0_next l10_light_l0_goes l10_light_l0_ps (l10_light_l0_fuel (a1, r01_Add_0 (0 : Int) (↑a0.length : Int) (5000 : Int), (0 : Int))) (a1, r01_Add_0 (0 : Int) (↑a0.length : Int) (5000 : Int), (0 : Int)))]) := by kernel_rfl
set_option maxRecDepth 100000 in
theorem l10_light_c (a0 : List TGroup) (a1 : List TRow) (hp : ∀ p ∈ l10_light_ps a0 a1, p) : CallOk Try.prog 60 [.sl .group a0, valA .rows a1] 0 [] 1 (l10_light_r a0 a1) 0 (l10_light_o a0 a1) := by
 have n1 : (needX l10_light_l0_next l10_light_l0_goes l10_light_l0_ps (l10_light_l0_fuel (a1, r01_Add_0 (0 : Int) (↑a0.length : Int) (5000 : Int), (0 : Int))) (a1, r01_Add_0 (0 : Int) (↑a0.length : Int) (5000 : Int), (0 : Int))) := hp _ (List.mem_cons_self ..)
 exact evF_ok (envP_ok Cm_2_ok l10_light_l0_Lok) (l10_light_ev a0 a1) (needs_cons rfl (needs_cons n1 needs_nil))
def l10_light_r2 (a0 : List TGroup) (a1 : List TRow) : A := .v (.bool (l10_light_0 a0 a1))
def l10_light_o2 (_a0 : List TGroup) (_a1 : List TRow) : Objs := []
def l10_light_ps2 (a0 : List TGroup) (a1 : List TRow) : List Prop := [wideN a0.length ∧ wideN a1.length ∧ ∀ r ∈ a1, wideN r.key.size ∧ wideN r.cells.length ∧ ∀ c ∈ r.cells, wideN c.value.size]
def smallR (m : Nat) (r : TRow) : Prop := r.key.size ≤ m ∧ r.cells.length ≤ m ∧ ∀ c ∈ r.cells, c.value.size ≤ m
def wideR (r : TRow) : Prop := wideN r.key.size ∧ wideN r.cells.length ∧ ∀ c ∈ r.cells, wideN c.value.size
theorem getD_in {α : Type} (l : List α) (d : α) (i : Nat) (h : i < l.length) : l.getD i d ∈ l := by
 rw [List.getD_eq_getElem?_getD, List.getElem?_eq_getElem h]
 exact List.getElem_mem h
def nk (cs : List TCell) (n0 : Int) : Nat → Int
 | 0 => n0
 | k + 1 => r01_Add_0 (nk cs n0 k) ((cs.getD k (dflt TC.cell)).4.size : Int) 5000
theorem nk_ok (cs : List TCell) (n0 : Int) (h0 : 0 ≤ n0) (hw : ∀ c ∈ cs, wideN c.value.size) : ∀ k, k ≤ cs.length → 0 ≤ nk cs n0 k ∧ (nk cs n0 k ≤ 5000 → n0 ≤ 5000 ∧ ∀ j, j < k → (cs.getD j (dflt TC.cell)).value.size ≤ 5000)
 | 0, _ => ⟨h0, fun h => ⟨h, fun j hj => absurd hj (Nat.not_lt_zero _)⟩⟩
 | k + 1, hk => by
  obtain ⟨g1, g2⟩ := nk_ok cs n0 h0 hw k (by omega)
  obtain ⟨a1, a2, _⟩ := add_ok g1 (sz_in (hw _ (getD_in cs (dflt TC.cell) k (by omega)))) (m := 5000) (by omega)
  refine ⟨a2, fun h => ?_⟩
  have h' := a1 h
  obtain ⟨b1, b2⟩ := g2 (by omega)
  refine ⟨b1, fun j hj => ?_⟩
  by_cases e : j < k
  ·exact b2 j e
  ·obtain rfl : j = k := by omega
   show (cs.getD j (dflt TC.cell)).4.size ≤ 5000
   omega
theorem light_inner (rows : List TRow) (i : Nat) (hi : i < rows.length) (n0 : Int) (h0 : 0 ≤ n0) (hl : n0 ≤ 5000 → (rows.getD i (dflt TC.row)).cells.length ≤ 5000) (hw : ∀ c ∈ (rows.getD i (dflt TC.row)).cells, wideN c.value.size) :
  needX l10_light_l2_next l10_light_l2_goes l10_light_l2_ps (l10_light_l2_fuel (rows, n0, (i : Int), 0)) (rows, n0, (i : Int), 0) ∧
  0 ≤ (l10_light_l2_run (rows, n0, (i : Int), 0)).snd.fst ∧ ((l10_light_l2_run (rows, n0, (i : Int), 0)).snd.fst ≤ 5000 → n0 ≤ 5000 ∧ ∀ c ∈ (rows.getD i (dflt TC.row)).cells, c.value.size ≤ 5000) := by
 generalize hcs : (rows.getD i (dflt TC.row)).cells = cs at *
 have hcs2 : (rows.getD i (dflt TC.row)).2 = cs := hcs
 have hgo : ∀ k : Nat, l10_light_l2_f_k0 rows (nk cs n0 k) (i : Int) (k : Int) = (decide (k < cs.length) && !!decide (nk cs n0 k ≤ 5000)) := fun k => by
  unfold l10_light_l2_f_k0
  rw [Int.toNat_natCast, hcs2, nn, nn, dlt]
 obtain ⟨h1, k, hk, hx, hs, hst, _⟩ := scanB (fun k => ((rows, nk cs n0 k, (i : Int), (k : Int)) : l10_light_l2_X)) cs.length (fun k => !decide (nk cs n0 k ≤ 5000)) l10_light_l2_next l10_light_l2_goes l10_light_l2_ps (l10_light_l2_fuel (rows, n0, (i : Int), 0)) (rows, n0, (i : Int), 0) rfl
  (by show cs.length ≤ (((rows.getD ((i : Int)).toNat (dflt TC.row)).2.length : Int) - 0).toNat; rw [Int.toNat_natCast, hcs2]; omega)
  (fun k _ _ => by
   show l10_light_l2_f_k0 rows (nk cs n0 k) (i : Int) (k : Int) = _
   rw [hgo])
  (fun k hk hs => by
   have h5 : n0 ≤ 5000 := by
    have := hs 0 (Nat.succ_pos k)
    rw [Bool.not_eq_false'] at this
    exact of_decide_eq_true this
   have := hl h5
   show (rows, l10_light_l2_f_1 rows (nk cs n0 k) (i : Int) (k : Int), (i : Int), IntKind.i64.wrap ((k : Int) + 1)) = (rows, nk cs n0 (k + 1), (i : Int), ((k + 1 : Nat) : Int))
   rw [wsucc (by omega)]
   unfold l10_light_l2_f_1
   rw [Int.toNat_natCast, Int.toNat_natCast, hcs2]
   rfl)
  (fun k _ _ => needs_cons (by show (0 : Int) ≤ (i : Int) ∧ (i : Int) < (rows.length : Int); omega) (needs_cons (fun _ => by show (0 : Int) ≤ (i : Int) ∧ (i : Int) < (rows.length : Int); omega) (needs_cons (fun h => by
   have h' : l10_light_l2_f_k0 rows (nk cs n0 k) (i : Int) (k : Int) = true := h
   rw [hgo, Bool.and_eq_true] at h'
   have := of_decide_eq_true h'.1
   show (0 : Int) ≤ (k : Int) ∧ (k : Int) < ((rows.getD ((i : Int)).toNat (dflt TC.row)).2.length : Int)
   rw [Int.toNat_natCast, hcs2]
   omega) needs_nil)))
 have hr : l10_light_l2_run (rows, n0, (i : Int), 0) = (rows, nk cs n0 k, (i : Int), (k : Int)) := hx
 obtain ⟨g1, g2⟩ := nk_ok cs n0 h0 hw k hk
 rw [hr]
 refine ⟨h1, g1, fun h => ?_⟩
 obtain ⟨b1, b2⟩ := g2 h
 refine ⟨b1, fun c hc => ?_⟩
 have hkn : k = cs.length := by
  rcases Nat.lt_or_ge k cs.length with h' | h'
  ·have := hst h'
   rw [decide_eq_true h] at this
   cases this
  ·omega
 obtain ⟨j, hj, rfl⟩ := List.mem_iff_getElem.1 hc
 have := b2 j (by omega)
 rw [List.getD_eq_getElem?_getD, List.getElem?_eq_getElem hj] at this
 exact this
def nr (rows : List TRow) (n0 : Int) : Nat → Int
 | 0 => n0
 | i + 1 => l10_light_l0_f_1 rows (nr rows n0 i) (i : Int)
theorem light_step (rows : List TRow) (i : Nat) (hi : i < rows.length) (n : Int) (hn : 0 ≤ n) (hw : wideR (rows.getD i (dflt TC.row))) :
  needX l10_light_l2_next l10_light_l2_goes l10_light_l2_ps (l10_light_l2_fuel (rows, r01_Add_0 (r01_Add_0 n ((rows.getD i (dflt TC.row)).1.size : Int) 5000) ((rows.getD i (dflt TC.row)).2.length : Int) 5000, (i : Int), 0)) (rows, r01_Add_0 (r01_Add_0 n ((rows.getD i (dflt TC.row)).1.size : Int) 5000) ((rows.getD i (dflt TC.row)).2.length : Int) 5000, (i : Int), 0) ∧
  0 ≤ l10_light_l0_f_1 rows n (i : Int) ∧ (l10_light_l0_f_1 rows n (i : Int) ≤ 5000 → n ≤ 5000 ∧ smallR 5000 (rows.getD i (dflt TC.row))) := by
 obtain ⟨w1, w2, w3⟩ := hw
 obtain ⟨a1, a2, _⟩ := add_ok (k := ((rows.getD i (dflt TC.row)).1.size : Int)) hn (sz_in w1) (m := 5000) (by omega)
 obtain ⟨c1, c2, _⟩ := add_ok (k := ((rows.getD i (dflt TC.row)).2.length : Int)) a2 (sz_in w2) (m := 5000) (by omega)
 obtain ⟨g1, g2, g3⟩ := light_inner rows i hi _ c2 (fun h => by have := c1 h; show (rows.getD i (dflt TC.row)).2.length ≤ 5000; omega) w3
 unfold l10_light_l0_f_1
 rw [Int.toNat_natCast]
 refine ⟨g1, g2, fun h => ?_⟩
 obtain ⟨h1, h2⟩ := g3 h
 have q1 := c1 h1
 have q2 := a1 (by omega)
 exact ⟨by omega, by show (rows.getD i (dflt TC.row)).1.size ≤ 5000; omega, by show (rows.getD i (dflt TC.row)).2.length ≤ 5000; omega, h2⟩
theorem nr_ok (rows : List TRow) (n0 : Int) (h0 : 0 ≤ n0) (hw : ∀ r ∈ rows, wideR r) : ∀ k, k ≤ rows.length → 0 ≤ nr rows n0 k ∧ (nr rows n0 k ≤ 5000 → n0 ≤ 5000 ∧ ∀ j, j < k → smallR 5000 (rows.getD j (dflt TC.row)))
 | 0, _ => ⟨h0, fun h => ⟨h, fun j hj => absurd hj (Nat.not_lt_zero _)⟩⟩
 | k + 1, hk => by
  obtain ⟨g1, g2⟩ := nr_ok rows n0 h0 hw k (by omega)
  obtain ⟨_, a2, a3⟩ := light_step rows k (by omega) (nr rows n0 k) g1 (hw _ (getD_in rows (dflt TC.row) k (by omega)))
  refine ⟨a2, fun h => ?_⟩
  obtain ⟨h1, h2⟩ := a3 h
  obtain ⟨b1, b2⟩ := g2 h1
  refine ⟨b1, fun j hj => ?_⟩
  by_cases e : j < k
  ·exact b2 j e
  ·obtain rfl : j = k := by omega
   exact h2
theorem light_eq (l : List TGroup) (rows : List TRow) (hl : wideN l.length) (hr : wideN rows.length) (hw : ∀ r ∈ rows, wideR r) : (∀ p ∈ l10_light_ps l rows, p) ∧ (l10_light_0 l rows = true → l.length ≤ 5000 ∧ ∀ r ∈ rows, smallR 5000 r) := by
 have hr' := hr
 unfold wideN at hr'
 obtain ⟨a1, a2, _⟩ := add_ok (n := 0) (k := (l.length : Int)) (Int.le_refl _) (sz_in hl) (m := 5000) (by omega)
 generalize hn0 : r01_Add_0 0 (l.length : Int) 5000 = n0 at *
 have hgo : ∀ k : Nat, l10_light_l0_f_k0 rows (nr rows n0 k) (k : Int) = (decide (k < rows.length) && !!decide (nr rows n0 k ≤ 5000)) := fun k => by
  unfold l10_light_l0_f_k0
  rw [nn, nn, dlt]
 obtain ⟨h1, k, hk, hx, hs, hst, _⟩ := scanB (fun k => ((rows, nr rows n0 k, (k : Int)) : l10_light_l0_X)) rows.length (fun k => !decide (nr rows n0 k ≤ 5000)) l10_light_l0_next l10_light_l0_goes l10_light_l0_ps (l10_light_l0_fuel (rows, n0, 0)) (rows, n0, 0) rfl
  (by show rows.length ≤ ((rows.length : Int) - 0).toNat; omega)
  (fun k _ _ => by
   show l10_light_l0_f_k0 rows (nr rows n0 k) (k : Int) = _
   rw [hgo])
  (fun k hk hs => by
   show (rows, l10_light_l0_f_1 rows (nr rows n0 k) (k : Int), IntKind.i64.wrap ((k : Int) + 1)) = (rows, nr rows n0 (k + 1), ((k + 1 : Nat) : Int))
   rw [wsucc (by omega)]
   rfl)
  (fun k hk _ => by
   have hin : l10_light_l0_f_k0 rows (nr rows n0 k) (k : Int) = true → k < rows.length := fun h => by
    rw [hgo, Bool.and_eq_true] at h
    exact of_decide_eq_true h.1
   refine needs_cons (fun h => ?_) (needs_cons (fun h => ?_) needs_nil)
   ·have := hin h
    show (0 : Int) ≤ (k : Int) ∧ (k : Int) < (rows.length : Int)
    omega
   ·have hk' := hin h
    have := (light_step rows k hk' (nr rows n0 k) (nr_ok rows n0 a2 hw k hk).1 (hw _ (getD_in rows (dflt TC.row) k hk'))).1
    have e : ((k : Int)).toNat = k := Int.toNat_natCast k
    show needX l10_light_l2_next l10_light_l2_goes l10_light_l2_ps (l10_light_l2_fuel (rows, r01_Add_0 (r01_Add_0 (nr rows n0 k) ((rows.getD ((k : Int)).toNat (dflt TC.row)).1.size : Int) 5000) ((rows.getD ((k : Int)).toNat (dflt TC.row)).2.length : Int) 5000, (k : Int), 0)) (rows, r01_Add_0 (r01_Add_0 (nr rows n0 k) ((rows.getD ((k : Int)).toNat (dflt TC.row)).1.size : Int) 5000) ((rows.getD ((k : Int)).toNat (dflt TC.row)).2.length : Int) 5000, (k : Int), 0)
    rw [e]
    exact this)
 have hrun : l10_light_l0_run (rows, n0, 0) = (rows, nr rows n0 k, (k : Int)) := hx
 refine ⟨needs_cons (by rw [hn0]; exact h1) needs_nil, fun h => ?_⟩
 unfold l10_light_0 at h
 rw [hn0, hrun] at h
 have h5 : nr rows n0 k ≤ 5000 := of_decide_eq_true h
 obtain ⟨b1, b2⟩ := (nr_ok rows n0 a2 hw k hk).2 h5
 have hkn : k = rows.length := by
  rcases Nat.lt_or_ge k rows.length with h' | h'
  ·have := hst h'
   rw [decide_eq_true h5] at this
   cases this
  ·omega
 refine ⟨by have := a1 b1; omega, fun r hr => ?_⟩
 obtain ⟨j, hj, rfl⟩ := List.mem_iff_getElem.1 hr
 have := b2 j (by omega)
 rw [List.getD_eq_getElem?_getD, List.getElem?_eq_getElem hj] at this
 exact this
theorem l10_light_c2 (a0 : List TGroup) (a1 : List TRow) (hp : ∀ p ∈ l10_light_ps2 a0 a1, p) : CallOk Try.prog 60 [.sl .group a0, valA .rows a1] 0 [] 1 (l10_light_r2 a0 a1) 0 (l10_light_o2 a0 a1) := by
 obtain ⟨h1, h2, h3⟩ := hp _ (List.mem_cons_self ..)
 exact l10_light_c a0 a1 (light_eq a0 a1 h1 h2 h3).1
def l10_light_t : List A → Nat → Objs → Option CRes
 | [y0, y1], nx, o => match argL .group y0, argU .rows y1 with
  | some a0, some (a1, p1) => some (1, (l10_light_r2 a0 a1).pk (shiftR nx), nx + 0, shiftO nx (l10_light_o2 a0 a1) ++ o, p1 ++ (l10_light_ps2 a0 a1))
  | _, _ => none
 | _, _, _ => none
theorem l10_light_tok : TOk Try.prog 60 l10_light_t := fun args nx o k x nx' o' ps h => by
 unfold l10_light_t at h
 split at h <;> first | (cases h; done) | skip
 split at h <;> first | (cases h; done) | skip
 rename_i a0 a1 p1 e0 e1
 cases h
 refine ⟨fun hp => ?_, _, rfl⟩
 have q1 := fun p hm => hp p (List.mem_append.2 (.inl hm))
 have r1 := fun p hm => hp p (List.mem_append.2 (.inr hm))
 refine callOk_args (callOk_shift (l10_light_c2 a0 a1 r1) (Nat.le_refl _) (freeL_cons rfl (freeL_cons (valA_free _ _) freeL_nil)) nx o) fun F N R vs hl => ?_
 obtain ⟨v0, w0, rfl, h0, hl⟩ := hl.inv
 obtain ⟨v1, w1, rfl, h1, hl⟩ := hl.inv
 exact HL.cons (argL_ok e0 h0) (HL.cons (argU_ok e1 q1 h1) (hl))
noncomputable def Cm_3 := addC 60 l10_light_t Cm_2
theorem Cm_3_ok : COk Try.prog Cm_3 := addC_ok l10_light_tok Cm_2_ok
def l10_schema_0  : ByteArray := ByteArray.mk #[(97 : UInt8)]
def l10_schema_1  : ByteArray := ByteArray.mk #[(98 : UInt8)]
def l10_schema_r  : A := .sq 0
def l10_schema_o  : Objs := [(0, some (.arr 79 2 (.lst [[.v (.string l10_schema_0), .v (.int .i64 ((1 : Int)))], [.v (.string l10_schema_1), .v (.int .i64 ((2 : Int)))]])))]
def l10_schema_ps  : List Prop := []
set_option maxRecDepth 100000 in
theorem l10_schema_ev  : evF (envT Cm_3 L0) 9 127 [] 0 [] = some (1, l10_schema_r , 1, l10_schema_o , []) := by kernel_rfl
set_option maxRecDepth 100000 in
theorem l10_schema_c  (_hp : ∀ p ∈ l10_schema_ps , p) : CallOk Try.prog 127 [] 0 [] 1 (l10_schema_r ) 1 (l10_schema_o ) := by
 exact evF_ok (envP_ok Cm_3_ok L0_ok) (l10_schema_ev ) needs_nil
def l10_schema_t : List A → Nat → Objs → Option CRes
 | [], nx, o => some (1, (l10_schema_r ).pk (shiftR nx), nx + 1, shiftO nx (l10_schema_o ) ++ o, l10_schema_ps )
 | _, _, _ => none
theorem l10_schema_tok : TOk Try.prog 127 l10_schema_t := fun args nx o k x nx' o' ps h => by
 unfold l10_schema_t at h
 split at h <;> first | (cases h; done) | skip
 cases h
 refine ⟨fun hp => ?_, _, rfl⟩
 refine callOk_args (callOk_shift (l10_schema_c  hp) (Nat.le_refl _) freeL_nil nx o) fun F N R vs hl => ?_
 exact hl
noncomputable def Cm_4 := addC 127 l10_schema_t Cm_3
theorem Cm_4_ok : COk Try.prog Cm_4 := addC_ok l10_schema_tok Cm_3_ok
def l10_lives_r  : A := .v (.bool (true))
def l10_lives_o  : Objs := []
def l10_lives_ps  : List Prop := []
set_option maxRecDepth 100000 in
theorem l10_lives_ev  : evF (envT Cm_4 L0) 1040 61 [] 0 [] = some (1, l10_lives_r , 0, l10_lives_o , [(boundP (2 : Nat)), (true = true → boundP (2 : Nat)), (true = true → boundP (1024 : Nat)), (false = false), (true = true → false = false), (false = false), (true = true → false = false), (false = false), (true = true → false = false), (false = false)]) := by kernel_rfl
set_option maxRecDepth 100000 in
theorem l10_lives_c  (_hp : ∀ p ∈ l10_lives_ps , p) : CallOk Try.prog 61 [] 0 [] 1 (l10_lives_r ) 0 (l10_lives_o ) := by
 have n0 : (boundP (2 : Nat)) := by first | rfl | decide +kernel
 have n1 : (true = true → boundP (2 : Nat)) := by first | rfl | decide +kernel
 have n2 : (true = true → boundP (1024 : Nat)) := by first | rfl | decide +kernel
 have n3 : (false = false) := by first | rfl | decide +kernel
 have n4 : (true = true → false = false) := by first | rfl | decide +kernel
 exact evF_ok (envP_ok Cm_4_ok L0_ok) (l10_lives_ev ) (needs_cons n0 (needs_cons n1 (needs_cons n2 (needs_cons n3 (needs_cons n4 (needs_cons n3 (needs_cons n4 (needs_cons n3 (needs_cons n4 (needs_cons n3 needs_nil))))))))))
def l10_lives_t : List A → Nat → Objs → Option CRes
 | [], nx, o => some (1, (l10_lives_r ).pk (shiftR nx), nx + 0, shiftO nx (l10_lives_o ) ++ o, l10_lives_ps )
 | _, _, _ => none
theorem l10_lives_tok : TOk Try.prog 61 l10_lives_t := fun args nx o k x nx' o' ps h => by
 unfold l10_lives_t at h
 split at h <;> first | (cases h; done) | skip
 cases h
 refine ⟨fun hp => ?_, _, rfl⟩
 refine callOk_args (callOk_shift (l10_lives_c  hp) (Nat.le_refl _) freeL_nil nx o) fun F N R vs hl => ?_
 exact hl
end Go.Proofs.Yteebobbhhgmeiaa
namespace Go.Proofs.Yteebobbhhgmeiaa
open Go.RowKit
def ltS (a b : ByteArray) : Bool := Op.bytesLess a.toList b.toList
theorem bless_irrefl : ∀ x : List UInt8, Op.bytesLess x x = false
 | [] => rfl
 | a :: x => by
  unfold Op.bytesLess
  rw [bless_irrefl x]
  simp
theorem bless_trans : ∀ {x y z : List UInt8}, Op.bytesLess x y = true → Op.bytesLess y z = true → Op.bytesLess x z = true
 | x, [], _, h, _ => by cases x <;> cases h
 | _, _ :: _, [], _, h => by cases h
 | [], _ :: _, _ :: _, _, _ => rfl
 | a :: x, b :: y, c :: z, h, g => by
  unfold Op.bytesLess at *
  simp only [Bool.or_eq_true, decide_eq_true_eq, Bool.and_eq_true, beq_iff_eq] at *
  rcases h with h | ⟨rfl, h⟩ <;> rcases g with g | ⟨rfl, g⟩
  ·exact .inl (UInt8.lt_trans h g)
  ·exact .inl h
  ·exact .inl g
  ·exact .inr ⟨rfl, bless_trans h g⟩
theorem bless_total : ∀ {x y : List UInt8}, Op.bytesLess x y = false → x ≠ y → Op.bytesLess y x = true
 | [], [], _, h => absurd rfl h
 | [], _ :: _, h, _ => by cases h
 | _ :: _, [], _, _ => rfl
 | a :: x, b :: y, h, g => by
  unfold Op.bytesLess at *
  simp only [Bool.or_eq_true, Bool.or_eq_false_iff, decide_eq_true_eq, decide_eq_false_iff_not, Bool.and_eq_true, beq_iff_eq] at *
  obtain ⟨h1, h2⟩ := h
  by_cases e : a = b
  ·subst e
   refine .inr ⟨rfl, bless_total (by simpa using h2) fun e => g (by rw [e])⟩
  ·left
   have h1' : ¬ a.toNat < b.toNat := h1
   have h3 : a.toNat ≠ b.toNat := fun h => e (UInt8.toNat_inj.1 h)
   show b.toNat < a.toNat
   omega
theorem ltS_trans {a b c : ByteArray} (h : ltS a b = true) (g : ltS b c = true) : ltS a c = true := bless_trans h g
theorem ltS_ne {a b : ByteArray} (h : ltS a b = true) : a ≠ b := by
 rintro rfl
 unfold ltS at h
 rw [bless_irrefl] at h
 cases h
theorem ltS_total {a b : ByteArray} (h : ltS a b = false) (g : a ≠ b) : ltS b a = true := by
 refine bless_total h fun e => g ?_
 have : (a.toList == b.toList) = true := beq_iff_eq.2 e
 rw [tlb] at this
 exact eq_of_beq this
def polN (l : List TGroup) (i : Nat) : Int := (l.getD i (dflt TC.group)).policy
def cellN (cs : List TCell) (i : Nat) : TCell := cs.getD i (dflt TC.cell)
theorem good_at {l : List TGroup} {cs : List TCell} (hl : cs.length = l.length) : (l.zip cs).all (fun x => goodC x.1.policy x.2) = true ↔ ∀ i, i < l.length → goodC (polN l i) (cellN cs i) = true := by
 rw [zip_N l cs (dflt TC.group) (dflt TC.cell) (fun g c => goodC g.policy c) hl, allN_iff]
 exact Iff.rfl
end Go.Proofs.Yteebobbhhgmeiaa
namespace Go.Proofs.Yteebobbhhgmeiaa
open Go.RowKit
def Lex (r e s : Prop) : Prop := r ∨ (e ∧ s)
theorem lex_trans {r1 r2 r3 e1 e2 e3 s1 s2 s3 : Prop} (hr : r1 → r2 → r3) (hre : r1 → e2 → r3) (her : e1 → r2 → r3) (hee : e1 → e2 → e3) (hs : s1 → s2 → s3) : Lex r1 e1 s1 → Lex r2 e2 s2 → Lex r3 e3 s3
 | .inl a, .inl b => .inl (hr a b)
 | .inl a, .inr b => .inl (hre a b.1)
 | .inr a, .inl b => .inl (her a.1 b)
 | .inr a, .inr b => .inr ⟨hee a.1 b.1, hs a.2 b.2⟩
theorem lex_total {r1 r2 e1 e2 s1 s2 t e : Prop} (h : r1 ∨ e ∨ r2) (h1 : e → e1) (h2 : e → e2) (hs : s1 ∨ t ∨ s2) : Lex r1 e1 s1 ∨ (e ∧ t) ∨ Lex r2 e2 s2 := by
 rcases h with h | h | h
 ·exact .inl (.inl h)
 ·rcases hs with g | g | g
  ·exact .inl (.inr ⟨h1 h, g⟩)
  ·exact .inr (.inl ⟨h, g⟩)
  ·exact .inr (.inr (.inr ⟨h2 h, g⟩))
 ·exact .inr (.inr (.inl h))
def LessP (a b : TCell) : Prop :=
 Lex (a.stamp.n < b.stamp.n) (a.stamp.n = b.stamp.n) (Lex (a.stamp.site < b.stamp.site) (a.stamp.site = b.stamp.site) (Lex (a.gone = false ∧ b.gone = true) (a.gone = b.gone) (Lex (ltS a.value b.value = true) (a.value = b.value) (Lex (a.vec.a < b.vec.a) (a.vec.a = b.vec.a) (a.vec.b < b.vec.b)))))
theorem less_trans {a b c : TCell} : LessP a b → LessP b c → LessP a c :=
 lex_trans (by omega) (by omega) (by omega) (by omega) (lex_trans (by omega) (by omega) (by omega) (by omega)
  (lex_trans (fun h g => by rw [h.2] at g; exact absurd g.1 (by decide)) (fun h g => ⟨h.1, g ▸ h.2⟩) (fun h g => ⟨h ▸ g.1, g.2⟩) (fun h g => h.trans g)
   (lex_trans ltS_trans (fun h g => g ▸ h) (fun h g => h ▸ g) (fun h g => h.trans g) (lex_trans (by omega) (by omega) (by omega) (by omega) (by omega)))))
def sameW (a b : TCell) : Prop := a.stamp.n = b.stamp.n ∧ a.stamp.site = b.stamp.site ∧ a.gone = b.gone ∧ a.value = b.value ∧ a.vec.a = b.vec.a ∧ a.vec.b = b.vec.b
theorem less_total (a b : TCell) : LessP a b ∨ sameW a b ∨ LessP b a := by
 refine lex_total (by omega) id Eq.symm (lex_total (by omega) id Eq.symm (lex_total ?_ id Eq.symm (lex_total ?_ id Eq.symm (lex_total (by omega) id Eq.symm (by omega)))))
 ·cases a.gone <;> cases b.gone <;> simp
 ·by_cases h : a.value = b.value
  ·exact .inr (.inl h)
  ·cases h1 : ltS a.value b.value with
   | true => exact .inl rfl
   | false => exact .inr (.inr (ltS_total h1 h))
def lessC (a b : TCell) : Bool :=
 bif !(a.stamp.n == b.stamp.n && a.stamp.site == b.stamp.site) then decide (a.stamp.n < b.stamp.n) || (a.stamp.n == b.stamp.n && decide (a.stamp.site < b.stamp.site))
 else bif a.gone != b.gone then b.gone
 else bif !(a.value == b.value) then ltS a.value b.value
 else bif a.vec.a != b.vec.a then decide (a.vec.a < b.vec.a)
 else decide (a.vec.b < b.vec.b)
theorem lessC_iff {a b : TCell} : lessC a b = true ↔ LessP a b := by
 unfold lessC LessP Lex
 by_cases h1 : a.stamp.n = b.stamp.n
 ·by_cases h2 : a.stamp.site = b.stamp.site
  ·have e : (a.stamp.n == b.stamp.n && a.stamp.site == b.stamp.site) = true := by rw [h1, h2]; simp
   rw [e, Bool.not_true, cond_false]
   simp only [h1, h2, false_or, true_and, Int.lt_irrefl]
   by_cases h3 : a.gone = b.gone
   ·have e3 : (a.gone != b.gone) = false := by rw [h3]; simp
    have n3 : ¬ (a.gone = false ∧ b.gone = true) := by rw [h3]; rintro ⟨x, y⟩; rw [x] at y; cases y
    rw [e3, cond_false]
    have n3' : ¬ (b.gone = false ∧ b.gone = true) := by rintro ⟨x, y⟩; rw [x] at y; cases y
    simp only [h3, n3', false_or, true_and]
    by_cases h4 : a.value = b.value
    ·have e4 : (a.value == b.value) = true := beq_iff_eq.2 h4
     rw [e4, Bool.not_true, cond_false]
     simp only [h4, true_and]
     have n4' : ¬ ltS b.value b.value = true := fun h => ltS_ne h rfl
     simp only [n4', Bool.false_eq_true, false_or]
     by_cases h5 : a.vec.a = b.vec.a
     ·have e5 : (a.vec.a != b.vec.a) = false := by rw [h5]; simp
      rw [e5, cond_false, decide_eq_true_eq]
      omega
     ·have e5 : (a.vec.a != b.vec.a) = true := by simpa using h5
      rw [e5, cond_true, decide_eq_true_eq]
      omega
    ·have e4 : (a.value == b.value) = false := beq_eq_false_iff_ne.2 h4
     rw [e4, Bool.not_false, cond_true]
     simp only [h4, false_and, or_false]
   ·have e3 : (a.gone != b.gone) = true := by simpa using h3
    rw [e3, cond_true]
    simp only [h3, false_and, or_false]
    revert h3
    cases a.gone <;> cases b.gone <;> simp
  ·have e : (a.stamp.n == b.stamp.n && a.stamp.site == b.stamp.site) = false := by rw [beq_eq_false_iff_ne.2 h2, Bool.and_false]
   rw [e, Bool.not_false, cond_true]
   simp [h1, h2]
 ·have e : (a.stamp.n == b.stamp.n && a.stamp.site == b.stamp.site) = false := by rw [beq_eq_false_iff_ne.2 h1, Bool.false_and]
  rw [e, Bool.not_false, cond_true]
  simp [h1]
def maxC (a b : TCell) : TCell := bif lessC a b then b else a
def twoC (a b : TCell) : TCell := ⟨(maxC a b).stamp, (maxC a b).vec, (maxC a b).gone, (maxC a b).value, vmax a.dead b.dead⟩
def wrC0 (a : TCell) : TCell := ⟨a.stamp, a.vec, a.gone, a.value, ⟨0, 0⟩⟩
theorem wr_same {a b : TCell} (h : sameW a b) : wrC0 a = wrC0 b := by
 obtain ⟨⟨an, asi⟩, ⟨ava, avb⟩, ag, av, ad⟩ := a
 obtain ⟨⟨bn, bsi⟩, ⟨bva, bvb⟩, bg, bv, bd⟩ := b
 obtain ⟨h1, h2, h3, h4, h5, h6⟩ := h
 simp only at h1 h2 h3 h4 h5 h6
 subst h1 h2 h3 h4 h5 h6
 rfl
def mkC (w : TCell) (d : TVec) : TCell := ⟨w.stamp, w.vec, w.gone, w.value, d⟩
theorem two_mk (a b : TCell) : twoC a b = mkC (wrC0 (maxC a b)) (vmax a.dead b.dead) := rfl
theorem less_wr2 {a b : TCell} : LessP a (wrC0 b) ↔ LessP a b := Iff.rfl
theorem max_cases (a b : TCell) : (LessP a b ∧ maxC a b = b) ∨ (¬ LessP a b ∧ maxC a b = a) := by
 unfold maxC
 cases h : lessC a b with
 | true => exact .inl ⟨lessC_iff.1 h, rfl⟩
 | false => exact .inr ⟨fun g => (by rw [lessC_iff.2 g] at h; cases h), rfl⟩
theorem max_wr (a b : TCell) : wrC0 (maxC a b) = maxC (wrC0 a) (wrC0 b) := by
 have : lessC (wrC0 a) (wrC0 b) = lessC a b := rfl
 unfold maxC
 rw [this]
 cases lessC a b <;> rfl
theorem max_assoc (a b c : TCell) : wrC0 (maxC (maxC a b) c) = wrC0 (maxC a (maxC b c)) := by
 rcases max_cases a b with ⟨h, e⟩ | ⟨h, e⟩ <;> rcases max_cases b c with ⟨g, f⟩ | ⟨g, f⟩
 ·rw [e, f]
  rcases max_cases a c with ⟨_, q⟩ | ⟨r, _⟩
  ·rw [q]
  ·exact absurd (less_trans h g) r
 ·rw [e, f, e]
 ·rw [e, f]
 ·rw [e, f, e]
  rcases max_cases a c with ⟨r, q⟩ | ⟨_, q⟩
  ·rcases less_total b c with t | t | t
   ·exact absurd t g
   ·have := wr_same t
    rw [← less_wr2 (b := c), ← this] at r
    exact absurd (less_wr2.1 r) h
   ·exact absurd (less_trans r t) h
  ·rw [q]
def wgood (c : TCell) : Bool := bif !written c then true else goodS c.stamp && decide (0 < c.stamp.n) && goodV c.vec && decide ((c.value.size : Int) ≤ 64) && !(c.gone && !(c.value.size == 0))
theorem goodC_wg {p : Int} {c : TCell} : goodC p c = true ↔ ((p = 1 ∧ c.dead = ⟨0, 0⟩) ∨ (p = 2 ∧ c.gone = false ∧ goodV c.dead = true)) ∧ wgood c = true := by
 unfold goodC
 show (bif p == 1 && !zeroV c.dead || (p == 2 && (c.gone || !goodV c.dead) || !(p == 1 || p == 2)) then false else wgood c) = true ↔ _
 by_cases h1 : p = 1
 ·subst h1
  have e : ((1 : Int) == 1 && !zeroV c.dead || ((1 : Int) == 2 && (c.gone || !goodV c.dead) || !((1 : Int) == 1 || (1 : Int) == 2))) = !zeroV c.dead := by
   cases zeroV c.dead <;> rfl
  rw [e, ← zeroV_iff]
  cases zeroV c.dead <;> simp
 ·by_cases h2 : p = 2
  ·subst h2
   have e : ((2 : Int) == 1 && !zeroV c.dead || ((2 : Int) == 2 && (c.gone || !goodV c.dead) || !((2 : Int) == 1 || (2 : Int) == 2))) = (c.gone || !goodV c.dead) := by
    cases c.gone <;> cases goodV c.dead <;> rfl
   rw [e]
   cases c.gone <;> cases goodV c.dead <;> simp
  ·have e1 : (p == 1) = false := beq_eq_false_iff_ne.2 h1
   have e2 : (p == 2) = false := beq_eq_false_iff_ne.2 h2
   rw [e1, e2]
   simp [h1, h2]
theorem max_zero {p : Int} {a : TCell} (h : goodC p a = true) : wrC0 (maxC zeroC a) = wrC0 a := by
 rcases max_cases zeroC a with ⟨_, e⟩ | ⟨q, e⟩
 ·rw [e]
 ·rw [e]
  have hw := (goodC_wg.1 h).2
  cases hwr : written a with
  | true =>
   unfold wgood at hw
   rw [hwr] at hw
   simp only [Bool.not_true, cond_false, Bool.and_eq_true, decide_eq_true_eq] at hw
   exact absurd (.inl hw.1.1.1.2) q
  | false =>
   unfold written at hwr
   simp only [Bool.not_eq_false', Bool.and_eq_true, beq_iff_eq, Bool.not_eq_true'] at hwr
   obtain ⟨⟨⟨h1, h2⟩, h3, h4⟩, h5, h6⟩ := hwr
   exact wr_same ⟨h1.symm, h2.symm, h5.symm, (size0 h6).symm, h3.symm, h4.symm⟩
def joinC (a b : TCell) : TCell := mkC (wrC0 (maxC (maxC zeroC a) b)) (vmax a.dead b.dead)
theorem join_good {p : Int} {a b : TCell} (h : goodC p a = true) : joinC a b = twoC a b := by
 unfold joinC
 rw [two_mk, max_wr (maxC zeroC a), max_zero h, ← max_wr]
def jnN (us ws : List TCell) : Nat → List TCell
 | 0 => us
 | i + 1 => (jnN us ws i).set i (joinC (cellN (jnN us ws i) i) (cellN ws i))
theorem jnN_len (us ws : List TCell) : ∀ i, (jnN us ws i).length = us.length
 | 0 => rfl
 | i + 1 => by
  unfold jnN
  rw [List.length_set, jnN_len us ws i]
theorem jnN_at (us ws : List TCell) (j : Nat) (hj : j < us.length) : ∀ i, cellN (jnN us ws i) j = bif decide (j < i) then joinC (cellN us j) (cellN ws j) else cellN us j
 | 0 => rfl
 | i + 1 => by
  have ih := jnN_at us ws j hj i
  unfold jnN
  unfold cellN at ih ⊢
  rw [List.getD_eq_getElem?_getD, List.getElem?_set, jnN_len]
  by_cases e : i = j
  ·subst e
   rw [if_pos rfl, if_pos hj, decide_eq_true (by omega)]
   rw [decide_eq_false (Nat.lt_irrefl _), cond_false] at ih
   show joinC ((jnN us ws i).getD i (dflt TC.cell)) _ = _
   rw [ih]
   rfl
  ·rw [if_neg e, ← List.getD_eq_getElem?_getD, ih]
   congr 1
   exact decide_eq_decide.2 (by omega)
def jnE (l : List TGroup) (a b : TRow) : Int := bif goodRow l a != 0 then goodRow l a else bif goodRow l b != 0 then goodRow l b else bif !(a.key == b.key) then 100 else 0
theorem jnE_0 {l : List TGroup} {a b : TRow} : jnE l a b = 0 ↔ goodRow l a = 0 ∧ goodRow l b = 0 ∧ a.key = b.key := by
 unfold jnE
 cases h : goodRow l a != 0 with
 | true =>
  rw [cond_true]
  have h' : goodRow l a ≠ 0 := by simpa using h
  exact ⟨fun e => absurd e h', fun e => absurd e.1 h'⟩
 | false =>
  rw [cond_false]
  have h' : goodRow l a = 0 := by simpa using h
  cases g : goodRow l b != 0 with
  | true =>
   rw [cond_true]
   have g' : goodRow l b ≠ 0 := by simpa using g
   exact ⟨fun e => absurd e g', fun e => absurd e.2.1 g'⟩
  | false =>
   rw [cond_false]
   have g' : goodRow l b = 0 := by simpa using g
   by_cases k : a.key = b.key
   ·rw [beq_iff_eq.2 k]
    exact ⟨fun _ => ⟨h', g', k⟩, fun _ => rfl⟩
   ·rw [beq_eq_false_iff_ne.2 k]
    exact ⟨fun e => (by cases e), fun e => absurd e.2.2 k⟩
theorem goodRow_at {l : List TGroup} {r : TRow} (h : goodRow l r = 0) {i : Nat} (hi : i < l.length) : goodC (polN l i) (cellN r.cells i) = true :=
 (good_at (goodRow_0 h).2.1).1 (goodRow_0 h).2.2.2.2 i hi
end Go.Proofs.Yteebobbhhgmeiaa
namespace Go.Proofs.Yteebobbhhgmeiaa
open Go.RowKit
def argP (c : TC) (x : A) : Option (U c × U c) := match argL c x with
 | some [a, b] => some (a, b)
 | _ => none
theorem argP_ok {c : TC} {x : A} {a b : U c} {F : Nat → Prop} {N : Nm} {nx : Nat} {R : World} {v : Value} (he : argP c x = some (a, b)) (h : Hv F N nx R x v) : Hv F N nx R (.sl c [a, b]) v := by
 unfold argP at he
 split at he <;> first | (cases he; done) | skip
 rename_i h1
 cases he
 exact argL_ok h1 h
def stamp_Less_0 (a0 : TStamp) (a1 : TStamp) : Bool := decide (a0.1 < a1.1) || a0.1 == a1.1 && decide (a0.2 < a1.2)
def stamp_Less_r (a0 : TStamp) (a1 : TStamp) : A := .v (.bool (stamp_Less_0 a0 a1))
def stamp_Less_o (_a0 : TStamp) (_a1 : TStamp) : Objs := []
def stamp_Less_ps (_a0 : TStamp) (_a1 : TStamp) : List Prop := []
set_option maxRecDepth 100000 in
theorem stamp_Less_ev (a0 : TStamp) (a1 : TStamp) : evF (envT Cl L0) 9 168 [valA .stamp a0, valA .stamp a1] 0 [] = some (1, stamp_Less_r a0 a1, 0, stamp_Less_o a0 a1, []) := by kernel_rfl
set_option maxRecDepth 100000 in
theorem stamp_Less_c (a0 : TStamp) (a1 : TStamp) (_hp : ∀ p ∈ stamp_Less_ps a0 a1, p) : CallOk Try.prog 168 [valA .stamp a0, valA .stamp a1] 0 [] 1 (stamp_Less_r a0 a1) 0 (stamp_Less_o a0 a1) := by
 exact evF_ok (envP_ok Cl_ok L0_ok) (stamp_Less_ev a0 a1) needs_nil
def stamp_Less_t : List A → Nat → Objs → Option CRes
 | [y0, y1], nx, o => match argU .stamp y0, argU .stamp y1 with
  | some (a0, p0), some (a1, p1) => some (1, (stamp_Less_r a0 a1).pk (shiftR nx), nx + 0, shiftO nx (stamp_Less_o a0 a1) ++ o, p0 ++ (p1 ++ (stamp_Less_ps a0 a1)))
  | _, _ => none
 | _, _, _ => none
theorem stamp_Less_tok : TOk Try.prog 168 stamp_Less_t := fun args nx o k x nx' o' ps h => by
 unfold stamp_Less_t at h
 split at h <;> first | (cases h; done) | skip
 split at h <;> first | (cases h; done) | skip
 rename_i a0 p0 a1 p1 e0 e1
 cases h
 refine ⟨fun hp => ?_, _, rfl⟩
 have q0 := fun p hm => hp p (List.mem_append.2 (.inl hm))
 have r0 := fun p hm => hp p (List.mem_append.2 (.inr hm))
 have q1 := fun p hm => r0 p (List.mem_append.2 (.inl hm))
 have r1 := fun p hm => r0 p (List.mem_append.2 (.inr hm))
 refine callOk_args (callOk_shift (stamp_Less_c a0 a1 r1) (Nat.le_refl _) (freeL_cons (valA_free _ _) (freeL_cons (valA_free _ _) freeL_nil)) nx o) fun F N R vs hl => ?_
 obtain ⟨v0, w0, rfl, h0, hl⟩ := hl.inv
 obtain ⟨v1, w1, rfl, h1, hl⟩ := hl.inv
 exact HL.cons (argU_ok e0 q0 h0) (HL.cons (argU_ok e1 q1 h1) (hl))
noncomputable def Cq_1 := addC 168 stamp_Less_t Cl
theorem Cq_1_ok : COk Try.prog Cq_1 := addC_ok stamp_Less_tok Cl_ok
def join_write_0 (a0 : TCell) : TCell := TCell.mk a0.1 a0.2 a0.3 a0.4 (TVec.mk (0 : Int) (0 : Int))
def join_write_r (a0 : TCell) : A := .v (.agg ⟨[.int .i64 ((join_write_0 a0).stamp.n), .int .i64 ((join_write_0 a0).stamp.site), .int .i64 ((join_write_0 a0).vec.a), .int .i64 ((join_write_0 a0).vec.b), .bool ((join_write_0 a0).gone), .string ((join_write_0 a0).value), .int .i64 ((join_write_0 a0).dead.a), .int .i64 ((join_write_0 a0).dead.b)]⟩)
def join_write_o (_a0 : TCell) : Objs := []
def join_write_ps (_a0 : TCell) : List Prop := []
set_option maxRecDepth 100000 in
theorem join_write_ev (a0 : TCell) : evF (envT Cq_1 L0) 9 167 [valA .cell a0] 0 [] = some (1, join_write_r a0, 0, join_write_o a0, []) := by kernel_rfl
set_option maxRecDepth 100000 in
theorem join_write_c (a0 : TCell) (_hp : ∀ p ∈ join_write_ps a0, p) : CallOk Try.prog 167 [valA .cell a0] 0 [] 1 (join_write_r a0) 0 (join_write_o a0) := by
 exact evF_ok (envP_ok Cq_1_ok L0_ok) (join_write_ev a0) needs_nil
def join_write_t : List A → Nat → Objs → Option CRes
 | [y0], nx, o => match argU .cell y0 with
  | some (a0, p0) => some (1, (join_write_r a0).pk (shiftR nx), nx + 0, shiftO nx (join_write_o a0) ++ o, p0 ++ (join_write_ps a0))
  | _ => none
 | _, _, _ => none
theorem join_write_tok : TOk Try.prog 167 join_write_t := fun args nx o k x nx' o' ps h => by
 unfold join_write_t at h
 split at h <;> first | (cases h; done) | skip
 split at h <;> first | (cases h; done) | skip
 rename_i a0 p0 e0
 cases h
 refine ⟨fun hp => ?_, _, rfl⟩
 have q0 := fun p hm => hp p (List.mem_append.2 (.inl hm))
 have r0 := fun p hm => hp p (List.mem_append.2 (.inr hm))
 refine callOk_args (callOk_shift (join_write_c a0 r0) (Nat.le_refl _) (freeL_cons (valA_free _ _) freeL_nil) nx o) fun F N R vs hl => ?_
 obtain ⟨v0, w0, rfl, h0, hl⟩ := hl.inv
 exact HL.cons (argU_ok e0 q0 h0) (hl)
noncomputable def Cq_2 := addC 167 join_write_t Cq_1
theorem Cq_2_ok : COk Try.prog Cq_2 := addC_ok join_write_tok Cq_1_ok
def join_Less_k2 (a0 : TCell) (a1 : TCell) : Bool := !(join_write_0 a0).4.toList == (join_write_0 a1).4.toList
def join_Less_k1 (a0 : TCell) (a1 : TCell) : Bool := !((join_write_0 a0).1.1 == (join_write_0 a1).1.1 && (join_write_0 a0).1.2 == (join_write_0 a1).1.2)
def join_Less_k0 (a0 : TCell) (a1 : TCell) : Bool := (join_write_0 a0).1.1 == (join_write_0 a1).1.1 && (join_write_0 a0).1.2 == (join_write_0 a1).1.2 && ((join_write_0 a0).2.1 == (join_write_0 a1).2.1 && (join_write_0 a0).2.2 == (join_write_0 a1).2.2 && ((join_write_0 a0).3 == (join_write_0 a1).3 && ((join_write_0 a0).4.toList == (join_write_0 a1).4.toList && ((join_write_0 a0).5.1 == (join_write_0 a1).5.1 && (join_write_0 a0).5.2 == (join_write_0 a1).5.2))))
def join_Less_0 (a0 : TCell) (a1 : TCell) : Bool := bif (join_Less_k0 a0 a1) || ((join_Less_k1 a0 a1) || (!(join_write_0 a0).3 == (join_write_0 a1).3 || ((join_Less_k2 a0 a1) || (join_write_0 a0).2.1 != (join_write_0 a1).2.1))) then bif (join_Less_k0 a0 a1) then false else bif (join_Less_k1 a0 a1) then stamp_Less_0 (join_write_0 a0).1 (join_write_0 a1).1 else bif !(join_write_0 a0).3 == (join_write_0 a1).3 then (join_write_0 a1).3 else bif (join_Less_k2 a0 a1) then Op.bytesLess (join_write_0 a0).4.toList (join_write_0 a1).4.toList else decide ((join_write_0 a0).2.1 < (join_write_0 a1).2.1) else decide ((join_write_0 a0).2.2 < (join_write_0 a1).2.2)
def join_Less_r (a0 : TCell) (a1 : TCell) : A := .v (.bool (join_Less_0 a0 a1))
def join_Less_o (_a0 : TCell) (_a1 : TCell) : Objs := []
def join_Less_ps (_a0 : TCell) (_a1 : TCell) : List Prop := []
set_option maxRecDepth 100000 in
theorem join_Less_ev (a0 : TCell) (a1 : TCell) : evF (envT Cq_2 L0) 9 138 [valA .cell a0, valA .cell a1] 0 [] = some (1, join_Less_r a0 a1, 0, join_Less_o a0 a1, []) := by kernel_rfl
set_option maxRecDepth 100000 in
theorem join_Less_c (a0 : TCell) (a1 : TCell) (_hp : ∀ p ∈ join_Less_ps a0 a1, p) : CallOk Try.prog 138 [valA .cell a0, valA .cell a1] 0 [] 1 (join_Less_r a0 a1) 0 (join_Less_o a0 a1) := by
 exact evF_ok (envP_ok Cq_2_ok L0_ok) (join_Less_ev a0 a1) needs_nil
def join_Less_r2 (a0 : TCell) (a1 : TCell) : A := .v (.bool (lessC a0 a1))
def join_Less_o2 (_a0 : TCell) (_a1 : TCell) : Objs := []
def join_Less_ps2 (_a0 : TCell) (_a1 : TCell) : List Prop := []
theorem join_Less_eq (a b : TCell) : join_Less_0 a b = lessC a b := by
 have e0 : join_Less_k0 a b = ((a.stamp.n == b.stamp.n && a.stamp.site == b.stamp.site) && ((a.vec.a == b.vec.a && a.vec.b == b.vec.b) && (a.gone == b.gone && ((a.value == b.value) && true)))) := by
  unfold join_Less_k0
  rw [tlb]
  rfl
 have e1 : join_Less_k1 a b = !(a.stamp.n == b.stamp.n && a.stamp.site == b.stamp.site) := rfl
 have e2 : join_Less_k2 a b = !(a.value == b.value) := by
  unfold join_Less_k2
  rw [tlb]
  rfl
 unfold join_Less_0 lessC stamp_Less_0
 rw [e0, e1, e2]
 show (bif _ || (_ || (!(a.gone == b.gone) || (_ || !(a.vec.a == b.vec.a)))) then bif _ then false else bif _ then (decide (a.stamp.n < b.stamp.n) || a.stamp.n == b.stamp.n && decide (a.stamp.site < b.stamp.site)) else bif !(a.gone == b.gone) then b.gone else bif _ then ltS a.value b.value else decide (a.vec.a < b.vec.a) else decide (a.vec.b < b.vec.b)) = (bif _ then _ else bif !(a.gone == b.gone) then b.gone else bif _ then ltS a.value b.value else bif !(a.vec.a == b.vec.a) then decide (a.vec.a < b.vec.a) else decide (a.vec.b < b.vec.b))
 have hb : (a.vec.b == b.vec.b) = true → decide (a.vec.b < b.vec.b) = false := fun h => decide_eq_false (by have : a.vec.b = b.vec.b := eq_of_beq h; omega)
 revert hb
 generalize (a.stamp.n == b.stamp.n && a.stamp.site == b.stamp.site) = q1
 generalize (a.gone == b.gone) = q2
 generalize (a.value == b.value) = q3
 generalize (a.vec.a == b.vec.a) = q4
 generalize (a.vec.b == b.vec.b) = q5
 generalize decide (a.vec.b < b.vec.b) = q6
 cases q1 <;> cases q2 <;> cases q3 <;> cases q4 <;> cases q5 <;> cases q6 <;> simp
theorem join_Less_c2 (a0 : TCell) (a1 : TCell) (_hp : ∀ p ∈ join_Less_ps2 a0 a1, p) : CallOk Try.prog 138 [valA .cell a0, valA .cell a1] 0 [] 1 (join_Less_r2 a0 a1) 0 (join_Less_o2 a0 a1) := by
 have h := join_Less_c a0 a1 (fun _ h => by cases h)
 unfold join_Less_r at h
 rw [join_Less_eq] at h
 exact h
def join_Less_t : List A → Nat → Objs → Option CRes
 | [y0, y1], nx, o => match argU .cell y0, argU .cell y1 with
  | some (a0, p0), some (a1, p1) => some (1, (join_Less_r2 a0 a1).pk (shiftR nx), nx + 0, shiftO nx (join_Less_o2 a0 a1) ++ o, p0 ++ (p1 ++ (join_Less_ps2 a0 a1)))
  | _, _ => none
 | _, _, _ => none
theorem join_Less_tok : TOk Try.prog 138 join_Less_t := fun args nx o k x nx' o' ps h => by
 unfold join_Less_t at h
 split at h <;> first | (cases h; done) | skip
 split at h <;> first | (cases h; done) | skip
 rename_i a0 p0 a1 p1 e0 e1
 cases h
 refine ⟨fun hp => ?_, _, rfl⟩
 have q0 := fun p hm => hp p (List.mem_append.2 (.inl hm))
 have r0 := fun p hm => hp p (List.mem_append.2 (.inr hm))
 have q1 := fun p hm => r0 p (List.mem_append.2 (.inl hm))
 have r1 := fun p hm => r0 p (List.mem_append.2 (.inr hm))
 refine callOk_args (callOk_shift (join_Less_c2 a0 a1 r1) (Nat.le_refl _) (freeL_cons (valA_free _ _) (freeL_cons (valA_free _ _) freeL_nil)) nx o) fun F N R vs hl => ?_
 obtain ⟨v0, w0, rfl, h0, hl⟩ := hl.inv
 obtain ⟨v1, w1, rfl, h1, hl⟩ := hl.inv
 exact HL.cons (argU_ok e0 q0 h0) (HL.cons (argU_ok e1 q1 h1) (hl))
noncomputable def Cq_3 := addC 138 join_Less_t Cq_2
theorem Cq_3_ok : COk Try.prog Cq_3 := addC_ok join_Less_tok Cq_2_ok
def r05_Less_0 (a0 : TStamp) (a1 : TStamp) : Bool := bif a0.1 != a1.1 then decide (a0.1 < a1.1) else decide (a0.2 < a1.2)
def r05_Less_r (a0 : TStamp) (a1 : TStamp) : A := .v (.bool (r05_Less_0 a0 a1))
def r05_Less_o (_a0 : TStamp) (_a1 : TStamp) : Objs := []
def r05_Less_ps (_a0 : TStamp) (_a1 : TStamp) : List Prop := []
set_option maxRecDepth 100000 in
theorem r05_Less_ev (a0 : TStamp) (a1 : TStamp) : evF (envT Cq_3 L0) 9 173 [valA .stamp a0, valA .stamp a1] 0 [] = some (1, r05_Less_r a0 a1, 0, r05_Less_o a0 a1, []) := by kernel_rfl
set_option maxRecDepth 100000 in
theorem r05_Less_c (a0 : TStamp) (a1 : TStamp) (_hp : ∀ p ∈ r05_Less_ps a0 a1, p) : CallOk Try.prog 173 [valA .stamp a0, valA .stamp a1] 0 [] 1 (r05_Less_r a0 a1) 0 (r05_Less_o a0 a1) := by
 exact evF_ok (envP_ok Cq_3_ok L0_ok) (r05_Less_ev a0 a1) needs_nil
def r05_Less_t : List A → Nat → Objs → Option CRes
 | [y0, y1], nx, o => match argU .stamp y0, argU .stamp y1 with
  | some (a0, p0), some (a1, p1) => some (1, (r05_Less_r a0 a1).pk (shiftR nx), nx + 0, shiftO nx (r05_Less_o a0 a1) ++ o, p0 ++ (p1 ++ (r05_Less_ps a0 a1)))
  | _, _ => none
 | _, _, _ => none
theorem r05_Less_tok : TOk Try.prog 173 r05_Less_t := fun args nx o k x nx' o' ps h => by
 unfold r05_Less_t at h
 split at h <;> first | (cases h; done) | skip
 split at h <;> first | (cases h; done) | skip
 rename_i a0 p0 a1 p1 e0 e1
 cases h
 refine ⟨fun hp => ?_, _, rfl⟩
 have q0 := fun p hm => hp p (List.mem_append.2 (.inl hm))
 have r0 := fun p hm => hp p (List.mem_append.2 (.inr hm))
 have q1 := fun p hm => r0 p (List.mem_append.2 (.inl hm))
 have r1 := fun p hm => r0 p (List.mem_append.2 (.inr hm))
 refine callOk_args (callOk_shift (r05_Less_c a0 a1 r1) (Nat.le_refl _) (freeL_cons (valA_free _ _) (freeL_cons (valA_free _ _) freeL_nil)) nx o) fun F N R vs hl => ?_
 obtain ⟨v0, w0, rfl, h0, hl⟩ := hl.inv
 obtain ⟨v1, w1, rfl, h1, hl⟩ := hl.inv
 exact HL.cons (argU_ok e0 q0 h0) (HL.cons (argU_ok e1 q1 h1) (hl))
noncomputable def Cq_4 := addC 173 r05_Less_t Cq_3
theorem Cq_4_ok : COk Try.prog Cq_4 := addC_ok r05_Less_tok Cq_3_ok
def r09_Less_0 (a0 : TCell) (a1 : TCell) : Bool := bif !(a0.1.1 == a1.1.1 && a0.1.2 == a1.1.2) then r05_Less_0 a0.1 a1.1 else bif !a0.3 == a1.3 then a1.3 else bif !a0.4.toList == a1.4.toList then Op.bytesLess a0.4.toList a1.4.toList else bif a0.2.1 != a1.2.1 then decide (a0.2.1 < a1.2.1) else decide (a0.2.2 < a1.2.2)
def r09_Less_r (a0 : TCell) (a1 : TCell) : A := .v (.bool (r09_Less_0 a0 a1))
def r09_Less_o (_a0 : TCell) (_a1 : TCell) : Objs := []
def r09_Less_ps (_a0 : TCell) (_a1 : TCell) : List Prop := []
set_option maxRecDepth 100000 in
theorem r09_Less_ev (a0 : TCell) (a1 : TCell) : evF (envT Cq_4 L0) 9 166 [valA .cell a0, valA .cell a1] 0 [] = some (1, r09_Less_r a0 a1, 0, r09_Less_o a0 a1, []) := by kernel_rfl
set_option maxRecDepth 100000 in
theorem r09_Less_c (a0 : TCell) (a1 : TCell) (_hp : ∀ p ∈ r09_Less_ps a0 a1, p) : CallOk Try.prog 166 [valA .cell a0, valA .cell a1] 0 [] 1 (r09_Less_r a0 a1) 0 (r09_Less_o a0 a1) := by
 exact evF_ok (envP_ok Cq_4_ok L0_ok) (r09_Less_ev a0 a1) needs_nil
def r09_Less_t : List A → Nat → Objs → Option CRes
 | [y0, y1], nx, o => match argU .cell y0, argU .cell y1 with
  | some (a0, p0), some (a1, p1) => some (1, (r09_Less_r a0 a1).pk (shiftR nx), nx + 0, shiftO nx (r09_Less_o a0 a1) ++ o, p0 ++ (p1 ++ (r09_Less_ps a0 a1)))
  | _, _ => none
 | _, _, _ => none
theorem r09_Less_tok : TOk Try.prog 166 r09_Less_t := fun args nx o k x nx' o' ps h => by
 unfold r09_Less_t at h
 split at h <;> first | (cases h; done) | skip
 split at h <;> first | (cases h; done) | skip
 rename_i a0 p0 a1 p1 e0 e1
 cases h
 refine ⟨fun hp => ?_, _, rfl⟩
 have q0 := fun p hm => hp p (List.mem_append.2 (.inl hm))
 have r0 := fun p hm => hp p (List.mem_append.2 (.inr hm))
 have q1 := fun p hm => r0 p (List.mem_append.2 (.inl hm))
 have r1 := fun p hm => r0 p (List.mem_append.2 (.inr hm))
 refine callOk_args (callOk_shift (r09_Less_c a0 a1 r1) (Nat.le_refl _) (freeL_cons (valA_free _ _) (freeL_cons (valA_free _ _) freeL_nil)) nx o) fun F N R vs hl => ?_
 obtain ⟨v0, w0, rfl, h0, hl⟩ := hl.inv
 obtain ⟨v1, w1, rfl, h1, hl⟩ := hl.inv
 exact HL.cons (argU_ok e0 q0 h0) (HL.cons (argU_ok e1 q1 h1) (hl))
noncomputable def Cq_5 := addC 166 r09_Less_t Cq_4
theorem Cq_5_ok : COk Try.prog Cq_5 := addC_ok r09_Less_tok Cq_4_ok
def r09_Two_0 (a0 : TCell) (a1 : TCell) : TCell := TCell.mk (TStamp.mk (bif r09_Less_0 a0 a1 then a1.1.1 else a0.1.1) (bif r09_Less_0 a0 a1 then a1.1.2 else a0.1.2)) (TVec.mk (bif r09_Less_0 a0 a1 then a1.2.1 else a0.2.1) (bif r09_Less_0 a0 a1 then a1.2.2 else a0.2.2)) (bif r09_Less_0 a0 a1 then a1.3 else a0.3) (bif r09_Less_0 a0 a1 then a1.4 else a0.4) (r06_Two_0 a0.5 a1.5)
def r09_Two_r (a0 : TCell) (a1 : TCell) : A := .v (.agg ⟨[.int .i64 ((r09_Two_0 a0 a1).stamp.n), .int .i64 ((r09_Two_0 a0 a1).stamp.site), .int .i64 ((r09_Two_0 a0 a1).vec.a), .int .i64 ((r09_Two_0 a0 a1).vec.b), .bool ((r09_Two_0 a0 a1).gone), .string ((r09_Two_0 a0 a1).value), .int .i64 ((r09_Two_0 a0 a1).dead.a), .int .i64 ((r09_Two_0 a0 a1).dead.b)]⟩)
def r09_Two_o (_a0 : TCell) (_a1 : TCell) : Objs := []
def r09_Two_ps (_a0 : TCell) (_a1 : TCell) : List Prop := []
set_option maxRecDepth 100000 in
theorem r09_Two_ev (a0 : TCell) (a1 : TCell) : evF (envT Cq_5 L0) 9 135 [valA .cell a0, valA .cell a1] 0 [] = some (1, r09_Two_r a0 a1, 0, r09_Two_o a0 a1, []) := by kernel_rfl
set_option maxRecDepth 100000 in
theorem r09_Two_c (a0 : TCell) (a1 : TCell) (_hp : ∀ p ∈ r09_Two_ps a0 a1, p) : CallOk Try.prog 135 [valA .cell a0, valA .cell a1] 0 [] 1 (r09_Two_r a0 a1) 0 (r09_Two_o a0 a1) := by
 exact evF_ok (envP_ok Cq_5_ok L0_ok) (r09_Two_ev a0 a1) needs_nil
def r09_Two_r2 (a0 : TCell) (a1 : TCell) : A := .v (.agg ⟨[.int .i64 ((twoC a0 a1).stamp.n), .int .i64 ((twoC a0 a1).stamp.site), .int .i64 ((twoC a0 a1).vec.a), .int .i64 ((twoC a0 a1).vec.b), .bool ((twoC a0 a1).gone), .string ((twoC a0 a1).value), .int .i64 ((twoC a0 a1).dead.a), .int .i64 ((twoC a0 a1).dead.b)]⟩)
def r09_Two_o2 (_a0 : TCell) (_a1 : TCell) : Objs := []
def r09_Two_ps2 (_a0 : TCell) (_a1 : TCell) : List Prop := []
theorem r05_Less_eq (a b : TStamp) : r05_Less_0 a b = (decide (a.n < b.n) || a.n == b.n && decide (a.site < b.site)) := by
 show (bif !(a.n == b.n) then decide (a.n < b.n) else decide (a.site < b.site)) = _
 by_cases h : a.n = b.n
 ·rw [beq_iff_eq.2 h, decide_eq_false (p := a.n < b.n) (by omega)]
  simp
 ·rw [beq_eq_false_iff_ne.2 h]
  simp
theorem r09_Less_eq (a b : TCell) : r09_Less_0 a b = lessC a b := by
 unfold r09_Less_0 lessC
 rw [r05_Less_eq, tlb]
 rfl
theorem r09_Two_eq (a b : TCell) : r09_Two_0 a b = twoC a b := by
 unfold r09_Two_0 twoC maxC
 rw [r09_Less_eq]
 cases lessC a b <;> rfl
theorem r09_Two_c2 (a0 : TCell) (a1 : TCell) (_hp : ∀ p ∈ r09_Two_ps2 a0 a1, p) : CallOk Try.prog 135 [valA .cell a0, valA .cell a1] 0 [] 1 (r09_Two_r2 a0 a1) 0 (r09_Two_o2 a0 a1) := by
 have h := r09_Two_c a0 a1 (fun _ h => by cases h)
 unfold r09_Two_r at h
 rw [r09_Two_eq] at h
 exact h
def r09_Two_t : List A → Nat → Objs → Option CRes
 | [y0, y1], nx, o => match argU .cell y0, argU .cell y1 with
  | some (a0, p0), some (a1, p1) => some (1, (r09_Two_r2 a0 a1).pk (shiftR nx), nx + 0, shiftO nx (r09_Two_o2 a0 a1) ++ o, p0 ++ (p1 ++ (r09_Two_ps2 a0 a1)))
  | _, _ => none
 | _, _, _ => none
theorem r09_Two_tok : TOk Try.prog 135 r09_Two_t := fun args nx o k x nx' o' ps h => by
 unfold r09_Two_t at h
 split at h <;> first | (cases h; done) | skip
 split at h <;> first | (cases h; done) | skip
 rename_i a0 p0 a1 p1 e0 e1
 cases h
 refine ⟨fun hp => ?_, _, rfl⟩
 have q0 := fun p hm => hp p (List.mem_append.2 (.inl hm))
 have r0 := fun p hm => hp p (List.mem_append.2 (.inr hm))
 have q1 := fun p hm => r0 p (List.mem_append.2 (.inl hm))
 have r1 := fun p hm => r0 p (List.mem_append.2 (.inr hm))
 refine callOk_args (callOk_shift (r09_Two_c2 a0 a1 r1) (Nat.le_refl _) (freeL_cons (valA_free _ _) (freeL_cons (valA_free _ _) freeL_nil)) nx o) fun F N R vs hl => ?_
 obtain ⟨v0, w0, rfl, h0, hl⟩ := hl.inv
 obtain ⟨v1, w1, rfl, h1, hl⟩ := hl.inv
 exact HL.cons (argU_ok e0 q0 h0) (HL.cons (argU_ok e1 q1 h1) (hl))
noncomputable def Cq_6 := addC 135 r09_Two_t Cq_5
theorem Cq_6_ok : COk Try.prog Cq_6 := addC_ok r09_Two_tok Cq_5_ok
def join_Join_f1_r (a0 : TCell) (a1 : TCell) : A := .v (.bool (lessC a0 a1))
def join_Join_f1_o (_a0 : TCell) (_a1 : TCell) : Objs := []
def join_Join_f1_ps (_a0 : TCell) (_a1 : TCell) : List Prop := []
set_option maxRecDepth 100000 in
theorem join_Join_f1_ev (a0 : TCell) (a1 : TCell) : evF (envT Cq_6 L0) 9 137 [valA .cell a0, valA .cell a1] 0 [] = some (1, join_Join_f1_r a0 a1, 0, join_Join_f1_o a0 a1, []) := by kernel_rfl
set_option maxRecDepth 100000 in
theorem join_Join_f1_c (a0 : TCell) (a1 : TCell) (_hp : ∀ p ∈ join_Join_f1_ps a0 a1, p) : CallOk Try.prog 137 [valA .cell a0, valA .cell a1] 0 [] 1 (join_Join_f1_r a0 a1) 0 (join_Join_f1_o a0 a1) := by
 exact evF_ok (envP_ok Cq_6_ok L0_ok) (join_Join_f1_ev a0 a1) needs_nil
def join_Join_f1_t : List A → Nat → Objs → Option CRes
 | [y0, y1], nx, o => match argU .cell y0, argU .cell y1 with
  | some (a0, p0), some (a1, p1) => some (1, (join_Join_f1_r a0 a1).pk (shiftR nx), nx + 0, shiftO nx (join_Join_f1_o a0 a1) ++ o, p0 ++ (p1 ++ (join_Join_f1_ps a0 a1)))
  | _, _ => none
 | _, _, _ => none
theorem join_Join_f1_tok : TOk Try.prog 137 join_Join_f1_t := fun args nx o k x nx' o' ps h => by
 unfold join_Join_f1_t at h
 split at h <;> first | (cases h; done) | skip
 split at h <;> first | (cases h; done) | skip
 rename_i a0 p0 a1 p1 e0 e1
 cases h
 refine ⟨fun hp => ?_, _, rfl⟩
 have q0 := fun p hm => hp p (List.mem_append.2 (.inl hm))
 have r0 := fun p hm => hp p (List.mem_append.2 (.inr hm))
 have q1 := fun p hm => r0 p (List.mem_append.2 (.inl hm))
 have r1 := fun p hm => r0 p (List.mem_append.2 (.inr hm))
 refine callOk_args (callOk_shift (join_Join_f1_c a0 a1 r1) (Nat.le_refl _) (freeL_cons (valA_free _ _) (freeL_cons (valA_free _ _) freeL_nil)) nx o) fun F N R vs hl => ?_
 obtain ⟨v0, w0, rfl, h0, hl⟩ := hl.inv
 obtain ⟨v1, w1, rfl, h1, hl⟩ := hl.inv
 exact HL.cons (argU_ok e0 q0 h0) (HL.cons (argU_ok e1 q1 h1) (hl))
noncomputable def Cq_7 := addC 137 join_Join_f1_t Cq_6
theorem Cq_7_ok : COk Try.prog Cq_7 := addC_ok join_Join_f1_tok Cq_6_ok
noncomputable def Cq_8 := addC 136 (inl (envT Cq_7 L0) 4 136) Cq_7
theorem Cq_8_ok : COk Try.prog Cq_8 := addC_ok (inl_ok (envP_ok Cq_7_ok L0_ok) 4 136) Cq_7_ok
def join_Join_k1 (a0 : TCell) (b0 : TCell) : Bool := lessC (TCell.mk (TStamp.mk (0 : Int) (0 : Int)) (TVec.mk (0 : Int) (0 : Int)) false (ByteArray.mk #[]) (TVec.mk (0 : Int) (0 : Int))) ([a0, b0].getD (0 : Nat) (dflt TC.cell))
def join_Join_k0 (a0 : TCell) (b0 : TCell) : Bool := lessC (TCell.mk (TStamp.mk (bif (join_Join_k1 a0 b0) then ([a0, b0].getD (0 : Nat) (dflt TC.cell)).1.1 else (0 : Int)) (bif (join_Join_k1 a0 b0) then ([a0, b0].getD (0 : Nat) (dflt TC.cell)).1.2 else (0 : Int))) (TVec.mk (bif (join_Join_k1 a0 b0) then ([a0, b0].getD (0 : Nat) (dflt TC.cell)).2.1 else (0 : Int)) (bif (join_Join_k1 a0 b0) then ([a0, b0].getD (0 : Nat) (dflt TC.cell)).2.2 else (0 : Int))) (bif (join_Join_k1 a0 b0) then ([a0, b0].getD (0 : Nat) (dflt TC.cell)).3 else false) (bif (join_Join_k1 a0 b0) then ([a0, b0].getD (0 : Nat) (dflt TC.cell)).4 else ByteArray.mk #[]) (TVec.mk (bif (join_Join_k1 a0 b0) then ([a0, b0].getD (0 : Nat) (dflt TC.cell)).5.1 else (0 : Int)) (bif (join_Join_k1 a0 b0) then ([a0, b0].getD (0 : Nat) (dflt TC.cell)).5.2 else (0 : Int)))) ([a0, b0].getD (1 : Nat) (dflt TC.cell))
def join_Join_0 (a0 : TCell) (b0 : TCell) : TCell := TCell.mk (TStamp.mk (bif (join_Join_k0 a0 b0) then ([a0, b0].getD (1 : Nat) (dflt TC.cell)).1.1 else bif (join_Join_k1 a0 b0) then ([a0, b0].getD (0 : Nat) (dflt TC.cell)).1.1 else (0 : Int)) (bif (join_Join_k0 a0 b0) then ([a0, b0].getD (1 : Nat) (dflt TC.cell)).1.2 else bif (join_Join_k1 a0 b0) then ([a0, b0].getD (0 : Nat) (dflt TC.cell)).1.2 else (0 : Int))) (TVec.mk (bif (join_Join_k0 a0 b0) then ([a0, b0].getD (1 : Nat) (dflt TC.cell)).2.1 else bif (join_Join_k1 a0 b0) then ([a0, b0].getD (0 : Nat) (dflt TC.cell)).2.1 else (0 : Int)) (bif (join_Join_k0 a0 b0) then ([a0, b0].getD (1 : Nat) (dflt TC.cell)).2.2 else bif (join_Join_k1 a0 b0) then ([a0, b0].getD (0 : Nat) (dflt TC.cell)).2.2 else (0 : Int))) (bif (join_Join_k0 a0 b0) then ([a0, b0].getD (1 : Nat) (dflt TC.cell)).3 else bif (join_Join_k1 a0 b0) then ([a0, b0].getD (0 : Nat) (dflt TC.cell)).3 else false) (bif (join_Join_k0 a0 b0) then ([a0, b0].getD (1 : Nat) (dflt TC.cell)).4 else bif (join_Join_k1 a0 b0) then ([a0, b0].getD (0 : Nat) (dflt TC.cell)).4 else ByteArray.mk #[]) (TVec.mk (max (max (0 : Int) ((((List.replicate (2 : Nat) (dflt TC.vec)).set (0 : Nat) ([a0, b0].getD (0 : Nat) (dflt TC.cell)).5).set (1 : Nat) ([a0, b0].getD (1 : Nat) (dflt TC.cell)).5).getD (0 : Nat) (dflt TC.vec)).1) ((((List.replicate (2 : Nat) (dflt TC.vec)).set (0 : Nat) ([a0, b0].getD (0 : Nat) (dflt TC.cell)).5).set (1 : Nat) ([a0, b0].getD (1 : Nat) (dflt TC.cell)).5).getD (1 : Nat) (dflt TC.vec)).1) (max (max (0 : Int) ((((List.replicate (2 : Nat) (dflt TC.vec)).set (0 : Nat) ([a0, b0].getD (0 : Nat) (dflt TC.cell)).5).set (1 : Nat) ([a0, b0].getD (1 : Nat) (dflt TC.cell)).5).getD (0 : Nat) (dflt TC.vec)).2) ((((List.replicate (2 : Nat) (dflt TC.vec)).set (0 : Nat) ([a0, b0].getD (0 : Nat) (dflt TC.cell)).5).set (1 : Nat) ([a0, b0].getD (1 : Nat) (dflt TC.cell)).5).getD (1 : Nat) (dflt TC.vec)).2))
def join_Join_r (a0 : TCell) (b0 : TCell) : A := .v (.agg ⟨[.int .i64 ((join_Join_0 a0 b0).stamp.n), .int .i64 ((join_Join_0 a0 b0).stamp.site), .int .i64 ((join_Join_0 a0 b0).vec.a), .int .i64 ((join_Join_0 a0 b0).vec.b), .bool ((join_Join_0 a0 b0).gone), .string ((join_Join_0 a0 b0).value), .int .i64 ((join_Join_0 a0 b0).dead.a), .int .i64 ((join_Join_0 a0 b0).dead.b)]⟩)
def join_Join_o (_a0 : TCell) (_b0 : TCell) : Objs := []
def join_Join_ps (_a0 : TCell) (_b0 : TCell) : List Prop := []
set_option maxRecDepth 100000 in
theorem join_Join_ev (a0 : TCell) (b0 : TCell) : evF (envT Cq_8 L0) 9 75 [.sl .cell [a0, b0]] 0 [] = some (1, join_Join_r a0 b0, 0, join_Join_o a0 b0, [((0 : Int) ≤ (0 : Int) ∧ (0 : Int) < (↑(2 : Nat) : Int)), ((0 : Int) ≤ (1 : Int) ∧ (1 : Int) < (↑(2 : Nat) : Int)), ((0 : Int) ≤ (↑(2 : Nat) : Int) ∧ (↑(2 : Nat) : Int) ≤ (↑(2 : Nat) : Int) ∧ (↑(2 : Nat) : Int) ≤ (549755813888 : Int)), ((0 : Int) ≤ (0 : Int) ∧ (0 : Int) < (↑(2 : Nat) : Int)), ((0 : Int) ≤ (0 : Int) ∧ (0 : Int) < (↑(2 : Nat) : Int)), ((0 : Nat) < (2 : Nat)), ((0 : Int) ≤ (1 : Int) ∧ (1 : Int) < (↑(2 : Nat) : Int)), ((0 : Int) ≤ (1 : Int) ∧ (1 : Int) < (↑(2 : Nat) : Int)), ((1 : Nat) < (2 : Nat)), ((0 : Int) ≤ (0 : Int) ∧ (0 : Int) < (↑(2 : Nat) : Int)), ((0 : Nat) < (2 : Nat)), ((0 : Int) ≤ (0 : Int) ∧ (0 : Int) < (2 : Int)), ((0 : Nat) < (2 : Nat)), ((0 : Int) ≤ (0 : Int) ∧ (0 : Int) < (2 : Int)), ((0 : Nat) < (2 : Nat)), ((0 : Int) ≤ (0 : Int) ∧ (0 : Int) < (2 : Int)), ((0 : Nat) < (2 : Nat)), ((0 : Int) ≤ (1 : Int) ∧ (1 : Int) < (2 : Int)), ((1 : Nat) < (2 : Nat)), ((0 : Int) ≤ (1 : Int) ∧ (1 : Int) < (2 : Int)), ((1 : Nat) < (2 : Nat)), ((0 : Int) ≤ (1 : Int) ∧ (1 : Int) < (2 : Int)), ((1 : Nat) < (2 : Nat)), ((0 : Int) ≤ (1 : Int) ∧ (1 : Int) < (↑(2 : Nat) : Int)), ((1 : Nat) < (2 : Nat)), ((0 : Int) ≤ (0 : Int) ∧ (0 : Int) < (2 : Int)), ((0 : Nat) < (2 : Nat)), ((0 : Int) ≤ (0 : Int) ∧ (0 : Int) < (2 : Int)), ((0 : Nat) < (2 : Nat)), ((0 : Int) ≤ (0 : Int) ∧ (0 : Int) < (2 : Int)), ((0 : Nat) < (2 : Nat)), ((0 : Int) ≤ (1 : Int) ∧ (1 : Int) < (2 : Int)), ((1 : Nat) < (2 : Nat)), ((0 : Int) ≤ (1 : Int) ∧ (1 : Int) < (2 : Int)), ((1 : Nat) < (2 : Nat)), ((0 : Int) ≤ (1 : Int) ∧ (1 : Int) < (2 : Int)), ((1 : Nat) < (2 : Nat))]) := by kernel_rfl
set_option maxRecDepth 100000 in
theorem join_Join_c (a0 : TCell) (b0 : TCell) (_hp : ∀ p ∈ join_Join_ps a0 b0, p) : CallOk Try.prog 75 [.sl .cell [a0, b0]] 0 [] 1 (join_Join_r a0 b0) 0 (join_Join_o a0 b0) := by
 have n0 : ((0 : Int) ≤ (0 : Int) ∧ (0 : Int) < (↑(2 : Nat) : Int)) := by first | rfl | decide +kernel
 have n1 : ((0 : Int) ≤ (1 : Int) ∧ (1 : Int) < (↑(2 : Nat) : Int)) := by first | rfl | decide +kernel
 have n2 : ((0 : Int) ≤ (↑(2 : Nat) : Int) ∧ (↑(2 : Nat) : Int) ≤ (↑(2 : Nat) : Int) ∧ (↑(2 : Nat) : Int) ≤ (549755813888 : Int)) := by first | rfl | decide +kernel
 have n5 : ((0 : Nat) < (2 : Nat)) := by first | rfl | decide +kernel
 have n8 : ((1 : Nat) < (2 : Nat)) := by first | rfl | decide +kernel
 have n11 : ((0 : Int) ≤ (0 : Int) ∧ (0 : Int) < (2 : Int)) := by first | rfl | decide +kernel
 have n17 : ((0 : Int) ≤ (1 : Int) ∧ (1 : Int) < (2 : Int)) := by first | rfl | decide +kernel
 exact evF_ok (envP_ok Cq_8_ok L0_ok) (join_Join_ev a0 b0) (needs_cons n0 (needs_cons n1 (needs_cons n2 (needs_cons n0 (needs_cons n0 (needs_cons n5 (needs_cons n1 (needs_cons n1 (needs_cons n8 (needs_cons n0 (needs_cons n5 (needs_cons n11 (needs_cons n5 (needs_cons n11 (needs_cons n5 (needs_cons n11 (needs_cons n5 (needs_cons n17 (needs_cons n8 (needs_cons n17 (needs_cons n8 (needs_cons n17 (needs_cons n8 (needs_cons n1 (needs_cons n8 (needs_cons n11 (needs_cons n5 (needs_cons n11 (needs_cons n5 (needs_cons n11 (needs_cons n5 (needs_cons n17 (needs_cons n8 (needs_cons n17 (needs_cons n8 (needs_cons n17 (needs_cons n8 needs_nil)))))))))))))))))))))))))))))))))))))
def join_Join_r2 (a0 : TCell) (a1 : TCell) : A := .v (.agg ⟨[.int .i64 ((joinC a0 a1).stamp.n), .int .i64 ((joinC a0 a1).stamp.site), .int .i64 ((joinC a0 a1).vec.a), .int .i64 ((joinC a0 a1).vec.b), .bool ((joinC a0 a1).gone), .string ((joinC a0 a1).value), .int .i64 ((joinC a0 a1).dead.a), .int .i64 ((joinC a0 a1).dead.b)]⟩)
def join_Join_o2 (_a0 : TCell) (_a1 : TCell) : Objs := []
def join_Join_ps2 (_a0 : TCell) (_a1 : TCell) : List Prop := []
theorem join_Join_eq (a b : TCell) : join_Join_0 a b = joinC a b := by
 have h1 : join_Join_k1 a b = lessC zeroC a := rfl
 have h0 : join_Join_k0 a b = lessC (maxC zeroC a) b := by
  unfold join_Join_k0
  rw [h1]
  unfold maxC
  cases lessC zeroC a <;> rfl
 unfold join_Join_0
 rw [h0, h1]
 have hm : maxC (maxC zeroC a) b = bif lessC (maxC zeroC a) b then b else maxC zeroC a := rfl
 have hz : maxC zeroC a = bif lessC zeroC a then a else zeroC := rfl
 unfold joinC
 rw [hm]
 cases lessC (maxC zeroC a) b with
 | true => rfl
 | false =>
  rw [hz]
  cases lessC zeroC a <;> rfl
theorem join_Join_c2 (a0 : TCell) (b0 : TCell) (_hp : ∀ p ∈ join_Join_ps2 a0 b0, p) : CallOk Try.prog 75 [.sl .cell [a0, b0]] 0 [] 1 (join_Join_r2 a0 b0) 0 (join_Join_o2 a0 b0) := by
 have h := join_Join_c a0 b0 (fun _ h => by cases h)
 unfold join_Join_r at h
 rw [join_Join_eq] at h
 exact h
def join_Join_t : List A → Nat → Objs → Option CRes
 | [y0], nx, o => match argP .cell y0 with
  | some (a0, b0) => some (1, (join_Join_r2 a0 b0).pk (shiftR nx), nx + 0, shiftO nx (join_Join_o2 a0 b0) ++ o, join_Join_ps2 a0 b0)
  | _ => none
 | _, _, _ => none
theorem join_Join_tok : TOk Try.prog 75 join_Join_t := fun args nx o k x nx' o' ps h => by
 unfold join_Join_t at h
 split at h <;> first | (cases h; done) | skip
 split at h <;> first | (cases h; done) | skip
 rename_i a0 b0 e0
 cases h
 refine ⟨fun hp => ?_, _, rfl⟩
 refine callOk_args (callOk_shift (join_Join_c2 a0 b0 hp) (Nat.le_refl _) (freeL_cons rfl freeL_nil) nx o) fun F N R vs hl => ?_
 obtain ⟨v0, w0, rfl, h0, hl⟩ := hl.inv
 exact HL.cons (argP_ok e0 h0) (hl)
noncomputable def Cq_9 := addC 75 join_Join_t Cq_8
theorem Cq_9_ok : COk Try.prog Cq_9 := addC_ok join_Join_tok Cq_8_ok
noncomputable def Cq := Cq_9
theorem Cq_ok : COk Try.prog Cq := Cq_9_ok
end Go.Proofs.Yteebobbhhgmeiaa
namespace Go.Proofs.Yteebobbhhgmeiaa
open Go.RowKit
def wrE (l : List TGroup) (r : TRow) (g : Int) (c : TCell) : Int := bif goodRow l r != 0 then goodRow l r else bif decide (g < 0) || decide (g ≥ (l.length : Int)) then 70 else bif !goodC (polN l g.toNat) c then 80 else 0
def wrCs (xs : List TCell) (g : Nat) (c : TCell) : List TCell := xs.set g (joinC (cellN xs g) c)
theorem wrE_0 {l : List TGroup} {r : TRow} {g : Int} {c : TCell} : wrE l r g c = 0 ↔ goodRow l r = 0 ∧ (0 ≤ g ∧ g < (l.length : Int)) ∧ goodC (polN l g.toNat) c = true := by
 unfold wrE
 cases h : goodRow l r != 0 with
 | true =>
  rw [cond_true]
  have h' : goodRow l r ≠ 0 := by simpa using h
  exact ⟨fun e => absurd e h', fun e => absurd e.1 h'⟩
 | false =>
  rw [cond_false]
  have h' : goodRow l r = 0 := by simpa using h
  by_cases k : 0 ≤ g ∧ g < (l.length : Int)
  ·rw [decide_eq_false (by omega), decide_eq_false (by omega), Bool.false_or, cond_false]
   cases goodC (polN l g.toNat) c <;> simp [h', k]
  ·have : (decide (g < 0) || decide (g ≥ (l.length : Int))) = true := by
    rw [Bool.or_eq_true, decide_eq_true_eq, decide_eq_true_eq]; omega
   rw [this]
   exact ⟨fun e => (by cases e), fun e => absurd e.2.1 k⟩
theorem wrCs_len (xs : List TCell) (g : Nat) (c : TCell) : (wrCs xs g c).length = xs.length := List.length_set
end Go.Proofs.Yteebobbhhgmeiaa
namespace Go.Proofs.Yteebobbhhgmeiaa
open Go.RowKit
noncomputable def Cs_1 := addC 60 l10_light_t Cq
theorem Cs_1_ok : COk Try.prog Cs_1 := addC_ok l10_light_tok Cq_ok
noncomputable def Cs_2 := addC 61 l10_lives_t Cs_1
theorem Cs_2_ok : COk Try.prog Cs_2 := addC_ok l10_lives_tok Cs_1_ok
def policy_Of_k1 (a0 : List TGroup) (_a1 : Int) : Bool := goodP a0 != (0 : Int)
def policy_Of_k0 (a0 : List TGroup) (a1 : Int) : Bool := decide (a1 < (0 : Int)) || decide (a1 ≥ (↑a0.length : Int))
def policy_Of_0 (a0 : List TGroup) (a1 : Int) : Int := bif (policy_Of_k1 a0 a1) then (0 : Int) else bif (policy_Of_k0 a0 a1) then (0 : Int) else (a0.getD a1.toNat (dflt TC.group)).2
def policy_Of_1 (a0 : List TGroup) (a1 : Int) : Int := bif (policy_Of_k1 a0 a1) then goodP a0 else bif (policy_Of_k0 a0 a1) then (70 : Int) else (0 : Int)
def policy_Of_r (a0 : List TGroup) (a1 : Int) : A := .v (.tuple ⟨[.int .i64 (policy_Of_0 a0 a1), .int .i64 (policy_Of_1 a0 a1)]⟩)
def policy_Of_o (_a0 : List TGroup) (_a1 : Int) : Objs := []
def policy_Of_ps (a0 : List TGroup) (a1 : Int) : List Prop := [((!(policy_Of_k1 a0 a1)) = true → (!(policy_Of_k0 a0 a1)) = true → (0 : Int) ≤ a1 ∧ a1 < (↑a0.length : Int))]
set_option maxRecDepth 100000 in
theorem policy_Of_ev (a0 : List TGroup) (a1 : Int) : evF (envT Cs_2 L0) 9 134 [.sl .group a0, valA .i64 a1] 0 [] = some (1, policy_Of_r a0 a1, 0, policy_Of_o a0 a1, [((!(policy_Of_k1 a0 a1)) = true → (!(policy_Of_k0 a0 a1)) = true → (0 : Int) ≤ a1 ∧ a1 < (↑a0.length : Int))]) := by kernel_rfl
set_option maxRecDepth 100000 in
theorem policy_Of_c (a0 : List TGroup) (a1 : Int) (hp : ∀ p ∈ policy_Of_ps a0 a1, p) : CallOk Try.prog 134 [.sl .group a0, valA .i64 a1] 0 [] 1 (policy_Of_r a0 a1) 0 (policy_Of_o a0 a1) := by
 have n0 : ((!(policy_Of_k1 a0 a1)) = true → (!(policy_Of_k0 a0 a1)) = true → (0 : Int) ≤ a1 ∧ a1 < (↑a0.length : Int)) := hp _ (List.mem_cons_self ..)
 exact evF_ok (envP_ok Cs_2_ok L0_ok) (policy_Of_ev a0 a1) (needs_cons n0 needs_nil)
def policy_Of_t : List A → Nat → Objs → Option CRes
 | [y0, y1], nx, o => match argL .group y0, argU .i64 y1 with
  | some a0, some (a1, p1) => some (1, (policy_Of_r a0 a1).pk (shiftR nx), nx + 0, shiftO nx (policy_Of_o a0 a1) ++ o, p1 ++ (policy_Of_ps a0 a1))
  | _, _ => none
 | _, _, _ => none
theorem policy_Of_tok : TOk Try.prog 134 policy_Of_t := fun args nx o k x nx' o' ps h => by
 unfold policy_Of_t at h
 split at h <;> first | (cases h; done) | skip
 split at h <;> first | (cases h; done) | skip
 rename_i a0 a1 p1 e0 e1
 cases h
 refine ⟨fun hp => ?_, _, rfl⟩
 have q1 := fun p hm => hp p (List.mem_append.2 (.inl hm))
 have r1 := fun p hm => hp p (List.mem_append.2 (.inr hm))
 refine callOk_args (callOk_shift (policy_Of_c a0 a1 r1) (Nat.le_refl _) (freeL_cons rfl (freeL_cons (valA_free _ _) freeL_nil)) nx o) fun F N R vs hl => ?_
 obtain ⟨v0, w0, rfl, h0, hl⟩ := hl.inv
 obtain ⟨v1, w1, rfl, h1, hl⟩ := hl.inv
 exact HL.cons (argL_ok e0 h0) (HL.cons (argU_ok e1 q1 h1) (hl))
noncomputable def Cs_3 := addC 134 policy_Of_t Cs_2
theorem Cs_3_ok : COk Try.prog Cs_3 := addC_ok policy_Of_tok Cs_2_ok
def row_copied_k0 (a0 : TRow) : List TCell := List.replicate (↑a0.2.length : Int).toNat (dflt TC.cell)
def row_copied_1 (a0 : TRow) : List TCell := List.take (0 : Nat) (row_copied_k0 a0) ++ (List.take (row_copied_k0 a0).length a0.2 ++ List.drop ((0 : Nat) + (row_copied_k0 a0).length.min a0.2.length) (row_copied_k0 a0))
def row_copied_r (a0 : TRow) : A := .agg [.v (.string a0.1), .sq 0]
def row_copied_o (a0 : TRow) : Objs := [(0, some (.arr 55 8 (.ty .cell (row_copied_1 a0))))]
def row_copied_ps (a0 : TRow) : List Prop := [((0 : Int) ≤ (↑a0.2.length : Int) ∧ (↑a0.2.length : Int) ≤ (↑a0.2.length : Int) ∧ (↑a0.2.length : Int) ≤ (549755813888 : Int))]
set_option maxRecDepth 100000 in
theorem row_copied_ev (a0 : TRow) : evF (envT Cs_3 L0) 9 133 [valA .row a0] 0 [] = some (1, row_copied_r a0, 1, row_copied_o a0, [((0 : Int) ≤ (↑a0.2.length : Int) ∧ (↑a0.2.length : Int) ≤ (↑a0.2.length : Int) ∧ (↑a0.2.length : Int) ≤ (549755813888 : Int))]) := by kernel_rfl
set_option maxRecDepth 100000 in
theorem row_copied_c (a0 : TRow) (hp : ∀ p ∈ row_copied_ps a0, p) : CallOk Try.prog 133 [valA .row a0] 0 [] 1 (row_copied_r a0) 1 (row_copied_o a0) := by
 have n0 : ((0 : Int) ≤ (↑a0.2.length : Int) ∧ (↑a0.2.length : Int) ≤ (↑a0.2.length : Int) ∧ (↑a0.2.length : Int) ≤ (549755813888 : Int)) := hp _ (List.mem_cons_self ..)
 exact evF_ok (envP_ok Cs_3_ok L0_ok) (row_copied_ev a0) (needs_cons n0 needs_nil)
def row_copied_r2 (a0 : TRow) : A := .agg [.v (.string a0.1), .sq 0]
def row_copied_o2 (a0 : TRow) : Objs := [(0, some (.arr 55 8 (.ty .cell a0.2)))]
def row_copied_ps2 (a0 : TRow) : List Prop := [boundP a0.2.length]
theorem row_copied_eq (a : TRow) : row_copied_1 a = a.2 := by
 have hk : (row_copied_k0 a).length = a.2.length := by
  unfold row_copied_k0
  simp
 unfold row_copied_1
 rw [hk, List.take_length, List.take_zero, List.nil_append]
 have : List.drop (0 + a.2.length.min a.2.length) (row_copied_k0 a) = [] := List.drop_eq_nil_of_le (by rw [hk]; show a.2.length ≤ 0 + min a.2.length a.2.length; omega)
 rw [this, List.append_nil]
theorem row_copied_c2 (a0 : TRow) (hp : ∀ p ∈ row_copied_ps2 a0, p) : CallOk Try.prog 133 [valA .row a0] 0 [] 1 (row_copied_r2 a0) 1 (row_copied_o2 a0) := by
 have hb : boundP a0.2.length := hp _ (List.mem_cons_self ..)
 unfold boundP at hb
 have h := row_copied_c a0 (needs_cons (by omega) needs_nil)
 unfold row_copied_o at h
 rw [row_copied_eq] at h
 exact h
def row_copied_t : List A → Nat → Objs → Option CRes
 | [y0], nx, o => match argU .row y0 with
  | some (a0, p0) => some (1, (row_copied_r2 a0).pk (shiftR nx), nx + 1, shiftO nx (row_copied_o2 a0) ++ o, p0 ++ (row_copied_ps2 a0))
  | _ => none
 | _, _, _ => none
theorem row_copied_tok : TOk Try.prog 133 row_copied_t := fun args nx o k x nx' o' ps h => by
 unfold row_copied_t at h
 split at h <;> first | (cases h; done) | skip
 split at h <;> first | (cases h; done) | skip
 rename_i a0 p0 e0
 cases h
 refine ⟨fun hp => ?_, _, rfl⟩
 have q0 := fun p hm => hp p (List.mem_append.2 (.inl hm))
 have r0 := fun p hm => hp p (List.mem_append.2 (.inr hm))
 refine callOk_args (callOk_shift (row_copied_c2 a0 r0) (Nat.le_refl _) (freeL_cons (valA_free _ _) freeL_nil) nx o) fun F N R vs hl => ?_
 obtain ⟨v0, w0, rfl, h0, hl⟩ := hl.inv
 exact HL.cons (argU_ok e0 q0 h0) (hl)
noncomputable def Cs_4 := addC 133 row_copied_t Cs_3
theorem Cs_4_ok : COk Try.prog Cs_4 := addC_ok row_copied_tok Cs_3_ok
abbrev row_Join_l2_X : Type := (List TCell) × Int × Int × ByteArray × (List TCell)
def row_Join_l2_T (x : row_Join_l2_X) : St := ⟨60, 9, [(11, .own 7 0), (39, .sl .cell x.1), (40, .v (.int .i64 x.2.1)), (41, .v (.int .i64 x.2.2.1))], [(7, some (.box 71 [.v (.string x.2.2.2.1), .sq 8])), (8, some (.arr 55 8 (.ty .cell x.2.2.2.2)))]⟩
def row_Join_l2_un : St → Option row_Join_l2_X
 | ⟨60, 9, [(11, .own 7 0), (39, .sl .cell z0), (40, .v (.int .i64 z1)), (41, .v (.int .i64 z2))], [(7, some (.box 71 [.v (.string z3), .sq 8])), (8, some (.arr 55 8 (.ty .cell z4)))]⟩ => some (z0, z1, z2, z3, z4)
 | _ => none
theorem row_Join_l2_unok : ∀ s x, row_Join_l2_un s = some x → s = row_Join_l2_T x := fun s x h => by
 unfold row_Join_l2_un at h
 split at h
 ·cases h; rfl
 ·cases h
def row_Join_l2_S : Shape := ⟨8, 9, [11, 39, 40, 41], [], [(7, 7), (8, 8)], [7, 8], [], [7, 8]⟩
def row_Join_l2_E : Entry := ⟨[], [(7, 7), (6, 8)], [11, 39, 40, 41], [7, 6]⟩
def row_Join_l2_f_4 (a0 : List TCell) (_a1 : Int) (a2 : Int) (_a3 : ByteArray) (a4 : List TCell) : List TCell := a4.set a2.toNat (joinC (a4.getD a2.toNat (dflt TC.cell)) (a0.getD a2.toNat (dflt TC.cell)))
def row_Join_l2_next (x : row_Join_l2_X) : row_Join_l2_X := (x.1, x.2.1, IntKind.i64.wrap (x.2.2.1 + (1 : Int)), x.2.2.2.1, row_Join_l2_f_4 x.1 x.2.1 x.2.2.1 x.2.2.2.1 x.2.2.2.2)
def row_Join_l2_goes (x : row_Join_l2_X) : Cnd := some (!!decide (x.2.2.1 < x.2.1))
def row_Join_l2_psA (x : row_Join_l2_X) : List Prop := [((!!decide (x.2.2.1 < x.2.1)) = true → (0 : Int) ≤ x.2.2.1 ∧ x.2.2.1 < (↑x.1.length : Int)), ((!!decide (x.2.2.1 < x.2.1)) = true → (0 : Int) ≤ x.2.2.1 ∧ x.2.2.1 < (↑x.2.2.2.2.length : Int)), ((!!decide (x.2.2.1 < x.2.1)) = true → x.2.2.1.toNat < x.2.2.2.2.length), ((!!decide (x.2.2.1 < x.2.1)) = true → (0 : Int) ≤ x.2.2.1 ∧ x.2.2.1 < (↑x.2.2.2.2.length : Int)), ((!!decide (x.2.2.1 < x.2.1)) = true → x.2.2.1.toNat < x.2.2.2.2.length)]
def row_Join_l2_ps (x : row_Join_l2_X) : List Prop := [((!!decide (x.2.2.1 < x.2.1)) = true → (0 : Int) ≤ x.2.2.1 ∧ x.2.2.1 < (↑x.1.length : Int)), ((!!decide (x.2.2.1 < x.2.1)) = true → (0 : Int) ≤ x.2.2.1 ∧ x.2.2.1 < (↑x.2.2.2.2.length : Int))]
def row_Join_l2_outs (x : row_Join_l2_X) : Outs := [(some 2, some (!decide (x.2.2.1 < x.2.1)), ⟨60, 9, [], [(7, some (.box 71 [.v (.string x.2.2.2.1), .sq 8])), (8, some (.arr 55 8 (.ty .cell x.2.2.2.2)))]⟩)]
def row_Join_l2_fuel (x : row_Join_l2_X) : Nat := (x.2.1 - x.2.2.1).toNat
def row_Join_l2_run (x : row_Join_l2_X) : row_Join_l2_X := iterX row_Join_l2_next row_Join_l2_goes (row_Join_l2_fuel x) x
set_option maxRecDepth 100000 in
theorem row_Join_l2_ev (a0 : List TCell) (a1 : Int) (a2 : Int) (a3 : ByteArray) (a4 : List TCell) : roundE (envT Cs_4 L0) 9 (loopAt Try.prog 71 2) row_Join_l2_S (row_Join_l2_T (a0, a1, a2, a3, a4)) = some (row_Join_l2_psA (a0, a1, a2, a3, a4), row_Join_l2_outs (a0, a1, a2, a3, a4), row_Join_l2_goes (a0, a1, a2, a3, a4), row_Join_l2_T (row_Join_l2_next (a0, a1, a2, a3, a4))) := by kernel_rfl
set_option maxRecDepth 100000 in
theorem row_Join_l2_hA (a0 : List TCell) (a1 : Int) (a2 : Int) (a3 : ByteArray) (a4 : List TCell) (hp : ∀ p ∈ row_Join_l2_ps (a0, a1, a2, a3, a4), p) : ∀ p ∈ row_Join_l2_psA (a0, a1, a2, a3, a4), p := by
 have n0 : ((!!decide (a2 < a1)) = true → (0 : Int) ≤ a2 ∧ a2 < (↑a0.length : Int)) := hp _ (List.mem_cons_self ..)
 have n1 : ((!!decide (a2 < a1)) = true → (0 : Int) ≤ a2 ∧ a2 < (↑a4.length : Int)) := hp _ (List.mem_cons_of_mem _ (List.mem_cons_self ..))
 have n2 : ((!!decide (a2 < a1)) = true → a2.toNat < a4.length) := by intro h0; have g := n1 h0; omega
 exact (needs_cons n0 (needs_cons n1 (needs_cons n2 (needs_cons n1 (needs_cons n2 needs_nil)))))
noncomputable def row_Join_l2_row := rowL (envT Cs_4 L0) (loopAt Try.prog 71 2) row_Join_l2_S row_Join_l2_E row_Join_l2_un row_Join_l2_fuel row_Join_l2_next row_Join_l2_goes row_Join_l2_ps row_Join_l2_outs
theorem row_Join_l2_rok : ∀ s b ps outs, row_Join_l2_row s = some (b, ps, outs) → Wf s ⟨ps, outs, none⟩ ∧ LoopOk (envT C0 L0) b s ps outs :=
 rowP_ok (T := row_Join_l2_T) Cs_4_ok L0_ok (u := 9) (by kernel_rfl) (by decide) (fun ⟨a0, a1, a2, a3, a4⟩ => row_Join_l2_ev a0 a1 a2 a3 a4) (fun ⟨a0, a1, a2, a3, a4⟩ => row_Join_l2_hA a0 a1 a2 a3 a4) row_Join_l2_unok (fun _ => okOuts_ok (n := 60) rfl) fun _ _ => rfl
noncomputable def row_Join_l2_L := addLp 2 row_Join_l2_row L0
theorem row_Join_l2_Lok : LpOk row_Join_l2_L := addLp_ok row_Join_l2_rok L0_ok
def row_Join_k2 (_a0 : List TGroup) (a1 : TRow) (a2 : TRow) : Bool := !a1.1.toList == a2.1.toList
def row_Join_k1 (a0 : List TGroup) (a1 : TRow) (_a2 : TRow) : Bool := goodRow a0 a1 != (0 : Int)
def row_Join_k0 (a0 : List TGroup) (a1 : TRow) (a2 : TRow) : Bool := (row_Join_k1 a0 a1 a2) || goodRow a0 a2 != (0 : Int)
def row_Join_0 (a0 : List TGroup) (a1 : TRow) (a2 : TRow) : ByteArray := bif (row_Join_k0 a0 a1 a2) then bif (row_Join_k1 a0 a1 a2) then ByteArray.mk #[] else ByteArray.mk #[] else bif (row_Join_k2 a0 a1 a2) then ByteArray.mk #[] else (row_Join_l2_run (a2.2, (↑a2.2.length : Int), (0 : Int), a1.1, a1.2)).snd.snd.snd.fst
def row_Join_1 (a0 : List TGroup) (a1 : TRow) (a2 : TRow) : Int := bif (row_Join_k0 a0 a1 a2) then bif (row_Join_k1 a0 a1 a2) then goodRow a0 a1 else goodRow a0 a2 else bif (row_Join_k2 a0 a1 a2) then (100 : Int) else (0 : Int)
def row_Join_2 (a0 : List TGroup) (a1 : TRow) (a2 : TRow) : List TCell := bif (row_Join_k0 a0 a1 a2) then [] else bif (row_Join_k2 a0 a1 a2) then [] else (row_Join_l2_run (a2.2, (↑a2.2.length : Int), (0 : Int), a1.1, a1.2)).snd.snd.snd.snd
def row_Join_r (a0 : List TGroup) (a1 : TRow) (a2 : TRow) : A := .tup [.agg [.v (.string (row_Join_0 a0 a1 a2)), .sq 0], .v (.int .i64 (row_Join_1 a0 a1 a2))]
def row_Join_o (a0 : List TGroup) (a1 : TRow) (a2 : TRow) : Objs := [(0, some (.arr 55 8 (.ty .cell (row_Join_2 a0 a1 a2))))]
def row_Join_ps (a0 : List TGroup) (a1 : TRow) (a2 : TRow) : List Prop := [((!(row_Join_k0 a0 a1 a2)) = true → (!(row_Join_k2 a0 a1 a2)) = true → boundP a1.2.length), ((!(row_Join_k0 a0 a1 a2)) = true → (!(row_Join_k2 a0 a1 a2)) = true → needX row_Join_l2_next row_Join_l2_goes row_Join_l2_ps (row_Join_l2_fuel (a2.2, (↑a2.2.length : Int), (0 : Int), a1.1, a1.2)) (a2.2, (↑a2.2.length : Int), (0 : Int), a1.1, a1.2))]
set_option maxRecDepth 100000 in
theorem row_Join_ev (a0 : List TGroup) (a1 : TRow) (a2 : TRow) : evF (envT Cs_4 row_Join_l2_L) 9 71 [.sl .group a0, valA .row a1, valA .row a2] 0 [] = some (1, row_Join_r a0 a1 a2, 1, row_Join_o a0 a1 a2, [((0 : Int) ≤ (0 : Int) ∧ (0 : Int) < (↑(2 : Nat) : Int)), ((0 : Nat) < (2 : Nat)), ((!(row_Join_k1 a0 a1 a2)) = true → (0 : Int) ≤ (1 : Int) ∧ (1 : Int) < (↑(2 : Nat) : Int)), ((!(row_Join_k1 a0 a1 a2)) = true → (1 : Nat) < (2 : Nat)), ((!(row_Join_k0 a0 a1 a2)) = true → (!(row_Join_k2 a0 a1 a2)) = true → boundP a1.2.length), ((!(row_Join_k0 a0 a1 a2)) = true → (!(row_Join_k2 a0 a1 a2)) = true → loopAt Try.prog (71 : FuncId) (2 : Nat) = loopAt Try.prog (71 : FuncId) (2 : Nat)), ((!(row_Join_k0 a0 a1 a2)) = true → (!(row_Join_k2 a0 a1 a2)) = true → needX row_Join_l2_next row_Join_l2_goes row_Join_l2_ps (row_Join_l2_fuel (a2.2, (↑a2.2.length : Int), (0 : Int), a1.1, a1.2)) (a2.2, (↑a2.2.length : Int), (0 : Int), a1.1, a1.2))]) := by kernel_rfl
set_option maxRecDepth 100000 in
theorem row_Join_c (a0 : List TGroup) (a1 : TRow) (a2 : TRow) (hp : ∀ p ∈ row_Join_ps a0 a1 a2, p) : CallOk Try.prog 71 [.sl .group a0, valA .row a1, valA .row a2] 0 [] 1 (row_Join_r a0 a1 a2) 1 (row_Join_o a0 a1 a2) := by
 have n0 : ((0 : Int) ≤ (0 : Int) ∧ (0 : Int) < (↑(2 : Nat) : Int)) := by first | rfl | decide +kernel
 have n1 : ((0 : Nat) < (2 : Nat)) := by first | rfl | decide +kernel
 have n2 : ((!(row_Join_k1 a0 a1 a2)) = true → (0 : Int) ≤ (1 : Int) ∧ (1 : Int) < (↑(2 : Nat) : Int)) := by omega
 have n3 : ((!(row_Join_k1 a0 a1 a2)) = true → (1 : Nat) < (2 : Nat)) := by omega
 have n4 : ((!(row_Join_k0 a0 a1 a2)) = true → (!(row_Join_k2 a0 a1 a2)) = true → boundP a1.2.length) := hp _ (List.mem_cons_self ..)
 have n5 : ((!(row_Join_k0 a0 a1 a2)) = true → (!(row_Join_k2 a0 a1 a2)) = true → loopAt Try.prog (71 : FuncId) (2 : Nat) = loopAt Try.prog (71 : FuncId) (2 : Nat)) := by intros; rfl
 have n6 : ((!(row_Join_k0 a0 a1 a2)) = true → (!(row_Join_k2 a0 a1 a2)) = true → needX row_Join_l2_next row_Join_l2_goes row_Join_l2_ps (row_Join_l2_fuel (a2.2, (↑a2.2.length : Int), (0 : Int), a1.1, a1.2)) (a2.2, (↑a2.2.length : Int), (0 : Int), a1.1, a1.2)) := hp _ (List.mem_cons_of_mem _ (List.mem_cons_self ..))
 exact evF_ok (envP_ok Cs_4_ok row_Join_l2_Lok) (row_Join_ev a0 a1 a2) (needs_cons n0 (needs_cons n1 (needs_cons n2 (needs_cons n3 (needs_cons n4 (needs_cons n5 (needs_cons n6 needs_nil)))))))
def jnK (l : List TGroup) (a b : TRow) : ByteArray := bif jnE l a b == 0 then a.key else ⟨#[]⟩
def jnL (l : List TGroup) (a b : TRow) : List TCell := bif jnE l a b == 0 then jnN a.cells b.cells b.cells.length else []
def row_Join_r2 (a0 : List TGroup) (a1 : TRow) (a2 : TRow) : A := .tup [.agg [.v (.string (jnK a0 a1 a2)), .sq 0], .v (.int .i64 (jnE a0 a1 a2))]
def row_Join_o2 (a0 : List TGroup) (a1 : TRow) (a2 : TRow) : Objs := [(0, some (.arr 55 8 (.ty .cell (jnL a0 a1 a2))))]
def row_Join_ps2 (_a0 : List TGroup) (_a1 : TRow) (_a2 : TRow) : List Prop := []
theorem row_Join_loop (key : ByteArray) (us ws : List TCell) (hl : us.length = ws.length) (h4 : ws.length ≤ 4) :
  needX row_Join_l2_next row_Join_l2_goes row_Join_l2_ps (row_Join_l2_fuel (ws, (ws.length : Int), 0, key, us)) (ws, (ws.length : Int), 0, key, us) ∧
  row_Join_l2_run (ws, (ws.length : Int), 0, key, us) = (ws, (ws.length : Int), (ws.length : Int), key, jnN us ws ws.length) := by
 obtain ⟨h1, k, hk, hx, _, hst, _⟩ := scanB (fun i => (ws, (ws.length : Int), (i : Int), key, jnN us ws i) : Nat → row_Join_l2_X) ws.length (fun _ => false) row_Join_l2_next row_Join_l2_goes row_Join_l2_ps (row_Join_l2_fuel (ws, (ws.length : Int), 0, key, us)) (ws, (ws.length : Int), 0, key, us) rfl (by show ws.length ≤ ((ws.length : Int) - 0).toNat; omega)
  (fun i _ _ => by
   show (!!decide ((i : Int) < (ws.length : Int))) = _
   rw [nn, dlt, Bool.not_false, Bool.and_true])
  (fun i hi _ => by
   show (ws, (ws.length : Int), IntKind.i64.wrap ((i : Int) + 1), key, row_Join_l2_f_4 ws (ws.length : Int) (i : Int) key (jnN us ws i)) = (ws, (ws.length : Int), ((i + 1 : Nat) : Int), key, jnN us ws (i + 1))
   unfold row_Join_l2_f_4
   rw [wsucc (by omega), Int.toNat_natCast]
   rfl)
  (fun i hi _ => by
   have hin : (!!decide ((i : Int) < (ws.length : Int))) = true → i < ws.length := fun h => by rw [nn] at h; have := of_decide_eq_true h; omega
   have hlen := jnN_len us ws i
   exact needs_cons (fun h => ⟨by show (0 : Int) ≤ (i : Int); omega, by have := hin h; show (i : Int) < (ws.length : Int); omega⟩) (needs_cons (fun h => ⟨by show (0 : Int) ≤ (i : Int); omega, by have := hin h; show (i : Int) < ((jnN us ws i).length : Int); omega⟩) needs_nil))
 have hkn : k = ws.length := by
  rcases Nat.lt_or_ge k ws.length with h | h
  ·exact absurd (hst h) (by decide)
  ·omega
 subst hkn
 exact ⟨h1, hx⟩
theorem row_Join_c2 (a0 : List TGroup) (a1 : TRow) (a2 : TRow) (_hp : ∀ p ∈ row_Join_ps2 a0 a1 a2, p) : CallOk Try.prog 71 [.sl .group a0, valA .row a1, valA .row a2] 0 [] 1 (row_Join_r2 a0 a1 a2) 1 (row_Join_o2 a0 a1 a2) := by
 have hgood : (!(row_Join_k0 a0 a1 a2)) = true → goodRow a0 a1 = 0 ∧ goodRow a0 a2 = 0 := fun h => by
  have h' : (!((goodRow a0 a1 != 0) || (goodRow a0 a2 != 0))) = true := h
  rw [Bool.not_or, Bool.and_eq_true] at h'
  exact ⟨by simpa using h'.1, by simpa using h'.2⟩
 have hloop : goodRow a0 a1 = 0 → goodRow a0 a2 = 0 → _ := fun g1 g2 => row_Join_loop a1.1 a1.2 a2.2 (((goodRow_0 g1).2.1).trans ((goodRow_0 g2).2.1).symm) (by have := (goodP_0 (goodRow_0 g2).1).2; have := (goodRow_0 g2).2.1; show a2.cells.length ≤ 4; omega)
 have h := row_Join_c a0 a1 a2 (needs_cons (fun h _ => by
   obtain ⟨g1, _⟩ := hgood h
   have := (goodP_0 (goodRow_0 g1).1).2
   have := (goodRow_0 g1).2.1
   show boundP a1.cells.length
   unfold boundP
   omega) (needs_cons (fun h _ => (hloop (hgood h).1 (hgood h).2).1) needs_nil))
 have e : row_Join_0 a0 a1 a2 = jnK a0 a1 a2 ∧ row_Join_1 a0 a1 a2 = jnE a0 a1 a2 ∧ row_Join_2 a0 a1 a2 = jnL a0 a1 a2 := by
  have k0 : row_Join_k0 a0 a1 a2 = ((goodRow a0 a1 != 0) || (goodRow a0 a2 != 0)) := rfl
  have k1 : row_Join_k1 a0 a1 a2 = (goodRow a0 a1 != 0) := rfl
  have k2 : row_Join_k2 a0 a1 a2 = !(a1.key == a2.key) := by
   unfold row_Join_k2
   rw [tlb]
  unfold row_Join_0 row_Join_1 row_Join_2 jnK jnL jnE
  rw [k0, k1, k2]
  cases g1 : goodRow a0 a1 != 0 with
  | true =>
   have : (goodRow a0 a1 == 0) = false := by simpa using g1
   rw [Bool.true_or, cond_true, cond_true, cond_true, cond_true, cond_true, this]
   refine ⟨?_, ?_, ?_⟩ <;> first | rfl | trivial
  | false =>
   cases g2 : goodRow a0 a2 != 0 with
   | true =>
    have : (goodRow a0 a2 == 0) = false := by simpa using g2
    rw [Bool.false_or]
    simp only [cond_true, cond_false, this]
    refine ⟨?_, ?_, ?_⟩ <;> first | rfl | trivial
   | false =>
    rw [Bool.false_or]
    simp only [cond_false]
    cases hk : a1.key == a2.key with
    | false => refine ⟨?_, ?_, ?_⟩ <;> first | rfl | trivial
    | true =>
     rw [(hloop (by simpa using g1) (by simpa using g2)).2]
     refine ⟨?_, ?_, ?_⟩ <;> first | rfl | trivial
 unfold row_Join_r row_Join_o at h
 rw [e.1, e.2.1, e.2.2] at h
 exact h
def row_Join_t : List A → Nat → Objs → Option CRes
 | [y0, y1, y2], nx, o => match argL .group y0, argU .row y1, argU .row y2 with
  | some a0, some (a1, p1), some (a2, p2) => some (1, (row_Join_r2 a0 a1 a2).pk (shiftR nx), nx + 1, shiftO nx (row_Join_o2 a0 a1 a2) ++ o, p1 ++ (p2 ++ (row_Join_ps2 a0 a1 a2)))
  | _, _, _ => none
 | _, _, _ => none
theorem row_Join_tok : TOk Try.prog 71 row_Join_t := fun args nx o k x nx' o' ps h => by
 unfold row_Join_t at h
 split at h <;> first | (cases h; done) | skip
 split at h <;> first | (cases h; done) | skip
 rename_i a0 a1 p1 a2 p2 e0 e1 e2
 cases h
 refine ⟨fun hp => ?_, _, rfl⟩
 have q1 := fun p hm => hp p (List.mem_append.2 (.inl hm))
 have r1 := fun p hm => hp p (List.mem_append.2 (.inr hm))
 have q2 := fun p hm => r1 p (List.mem_append.2 (.inl hm))
 have r2 := fun p hm => r1 p (List.mem_append.2 (.inr hm))
 refine callOk_args (callOk_shift (row_Join_c2 a0 a1 a2 r2) (Nat.le_refl _) (freeL_cons rfl (freeL_cons (valA_free _ _) (freeL_cons (valA_free _ _) freeL_nil))) nx o) fun F N R vs hl => ?_
 obtain ⟨v0, w0, rfl, h0, hl⟩ := hl.inv
 obtain ⟨v1, w1, rfl, h1, hl⟩ := hl.inv
 obtain ⟨v2, w2, rfl, h2, hl⟩ := hl.inv
 exact HL.cons (argL_ok e0 h0) (HL.cons (argU_ok e1 q1 h1) (HL.cons (argU_ok e2 q2 h2) (hl)))
noncomputable def Cs_5 := addC 71 row_Join_t Cs_4
theorem Cs_5_ok : COk Try.prog Cs_5 := addC_ok row_Join_tok Cs_4_ok
def row_Write_k1 (a0 : List TGroup) (_a1 : TRow) (a2 : Int) (_a3 : TCell) : Bool := policy_Of_1 a0 a2 != (0 : Int)
def row_Write_k0 (a0 : List TGroup) (a1 : TRow) (_a2 : Int) (_a3 : TCell) : Bool := goodRow a0 a1 != (0 : Int)
def row_Write_0 (a0 : List TGroup) (a1 : TRow) (a2 : Int) (a3 : TCell) : ByteArray := bif (row_Write_k0 a0 a1 a2 a3) then ByteArray.mk #[] else bif (row_Write_k1 a0 a1 a2 a3) then ByteArray.mk #[] else bif !cell_Good_0 (policy_Of_0 a0 a2) a3 then ByteArray.mk #[] else a1.1
def row_Write_1 (a0 : List TGroup) (a1 : TRow) (a2 : Int) (a3 : TCell) : Int := bif (row_Write_k0 a0 a1 a2 a3) then goodRow a0 a1 else bif (row_Write_k1 a0 a1 a2 a3) then policy_Of_1 a0 a2 else bif !cell_Good_0 (policy_Of_0 a0 a2) a3 then (80 : Int) else (0 : Int)
def row_Write_2 (a0 : List TGroup) (a1 : TRow) (a2 : Int) (a3 : TCell) : List TCell := bif (row_Write_k0 a0 a1 a2 a3) then [] else bif (row_Write_k1 a0 a1 a2 a3) then [] else bif !cell_Good_0 (policy_Of_0 a0 a2) a3 then [] else a1.2.set a2.toNat (joinC (a1.2.getD a2.toNat (dflt TC.cell)) a3)
def row_Write_r (a0 : List TGroup) (a1 : TRow) (a2 : Int) (a3 : TCell) : A := .tup [.agg [.v (.string (row_Write_0 a0 a1 a2 a3)), .sq 0], .v (.int .i64 (row_Write_1 a0 a1 a2 a3))]
def row_Write_o (a0 : List TGroup) (a1 : TRow) (a2 : Int) (a3 : TCell) : Objs := [(0, some (.arr 55 8 (.ty .cell (row_Write_2 a0 a1 a2 a3))))]
def row_Write_ps (a0 : List TGroup) (a1 : TRow) (a2 : Int) (a3 : TCell) : List Prop := [((!(row_Write_k0 a0 a1 a2 a3)) = true → (!policy_Of_k1 a0 a2) = true → (!policy_Of_k0 a0 a2) = true → (0 : Int) ≤ a2 ∧ a2 < (↑a0.length : Int)), ((!(row_Write_k0 a0 a1 a2 a3)) = true → (!(row_Write_k1 a0 a1 a2 a3)) = true → (!!cell_Good_0 (policy_Of_0 a0 a2) a3) = true → boundP a1.2.length), ((!(row_Write_k0 a0 a1 a2 a3)) = true → (!(row_Write_k1 a0 a1 a2 a3)) = true → (!!cell_Good_0 (policy_Of_0 a0 a2) a3) = true → (0 : Int) ≤ a2 ∧ a2 < (↑a1.2.length : Int))]
set_option maxRecDepth 100000 in
theorem row_Write_ev (a0 : List TGroup) (a1 : TRow) (a2 : Int) (a3 : TCell) : evF (envT Cs_5 L0) 9 72 [.sl .group a0, valA .row a1, valA .i64 a2, valA .cell a3] 0 [] = some (1, row_Write_r a0 a1 a2 a3, 1, row_Write_o a0 a1 a2 a3, [((!(row_Write_k0 a0 a1 a2 a3)) = true → (!policy_Of_k1 a0 a2) = true → (!policy_Of_k0 a0 a2) = true → (0 : Int) ≤ a2 ∧ a2 < (↑a0.length : Int)), ((!(row_Write_k0 a0 a1 a2 a3)) = true → (!(row_Write_k1 a0 a1 a2 a3)) = true → (!!cell_Good_0 (policy_Of_0 a0 a2) a3) = true → boundP a1.2.length), ((!(row_Write_k0 a0 a1 a2 a3)) = true → (!(row_Write_k1 a0 a1 a2 a3)) = true → (!!cell_Good_0 (policy_Of_0 a0 a2) a3) = true → (0 : Int) ≤ a2 ∧ a2 < (↑a1.2.length : Int)), ((!(row_Write_k0 a0 a1 a2 a3)) = true → (!(row_Write_k1 a0 a1 a2 a3)) = true → (!!cell_Good_0 (policy_Of_0 a0 a2) a3) = true → a2.toNat < a1.2.length), ((!(row_Write_k0 a0 a1 a2 a3)) = true → (!(row_Write_k1 a0 a1 a2 a3)) = true → (!!cell_Good_0 (policy_Of_0 a0 a2) a3) = true → (0 : Int) ≤ a2 ∧ a2 < (↑a1.2.length : Int)), ((!(row_Write_k0 a0 a1 a2 a3)) = true → (!(row_Write_k1 a0 a1 a2 a3)) = true → (!!cell_Good_0 (policy_Of_0 a0 a2) a3) = true → a2.toNat < a1.2.length)]) := by kernel_rfl
set_option maxRecDepth 100000 in
theorem row_Write_c (a0 : List TGroup) (a1 : TRow) (a2 : Int) (a3 : TCell) (hp : ∀ p ∈ row_Write_ps a0 a1 a2 a3, p) : CallOk Try.prog 72 [.sl .group a0, valA .row a1, valA .i64 a2, valA .cell a3] 0 [] 1 (row_Write_r a0 a1 a2 a3) 1 (row_Write_o a0 a1 a2 a3) := by
 have n0 : ((!(row_Write_k0 a0 a1 a2 a3)) = true → (!policy_Of_k1 a0 a2) = true → (!policy_Of_k0 a0 a2) = true → (0 : Int) ≤ a2 ∧ a2 < (↑a0.length : Int)) := hp _ (List.mem_cons_self ..)
 have n1 : ((!(row_Write_k0 a0 a1 a2 a3)) = true → (!(row_Write_k1 a0 a1 a2 a3)) = true → (!!cell_Good_0 (policy_Of_0 a0 a2) a3) = true → boundP a1.2.length) := hp _ (List.mem_cons_of_mem _ (List.mem_cons_self ..))
 have n2 : ((!(row_Write_k0 a0 a1 a2 a3)) = true → (!(row_Write_k1 a0 a1 a2 a3)) = true → (!!cell_Good_0 (policy_Of_0 a0 a2) a3) = true → (0 : Int) ≤ a2 ∧ a2 < (↑a1.2.length : Int)) := hp _ (List.mem_cons_of_mem _ (List.mem_cons_of_mem _ (List.mem_cons_self ..)))
 have n3 : ((!(row_Write_k0 a0 a1 a2 a3)) = true → (!(row_Write_k1 a0 a1 a2 a3)) = true → (!!cell_Good_0 (policy_Of_0 a0 a2) a3) = true → a2.toNat < a1.2.length) := by intro h0 h1 h2; have g := n2 h0 h1 h2; omega
 exact evF_ok (envP_ok Cs_5_ok L0_ok) (row_Write_ev a0 a1 a2 a3) (needs_cons n0 (needs_cons n1 (needs_cons n2 (needs_cons n3 (needs_cons n2 (needs_cons n3 needs_nil))))))
def wrK (l : List TGroup) (r : TRow) (g : Int) (c : TCell) : ByteArray := bif wrE l r g c == 0 then r.key else ⟨#[]⟩
def wrL (l : List TGroup) (r : TRow) (g : Int) (c : TCell) : List TCell := bif wrE l r g c == 0 then wrCs r.cells g.toNat c else []
def row_Write_r2 (a0 : List TGroup) (a1 : TRow) (a2 : Int) (a3 : TCell) : A := .tup [.agg [.v (.string (wrK a0 a1 a2 a3)), .sq 0], .v (.int .i64 (wrE a0 a1 a2 a3))]
def row_Write_o2 (a0 : List TGroup) (a1 : TRow) (a2 : Int) (a3 : TCell) : Objs := [(0, some (.arr 55 8 (.ty .cell (wrL a0 a1 a2 a3))))]
def row_Write_ps2 (_a0 : List TGroup) (_a1 : TRow) (_a2 : Int) (_a3 : TCell) : List Prop := []
theorem row_Write_c2 (a0 : List TGroup) (a1 : TRow) (a2 : Int) (a3 : TCell) (_hp : ∀ p ∈ row_Write_ps2 a0 a1 a2 a3, p) : CallOk Try.prog 72 [.sl .group a0, valA .row a1, valA .i64 a2, valA .cell a3] 0 [] 1 (row_Write_r2 a0 a1 a2 a3) 1 (row_Write_o2 a0 a1 a2 a3) := by
 have hgood : (!(row_Write_k0 a0 a1 a2 a3)) = true → goodRow a0 a1 = 0 := fun h => by
  have h' : (!(goodRow a0 a1 != 0)) = true := h
  simpa using h'
 have h4 : goodRow a0 a1 = 0 → a1.cells.length = a0.length ∧ a0.length ≤ 4 := fun g => ⟨(goodRow_0 g).2.1, (goodP_0 (goodRow_0 g).1).2⟩
 have hin : (!policy_Of_k0 a0 a2) = true → 0 ≤ a2 ∧ a2 < (a0.length : Int) := fun h => by
  have h' : (!(decide (a2 < 0) || decide (a2 ≥ (a0.length : Int)))) = true := h
  rw [Bool.not_or, Bool.and_eq_true, Bool.not_eq_true', Bool.not_eq_true'] at h'
  have := of_decide_eq_false h'.1
  have := of_decide_eq_false h'.2
  omega
 have k1 : goodRow a0 a1 = 0 → row_Write_k1 a0 a1 a2 a3 = policy_Of_k0 a0 a2 := fun g => by
  have hp : (goodP a0 != 0) = false := by rw [(goodRow_0 g).1]; rfl
  have e1 : policy_Of_1 a0 a2 = bif policy_Of_k0 a0 a2 then 70 else 0 := by
   unfold policy_Of_1 policy_Of_k1
   rw [hp]
   rfl
  unfold row_Write_k1
  rw [e1]
  cases policy_Of_k0 a0 a2 <;> rfl
 have h := row_Write_c a0 a1 a2 a3 (needs_cons (fun _ _ g => hin g) (needs_cons (fun g _ _ => by
   obtain ⟨q1, q2⟩ := h4 (hgood g)
   show boundP a1.cells.length
   unfold boundP
   omega) (needs_cons (fun g g1 _ => by
   obtain ⟨q1, q2⟩ := h4 (hgood g)
   rw [k1 (hgood g)] at g1
   have := hin g1
   show (0 : Int) ≤ a2 ∧ a2 < (a1.cells.length : Int)
   omega) needs_nil)))
 have e : row_Write_0 a0 a1 a2 a3 = wrK a0 a1 a2 a3 ∧ row_Write_1 a0 a1 a2 a3 = wrE a0 a1 a2 a3 ∧ row_Write_2 a0 a1 a2 a3 = wrL a0 a1 a2 a3 := by
  have k0 : row_Write_k0 a0 a1 a2 a3 = (goodRow a0 a1 != 0) := rfl
  unfold row_Write_0 row_Write_1 row_Write_2 wrK wrL wrE
  rw [k0]
  cases g1 : goodRow a0 a1 != 0 with
  | true =>
   have : (goodRow a0 a1 == 0) = false := by simpa using g1
   simp only [cond_true, this]
   refine ⟨?_, ?_, ?_⟩ <;> first | rfl | trivial
  | false =>
   have g0 : goodRow a0 a1 = 0 := by simpa using g1
   have hp : (goodP a0 != 0) = false := by rw [(goodRow_0 g0).1]; rfl
   have e1 : policy_Of_1 a0 a2 = bif policy_Of_k0 a0 a2 then 70 else 0 := by
    unfold policy_Of_1 policy_Of_k1
    rw [hp]
    rfl
   have kk : policy_Of_k0 a0 a2 = (decide (a2 < 0) || decide (a2 ≥ (a0.length : Int))) := rfl
   rw [k1 g0, e1, ← kk]
   cases g2 : policy_Of_k0 a0 a2 with
   | true => refine ⟨?_, ?_, ?_⟩ <;> first | rfl | trivial
   | false =>
    have e0 : policy_Of_0 a0 a2 = polN a0 a2.toNat := by
     unfold policy_Of_0 policy_Of_k1
     rw [hp, g2]
     rfl
    rw [e0, cell_Good_eq]
    cases goodC (polN a0 a2.toNat) a3 <;> refine ⟨?_, ?_, ?_⟩ <;> first | rfl | trivial
 unfold row_Write_r row_Write_o at h
 rw [e.1, e.2.1, e.2.2] at h
 exact h
def row_Write_t : List A → Nat → Objs → Option CRes
 | [y0, y1, y2, y3], nx, o => match argL .group y0, argU .row y1, argU .i64 y2, argU .cell y3 with
  | some a0, some (a1, p1), some (a2, p2), some (a3, p3) => some (1, (row_Write_r2 a0 a1 a2 a3).pk (shiftR nx), nx + 1, shiftO nx (row_Write_o2 a0 a1 a2 a3) ++ o, p1 ++ (p2 ++ (p3 ++ (row_Write_ps2 a0 a1 a2 a3))))
  | _, _, _, _ => none
 | _, _, _ => none
theorem row_Write_tok : TOk Try.prog 72 row_Write_t := fun args nx o k x nx' o' ps h => by
 unfold row_Write_t at h
 split at h <;> first | (cases h; done) | skip
 split at h <;> first | (cases h; done) | skip
 rename_i a0 a1 p1 a2 p2 a3 p3 e0 e1 e2 e3
 cases h
 refine ⟨fun hp => ?_, _, rfl⟩
 have q1 := fun p hm => hp p (List.mem_append.2 (.inl hm))
 have r1 := fun p hm => hp p (List.mem_append.2 (.inr hm))
 have q2 := fun p hm => r1 p (List.mem_append.2 (.inl hm))
 have r2 := fun p hm => r1 p (List.mem_append.2 (.inr hm))
 have q3 := fun p hm => r2 p (List.mem_append.2 (.inl hm))
 have r3 := fun p hm => r2 p (List.mem_append.2 (.inr hm))
 refine callOk_args (callOk_shift (row_Write_c2 a0 a1 a2 a3 r3) (Nat.le_refl _) (freeL_cons rfl (freeL_cons (valA_free _ _) (freeL_cons (valA_free _ _) (freeL_cons (valA_free _ _) freeL_nil)))) nx o) fun F N R vs hl => ?_
 obtain ⟨v0, w0, rfl, h0, hl⟩ := hl.inv
 obtain ⟨v1, w1, rfl, h1, hl⟩ := hl.inv
 obtain ⟨v2, w2, rfl, h2, hl⟩ := hl.inv
 obtain ⟨v3, w3, rfl, h3, hl⟩ := hl.inv
 exact HL.cons (argL_ok e0 h0) (HL.cons (argU_ok e1 q1 h1) (HL.cons (argU_ok e2 q2 h2) (HL.cons (argU_ok e3 q3 h3) (hl))))
noncomputable def Cs_6 := addC 72 row_Write_t Cs_5
theorem Cs_6_ok : COk Try.prog Cs_6 := addC_ok row_Write_tok Cs_5_ok
noncomputable def Cs := Cs_6
theorem Cs_ok : COk Try.prog Cs := Cs_6_ok
end Go.Proofs.Yteebobbhhgmeiaa
