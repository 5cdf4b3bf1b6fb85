/- made by a program (gent.py): what functions come to, by their symbolic run over typed data. -/
import Derived.Test.YteebobbhhgmeiaaTj
namespace Go.Proofs.Yteebobbhhgmeiaa
open Go.RowKit

def vmax (a b : TVec) : TVec := ⟨max (max 0 a.a) b.a, max (max 0 a.b) b.b⟩
def knownC (c : TCell) : TVec := vmax c.vec c.dead
def knownR (cs : List TCell) : TVec := cs.foldl (fun v c => vmax v (knownC c)) ⟨0, 0⟩
def newE (l : List TGroup) (k : ByteArray) : Int := bif goodP l != 0 then goodP l else keyE k
def newR (l : List TGroup) (k : ByteArray) : TRow := ⟨bif newE l k != 0 then ⟨#[]⟩ else k, bif newE l k != 0 then [] else List.replicate l.length zeroC⟩
noncomputable def Ck_1 := addC 155 (inl (envT Cj L0) 4 155) Cj
theorem Ck_1_ok : COk Try.prog Ck_1 := addC_ok (inl_ok (envP_ok Cj_ok L0_ok) 4 155) Cj_ok
noncomputable def Ck_2 := addC 109 (inl (envT Ck_1 L0) 4 109) Ck_1
theorem Ck_2_ok : COk Try.prog Ck_2 := addC_ok (inl_ok (envP_ok Ck_1_ok L0_ok) 4 109) Ck_1_ok
def r06_Two_0 (a0 : TVec) (a1 : TVec) : TVec := TVec.mk (max (max (0 : Int) a0.1) a1.1) (max (max (0 : Int) a0.2) a1.2)
def r06_Two_r (a0 : TVec) (a1 : TVec) : A := .v (.agg ⟨[.int .i64 ((r06_Two_0 a0 a1).a), .int .i64 ((r06_Two_0 a0 a1).b)]⟩)
def r06_Two_o (_a0 : TVec) (_a1 : TVec) : Objs := []
def r06_Two_ps (_a0 : TVec) (_a1 : TVec) : List Prop := []
set_option maxRecDepth 100000 in
theorem r06_Two_ev (a0 : TVec) (a1 : TVec) : evF (envT Ck_2 L0) 9 110 [valA .vec a0, valA .vec a1] 0 [] = some (1, r06_Two_r a0 a1, 0, r06_Two_o a0 a1, [((0 : Int) ≤ (0 : Int) ∧ (0 : Int) < (↑(2 : Nat) : Int)), ((0 : Nat) < (2 : Nat)), ((0 : Int) ≤ (0 : Int) ∧ (0 : Int) < (↑(2 : Nat) : Int)), ((0 : Nat) < (2 : Nat)), ((0 : Int) ≤ (1 : Int) ∧ (1 : Int) < (↑(2 : Nat) : Int)), ((1 : Nat) < (2 : Nat)), ((0 : Int) ≤ (1 : Int) ∧ (1 : Int) < (↑(2 : Nat) : Int)), ((1 : Nat) < (2 : Nat))]) := by kernel_rfl
set_option maxRecDepth 100000 in
theorem r06_Two_c (a0 : TVec) (a1 : TVec) (_hp : ∀ p ∈ r06_Two_ps a0 a1, p) : CallOk Try.prog 110 [valA .vec a0, valA .vec a1] 0 [] 1 (r06_Two_r a0 a1) 0 (r06_Two_o a0 a1) := by
  have n0 : ((0 : Int) ≤ (0 : Int) ∧ (0 : Int) < (↑(2 : Nat) : Int)) := by first | rfl | decide +kernel
  have n1 : ((0 : Nat) < (2 : Nat)) := by first | rfl | decide +kernel
  have n4 : ((0 : Int) ≤ (1 : Int) ∧ (1 : Int) < (↑(2 : Nat) : Int)) := by first | rfl | decide +kernel
  have n5 : ((1 : Nat) < (2 : Nat)) := by first | rfl | decide +kernel
  exact evF_ok (envP_ok Ck_2_ok L0_ok) (r06_Two_ev a0 a1) (needs_cons n0 (needs_cons n1 (needs_cons n0 (needs_cons n1 (needs_cons n4 (needs_cons n5 (needs_cons n4 (needs_cons n5 needs_nil))))))))
def r06_Two_t : List A → Nat → Objs → Option CRes
  | [y0, y1], nx, o => match argU .vec y0, argU .vec y1 with
    | some (a0, p0), some (a1, p1) => some (1, (r06_Two_r a0 a1).pk (shiftR nx), nx + 0, shiftO nx (r06_Two_o a0 a1) ++ o, p0 ++ (p1 ++ (r06_Two_ps a0 a1)))
    | _, _ => none
  | _, _, _ => none
theorem r06_Two_tok : TOk Try.prog 110 r06_Two_t := fun args nx o k x nx' o' ps h => by
  unfold r06_Two_t at h
  split at h <;> first | (cases h; done) | skip
  split at h <;> first | (cases h; done) | skip
  rename_i a0 p0 a1 p1 e0 e1
  cases h
  refine ⟨fun hp => ?_, _, rfl⟩
  have q0 := fun p hm => hp p (List.mem_append.2 (.inl hm))
  have r0 := fun p hm => hp p (List.mem_append.2 (.inr hm))
  have q1 := fun p hm => r0 p (List.mem_append.2 (.inl hm))
  have r1 := fun p hm => r0 p (List.mem_append.2 (.inr hm))
  refine callOk_args (callOk_shift (r06_Two_c a0 a1 r1) (Nat.le_refl _) (freeL_cons (valA_free _ _) (freeL_cons (valA_free _ _) freeL_nil)) nx o) fun F N R vs hl => ?_
  obtain ⟨v0, w0, rfl, h0, hl⟩ := hl.inv
  obtain ⟨v1, w1, rfl, h1, hl⟩ := hl.inv
  exact HL.cons (argU_ok e0 q0 h0) (HL.cons (argU_ok e1 q1 h1) (hl))
noncomputable def Ck_3 := addC 110 r06_Two_t Ck_2
theorem Ck_3_ok : COk Try.prog Ck_3 := addC_ok r06_Two_tok Ck_2_ok
def r08_Known_0 (a0 : TCell) : TVec := r06_Two_0 a0.2 a0.5
def r08_Known_r (a0 : TCell) : A := .v (.agg ⟨[.int .i64 ((r08_Known_0 a0).a), .int .i64 ((r08_Known_0 a0).b)]⟩)
def r08_Known_o (_a0 : TCell) : Objs := []
def r08_Known_ps (_a0 : TCell) : List Prop := []
set_option maxRecDepth 100000 in
theorem r08_Known_ev (a0 : TCell) : evF (envT Ck_3 L0) 9 44 [valA .cell a0] 0 [] = some (1, r08_Known_r a0, 0, r08_Known_o a0, []) := by kernel_rfl
set_option maxRecDepth 100000 in
theorem r08_Known_c (a0 : TCell) (_hp : ∀ p ∈ r08_Known_ps a0, p) : CallOk Try.prog 44 [valA .cell a0] 0 [] 1 (r08_Known_r a0) 0 (r08_Known_o a0) := by
  exact evF_ok (envP_ok Ck_3_ok L0_ok) (r08_Known_ev a0) needs_nil
def r08_Known_t : List A → Nat → Objs → Option CRes
  | [y0], nx, o => match argU .cell y0 with
    | some (a0, p0) => some (1, (r08_Known_r a0).pk (shiftR nx), nx + 0, shiftO nx (r08_Known_o a0) ++ o, p0 ++ (r08_Known_ps a0))
    | _ => none
  | _, _, _ => none
theorem r08_Known_tok : TOk Try.prog 44 r08_Known_t := fun args nx o k x nx' o' ps h => by
  unfold r08_Known_t at h
  split at h <;> first | (cases h; done) | skip
  split at h <;> first | (cases h; done) | skip
  rename_i a0 p0 e0
  cases h
  refine ⟨fun hp => ?_, _, rfl⟩
  have q0 := fun p hm => hp p (List.mem_append.2 (.inl hm))
  have r0 := fun p hm => hp p (List.mem_append.2 (.inr hm))
  refine callOk_args (callOk_shift (r08_Known_c a0 r0) (Nat.le_refl _) (freeL_cons (valA_free _ _) freeL_nil) nx o) fun F N R vs hl => ?_
  obtain ⟨v0, w0, rfl, h0, hl⟩ := hl.inv
  exact HL.cons (argU_ok e0 q0 h0) (hl)
noncomputable def Ck_4 := addC 44 r08_Known_t Ck_3
theorem Ck_4_ok : COk Try.prog Ck_4 := addC_ok r08_Known_tok Ck_3_ok
def cell_Known_0 (a0 : TCell) : TVec := TVec.mk (max (max (0 : Int) a0.2.1) a0.5.1) (max (max (0 : Int) a0.2.2) a0.5.2)
def cell_Known_r (a0 : TCell) : A := .v (.agg ⟨[.int .i64 ((cell_Known_0 a0).a), .int .i64 ((cell_Known_0 a0).b)]⟩)
def cell_Known_o (_a0 : TCell) : Objs := []
def cell_Known_ps (_a0 : TCell) : List Prop := []
set_option maxRecDepth 100000 in
theorem cell_Known_ev (a0 : TCell) : evF (envT Ck_4 L0) 9 43 [valA .cell a0] 0 [] = some (1, cell_Known_r a0, 0, cell_Known_o a0, [((0 : Int) ≤ (0 : Int) ∧ (0 : Int) < (↑(2 : Nat) : Int)), ((0 : Nat) < (2 : Nat)), ((0 : Int) ≤ (0 : Int) ∧ (0 : Int) < (2 : Int)), ((0 : Nat) < (2 : Nat)), ((0 : Int) ≤ (0 : Int) ∧ (0 : Int) < (2 : Int)), ((0 : Nat) < (2 : Nat)), ((0 : Int) ≤ (0 : Int) ∧ (0 : Int) < (2 : Int)), ((0 : Nat) < (2 : Nat)), ((0 : Int) ≤ (1 : Int) ∧ (1 : Int) < (2 : Int)), ((1 : Nat) < (2 : Nat)), ((0 : Int) ≤ (1 : Int) ∧ (1 : Int) < (2 : Int)), ((1 : Nat) < (2 : Nat)), ((0 : Int) ≤ (1 : Int) ∧ (1 : Int) < (2 : Int)), ((1 : Nat) < (2 : Nat)), ((0 : Int) ≤ (1 : Int) ∧ (1 : Int) < (↑(2 : Nat) : Int)), ((1 : Nat) < (2 : Nat)), ((0 : Int) ≤ (0 : Int) ∧ (0 : Int) < (2 : Int)), ((0 : Nat) < (2 : Nat)), ((0 : Int) ≤ (0 : Int) ∧ (0 : Int) < (2 : Int)), ((0 : Nat) < (2 : Nat)), ((0 : Int) ≤ (0 : Int) ∧ (0 : Int) < (2 : Int)), ((0 : Nat) < (2 : Nat)), ((0 : Int) ≤ (1 : Int) ∧ (1 : Int) < (2 : Int)), ((1 : Nat) < (2 : Nat)), ((0 : Int) ≤ (1 : Int) ∧ (1 : Int) < (2 : Int)), ((1 : Nat) < (2 : Nat)), ((0 : Int) ≤ (1 : Int) ∧ (1 : Int) < (2 : Int)), ((1 : Nat) < (2 : Nat))]) := by kernel_rfl
set_option maxRecDepth 100000 in
theorem cell_Known_c (a0 : TCell) (_hp : ∀ p ∈ cell_Known_ps a0, p) : CallOk Try.prog 43 [valA .cell a0] 0 [] 1 (cell_Known_r a0) 0 (cell_Known_o a0) := by
  have n0 : ((0 : Int) ≤ (0 : Int) ∧ (0 : Int) < (↑(2 : Nat) : Int)) := by first | rfl | decide +kernel
  have n1 : ((0 : Nat) < (2 : Nat)) := by first | rfl | decide +kernel
  have n2 : ((0 : Int) ≤ (0 : Int) ∧ (0 : Int) < (2 : Int)) := by first | rfl | decide +kernel
  have n8 : ((0 : Int) ≤ (1 : Int) ∧ (1 : Int) < (2 : Int)) := by first | rfl | decide +kernel
  have n9 : ((1 : Nat) < (2 : Nat)) := by first | rfl | decide +kernel
  have n14 : ((0 : Int) ≤ (1 : Int) ∧ (1 : Int) < (↑(2 : Nat) : Int)) := by first | rfl | decide +kernel
  exact evF_ok (envP_ok Ck_4_ok L0_ok) (cell_Known_ev a0) (needs_cons n0 (needs_cons n1 (needs_cons n2 (needs_cons n1 (needs_cons n2 (needs_cons n1 (needs_cons n2 (needs_cons n1 (needs_cons n8 (needs_cons n9 (needs_cons n8 (needs_cons n9 (needs_cons n8 (needs_cons n9 (needs_cons n14 (needs_cons n9 (needs_cons n2 (needs_cons n1 (needs_cons n2 (needs_cons n1 (needs_cons n2 (needs_cons n1 (needs_cons n8 (needs_cons n9 (needs_cons n8 (needs_cons n9 (needs_cons n8 (needs_cons n9 needs_nil))))))))))))))))))))))))))))
def cell_Known_t : List A → Nat → Objs → Option CRes
  | [y0], nx, o => match argU .cell y0 with
    | some (a0, p0) => some (1, (cell_Known_r a0).pk (shiftR nx), nx + 0, shiftO nx (cell_Known_o a0) ++ o, p0 ++ (cell_Known_ps a0))
    | _ => none
  | _, _, _ => none
theorem cell_Known_tok : TOk Try.prog 43 cell_Known_t := fun args nx o k x nx' o' ps h => by
  unfold cell_Known_t at h
  split at h <;> first | (cases h; done) | skip
  split at h <;> first | (cases h; done) | skip
  rename_i a0 p0 e0
  cases h
  refine ⟨fun hp => ?_, _, rfl⟩
  have q0 := fun p hm => hp p (List.mem_append.2 (.inl hm))
  have r0 := fun p hm => hp p (List.mem_append.2 (.inr hm))
  refine callOk_args (callOk_shift (cell_Known_c a0 r0) (Nat.le_refl _) (freeL_cons (valA_free _ _) freeL_nil) nx o) fun F N R vs hl => ?_
  obtain ⟨v0, w0, rfl, h0, hl⟩ := hl.inv
  exact HL.cons (argU_ok e0 q0 h0) (hl)
noncomputable def Ck_5 := addC 43 cell_Known_t Ck_4
theorem Ck_5_ok : COk Try.prog Ck_5 := addC_ok cell_Known_tok Ck_4_ok
/-! loop 0 of function 70 -/
abbrev r10_Known_l0_X : Type := Int × TRow × TVec
def r10_Known_l0_T (x : r10_Known_l0_X) : St := ⟨21, 3, [(1, .own 0 0), (3, .own 2 0), (4, .v (.int .i64 x.1))], [(0, some (.box 71 [.v (.string x.2.1.key), .sl .cell x.2.1.cells])), (2, some (.box 31 [.v (.int .i64 x.2.2.a), .v (.int .i64 x.2.2.b)]))]⟩
def r10_Known_l0_un : St → Option r10_Known_l0_X
  | ⟨21, 3, [(1, .own 0 0), (3, .own 2 0), (4, .v (.int .i64 z0))], [(0, some (.box 71 [.v (.string z1), .sl .cell z2])), (2, some (.box 31 [.v (.int .i64 z3), .v (.int .i64 z4)]))]⟩ => some (z0, ⟨z1, z2⟩, ⟨z3, z4⟩)
  | _ => none
theorem r10_Known_l0_unok : ∀ s x, r10_Known_l0_un s = some x → s = r10_Known_l0_T x := fun s x h => by
  unfold r10_Known_l0_un at h
  split at h
  · cases h; rfl
  · cases h
def r10_Known_l0_S : Shape := ⟨3, 3, [1, 3, 4], [], [(0, 0), (2, 2)], [0, 2], [], [0, 2]⟩
def r10_Known_l0_E : Entry := ⟨[], [(0, 0), (2, 2)], [1, 3, 4], [0, 2]⟩
def r10_Known_l0_f_k0 (a0 : Int) (a1 : TRow) (_a2 : TVec) : Bool := !!decide (a0 < (↑a1.2.length : Int))
def r10_Known_l0_f_2 (a0 : Int) (a1 : TRow) (a2 : TVec) : TVec := r06_Two_0 a2 (r08_Known_0 (a1.2.getD a0.toNat (dflt TC.cell)))
def r10_Known_l0_next (x : r10_Known_l0_X) : r10_Known_l0_X := (IntKind.i64.wrap (x.1 + (1 : Int)), x.2.1, r10_Known_l0_f_2 x.1 x.2.1 x.2.2)
def r10_Known_l0_goes (x : r10_Known_l0_X) : Cnd := some ((r10_Known_l0_f_k0 x.1 x.2.1 x.2.2))
def r10_Known_l0_psA (x : r10_Known_l0_X) : List Prop := [((r10_Known_l0_f_k0 x.1 x.2.1 x.2.2) = true → (0 : Int) ≤ x.1 ∧ x.1 < (↑x.2.1.2.length : Int))]
def r10_Known_l0_ps (x : r10_Known_l0_X) : List Prop := [((r10_Known_l0_f_k0 x.1 x.2.1 x.2.2) = true → (0 : Int) ≤ x.1 ∧ x.1 < (↑x.2.1.2.length : Int))]
def r10_Known_l0_outs (x : r10_Known_l0_X) : Outs := [(some 0, some (!decide (x.1 < (↑x.2.1.2.length : Int))), ⟨21, 3, [], [(0, some (.box 71 [.v (.string x.2.1.1), .sl .cell x.2.1.2])), (2, some (.box 31 [.v (.int .i64 x.2.2.1), .v (.int .i64 x.2.2.2)]))]⟩)]
def r10_Known_l0_fuel (x : r10_Known_l0_X) : Nat := ((↑x.2.1.2.length : Int) - x.1).toNat
def r10_Known_l0_run (x : r10_Known_l0_X) : r10_Known_l0_X := iterX r10_Known_l0_next r10_Known_l0_goes (r10_Known_l0_fuel x) x
set_option maxRecDepth 100000 in
theorem r10_Known_l0_ev (a0 : Int) (a1 : TRow) (a2 : TVec) : roundE (envT Ck_5 L0) 9 (loopAt Try.prog 70 0) r10_Known_l0_S (r10_Known_l0_T (a0, a1, a2)) = some (r10_Known_l0_psA (a0, a1, a2), r10_Known_l0_outs (a0, a1, a2), r10_Known_l0_goes (a0, a1, a2), r10_Known_l0_T (r10_Known_l0_next (a0, a1, a2))) := by kernel_rfl
set_option maxRecDepth 100000 in
theorem r10_Known_l0_hA (a0 : Int) (a1 : TRow) (a2 : TVec) (hp : ∀ p ∈ r10_Known_l0_ps (a0, a1, a2), p) : ∀ p ∈ r10_Known_l0_psA (a0, a1, a2), p := by
  have n0 : ((r10_Known_l0_f_k0 a0 a1 a2) = true → (0 : Int) ≤ a0 ∧ a0 < (↑a1.2.length : Int)) := hp _ (List.mem_cons_self ..)
  exact (needs_cons n0 needs_nil)
noncomputable def r10_Known_l0_row := rowL (envT Ck_5 L0) (loopAt Try.prog 70 0) r10_Known_l0_S r10_Known_l0_E r10_Known_l0_un r10_Known_l0_fuel r10_Known_l0_next r10_Known_l0_goes r10_Known_l0_ps r10_Known_l0_outs
theorem r10_Known_l0_rok : ∀ s b ps outs, r10_Known_l0_row s = some (b, ps, outs) → Wf s ⟨ps, outs, none⟩ ∧ LoopOk (envT C0 L0) b s ps outs :=
  rowP_ok (T := r10_Known_l0_T) Ck_5_ok L0_ok (u := 9) (by kernel_rfl) (by decide) (fun ⟨a0, a1, a2⟩ => r10_Known_l0_ev a0 a1 a2) (fun ⟨a0, a1, a2⟩ => r10_Known_l0_hA a0 a1 a2) r10_Known_l0_unok (fun _ => okOuts_ok (n := 21) rfl) fun _ _ => rfl
noncomputable def r10_Known_l0_L := addLp 0 r10_Known_l0_row L0
theorem r10_Known_l0_Lok : LpOk r10_Known_l0_L := addLp_ok r10_Known_l0_rok L0_ok
def r10_Known_0 (a0 : TRow) : TVec := (r10_Known_l0_run ((0 : Int), a0, TVec.mk (0 : Int) (0 : Int))).snd.snd
def r10_Known_r (a0 : TRow) : A := .v (.agg ⟨[.int .i64 ((r10_Known_0 a0).a), .int .i64 ((r10_Known_0 a0).b)]⟩)
def r10_Known_o (_a0 : TRow) : Objs := []
def r10_Known_ps (a0 : TRow) : List Prop := [(needX r10_Known_l0_next r10_Known_l0_goes r10_Known_l0_ps (r10_Known_l0_fuel ((0 : Int), a0, TVec.mk (0 : Int) (0 : Int))) ((0 : Int), a0, TVec.mk (0 : Int) (0 : Int)))]
set_option maxRecDepth 100000 in
theorem r10_Known_ev (a0 : TRow) : evF (envT Ck_5 r10_Known_l0_L) 9 70 [valA .row a0] 0 [] = some (1, r10_Known_r a0, 0, r10_Known_o a0, [(loopAt Try.prog (70 : FuncId) (0 : Nat) = loopAt Try.prog (70 : FuncId) (0 : Nat)), (needX r10_Known_l0_next r10_Known_l0_goes r10_Known_l0_ps (r10_Known_l0_fuel ((0 : Int), a0, TVec.mk (0 : Int) (0 : Int))) ((0 : Int), a0, TVec.mk (0 : Int) (0 : Int)))]) := by kernel_rfl
set_option maxRecDepth 100000 in
theorem r10_Known_c (a0 : TRow) (hp : ∀ p ∈ r10_Known_ps a0, p) : CallOk Try.prog 70 [valA .row a0] 0 [] 1 (r10_Known_r a0) 0 (r10_Known_o a0) := by
  have n1 : (needX r10_Known_l0_next r10_Known_l0_goes r10_Known_l0_ps (r10_Known_l0_fuel ((0 : Int), a0, TVec.mk (0 : Int) (0 : Int))) ((0 : Int), a0, TVec.mk (0 : Int) (0 : Int))) := hp _ (List.mem_cons_self ..)
  exact evF_ok (envP_ok Ck_5_ok r10_Known_l0_Lok) (r10_Known_ev a0) (needs_cons rfl (needs_cons n1 needs_nil))
def r10_Known_r2 (a0 : TRow) : A := .v (.agg ⟨[.int .i64 (knownR a0.cells).a, .int .i64 (knownR a0.cells).b]⟩)
def r10_Known_o2 (_a0 : TRow) : Objs := []
def r10_Known_ps2 (a0 : TRow) : List Prop := [wideN a0.cells.length]
theorem knownR_succ (cs : List TCell) (i : Nat) (h : i < cs.length) : knownR (cs.take (i + 1)) = vmax (knownR (cs.take i)) (knownC (cs.getD i (dflt TC.cell))) := by
  unfold knownR
  rw [List.take_add_one, List.getElem?_eq_getElem h, List.getD_eq_getElem?_getD, List.getElem?_eq_getElem h, List.foldl_append]
  rfl
theorem r10_Known_eq (a : TRow) (hb : wideN a.cells.length) : (∀ p ∈ r10_Known_ps a, p) ∧ r10_Known_0 a = knownR a.cells := by
  unfold wideN at hb
  obtain ⟨h1, k, hk, hx, _, hst, _⟩ := scanB (fun i => (((i : Int), a, knownR (a.cells.take i)) : r10_Known_l0_X)) a.cells.length (fun _ => false) r10_Known_l0_next r10_Known_l0_goes r10_Known_l0_ps (r10_Known_l0_fuel (0, a, ⟨0, 0⟩)) (0, a, ⟨0, 0⟩) rfl (by show a.cells.length ≤ ((a.cells.length : Int) - 0).toNat; omega)
    (fun i _ _ => by
      show (!!decide ((i : Int) < (a.cells.length : Int))) = _
      rw [nn, dlt, Bool.not_false, Bool.and_true])
    (fun i hi _ => by
      show (IntKind.i64.wrap ((i : Int) + 1), a, vmax (knownR (a.cells.take i)) (knownC (a.cells.getD ((i : Int)).toNat (dflt TC.cell)))) = (((i + 1 : Nat) : Int), a, knownR (a.cells.take (i + 1)))
      rw [wsucc (by omega), Int.toNat_natCast, knownR_succ _ _ hi])
    (fun i _ _ => needs_cons (fun h => ⟨by show (0 : Int) ≤ (i : Int); omega, by
      have h' : (!!decide ((i : Int) < (a.cells.length : Int))) = true := h
      rw [nn] at h'; exact of_decide_eq_true h'⟩) needs_nil)
  refine ⟨needs_cons h1 needs_nil, ?_⟩
  have hkn : k = a.cells.length := by
    rcases Nat.lt_or_ge k a.cells.length with h | h
    · exact absurd (hst h) (by decide)
    · omega
  have hr : r10_Known_l0_run (0, a, ⟨0, 0⟩) = ((k : Int), a, knownR (a.cells.take k)) := hx
  show (r10_Known_l0_run (0, a, ⟨0, 0⟩)).snd.snd = _
  rw [hr, hkn, List.take_length]
theorem r10_Known_c2 (a0 : TRow) (hp : ∀ p ∈ r10_Known_ps2 a0, p) : CallOk Try.prog 70 [valA .row a0] 0 [] 1 (r10_Known_r2 a0) 0 (r10_Known_o2 a0) := by
  have hb : wideN a0.cells.length := hp _ (List.mem_cons_self ..)
  have h := r10_Known_c a0 (r10_Known_eq a0 hb).1
  unfold r10_Known_r at h
  rw [(r10_Known_eq a0 hb).2] at h
  exact h
def r10_Known_t : List A → Nat → Objs → Option CRes
  | [y0], nx, o => match argU .row y0 with
    | some (a0, p0) => some (1, (r10_Known_r2 a0).pk (shiftR nx), nx + 0, shiftO nx (r10_Known_o2 a0) ++ o, p0 ++ (r10_Known_ps2 a0))
    | _ => none
  | _, _, _ => none
theorem r10_Known_tok : TOk Try.prog 70 r10_Known_t := fun args nx o k x nx' o' ps h => by
  unfold r10_Known_t at h
  split at h <;> first | (cases h; done) | skip
  split at h <;> first | (cases h; done) | skip
  rename_i a0 p0 e0
  cases h
  refine ⟨fun hp => ?_, _, rfl⟩
  have q0 := fun p hm => hp p (List.mem_append.2 (.inl hm))
  have r0 := fun p hm => hp p (List.mem_append.2 (.inr hm))
  refine callOk_args (callOk_shift (r10_Known_c2 a0 r0) (Nat.le_refl _) (freeL_cons (valA_free _ _) freeL_nil) nx o) fun F N R vs hl => ?_
  obtain ⟨v0, w0, rfl, h0, hl⟩ := hl.inv
  exact HL.cons (argU_ok e0 q0 h0) (hl)
noncomputable def Ck_6 := addC 70 r10_Known_t Ck_5
theorem Ck_6_ok : COk Try.prog Ck_6 := addC_ok r10_Known_tok Ck_5_ok
/-! loop 0 of function 69 -/
abbrev row_Known_l0_X : Type := (List TCell) × Int × Int × TVec
def row_Known_l0_T (x : row_Known_l0_X) : St := ⟨19, 2, [(2, .own 1 0), (6, .sl .cell x.1), (7, .v (.int .i64 x.2.1)), (8, .v (.int .i64 x.2.2.1))], [(1, some (.box 31 [.v (.int .i64 x.2.2.2.a), .v (.int .i64 x.2.2.2.b)]))]⟩
def row_Known_l0_un : St → Option row_Known_l0_X
  | ⟨19, 2, [(2, .own 1 0), (6, .sl .cell z0), (7, .v (.int .i64 z1)), (8, .v (.int .i64 z2))], [(1, some (.box 31 [.v (.int .i64 z3), .v (.int .i64 z4)]))]⟩ => some (z0, z1, z2, ⟨z3, z4⟩)
  | _ => none
theorem row_Known_l0_unok : ∀ s x, row_Known_l0_un s = some x → s = row_Known_l0_T x := fun s x h => by
  unfold row_Known_l0_un at h
  split at h
  · cases h; rfl
  · cases h
def row_Known_l0_S : Shape := ⟨2, 2, [2, 6, 7, 8], [], [(1, 1)], [1], [], [1]⟩
def row_Known_l0_E : Entry := ⟨[], [(1, 1)], [2, 6, 7, 8], [1]⟩
def row_Known_l0_f_3 (a0 : List TCell) (_a1 : Int) (a2 : Int) (a3 : TVec) : TVec := TVec.mk (max (max (0 : Int) a3.1) (cell_Known_0 (a0.getD a2.toNat (dflt TC.cell))).1) (max (max (0 : Int) a3.2) (cell_Known_0 (a0.getD a2.toNat (dflt TC.cell))).2)
def row_Known_l0_next (x : row_Known_l0_X) : row_Known_l0_X := (x.1, x.2.1, IntKind.i64.wrap (x.2.2.1 + (1 : Int)), row_Known_l0_f_3 x.1 x.2.1 x.2.2.1 x.2.2.2)
def row_Known_l0_goes (x : row_Known_l0_X) : Cnd := some (!!decide (x.2.2.1 < x.2.1))
def row_Known_l0_psA (x : row_Known_l0_X) : List Prop := [((!!decide (x.2.2.1 < x.2.1)) = true → (0 : Int) ≤ x.2.2.1 ∧ x.2.2.1 < (↑x.1.length : Int)), ((!!decide (x.2.2.1 < x.2.1)) = true → (0 : Int) ≤ (0 : Int) ∧ (0 : Int) < (↑(2 : Nat) : Int)), ((!!decide (x.2.2.1 < x.2.1)) = true → (0 : Nat) < (2 : Nat)), ((!!decide (x.2.2.1 < x.2.1)) = true → (0 : Int) ≤ (0 : Int) ∧ (0 : Int) < (2 : Int)), ((!!decide (x.2.2.1 < x.2.1)) = true → (0 : Nat) < (2 : Nat)), ((!!decide (x.2.2.1 < x.2.1)) = true → (0 : Int) ≤ (0 : Int) ∧ (0 : Int) < (2 : Int)), ((!!decide (x.2.2.1 < x.2.1)) = true → (0 : Nat) < (2 : Nat)), ((!!decide (x.2.2.1 < x.2.1)) = true → (0 : Int) ≤ (0 : Int) ∧ (0 : Int) < (2 : Int)), ((!!decide (x.2.2.1 < x.2.1)) = true → (0 : Nat) < (2 : Nat)), ((!!decide (x.2.2.1 < x.2.1)) = true → (0 : Int) ≤ (1 : Int) ∧ (1 : Int) < (2 : Int)), ((!!decide (x.2.2.1 < x.2.1)) = true → (1 : Nat) < (2 : Nat)), ((!!decide (x.2.2.1 < x.2.1)) = true → (0 : Int) ≤ (1 : Int) ∧ (1 : Int) < (2 : Int)), ((!!decide (x.2.2.1 < x.2.1)) = true → (1 : Nat) < (2 : Nat)), ((!!decide (x.2.2.1 < x.2.1)) = true → (0 : Int) ≤ (1 : Int) ∧ (1 : Int) < (2 : Int)), ((!!decide (x.2.2.1 < x.2.1)) = true → (1 : Nat) < (2 : Nat)), ((!!decide (x.2.2.1 < x.2.1)) = true → (0 : Int) ≤ (1 : Int) ∧ (1 : Int) < (↑(2 : Nat) : Int)), ((!!decide (x.2.2.1 < x.2.1)) = true → (1 : Nat) < (2 : Nat)), ((!!decide (x.2.2.1 < x.2.1)) = true → (0 : Int) ≤ (0 : Int) ∧ (0 : Int) < (2 : Int)), ((!!decide (x.2.2.1 < x.2.1)) = true → (0 : Nat) < (2 : Nat)), ((!!decide (x.2.2.1 < x.2.1)) = true → (0 : Int) ≤ (0 : Int) ∧ (0 : Int) < (2 : Int)), ((!!decide (x.2.2.1 < x.2.1)) = true → (0 : Nat) < (2 : Nat)), ((!!decide (x.2.2.1 < x.2.1)) = true → (0 : Int) ≤ (0 : Int) ∧ (0 : Int) < (2 : Int)), ((!!decide (x.2.2.1 < x.2.1)) = true → (0 : Nat) < (2 : Nat)), ((!!decide (x.2.2.1 < x.2.1)) = true → (0 : Int) ≤ (1 : Int) ∧ (1 : Int) < (2 : Int)), ((!!decide (x.2.2.1 < x.2.1)) = true → (1 : Nat) < (2 : Nat)), ((!!decide (x.2.2.1 < x.2.1)) = true → (0 : Int) ≤ (1 : Int) ∧ (1 : Int) < (2 : Int)), ((!!decide (x.2.2.1 < x.2.1)) = true → (1 : Nat) < (2 : Nat)), ((!!decide (x.2.2.1 < x.2.1)) = true → (0 : Int) ≤ (1 : Int) ∧ (1 : Int) < (2 : Int)), ((!!decide (x.2.2.1 < x.2.1)) = true → (1 : Nat) < (2 : Nat))]
def row_Known_l0_ps (x : row_Known_l0_X) : List Prop := [((!!decide (x.2.2.1 < x.2.1)) = true → (0 : Int) ≤ x.2.2.1 ∧ x.2.2.1 < (↑x.1.length : Int))]
def row_Known_l0_outs (x : row_Known_l0_X) : Outs := [(some 0, some (!decide (x.2.2.1 < x.2.1)), ⟨19, 2, [], [(1, some (.box 31 [.v (.int .i64 x.2.2.2.1), .v (.int .i64 x.2.2.2.2)]))]⟩)]
def row_Known_l0_fuel (x : row_Known_l0_X) : Nat := (x.2.1 - x.2.2.1).toNat
def row_Known_l0_run (x : row_Known_l0_X) : row_Known_l0_X := iterX row_Known_l0_next row_Known_l0_goes (row_Known_l0_fuel x) x
set_option maxRecDepth 100000 in
theorem row_Known_l0_ev (a0 : List TCell) (a1 : Int) (a2 : Int) (a3 : TVec) : roundE (envT Ck_6 L0) 9 (loopAt Try.prog 69 0) row_Known_l0_S (row_Known_l0_T (a0, a1, a2, a3)) = some (row_Known_l0_psA (a0, a1, a2, a3), row_Known_l0_outs (a0, a1, a2, a3), row_Known_l0_goes (a0, a1, a2, a3), row_Known_l0_T (row_Known_l0_next (a0, a1, a2, a3))) := by kernel_rfl
set_option maxRecDepth 100000 in
theorem row_Known_l0_hA (a0 : List TCell) (a1 : Int) (a2 : Int) (a3 : TVec) (hp : ∀ p ∈ row_Known_l0_ps (a0, a1, a2, a3), p) : ∀ p ∈ row_Known_l0_psA (a0, a1, a2, a3), p := by
  have n0 : ((!!decide (a2 < a1)) = true → (0 : Int) ≤ a2 ∧ a2 < (↑a0.length : Int)) := hp _ (List.mem_cons_self ..)
  have n1 : ((!!decide (a2 < a1)) = true → (0 : Int) ≤ (0 : Int) ∧ (0 : Int) < (↑(2 : Nat) : Int)) := by omega
  have n2 : ((!!decide (a2 < a1)) = true → (0 : Nat) < (2 : Nat)) := by omega
  have n3 : ((!!decide (a2 < a1)) = true → (0 : Int) ≤ (0 : Int) ∧ (0 : Int) < (2 : Int)) := by omega
  have n9 : ((!!decide (a2 < a1)) = true → (0 : Int) ≤ (1 : Int) ∧ (1 : Int) < (2 : Int)) := by omega
  have n10 : ((!!decide (a2 < a1)) = true → (1 : Nat) < (2 : Nat)) := by omega
  have n15 : ((!!decide (a2 < a1)) = true → (0 : Int) ≤ (1 : Int) ∧ (1 : Int) < (↑(2 : Nat) : Int)) := by omega
  exact (needs_cons n0 (needs_cons n1 (needs_cons n2 (needs_cons n3 (needs_cons n2 (needs_cons n3 (needs_cons n2 (needs_cons n3 (needs_cons n2 (needs_cons n9 (needs_cons n10 (needs_cons n9 (needs_cons n10 (needs_cons n9 (needs_cons n10 (needs_cons n15 (needs_cons n10 (needs_cons n3 (needs_cons n2 (needs_cons n3 (needs_cons n2 (needs_cons n3 (needs_cons n2 (needs_cons n9 (needs_cons n10 (needs_cons n9 (needs_cons n10 (needs_cons n9 (needs_cons n10 needs_nil)))))))))))))))))))))))))))))
noncomputable def row_Known_l0_row := rowL (envT Ck_6 L0) (loopAt Try.prog 69 0) row_Known_l0_S row_Known_l0_E row_Known_l0_un row_Known_l0_fuel row_Known_l0_next row_Known_l0_goes row_Known_l0_ps row_Known_l0_outs
theorem row_Known_l0_rok : ∀ s b ps outs, row_Known_l0_row s = some (b, ps, outs) → Wf s ⟨ps, outs, none⟩ ∧ LoopOk (envT C0 L0) b s ps outs :=
  rowP_ok (T := row_Known_l0_T) Ck_6_ok L0_ok (u := 9) (by kernel_rfl) (by decide) (fun ⟨a0, a1, a2, a3⟩ => row_Known_l0_ev a0 a1 a2 a3) (fun ⟨a0, a1, a2, a3⟩ => row_Known_l0_hA a0 a1 a2 a3) row_Known_l0_unok (fun _ => okOuts_ok (n := 19) rfl) fun _ _ => rfl
noncomputable def row_Known_l0_L := addLp 0 row_Known_l0_row L0
theorem row_Known_l0_Lok : LpOk row_Known_l0_L := addLp_ok row_Known_l0_rok L0_ok
def row_Known_0 (a0 : TRow) : TVec := (row_Known_l0_run (a0.2, (↑a0.2.length : Int), (0 : Int), TVec.mk (0 : Int) (0 : Int))).snd.snd.snd
def row_Known_r (a0 : TRow) : A := .v (.agg ⟨[.int .i64 ((row_Known_0 a0).a), .int .i64 ((row_Known_0 a0).b)]⟩)
def row_Known_o (_a0 : TRow) : Objs := []
def row_Known_ps (a0 : TRow) : List Prop := [(needX row_Known_l0_next row_Known_l0_goes row_Known_l0_ps (row_Known_l0_fuel (a0.2, (↑a0.2.length : Int), (0 : Int), TVec.mk (0 : Int) (0 : Int))) (a0.2, (↑a0.2.length : Int), (0 : Int), TVec.mk (0 : Int) (0 : Int)))]
set_option maxRecDepth 100000 in
theorem row_Known_ev (a0 : TRow) : evF (envT Ck_6 row_Known_l0_L) 9 69 [valA .row a0] 0 [] = some (1, row_Known_r a0, 0, row_Known_o a0, [(loopAt Try.prog (69 : FuncId) (0 : Nat) = loopAt Try.prog (69 : FuncId) (0 : Nat)), (needX row_Known_l0_next row_Known_l0_goes row_Known_l0_ps (row_Known_l0_fuel (a0.2, (↑a0.2.length : Int), (0 : Int), TVec.mk (0 : Int) (0 : Int))) (a0.2, (↑a0.2.length : Int), (0 : Int), TVec.mk (0 : Int) (0 : Int)))]) := by kernel_rfl
set_option maxRecDepth 100000 in
theorem row_Known_c (a0 : TRow) (hp : ∀ p ∈ row_Known_ps a0, p) : CallOk Try.prog 69 [valA .row a0] 0 [] 1 (row_Known_r a0) 0 (row_Known_o a0) := by
  have n1 : (needX row_Known_l0_next row_Known_l0_goes row_Known_l0_ps (row_Known_l0_fuel (a0.2, (↑a0.2.length : Int), (0 : Int), TVec.mk (0 : Int) (0 : Int))) (a0.2, (↑a0.2.length : Int), (0 : Int), TVec.mk (0 : Int) (0 : Int))) := hp _ (List.mem_cons_self ..)
  exact evF_ok (envP_ok Ck_6_ok row_Known_l0_Lok) (row_Known_ev a0) (needs_cons rfl (needs_cons n1 needs_nil))
def row_Known_r2 (a0 : TRow) : A := .v (.agg ⟨[.int .i64 (knownR a0.cells).a, .int .i64 (knownR a0.cells).b]⟩)
def row_Known_o2 (_a0 : TRow) : Objs := []
def row_Known_ps2 (a0 : TRow) : List Prop := [wideN a0.cells.length]
theorem row_Known_eq (a : TRow) (hb : wideN a.cells.length) : (∀ p ∈ row_Known_ps a, p) ∧ row_Known_0 a = knownR a.cells := by
  unfold wideN at hb
  obtain ⟨h1, k, hk, hx, _, hst, _⟩ := scanB (fun i => ((a.2, (a.2.length : Int), (i : Int), knownR (a.cells.take i)) : row_Known_l0_X)) a.cells.length (fun _ => false) row_Known_l0_next row_Known_l0_goes row_Known_l0_ps (row_Known_l0_fuel (a.2, (a.2.length : Int), 0, ⟨0, 0⟩)) (a.2, (a.2.length : Int), 0, ⟨0, 0⟩) rfl (by show a.cells.length ≤ ((a.cells.length : Int) - 0).toNat; omega)
    (fun i _ _ => by
      show (!!decide ((i : Int) < (a.cells.length : Int))) = _
      rw [nn, dlt, Bool.not_false, Bool.and_true])
    (fun i hi _ => by
      show (a.2, (a.2.length : Int), IntKind.i64.wrap ((i : Int) + 1), vmax (knownR (a.cells.take i)) (knownC (a.cells.getD ((i : Int)).toNat (dflt TC.cell)))) = (a.2, (a.2.length : Int), ((i + 1 : Nat) : Int), knownR (a.cells.take (i + 1)))
      rw [wsucc (by omega), Int.toNat_natCast, knownR_succ _ _ hi])
    (fun i _ _ => needs_cons (fun h => ⟨by show (0 : Int) ≤ (i : Int); omega, by
      have h' : (!!decide ((i : Int) < (a.cells.length : Int))) = true := h
      rw [nn] at h'; exact of_decide_eq_true h'⟩) needs_nil)
  refine ⟨needs_cons h1 needs_nil, ?_⟩
  have hkn : k = a.cells.length := by
    rcases Nat.lt_or_ge k a.cells.length with h | h
    · exact absurd (hst h) (by decide)
    · omega
  have hr : row_Known_l0_run (a.2, (a.2.length : Int), 0, ⟨0, 0⟩) = (a.2, (a.2.length : Int), (k : Int), knownR (a.cells.take k)) := hx
  show (row_Known_l0_run (a.2, (a.2.length : Int), 0, ⟨0, 0⟩)).snd.snd.snd = _
  rw [hr, hkn, List.take_length]
theorem row_Known_c2 (a0 : TRow) (hp : ∀ p ∈ row_Known_ps2 a0, p) : CallOk Try.prog 69 [valA .row a0] 0 [] 1 (row_Known_r2 a0) 0 (row_Known_o2 a0) := by
  have hb : wideN a0.cells.length := hp _ (List.mem_cons_self ..)
  have h := row_Known_c a0 (row_Known_eq a0 hb).1
  unfold row_Known_r at h
  rw [(row_Known_eq a0 hb).2] at h
  exact h
def row_Known_t : List A → Nat → Objs → Option CRes
  | [y0], nx, o => match argU .row y0 with
    | some (a0, p0) => some (1, (row_Known_r2 a0).pk (shiftR nx), nx + 0, shiftO nx (row_Known_o2 a0) ++ o, p0 ++ (row_Known_ps2 a0))
    | _ => none
  | _, _, _ => none
theorem row_Known_tok : TOk Try.prog 69 row_Known_t := fun args nx o k x nx' o' ps h => by
  unfold row_Known_t at h
  split at h <;> first | (cases h; done) | skip
  split at h <;> first | (cases h; done) | skip
  rename_i a0 p0 e0
  cases h
  refine ⟨fun hp => ?_, _, rfl⟩
  have q0 := fun p hm => hp p (List.mem_append.2 (.inl hm))
  have r0 := fun p hm => hp p (List.mem_append.2 (.inr hm))
  refine callOk_args (callOk_shift (row_Known_c2 a0 r0) (Nat.le_refl _) (freeL_cons (valA_free _ _) freeL_nil) nx o) fun F N R vs hl => ?_
  obtain ⟨v0, w0, rfl, h0, hl⟩ := hl.inv
  exact HL.cons (argU_ok e0 q0 h0) (hl)
noncomputable def Ck_7 := addC 69 row_Known_t Ck_6
theorem Ck_7_ok : COk Try.prog Ck_7 := addC_ok row_Known_tok Ck_6_ok
/-! loop 0 of function 130 -/
abbrev r10_Empty_l0_X : Type := (List TGroup) × Int × ByteArray × (List TCell)
def r10_Empty_l0_T (x : r10_Empty_l0_X) : St := ⟨22, 4, [(0, .sl .group x.1), (5, .own 1 0), (6, .v (.int .i64 x.2.1))], [(1, some (.box 71 [.v (.string x.2.2.1), .sq 3])), (3, some (.arr 55 8 (.ty .cell x.2.2.2)))]⟩
def r10_Empty_l0_un : St → Option r10_Empty_l0_X
  | ⟨22, 4, [(0, .sl .group z0), (5, .own 1 0), (6, .v (.int .i64 z1))], [(1, some (.box 71 [.v (.string z2), .sq 3])), (3, some (.arr 55 8 (.ty .cell z3)))]⟩ => some (z0, z1, z2, z3)
  | _ => none
theorem r10_Empty_l0_unok : ∀ s x, r10_Empty_l0_un s = some x → s = r10_Empty_l0_T x := fun s x h => by
  unfold r10_Empty_l0_un at h
  split at h
  · cases h; rfl
  · cases h
def r10_Empty_l0_S : Shape := ⟨3, 4, [0, 5, 6], [], [(1, 1), (5, 3)], [1, 5], [], [1, 3]⟩
def r10_Empty_l0_E : Entry := ⟨[.nilB 1 1 55 .cell], [(1, 1), (2, 3)], [0, 5, 6], [1, 2]⟩
def r10_Empty_l0_f_k0 (a0 : List TGroup) (a1 : Int) (_a2 : ByteArray) (_a3 : List TCell) : Bool := !!decide (a1 < (↑a0.length : Int))
def r10_Empty_l0_f_3 (_a0 : List TGroup) (_a1 : Int) (_a2 : ByteArray) (a3 : List TCell) : List TCell := a3 ++ [TCell.mk (TStamp.mk (0 : Int) (0 : Int)) (TVec.mk (0 : Int) (0 : Int)) false (ByteArray.mk #[]) (TVec.mk (0 : Int) (0 : Int))]
def r10_Empty_l0_next (x : r10_Empty_l0_X) : r10_Empty_l0_X := (x.1, IntKind.i64.wrap (x.2.1 + (1 : Int)), x.2.2.1, r10_Empty_l0_f_3 x.1 x.2.1 x.2.2.1 x.2.2.2)
def r10_Empty_l0_goes (x : r10_Empty_l0_X) : Cnd := some ((r10_Empty_l0_f_k0 x.1 x.2.1 x.2.2.1 x.2.2.2))
def r10_Empty_l0_psA (x : r10_Empty_l0_X) : List Prop := [((r10_Empty_l0_f_k0 x.1 x.2.1 x.2.2.1 x.2.2.2) = true → boundP (x.2.2.2.length + (1 : Nat)))]
def r10_Empty_l0_ps (x : r10_Empty_l0_X) : List Prop := [((r10_Empty_l0_f_k0 x.1 x.2.1 x.2.2.1 x.2.2.2) = true → boundP (x.2.2.2.length + (1 : Nat)))]
def r10_Empty_l0_outs (x : r10_Empty_l0_X) : Outs := [(some 0, some (!decide (x.2.1 < (↑x.1.length : Int))), ⟨22, 4, [], [(1, some (.box 71 [.v (.string x.2.2.1), .sq 3])), (3, some (.arr 55 8 (.ty .cell x.2.2.2)))]⟩)]
def r10_Empty_l0_fuel (x : r10_Empty_l0_X) : Nat := ((↑x.1.length : Int) - x.2.1).toNat
def r10_Empty_l0_run (x : r10_Empty_l0_X) : r10_Empty_l0_X := iterX r10_Empty_l0_next r10_Empty_l0_goes (r10_Empty_l0_fuel x) x
set_option maxRecDepth 100000 in
theorem r10_Empty_l0_ev (a0 : List TGroup) (a1 : Int) (a2 : ByteArray) (a3 : List TCell) : roundE (envT Ck_7 L0) 9 (loopAt Try.prog 130 0) r10_Empty_l0_S (r10_Empty_l0_T (a0, a1, a2, a3)) = some (r10_Empty_l0_psA (a0, a1, a2, a3), r10_Empty_l0_outs (a0, a1, a2, a3), r10_Empty_l0_goes (a0, a1, a2, a3), r10_Empty_l0_T (r10_Empty_l0_next (a0, a1, a2, a3))) := by kernel_rfl
set_option maxRecDepth 100000 in
theorem r10_Empty_l0_hA (a0 : List TGroup) (a1 : Int) (a2 : ByteArray) (a3 : List TCell) (hp : ∀ p ∈ r10_Empty_l0_ps (a0, a1, a2, a3), p) : ∀ p ∈ r10_Empty_l0_psA (a0, a1, a2, a3), p := by
  have n0 : ((r10_Empty_l0_f_k0 a0 a1 a2 a3) = true → boundP (a3.length + (1 : Nat))) := hp _ (List.mem_cons_self ..)
  exact (needs_cons n0 needs_nil)
noncomputable def r10_Empty_l0_row := rowL (envT Ck_7 L0) (loopAt Try.prog 130 0) r10_Empty_l0_S r10_Empty_l0_E r10_Empty_l0_un r10_Empty_l0_fuel r10_Empty_l0_next r10_Empty_l0_goes r10_Empty_l0_ps r10_Empty_l0_outs
theorem r10_Empty_l0_rok : ∀ s b ps outs, r10_Empty_l0_row s = some (b, ps, outs) → Wf s ⟨ps, outs, none⟩ ∧ LoopOk (envT C0 L0) b s ps outs :=
  rowP_ok (T := r10_Empty_l0_T) Ck_7_ok L0_ok (u := 9) (by kernel_rfl) (by decide) (fun ⟨a0, a1, a2, a3⟩ => r10_Empty_l0_ev a0 a1 a2 a3) (fun ⟨a0, a1, a2, a3⟩ => r10_Empty_l0_hA a0 a1 a2 a3) r10_Empty_l0_unok (fun _ => okOuts_ok (n := 22) rfl) fun _ _ => rfl
noncomputable def r10_Empty_l0_L := addLp 0 r10_Empty_l0_row L0
theorem r10_Empty_l0_Lok : LpOk r10_Empty_l0_L := addLp_ok r10_Empty_l0_rok L0_ok
def r10_Empty_0 (a0 : List TGroup) (a1 : ByteArray) : ByteArray := (r10_Empty_l0_run (a0, (0 : Int), a1, [])).snd.snd.fst
def r10_Empty_1 (a0 : List TGroup) (a1 : ByteArray) : List TCell := (r10_Empty_l0_run (a0, (0 : Int), a1, [])).snd.snd.snd
def r10_Empty_r (a0 : List TGroup) (a1 : ByteArray) : A := .agg [.v (.string (r10_Empty_0 a0 a1)), .sq 0]
def r10_Empty_o (a0 : List TGroup) (a1 : ByteArray) : Objs := [(0, some (.arr 55 8 (.ty .cell (r10_Empty_1 a0 a1))))]
def r10_Empty_ps (a0 : List TGroup) (a1 : ByteArray) : List Prop := [(needX r10_Empty_l0_next r10_Empty_l0_goes r10_Empty_l0_ps (r10_Empty_l0_fuel (a0, (0 : Int), a1, [])) (a0, (0 : Int), a1, []))]
set_option maxRecDepth 100000 in
theorem r10_Empty_ev (a0 : List TGroup) (a1 : ByteArray) : evF (envT Ck_7 r10_Empty_l0_L) 9 130 [.sl .group a0, valA .str a1] 0 [] = some (1, r10_Empty_r a0 a1, 1, r10_Empty_o a0 a1, [(loopAt Try.prog (130 : FuncId) (0 : Nat) = loopAt Try.prog (130 : FuncId) (0 : Nat)), (needX r10_Empty_l0_next r10_Empty_l0_goes r10_Empty_l0_ps (r10_Empty_l0_fuel (a0, (0 : Int), a1, [])) (a0, (0 : Int), a1, []))]) := by kernel_rfl
set_option maxRecDepth 100000 in
theorem r10_Empty_c (a0 : List TGroup) (a1 : ByteArray) (hp : ∀ p ∈ r10_Empty_ps a0 a1, p) : CallOk Try.prog 130 [.sl .group a0, valA .str a1] 0 [] 1 (r10_Empty_r a0 a1) 1 (r10_Empty_o a0 a1) := by
  have n1 : (needX r10_Empty_l0_next r10_Empty_l0_goes r10_Empty_l0_ps (r10_Empty_l0_fuel (a0, (0 : Int), a1, [])) (a0, (0 : Int), a1, [])) := hp _ (List.mem_cons_self ..)
  exact evF_ok (envP_ok Ck_7_ok r10_Empty_l0_Lok) (r10_Empty_ev a0 a1) (needs_cons rfl (needs_cons n1 needs_nil))
def r10_Empty_r2 (_a0 : List TGroup) (a1 : ByteArray) : A := .agg [.v (.string a1), .sq 0]
def r10_Empty_o2 (a0 : List TGroup) (_a1 : ByteArray) : Objs := [(0, some (.arr 55 8 (.ty .cell (List.replicate a0.length zeroC))))]
def r10_Empty_ps2 (a0 : List TGroup) (_a1 : ByteArray) : List Prop := [boundP a0.length]
theorem r10_Empty_eq (l : List TGroup) (k : ByteArray) (hb : boundP l.length) : (∀ p ∈ r10_Empty_ps l k, p) ∧ r10_Empty_0 l k = k ∧ r10_Empty_1 l k = List.replicate l.length zeroC := by
  unfold boundP at hb
  obtain ⟨h1, n, hn, hx, _, hst, _⟩ := scanB (fun i => ((l, (i : Int), k, List.replicate i zeroC) : r10_Empty_l0_X)) l.length (fun _ => false) r10_Empty_l0_next r10_Empty_l0_goes r10_Empty_l0_ps (r10_Empty_l0_fuel (l, 0, k, [])) (l, 0, k, []) rfl (by show l.length ≤ ((l.length : Int) - 0).toNat; omega)
    (fun i _ _ => by
      show (!!decide ((i : Int) < (l.length : Int))) = _
      rw [nn, dlt, Bool.not_false, Bool.and_true])
    (fun i hi _ => by
      show (l, IntKind.i64.wrap ((i : Int) + 1), k, List.replicate i zeroC ++ [zeroC]) = (l, ((i + 1 : Nat) : Int), k, List.replicate (i + 1) zeroC)
      rw [wsucc (by omega), List.replicate_succ'])
    (fun i hi _ => needs_cons (fun h => by
      have h' : (!!decide ((i : Int) < (l.length : Int))) = true := h
      rw [nn] at h'
      have := of_decide_eq_true h'
      show boundP ((List.replicate i zeroC).length + 1)
      rw [List.length_replicate]; unfold boundP; omega) needs_nil)
  have hkn : n = l.length := by
    rcases Nat.lt_or_ge n l.length with h | h
    · exact absurd (hst h) (by decide)
    · omega
  have hr : r10_Empty_l0_run (l, 0, k, []) = (l, (n : Int), k, List.replicate n zeroC) := hx
  refine ⟨needs_cons h1 needs_nil, ?_, ?_⟩
  · show (r10_Empty_l0_run (l, 0, k, [])).snd.snd.fst = _
    rw [hr]
  · show (r10_Empty_l0_run (l, 0, k, [])).snd.snd.snd = _
    rw [hr, hkn]
theorem r10_Empty_c2 (a0 : List TGroup) (a1 : ByteArray) (hp : ∀ p ∈ r10_Empty_ps2 a0 a1, p) : CallOk Try.prog 130 [.sl .group a0, valA .str a1] 0 [] 1 (r10_Empty_r2 a0 a1) 1 (r10_Empty_o2 a0 a1) := by
  have hb : boundP a0.length := hp _ (List.mem_cons_self ..)
  obtain ⟨e1, e2, e3⟩ := r10_Empty_eq a0 a1 hb
  have h := r10_Empty_c a0 a1 e1
  unfold r10_Empty_r r10_Empty_o at h
  rw [e2, e3] at h
  exact h
def r10_Empty_t : List A → Nat → Objs → Option CRes
  | [y0, y1], nx, o => match argL .group y0, argU .str y1 with
    | some a0, some (a1, p1) => some (1, (r10_Empty_r2 a0 a1).pk (shiftR nx), nx + 1, shiftO nx (r10_Empty_o2 a0 a1) ++ o, p1 ++ (r10_Empty_ps2 a0 a1))
    | _, _ => none
  | _, _, _ => none
theorem r10_Empty_tok : TOk Try.prog 130 r10_Empty_t := fun args nx o k x nx' o' ps h => by
  unfold r10_Empty_t at h
  split at h <;> first | (cases h; done) | skip
  split at h <;> first | (cases h; done) | skip
  rename_i a0 a1 p1 e0 e1
  cases h
  refine ⟨fun hp => ?_, _, rfl⟩
  have q1 := fun p hm => hp p (List.mem_append.2 (.inl hm))
  have r1 := fun p hm => hp p (List.mem_append.2 (.inr hm))
  refine callOk_args (callOk_shift (r10_Empty_c2 a0 a1 r1) (Nat.le_refl _) (freeL_cons rfl (freeL_cons (valA_free _ _) freeL_nil)) nx o) fun F N R vs hl => ?_
  obtain ⟨v0, w0, rfl, h0, hl⟩ := hl.inv
  obtain ⟨v1, w1, rfl, h1, hl⟩ := hl.inv
  exact HL.cons (argL_ok e0 h0) (HL.cons (argU_ok e1 q1 h1) (hl))
noncomputable def Ck_8 := addC 130 r10_Empty_t Ck_7
theorem Ck_8_ok : COk Try.prog Ck_8 := addC_ok r10_Empty_tok Ck_7_ok
def r10_New_k1 (_a0 : List TGroup) (a1 : ByteArray) : Bool := keyE a1 != (0 : Int)
def r10_New_k0 (a0 : List TGroup) (_a1 : ByteArray) : Bool := goodP a0 != (0 : Int)
def r10_New_0 (a0 : List TGroup) (a1 : ByteArray) : ByteArray := bif (r10_New_k0 a0 a1) then ByteArray.mk #[] else bif (r10_New_k1 a0 a1) then ByteArray.mk #[] else a1
def r10_New_1 (a0 : List TGroup) (a1 : ByteArray) : Int := bif (r10_New_k0 a0 a1) then goodP a0 else bif (r10_New_k1 a0 a1) then keyE a1 else (0 : Int)
def r10_New_2 (a0 : List TGroup) (a1 : ByteArray) : List TCell := bif (r10_New_k0 a0 a1) then [] else bif (r10_New_k1 a0 a1) then [] else List.replicate a0.length zeroC
def r10_New_r (a0 : List TGroup) (a1 : ByteArray) : A := .tup [.agg [.v (.string (r10_New_0 a0 a1)), .sq 0], .v (.int .i64 (r10_New_1 a0 a1))]
def r10_New_o (a0 : List TGroup) (a1 : ByteArray) : Objs := [(0, some (.arr 55 8 (.ty .cell (r10_New_2 a0 a1))))]
def r10_New_ps (a0 : List TGroup) (a1 : ByteArray) : List Prop := [(∀ (g : TGroup), g ∈ a0 → wideN g.1.size), ((!(r10_New_k0 a0 a1)) = true → (!(r10_New_k1 a0 a1)) = true → boundP a0.length)]
set_option maxRecDepth 100000 in
theorem r10_New_ev (a0 : List TGroup) (a1 : ByteArray) : evF (envT Ck_8 L0) 9 63 [.sl .group a0, valA .str a1] 0 [] = some (1, r10_New_r a0 a1, 1, r10_New_o a0 a1, [(∀ (g : TGroup), g ∈ a0 → wideN g.1.size), ((!(r10_New_k0 a0 a1)) = true → (!(r10_New_k1 a0 a1)) = true → boundP a0.length)]) := by kernel_rfl
set_option maxRecDepth 100000 in
theorem r10_New_c (a0 : List TGroup) (a1 : ByteArray) (hp : ∀ p ∈ r10_New_ps a0 a1, p) : CallOk Try.prog 63 [.sl .group a0, valA .str a1] 0 [] 1 (r10_New_r a0 a1) 1 (r10_New_o a0 a1) := by
  have n0 : (∀ (g : TGroup), g ∈ a0 → wideN g.1.size) := hp _ (List.mem_cons_self ..)
  have n1 : ((!(r10_New_k0 a0 a1)) = true → (!(r10_New_k1 a0 a1)) = true → boundP a0.length) := hp _ (List.mem_cons_of_mem _ (List.mem_cons_self ..))
  exact evF_ok (envP_ok Ck_8_ok L0_ok) (r10_New_ev a0 a1) (needs_cons n0 (needs_cons n1 needs_nil))
def r10_New_r2 (a0 : List TGroup) (a1 : ByteArray) : A := .tup [.agg [.v (.string (newR a0 a1).key), .sq 0], .v (.int .i64 (newE a0 a1))]
def r10_New_o2 (a0 : List TGroup) (a1 : ByteArray) : Objs := [(0, some (.arr 55 8 (.ty .cell (newR a0 a1).cells)))]
def r10_New_ps2 (a0 : List TGroup) (_a1 : ByteArray) : List Prop := [∀ g ∈ a0, wideN g.name.size]
theorem r10_New_c2 (a0 : List TGroup) (a1 : ByteArray) (hp : ∀ p ∈ r10_New_ps2 a0 a1, p) : CallOk Try.prog 63 [.sl .group a0, valA .str a1] 0 [] 1 (r10_New_r2 a0 a1) 1 (r10_New_o2 a0 a1) := by
  have hb : ∀ g ∈ a0, wideN g.name.size := hp _ (List.mem_cons_self ..)
  have h := r10_New_c a0 a1 (needs_cons hb (needs_cons (fun h1 _ => by
    have h1' : goodP a0 = 0 := by
      have : (!(goodP a0 != 0)) = true := h1
      simpa using this
    have := (goodP_0 h1').2
    unfold boundP; omega) needs_nil))
  have e1 : r10_New_1 a0 a1 = newE a0 a1 := by
    unfold r10_New_1 r10_New_k0 r10_New_k1 newE
    cases goodP a0 != 0 with
    | true => rfl
    | false =>
      rw [cond_false, cond_false]
      cases hk : keyE a1 != 0 with
      | true => rfl
      | false => rw [cond_false]; exact (by simpa using hk : keyE a1 = 0).symm
  have e0 : r10_New_0 a0 a1 = (newR a0 a1).key := by
    unfold r10_New_0 r10_New_k0 r10_New_k1 newR newE
    cases hg : goodP a0 != 0 with
    | true => simp only [cond_true, hg]
    | false => rw [cond_false, cond_false]
  have e2 : r10_New_2 a0 a1 = (newR a0 a1).cells := by
    unfold r10_New_2 r10_New_k0 r10_New_k1 newR newE
    cases hg : goodP a0 != 0 with
    | true => simp only [cond_true, hg]
    | false => rw [cond_false, cond_false]
  unfold r10_New_r r10_New_o at h
  rw [e0, e1, e2] at h
  exact h
def r10_New_t : List A → Nat → Objs → Option CRes
  | [y0, y1], nx, o => match argL .group y0, argU .str y1 with
    | some a0, some (a1, p1) => some (1, (r10_New_r2 a0 a1).pk (shiftR nx), nx + 1, shiftO nx (r10_New_o2 a0 a1) ++ o, p1 ++ (r10_New_ps2 a0 a1))
    | _, _ => none
  | _, _, _ => none
theorem r10_New_tok : TOk Try.prog 63 r10_New_t := fun args nx o k x nx' o' ps h => by
  unfold r10_New_t at h
  split at h <;> first | (cases h; done) | skip
  split at h <;> first | (cases h; done) | skip
  rename_i a0 a1 p1 e0 e1
  cases h
  refine ⟨fun hp => ?_, _, rfl⟩
  have q1 := fun p hm => hp p (List.mem_append.2 (.inl hm))
  have r1 := fun p hm => hp p (List.mem_append.2 (.inr hm))
  refine callOk_args (callOk_shift (r10_New_c2 a0 a1 r1) (Nat.le_refl _) (freeL_cons rfl (freeL_cons (valA_free _ _) freeL_nil)) nx o) fun F N R vs hl => ?_
  obtain ⟨v0, w0, rfl, h0, hl⟩ := hl.inv
  obtain ⟨v1, w1, rfl, h1, hl⟩ := hl.inv
  exact HL.cons (argL_ok e0 h0) (HL.cons (argU_ok e1 q1 h1) (hl))
noncomputable def Ck_9 := addC 63 r10_New_t Ck_8
theorem Ck_9_ok : COk Try.prog Ck_9 := addC_ok r10_New_tok Ck_8_ok
def row_New_k1 (a0 : List TGroup) (_a1 : ByteArray) : List TCell := List.replicate (↑a0.length : Int).toNat (dflt TC.cell)
def row_New_k0 (a0 : List TGroup) (a1 : ByteArray) : Bool := goodRow a0 (TRow.mk a1 (row_New_k1 a0 a1)) != (0 : Int)
def row_New_0 (a0 : List TGroup) (a1 : ByteArray) : TRow := TRow.mk (bif (row_New_k0 a0 a1) then ByteArray.mk #[] else a1) (bif (row_New_k0 a0 a1) then [] else (row_New_k1 a0 a1))
def row_New_1 (a0 : List TGroup) (a1 : ByteArray) : Int := bif (row_New_k0 a0 a1) then goodRow a0 (TRow.mk a1 (row_New_k1 a0 a1)) else (0 : Int)
def row_New_r (a0 : List TGroup) (a1 : ByteArray) : A := .tup [.agg [.v (.string ((row_New_0 a0 a1).key)), .sl .cell ((row_New_0 a0 a1).cells)], .v (.int .i64 (row_New_1 a0 a1))]
def row_New_o (_a0 : List TGroup) (_a1 : ByteArray) : Objs := []
def row_New_ps (a0 : List TGroup) (_a1 : ByteArray) : List Prop := [((0 : Int) ≤ (↑a0.length : Int) ∧ (↑a0.length : Int) ≤ (↑a0.length : Int) ∧ (↑a0.length : Int) ≤ (549755813888 : Int))]
set_option maxRecDepth 100000 in
theorem row_New_ev (a0 : List TGroup) (a1 : ByteArray) : evF (envT Ck_9 L0) 9 62 [.sl .group a0, valA .str a1] 0 [] = some (1, row_New_r a0 a1, 0, row_New_o a0 a1, [((0 : Int) ≤ (↑a0.length : Int) ∧ (↑a0.length : Int) ≤ (↑a0.length : Int) ∧ (↑a0.length : Int) ≤ (549755813888 : Int))]) := by kernel_rfl
set_option maxRecDepth 100000 in
theorem row_New_c (a0 : List TGroup) (a1 : ByteArray) (hp : ∀ p ∈ row_New_ps a0 a1, p) : CallOk Try.prog 62 [.sl .group a0, valA .str a1] 0 [] 1 (row_New_r a0 a1) 0 (row_New_o a0 a1) := by
  have n0 : ((0 : Int) ≤ (↑a0.length : Int) ∧ (↑a0.length : Int) ≤ (↑a0.length : Int) ∧ (↑a0.length : Int) ≤ (549755813888 : Int)) := hp _ (List.mem_cons_self ..)
  exact evF_ok (envP_ok Ck_9_ok L0_ok) (row_New_ev a0 a1) (needs_cons n0 needs_nil)
def row_New_r2 (a0 : List TGroup) (a1 : ByteArray) : A := .tup [.agg [.v (.string (newR a0 a1).key), .sl .cell (newR a0 a1).cells], .v (.int .i64 (newE a0 a1))]
def row_New_o2 (_a0 : List TGroup) (_a1 : ByteArray) : Objs := []
def row_New_ps2 (a0 : List TGroup) (_a1 : ByteArray) : List Prop := [boundP a0.length]
theorem goodPs_pol : ∀ (l : List TGroup) (seen : List ByteArray), goodPs seen l = 0 → ∀ g ∈ l, polB g.policy = true
  | [], _, _, g, hg => by cases hg
  | x :: r, seen, h, g, hg => by
    unfold goodPs at h
    cases h1 : (nameB x.name && polB x.policy) with
    | false => rw [h1] at h; cases h
    | true =>
      rw [h1] at h
      cases h2 : seen.any (fun s => s == x.name) with
      | true => rw [h2] at h; cases h
      | false =>
        rw [h2] at h
        rcases List.mem_cons.1 hg with rfl | hg
        · exact (Bool.and_eq_true_iff.1 h1).2
        · exact goodPs_pol r _ h g hg
theorem goodP_pol {l : List TGroup} (h : goodP l = 0) : ∀ g ∈ l, polB g.policy = true := by
  have h4 := goodP_0 h
  unfold goodP at h
  rw [show (l.length == 0) = false by simpa using (by omega : l.length ≠ 0), decide_eq_false (show ¬ 4 < l.length by omega)] at h
  exact goodPs_pol l [] h
theorem goodC_zero {p : Int} (h : polB p = true) : goodC p zeroC = true := by
  unfold polB at h
  rcases (by simpa using h : p = 1 ∨ p = 2) with rfl | rfl <;> rfl
theorem goodRow_new (l : List TGroup) (k : ByteArray) : goodRow l ⟨k, List.replicate l.length zeroC⟩ = newE l k := by
  unfold goodRow newE keyE
  cases h : goodP l != 0 with
  | true => rfl
  | false =>
    rw [cond_false, cond_false]
    cases k.size == 0 with
    | true => rfl
    | false =>
      rw [cond_false, cond_false]
      cases decide (32 < k.size) with
      | true => rfl
      | false =>
        rw [cond_false, cond_false]
        have hl : ((TRow.mk k (List.replicate l.length zeroC)).cells.length != l.length) = false := by simp
        rw [hl, cond_false]
        have ha : (l.zip (TRow.mk k (List.replicate l.length zeroC)).cells).all (fun x => goodC x.1.policy x.2) = true := by
          rw [List.all_eq_true]
          rintro ⟨g, c⟩ hx
          have h1 := List.of_mem_zip hx
          have h2 : c = zeroC := List.eq_of_mem_replicate h1.2
          subst h2
          exact goodC_zero (goodP_pol (by simpa using h) g h1.1)
        rw [ha]
        rfl
theorem row_New_c2 (a0 : List TGroup) (a1 : ByteArray) (hp : ∀ p ∈ row_New_ps2 a0 a1, p) : CallOk Try.prog 62 [.sl .group a0, valA .str a1] 0 [] 1 (row_New_r2 a0 a1) 0 (row_New_o2 a0 a1) := by
  have hb : boundP a0.length := hp _ (List.mem_cons_self ..)
  unfold boundP at hb
  have h := row_New_c a0 a1 (needs_cons ⟨by omega, Int.le_refl _, by omega⟩ needs_nil)
  have ek : row_New_k1 a0 a1 = List.replicate a0.length zeroC := by unfold row_New_k1; rw [Int.toNat_natCast]; rfl
  have e1 : row_New_1 a0 a1 = newE a0 a1 := by
    unfold row_New_1 row_New_k0
    rw [ek, goodRow_new]
    cases hk : newE a0 a1 != 0 with
    | true => rfl
    | false => rw [cond_false]; exact (by simpa using hk : newE a0 a1 = 0).symm
  have e0 : row_New_0 a0 a1 = newR a0 a1 := by
    unfold row_New_0 row_New_k0 newR
    rw [ek, goodRow_new]
  unfold row_New_r at h
  rw [e0, e1] at h
  exact h
def row_New_t : List A → Nat → Objs → Option CRes
  | [y0, y1], nx, o => match argL .group y0, argU .str y1 with
    | some a0, some (a1, p1) => some (1, (row_New_r2 a0 a1).pk (shiftR nx), nx + 0, shiftO nx (row_New_o2 a0 a1) ++ o, p1 ++ (row_New_ps2 a0 a1))
    | _, _ => none
  | _, _, _ => none
theorem row_New_tok : TOk Try.prog 62 row_New_t := fun args nx o k x nx' o' ps h => by
  unfold row_New_t at h
  split at h <;> first | (cases h; done) | skip
  split at h <;> first | (cases h; done) | skip
  rename_i a0 a1 p1 e0 e1
  cases h
  refine ⟨fun hp => ?_, _, rfl⟩
  have q1 := fun p hm => hp p (List.mem_append.2 (.inl hm))
  have r1 := fun p hm => hp p (List.mem_append.2 (.inr hm))
  refine callOk_args (callOk_shift (row_New_c2 a0 a1 r1) (Nat.le_refl _) (freeL_cons rfl (freeL_cons (valA_free _ _) freeL_nil)) nx o) fun F N R vs hl => ?_
  obtain ⟨v0, w0, rfl, h0, hl⟩ := hl.inv
  obtain ⟨v1, w1, rfl, h1, hl⟩ := hl.inv
  exact HL.cons (argL_ok e0 h0) (HL.cons (argU_ok e1 q1 h1) (hl))
noncomputable def Ck_10 := addC 62 row_New_t Ck_9
theorem Ck_10_ok : COk Try.prog Ck_10 := addC_ok row_New_tok Ck_9_ok

noncomputable def Ck := Ck_10
theorem Ck_ok : COk Try.prog Ck := Ck_10_ok
end Go.Proofs.Yteebobbhhgmeiaa
