/- made by a program (gent.py): what functions come to, by their symbolic run over typed data. -/
import Derived.Test.YteebobbhhgmeiaaTk
namespace Go.Proofs.Yteebobbhhgmeiaa
open Go.RowKit

def covV (a b : TVec) : Bool := decide (b.a ≤ a.a) && decide (b.b ≤ a.b)
def seenB (p : Int) (c : TCell) : Bool := goodC p c && written c && !c.gone && covV c.vec c.dead
def seenT (p : Int) (c : TCell) : ByteArray := bif seenB p c then c.value else ⟨#[]⟩
def fieldsN (l : List TGroup) (cs : List TCell) : Nat → List TField
  | 0 => []
  | i + 1 => bif seenB (l.getD i (dflt TC.group)).policy (cs.getD i (dflt TC.cell)) then fieldsN l cs i ++ [⟨(i : Int), seenT (l.getD i (dflt TC.group)).policy (cs.getD i (dflt TC.cell))⟩] else fieldsN l cs i
def viewB (l : List TGroup) (r : TRow) : Bool := goodRow l r == 0 && !((fieldsN l r.cells l.length).length == 0)
def viewK (l : List TGroup) (r : TRow) : ByteArray := bif viewB l r then r.key else ⟨#[]⟩
def viewF (l : List TGroup) (r : TRow) : List TField := bif viewB l r then fieldsN l r.cells l.length else []
def eqFs : List TField → List TField → Bool
  | [], [] => true
  | x :: xs, y :: ys => x.group == y.group && x.value == y.value && eqFs xs ys
  | _, _ => false
def eqVw (a b : TView) : Bool := a.key == b.key && eqFs a.fields b.fields
def r08_Seen_k0 (a0 : Int) (a1 : TCell) : Bool := !r08_Good_0 a0 a1 || !r08_Written_0 a1 || a1.3 || !r06_Covers_0 a1.2 a1.5
def r08_Seen_0 (a0 : Int) (a1 : TCell) : ByteArray := bif (r08_Seen_k0 a0 a1) then ByteArray.mk #[] else a1.4
def r08_Seen_1 (a0 : Int) (a1 : TCell) : Bool := bif (r08_Seen_k0 a0 a1) then false else true
def r08_Seen_r (a0 : Int) (a1 : TCell) : A := .v (.tuple ⟨[.string (r08_Seen_0 a0 a1), .bool (r08_Seen_1 a0 a1)]⟩)
def r08_Seen_o (_a0 : Int) (_a1 : TCell) : Objs := []
def r08_Seen_ps (_a0 : Int) (_a1 : TCell) : List Prop := []
set_option maxRecDepth 100000 in
theorem r08_Seen_ev (a0 : Int) (a1 : TCell) : evF (envT Ck L0) 9 41 [valA .i64 a0, valA .cell a1] 0 [] = some (1, r08_Seen_r a0 a1, 0, r08_Seen_o a0 a1, []) := by kernel_rfl
set_option maxRecDepth 100000 in
theorem r08_Seen_c (a0 : Int) (a1 : TCell) (_hp : ∀ p ∈ r08_Seen_ps a0 a1, p) : CallOk Try.prog 41 [valA .i64 a0, valA .cell a1] 0 [] 1 (r08_Seen_r a0 a1) 0 (r08_Seen_o a0 a1) := by
  exact evF_ok (envP_ok Ck_ok L0_ok) (r08_Seen_ev a0 a1) needs_nil
def r08_Seen_t : List A → Nat → Objs → Option CRes
  | [y0, y1], nx, o => match argU .i64 y0, argU .cell y1 with
    | some (a0, p0), some (a1, p1) => some (1, (r08_Seen_r a0 a1).pk (shiftR nx), nx + 0, shiftO nx (r08_Seen_o a0 a1) ++ o, p0 ++ (p1 ++ (r08_Seen_ps a0 a1)))
    | _, _ => none
  | _, _, _ => none
theorem r08_Seen_tok : TOk Try.prog 41 r08_Seen_t := fun args nx o k x nx' o' ps h => by
  unfold r08_Seen_t at h
  split at h <;> first | (cases h; done) | skip
  split at h <;> first | (cases h; done) | skip
  rename_i a0 p0 a1 p1 e0 e1
  cases h
  refine ⟨fun hp => ?_, _, rfl⟩
  have q0 := fun p hm => hp p (List.mem_append.2 (.inl hm))
  have r0 := fun p hm => hp p (List.mem_append.2 (.inr hm))
  have q1 := fun p hm => r0 p (List.mem_append.2 (.inl hm))
  have r1 := fun p hm => r0 p (List.mem_append.2 (.inr hm))
  refine callOk_args (callOk_shift (r08_Seen_c a0 a1 r1) (Nat.le_refl _) (freeL_cons (valA_free _ _) (freeL_cons (valA_free _ _) freeL_nil)) nx o) fun F N R vs hl => ?_
  obtain ⟨v0, w0, rfl, h0, hl⟩ := hl.inv
  obtain ⟨v1, w1, rfl, h1, hl⟩ := hl.inv
  exact HL.cons (argU_ok e0 q0 h0) (HL.cons (argU_ok e1 q1 h1) (hl))
noncomputable def Cl_1 := addC 41 r08_Seen_t Ck
theorem Cl_1_ok : COk Try.prog Cl_1 := addC_ok r08_Seen_tok Ck_ok
theorem r08_Seen_eq (p : Int) (c : TCell) : r08_Seen_0 p c = seenT p c ∧ r08_Seen_1 p c = seenB p c := by
  have hk : r08_Seen_k0 p c = !seenB p c := by
    unfold r08_Seen_k0 seenB covV r06_Covers_0
    rw [r08_Good_eq, r08_Written_eq]
    show (!goodC p c || !written c || c.gone || !(decide (c.vec.a ≥ c.dead.a) && decide (c.vec.b ≥ c.dead.b))) = _
    cases goodC p c <;> cases written c <;> cases c.gone <;> rfl
  unfold r08_Seen_0 r08_Seen_1 seenT
  rw [hk]
  cases seenB p c <;> exact ⟨rfl, rfl⟩
theorem cell_Seen_eq (p : Int) (c : TCell) : cell_Seen_0 p c = seenT p c ∧ cell_Seen_1 p c = seenB p c := by
  have hm : ∀ x y : Int, (min x y == y) = decide (y ≤ x) := fun x y => by
    rw [Bool.eq_iff_iff, beq_iff_eq, decide_eq_true_eq]; omega
  have hk : cell_Seen_k0 p c = !seenB p c := by
    unfold cell_Seen_k0 seenB covV vec_Covers_0
    rw [cell_Good_eq, cell_written_eq]
    have h1 : ((vec_Meet_0 c.2 c.5).1 == c.5.1) = decide (c.dead.a ≤ c.vec.a) := hm _ _
    have h2 : ((vec_Meet_0 c.2 c.5).2 == c.5.2) = decide (c.dead.b ≤ c.vec.b) := hm _ _
    rw [h1, h2]
    show (!goodC p c || !written c || c.gone || !(decide (c.dead.a ≤ c.vec.a) && decide (c.dead.b ≤ c.vec.b))) = _
    cases goodC p c <;> cases written c <;> cases c.gone <;> rfl
  unfold cell_Seen_0 cell_Seen_1 seenT
  rw [hk]
  cases seenB p c <;> exact ⟨rfl, rfl⟩
theorem goodRow_0 {l : List TGroup} {r : TRow} (h : goodRow l r = 0) : goodP l = 0 ∧ r.cells.length = l.length ∧ r.key.size ≠ 0 ∧ r.key.size ≤ 32 ∧ (l.zip r.cells).all (fun x => goodC x.1.policy x.2) = true := by
  unfold goodRow at h
  cases h1 : goodP l != 0 with
  | true => rw [h1, cond_true] at h; rw [h] at h1; cases h1
  | false =>
    rw [h1, cond_false] at h
    cases h2 : r.key.size == 0 with
    | true => rw [h2] at h; cases h
    | false =>
      rw [h2, cond_false] at h
      cases h3 : decide (32 < r.key.size) with
      | true => rw [h3] at h; cases h
      | false =>
        rw [h3, cond_false] at h
        cases h4 : r.cells.length != l.length with
        | true => rw [h4] at h; cases h
        | false =>
          rw [h4, cond_false] at h
          cases h5 : (l.zip r.cells).all (fun x => goodC x.1.policy x.2) with
          | false => rw [h5] at h; cases h
          | true =>
            have := of_decide_eq_false h3
            exact ⟨by simpa using h1, by simpa using h4, by simpa using h2, by omega, rfl⟩
theorem fieldsN_len (l : List TGroup) (cs : List TCell) : ∀ i, (fieldsN l cs i).length ≤ i
  | 0 => Nat.le_refl _
  | i + 1 => by
    have := fieldsN_len l cs i
    unfold fieldsN
    cases seenB (l.getD i (dflt TC.group)).policy (cs.getD i (dflt TC.cell)) with
    | true => rw [cond_true, List.length_append]; simp; omega
    | false => rw [cond_false]; omega
/-! loop 0 of function 64 -/
abbrev r10_View_l0_X : Type := (List TGroup) × Int × TRow × ByteArray × (List TField)
def r10_View_l0_T (x : r10_View_l0_X) : St := ⟨53, 5, [(0, .sl .group x.1), (3, .own 0 0), (6, .own 2 0), (7, .v (.int .i64 x.2.1))], [(0, some (.box 71 [.v (.string x.2.2.1.key), .sl .cell x.2.2.1.cells])), (2, some (.box 94 [.v (.string x.2.2.2.1), .sq 4])), (4, some (.arr 142 2 (.ty .field x.2.2.2.2)))]⟩
def r10_View_l0_un : St → Option r10_View_l0_X
  | ⟨53, 5, [(0, .sl .group z0), (3, .own 0 0), (6, .own 2 0), (7, .v (.int .i64 z1))], [(0, some (.box 71 [.v (.string z2), .sl .cell z3])), (2, some (.box 94 [.v (.string z4), .sq 4])), (4, some (.arr 142 2 (.ty .field z5)))]⟩ => some (z0, z1, ⟨z2, z3⟩, z4, z5)
  | _ => none
theorem r10_View_l0_unok : ∀ s x, r10_View_l0_un s = some x → s = r10_View_l0_T x := fun s x h => by
  unfold r10_View_l0_un at h
  split at h
  · cases h; rfl
  · cases h
def r10_View_l0_S : Shape := ⟨4, 5, [0, 3, 6, 7], [], [(0, 0), (2, 2), (7, 4)], [0, 2, 7], [], [0, 2, 4]⟩
def r10_View_l0_E : Entry := ⟨[.nilB 2 1 142 .field], [(0, 0), (2, 2), (3, 4)], [0, 3, 6, 7], [0, 2, 3]⟩
def r10_View_l0_f_k0 (a0 : List TGroup) (a1 : Int) (_a2 : TRow) (_a3 : ByteArray) (_a4 : List TField) : Bool := !!decide (a1 < (↑a0.length : Int))
def r10_View_l0_f_3 (a0 : List TGroup) (a1 : Int) (a2 : TRow) (a3 : ByteArray) (_a4 : List TField) : ByteArray := bif r08_Seen_1 (a0.getD a1.toNat (dflt TC.group)).2 (a2.2.getD a1.toNat (dflt TC.cell)) then a3 else a3
def r10_View_l0_f_4 (a0 : List TGroup) (a1 : Int) (a2 : TRow) (_a3 : ByteArray) (a4 : List TField) : List TField := bif r08_Seen_1 (a0.getD a1.toNat (dflt TC.group)).2 (a2.2.getD a1.toNat (dflt TC.cell)) then a4 ++ [TField.mk a1 (r08_Seen_0 (a0.getD a1.toNat (dflt TC.group)).2 (a2.2.getD a1.toNat (dflt TC.cell)))] else a4
def r10_View_l0_next (x : r10_View_l0_X) : r10_View_l0_X := (x.1, IntKind.i64.wrap (x.2.1 + (1 : Int)), x.2.2.1, r10_View_l0_f_3 x.1 x.2.1 x.2.2.1 x.2.2.2.1 x.2.2.2.2, r10_View_l0_f_4 x.1 x.2.1 x.2.2.1 x.2.2.2.1 x.2.2.2.2)
def r10_View_l0_goes (x : r10_View_l0_X) : Cnd := some ((r10_View_l0_f_k0 x.1 x.2.1 x.2.2.1 x.2.2.2.1 x.2.2.2.2))
def r10_View_l0_psA (x : r10_View_l0_X) : List Prop := [((r10_View_l0_f_k0 x.1 x.2.1 x.2.2.1 x.2.2.2.1 x.2.2.2.2) = true → (0 : Int) ≤ x.2.1 ∧ x.2.1 < (↑x.1.length : Int)), ((r10_View_l0_f_k0 x.1 x.2.1 x.2.2.1 x.2.2.2.1 x.2.2.2.2) = true → (0 : Int) ≤ x.2.1 ∧ x.2.1 < (↑x.2.2.1.2.length : Int)), ((r10_View_l0_f_k0 x.1 x.2.1 x.2.2.1 x.2.2.2.1 x.2.2.2.2) = true → r08_Seen_1 (x.1.getD x.2.1.toNat (dflt TC.group)).2 (x.2.2.1.2.getD x.2.1.toNat (dflt TC.cell)) = true → boundP (x.2.2.2.2.length + (1 : Nat)))]
def r10_View_l0_ps (x : r10_View_l0_X) : List Prop := [((r10_View_l0_f_k0 x.1 x.2.1 x.2.2.1 x.2.2.2.1 x.2.2.2.2) = true → (0 : Int) ≤ x.2.1 ∧ x.2.1 < (↑x.1.length : Int)), ((r10_View_l0_f_k0 x.1 x.2.1 x.2.2.1 x.2.2.2.1 x.2.2.2.2) = true → (0 : Int) ≤ x.2.1 ∧ x.2.1 < (↑x.2.2.1.2.length : Int)), ((r10_View_l0_f_k0 x.1 x.2.1 x.2.2.1 x.2.2.2.1 x.2.2.2.2) = true → r08_Seen_1 (x.1.getD x.2.1.toNat (dflt TC.group)).2 (x.2.2.1.2.getD x.2.1.toNat (dflt TC.cell)) = true → boundP (x.2.2.2.2.length + (1 : Nat)))]
def r10_View_l0_outs (x : r10_View_l0_X) : Outs := [(some 0, some (!decide (x.2.1 < (↑x.1.length : Int))), ⟨53, 5, [], [(0, some (.box 71 [.v (.string x.2.2.1.1), .sl .cell x.2.2.1.2])), (2, some (.box 94 [.v (.string x.2.2.2.1), .sq 4])), (4, some (.arr 142 2 (.ty .field x.2.2.2.2)))]⟩)]
def r10_View_l0_fuel (x : r10_View_l0_X) : Nat := ((↑x.1.length : Int) - x.2.1).toNat
def r10_View_l0_run (x : r10_View_l0_X) : r10_View_l0_X := iterX r10_View_l0_next r10_View_l0_goes (r10_View_l0_fuel x) x
set_option maxRecDepth 100000 in
theorem r10_View_l0_ev (a0 : List TGroup) (a1 : Int) (a2 : TRow) (a3 : ByteArray) (a4 : List TField) : roundE (envT Cl_1 L0) 9 (loopAt Try.prog 64 0) r10_View_l0_S (r10_View_l0_T (a0, a1, a2, a3, a4)) = some (r10_View_l0_psA (a0, a1, a2, a3, a4), r10_View_l0_outs (a0, a1, a2, a3, a4), r10_View_l0_goes (a0, a1, a2, a3, a4), r10_View_l0_T (r10_View_l0_next (a0, a1, a2, a3, a4))) := by kernel_rfl
set_option maxRecDepth 100000 in
theorem r10_View_l0_hA (a0 : List TGroup) (a1 : Int) (a2 : TRow) (a3 : ByteArray) (a4 : List TField) (hp : ∀ p ∈ r10_View_l0_ps (a0, a1, a2, a3, a4), p) : ∀ p ∈ r10_View_l0_psA (a0, a1, a2, a3, a4), p := by
  have n0 : ((r10_View_l0_f_k0 a0 a1 a2 a3 a4) = true → (0 : Int) ≤ a1 ∧ a1 < (↑a0.length : Int)) := hp _ (List.mem_cons_self ..)
  have n1 : ((r10_View_l0_f_k0 a0 a1 a2 a3 a4) = true → (0 : Int) ≤ a1 ∧ a1 < (↑a2.2.length : Int)) := hp _ (List.mem_cons_of_mem _ (List.mem_cons_self ..))
  have n2 : ((r10_View_l0_f_k0 a0 a1 a2 a3 a4) = true → r08_Seen_1 (a0.getD a1.toNat (dflt TC.group)).2 (a2.2.getD a1.toNat (dflt TC.cell)) = true → boundP (a4.length + (1 : Nat))) := hp _ (List.mem_cons_of_mem _ (List.mem_cons_of_mem _ (List.mem_cons_self ..)))
  exact (needs_cons n0 (needs_cons n1 (needs_cons n2 needs_nil)))
noncomputable def r10_View_l0_row := rowL (envT Cl_1 L0) (loopAt Try.prog 64 0) r10_View_l0_S r10_View_l0_E r10_View_l0_un r10_View_l0_fuel r10_View_l0_next r10_View_l0_goes r10_View_l0_ps r10_View_l0_outs
theorem r10_View_l0_rok : ∀ s b ps outs, r10_View_l0_row s = some (b, ps, outs) → Wf s ⟨ps, outs, none⟩ ∧ LoopOk (envT C0 L0) b s ps outs :=
  rowP_ok (T := r10_View_l0_T) Cl_1_ok L0_ok (u := 9) (by kernel_rfl) (by decide) (fun ⟨a0, a1, a2, a3, a4⟩ => r10_View_l0_ev a0 a1 a2 a3 a4) (fun ⟨a0, a1, a2, a3, a4⟩ => r10_View_l0_hA a0 a1 a2 a3 a4) r10_View_l0_unok (fun _ => okOuts_ok (n := 53) rfl) fun _ _ => rfl
noncomputable def r10_View_l0_L := addLp 0 r10_View_l0_row L0
theorem r10_View_l0_Lok : LpOk r10_View_l0_L := addLp_ok r10_View_l0_rok L0_ok
def r10_View_k1 (a0 : List TGroup) (a1 : TRow) : Bool := goodRow a0 a1 != (0 : Int)
def r10_View_k0 (a0 : List TGroup) (a1 : TRow) : Bool := (↑(r10_View_l0_run (a0, (0 : Int), a1, a1.1, [])).snd.snd.snd.snd.length : Int) == (0 : Int)
def r10_View_0 (a0 : List TGroup) (a1 : TRow) : ByteArray := bif (r10_View_k1 a0 a1) then ByteArray.mk #[] else bif (r10_View_k0 a0 a1) then ByteArray.mk #[] else (r10_View_l0_run (a0, (0 : Int), a1, a1.1, [])).snd.snd.snd.fst
def r10_View_1 (a0 : List TGroup) (a1 : TRow) : Bool := bif (r10_View_k1 a0 a1) then false else bif (r10_View_k0 a0 a1) then false else true
def r10_View_2 (a0 : List TGroup) (a1 : TRow) : List TField := bif (r10_View_k1 a0 a1) then [] else bif (r10_View_k0 a0 a1) then [] else (r10_View_l0_run (a0, (0 : Int), a1, a1.1, [])).snd.snd.snd.snd
def r10_View_r (a0 : List TGroup) (a1 : TRow) : A := .tup [.agg [.v (.string (r10_View_0 a0 a1)), .sq 0], .v (.bool (r10_View_1 a0 a1))]
def r10_View_o (a0 : List TGroup) (a1 : TRow) : Objs := [(0, some (.arr 142 2 (.ty .field (r10_View_2 a0 a1))))]
def r10_View_ps (a0 : List TGroup) (a1 : TRow) : List Prop := [(∀ (g : TGroup), g ∈ a0 → wideN g.1.size), ((!(r10_View_k1 a0 a1)) = true → needX r10_View_l0_next r10_View_l0_goes r10_View_l0_ps (r10_View_l0_fuel (a0, (0 : Int), a1, a1.1, [])) (a0, (0 : Int), a1, a1.1, []))]
set_option maxRecDepth 100000 in
theorem r10_View_ev (a0 : List TGroup) (a1 : TRow) : evF (envT Cl_1 r10_View_l0_L) 9 64 [.sl .group a0, valA .row a1] 0 [] = some (1, r10_View_r a0 a1, 1, r10_View_o a0 a1, [(∀ (g : TGroup), g ∈ a0 → wideN g.1.size), ((!(r10_View_k1 a0 a1)) = true → loopAt Try.prog (64 : FuncId) (0 : Nat) = loopAt Try.prog (64 : FuncId) (0 : Nat)), ((!(r10_View_k1 a0 a1)) = true → needX r10_View_l0_next r10_View_l0_goes r10_View_l0_ps (r10_View_l0_fuel (a0, (0 : Int), a1, a1.1, [])) (a0, (0 : Int), a1, a1.1, []))]) := by kernel_rfl
set_option maxRecDepth 100000 in
theorem r10_View_c (a0 : List TGroup) (a1 : TRow) (hp : ∀ p ∈ r10_View_ps a0 a1, p) : CallOk Try.prog 64 [.sl .group a0, valA .row a1] 0 [] 1 (r10_View_r a0 a1) 1 (r10_View_o a0 a1) := by
  have n0 : (∀ (g : TGroup), g ∈ a0 → wideN g.1.size) := hp _ (List.mem_cons_self ..)
  have n1 : ((!(r10_View_k1 a0 a1)) = true → loopAt Try.prog (64 : FuncId) (0 : Nat) = loopAt Try.prog (64 : FuncId) (0 : Nat)) := by intros; rfl
  have n2 : ((!(r10_View_k1 a0 a1)) = true → needX r10_View_l0_next r10_View_l0_goes r10_View_l0_ps (r10_View_l0_fuel (a0, (0 : Int), a1, a1.1, [])) (a0, (0 : Int), a1, a1.1, [])) := hp _ (List.mem_cons_of_mem _ (List.mem_cons_self ..))
  exact evF_ok (envP_ok Cl_1_ok r10_View_l0_Lok) (r10_View_ev a0 a1) (needs_cons n0 (needs_cons n1 (needs_cons n2 needs_nil)))
def r10_View_r2 (a0 : List TGroup) (a1 : TRow) : A := .tup [.agg [.v (.string (viewK a0 a1)), .sq 0], .v (.bool (viewB a0 a1))]
def r10_View_o2 (a0 : List TGroup) (a1 : TRow) : Objs := [(0, some (.arr 142 2 (.ty .field (viewF a0 a1))))]
def r10_View_ps2 (a0 : List TGroup) (_a1 : TRow) : List Prop := [∀ g ∈ a0, wideN g.name.size]
theorem r10_View_loop (l : List TGroup) (r : TRow) (h0 : goodRow l r = 0) :
    needX r10_View_l0_next r10_View_l0_goes r10_View_l0_ps (r10_View_l0_fuel (l, 0, r, r.1, [])) (l, 0, r, r.1, []) ∧ r10_View_l0_run (l, 0, r, r.1, []) = (l, (l.length : Int), r, r.1, fieldsN l r.cells l.length) := by
  obtain ⟨hp, hlen, _⟩ := goodRow_0 h0
  have hl4 := (goodP_0 hp).2
  obtain ⟨h1, k, hk, hx, _, hst, _⟩ := scanB (fun i => ((l, (i : Int), r, r.1, fieldsN l r.cells i) : r10_View_l0_X)) l.length (fun _ => false) r10_View_l0_next r10_View_l0_goes r10_View_l0_ps (r10_View_l0_fuel (l, 0, r, r.1, [])) (l, 0, r, r.1, []) rfl (by show l.length ≤ ((l.length : Int) - 0).toNat; omega)
    (fun i _ _ => by
      show (!!decide ((i : Int) < (l.length : Int))) = _
      rw [nn, dlt, Bool.not_false, Bool.and_true])
    (fun i hi _ => by
      have hs := r08_Seen_eq (l.getD i (dflt TC.group)).2 (r.2.getD i (dflt TC.cell))
      show (l, IntKind.i64.wrap ((i : Int) + 1), r, (bif r08_Seen_1 (l.getD ((i : Int)).toNat (dflt TC.group)).2 (r.2.getD ((i : Int)).toNat (dflt TC.cell)) then r.1 else r.1), (bif r08_Seen_1 (l.getD ((i : Int)).toNat (dflt TC.group)).2 (r.2.getD ((i : Int)).toNat (dflt TC.cell)) then fieldsN l r.cells i ++ [TField.mk (i : Int) (r08_Seen_0 (l.getD ((i : Int)).toNat (dflt TC.group)).2 (r.2.getD ((i : Int)).toNat (dflt TC.cell)))] else fieldsN l r.cells i)) = (l, ((i + 1 : Nat) : Int), r, r.1, fieldsN l r.cells (i + 1))
      rw [wsucc (by omega), Int.toNat_natCast, hs.1, hs.2]
      have : ∀ b : Bool, (bif b then r.1 else r.1) = r.1 := fun b => by cases b <;> rfl
      rw [this]
      rfl)
    (fun i hi _ => by
      have hin : (!!decide ((i : Int) < (l.length : Int))) = true → (i : Int) < (l.length : Int) := fun h => by rw [nn] at h; exact of_decide_eq_true h
      exact needs_cons (fun h => ⟨by show (0 : Int) ≤ (i : Int); omega, hin h⟩) (needs_cons (fun h => ⟨by show (0 : Int) ≤ (i : Int); omega, by have := hin h; show (i : Int) < (r.cells.length : Int); omega⟩) (needs_cons (fun _ _ => by
        have := fieldsN_len l r.cells i
        show boundP ((fieldsN l r.cells i).length + 1)
        unfold boundP; omega) needs_nil)))
  have hkn : k = l.length := by
    rcases Nat.lt_or_ge k l.length with h | h
    · exact absurd (hst h) (by decide)
    · omega
  subst hkn
  exact ⟨h1, hx⟩
theorem r10_View_c2 (a0 : List TGroup) (a1 : TRow) (hp : ∀ p ∈ r10_View_ps2 a0 a1, p) : CallOk Try.prog 64 [.sl .group a0, valA .row a1] 0 [] 1 (r10_View_r2 a0 a1) 1 (r10_View_o2 a0 a1) := by
  have hb : ∀ g ∈ a0, wideN g.name.size := hp _ (List.mem_cons_self ..)
  have hz : (!(goodRow a0 a1 != 0)) = true → goodRow a0 a1 = 0 := fun h => by simpa using h
  have h := r10_View_c a0 a1 (needs_cons hb (needs_cons (fun h1 => (r10_View_loop a0 a1 (hz h1)).1) needs_nil))
  have hk1 : r10_View_k1 a0 a1 = (goodRow a0 a1 != 0) := rfl
  have e : r10_View_0 a0 a1 = viewK a0 a1 ∧ r10_View_1 a0 a1 = viewB a0 a1 ∧ r10_View_2 a0 a1 = viewF a0 a1 := by
    unfold r10_View_0 r10_View_1 r10_View_2 viewK viewF
    have hv : viewB a0 a1 = (goodRow a0 a1 == 0 && !((fieldsN a0 a1.cells a0.length).length == 0)) := rfl
    cases hg : goodRow a0 a1 != 0 with
    | true =>
      rw [hk1, hg]
      have : viewB a0 a1 = false := by
        rw [hv, show (goodRow a0 a1 == 0) = false by simpa using hg]
        rfl
      rw [this]
      exact ⟨rfl, rfl, rfl⟩
    | false =>
      have h0 : goodRow a0 a1 = 0 := by simpa using hg
      unfold r10_View_k0
      rw [hk1, hg, (r10_View_loop a0 a1 h0).2]
      have : viewB a0 a1 = !((fieldsN a0 a1.cells a0.length).length == 0) := by rw [hv, h0]; rfl
      rw [this]
      show (bif ((fieldsN a0 a1.cells a0.length).length : Int) == 0 then _ else _) = _ ∧ (bif ((fieldsN a0 a1.cells a0.length).length : Int) == 0 then _ else _) = _ ∧ (bif ((fieldsN a0 a1.cells a0.length).length : Int) == 0 then _ else _) = _
      rw [beq0i]
      cases (fieldsN a0 a1.cells a0.length).length == 0 <;> exact ⟨rfl, rfl, rfl⟩
  unfold r10_View_r r10_View_o at h
  rw [e.1, e.2.1, e.2.2] at h
  exact h
def r10_View_t : List A → Nat → Objs → Option CRes
  | [y0, y1], nx, o => match argL .group y0, argU .row y1 with
    | some a0, some (a1, p1) => some (1, (r10_View_r2 a0 a1).pk (shiftR nx), nx + 1, shiftO nx (r10_View_o2 a0 a1) ++ o, p1 ++ (r10_View_ps2 a0 a1))
    | _, _ => none
  | _, _, _ => none
theorem r10_View_tok : TOk Try.prog 64 r10_View_t := fun args nx o k x nx' o' ps h => by
  unfold r10_View_t at h
  split at h <;> first | (cases h; done) | skip
  split at h <;> first | (cases h; done) | skip
  rename_i a0 a1 p1 e0 e1
  cases h
  refine ⟨fun hp => ?_, _, rfl⟩
  have q1 := fun p hm => hp p (List.mem_append.2 (.inl hm))
  have r1 := fun p hm => hp p (List.mem_append.2 (.inr hm))
  refine callOk_args (callOk_shift (r10_View_c2 a0 a1 r1) (Nat.le_refl _) (freeL_cons rfl (freeL_cons (valA_free _ _) freeL_nil)) nx o) fun F N R vs hl => ?_
  obtain ⟨v0, w0, rfl, h0, hl⟩ := hl.inv
  obtain ⟨v1, w1, rfl, h1, hl⟩ := hl.inv
  exact HL.cons (argL_ok e0 h0) (HL.cons (argU_ok e1 q1 h1) (hl))
noncomputable def Cl_2 := addC 64 r10_View_t Cl_1
theorem Cl_2_ok : COk Try.prog Cl_2 := addC_ok r10_View_tok Cl_1_ok
/-! loop 0 of function 58 -/
abbrev row_View_l0_X : Type := (List TGroup) × Int × Int × TRow × ByteArray × (List TField)
def row_View_l0_T (x : row_View_l0_X) : St := ⟨53, 5, [(3, .own 0 0), (6, .own 2 0), (19, .sl .group x.1), (20, .v (.int .i64 x.2.1)), (21, .v (.int .i64 x.2.2.1))], [(0, some (.box 71 [.v (.string x.2.2.2.1.key), .sl .cell x.2.2.2.1.cells])), (2, some (.box 94 [.v (.string x.2.2.2.2.1), .sq 4])), (4, some (.arr 142 2 (.ty .field x.2.2.2.2.2)))]⟩
def row_View_l0_un : St → Option row_View_l0_X
  | ⟨53, 5, [(3, .own 0 0), (6, .own 2 0), (19, .sl .group z0), (20, .v (.int .i64 z1)), (21, .v (.int .i64 z2))], [(0, some (.box 71 [.v (.string z3), .sl .cell z4])), (2, some (.box 94 [.v (.string z5), .sq 4])), (4, some (.arr 142 2 (.ty .field z6)))]⟩ => some (z0, z1, z2, ⟨z3, z4⟩, z5, z6)
  | _ => none
theorem row_View_l0_unok : ∀ s x, row_View_l0_un s = some x → s = row_View_l0_T x := fun s x h => by
  unfold row_View_l0_un at h
  split at h
  · cases h; rfl
  · cases h
def row_View_l0_S : Shape := ⟨4, 5, [3, 6, 19, 20, 21], [], [(0, 0), (2, 2), (8, 4)], [0, 2, 8], [], [0, 2, 4]⟩
def row_View_l0_E : Entry := ⟨[.nilB 2 1 142 .field], [(0, 0), (2, 2), (3, 4)], [3, 6, 19, 20, 21], [0, 2, 3]⟩
def row_View_l0_f_4 (a0 : List TGroup) (_a1 : Int) (a2 : Int) (a3 : TRow) (a4 : ByteArray) (_a5 : List TField) : ByteArray := bif cell_Seen_1 (a0.getD a2.toNat (dflt TC.group)).2 (a3.2.getD a2.toNat (dflt TC.cell)) then a4 else a4
def row_View_l0_f_5 (a0 : List TGroup) (_a1 : Int) (a2 : Int) (a3 : TRow) (_a4 : ByteArray) (a5 : List TField) : List TField := bif cell_Seen_1 (a0.getD a2.toNat (dflt TC.group)).2 (a3.2.getD a2.toNat (dflt TC.cell)) then a5 ++ [TField.mk a2 (cell_Seen_0 (a0.getD a2.toNat (dflt TC.group)).2 (a3.2.getD a2.toNat (dflt TC.cell)))] else a5
def row_View_l0_next (x : row_View_l0_X) : row_View_l0_X := (x.1, x.2.1, IntKind.i64.wrap (x.2.2.1 + (1 : Int)), x.2.2.2.1, row_View_l0_f_4 x.1 x.2.1 x.2.2.1 x.2.2.2.1 x.2.2.2.2.1 x.2.2.2.2.2, row_View_l0_f_5 x.1 x.2.1 x.2.2.1 x.2.2.2.1 x.2.2.2.2.1 x.2.2.2.2.2)
def row_View_l0_goes (x : row_View_l0_X) : Cnd := some (!!decide (x.2.2.1 < x.2.1))
def row_View_l0_psA (x : row_View_l0_X) : List Prop := [((!!decide (x.2.2.1 < x.2.1)) = true → (0 : Int) ≤ x.2.2.1 ∧ x.2.2.1 < (↑x.1.length : Int)), ((!!decide (x.2.2.1 < x.2.1)) = true → (0 : Int) ≤ x.2.2.1 ∧ x.2.2.1 < (↑x.2.2.2.1.2.length : Int)), ((!!decide (x.2.2.1 < x.2.1)) = true → cell_Seen_1 (x.1.getD x.2.2.1.toNat (dflt TC.group)).2 (x.2.2.2.1.2.getD x.2.2.1.toNat (dflt TC.cell)) = true → boundP (x.2.2.2.2.2.length + (1 : Nat)))]
def row_View_l0_ps (x : row_View_l0_X) : List Prop := [((!!decide (x.2.2.1 < x.2.1)) = true → (0 : Int) ≤ x.2.2.1 ∧ x.2.2.1 < (↑x.1.length : Int)), ((!!decide (x.2.2.1 < x.2.1)) = true → (0 : Int) ≤ x.2.2.1 ∧ x.2.2.1 < (↑x.2.2.2.1.2.length : Int)), ((!!decide (x.2.2.1 < x.2.1)) = true → cell_Seen_1 (x.1.getD x.2.2.1.toNat (dflt TC.group)).2 (x.2.2.2.1.2.getD x.2.2.1.toNat (dflt TC.cell)) = true → boundP (x.2.2.2.2.2.length + (1 : Nat)))]
def row_View_l0_outs (x : row_View_l0_X) : Outs := [(some 0, some (!decide (x.2.2.1 < x.2.1)), ⟨53, 5, [], [(0, some (.box 71 [.v (.string x.2.2.2.1.1), .sl .cell x.2.2.2.1.2])), (2, some (.box 94 [.v (.string x.2.2.2.2.1), .sq 4])), (4, some (.arr 142 2 (.ty .field x.2.2.2.2.2)))]⟩)]
def row_View_l0_fuel (x : row_View_l0_X) : Nat := (x.2.1 - x.2.2.1).toNat
def row_View_l0_run (x : row_View_l0_X) : row_View_l0_X := iterX row_View_l0_next row_View_l0_goes (row_View_l0_fuel x) x
set_option maxRecDepth 100000 in
theorem row_View_l0_ev (a0 : List TGroup) (a1 : Int) (a2 : Int) (a3 : TRow) (a4 : ByteArray) (a5 : List TField) : roundE (envT Cl_2 L0) 9 (loopAt Try.prog 58 0) row_View_l0_S (row_View_l0_T (a0, a1, a2, a3, a4, a5)) = some (row_View_l0_psA (a0, a1, a2, a3, a4, a5), row_View_l0_outs (a0, a1, a2, a3, a4, a5), row_View_l0_goes (a0, a1, a2, a3, a4, a5), row_View_l0_T (row_View_l0_next (a0, a1, a2, a3, a4, a5))) := by kernel_rfl
set_option maxRecDepth 100000 in
theorem row_View_l0_hA (a0 : List TGroup) (a1 : Int) (a2 : Int) (a3 : TRow) (a4 : ByteArray) (a5 : List TField) (hp : ∀ p ∈ row_View_l0_ps (a0, a1, a2, a3, a4, a5), p) : ∀ p ∈ row_View_l0_psA (a0, a1, a2, a3, a4, a5), p := by
  have n0 : ((!!decide (a2 < a1)) = true → (0 : Int) ≤ a2 ∧ a2 < (↑a0.length : Int)) := hp _ (List.mem_cons_self ..)
  have n1 : ((!!decide (a2 < a1)) = true → (0 : Int) ≤ a2 ∧ a2 < (↑a3.2.length : Int)) := hp _ (List.mem_cons_of_mem _ (List.mem_cons_self ..))
  have n2 : ((!!decide (a2 < a1)) = true → cell_Seen_1 (a0.getD a2.toNat (dflt TC.group)).2 (a3.2.getD a2.toNat (dflt TC.cell)) = true → boundP (a5.length + (1 : Nat))) := hp _ (List.mem_cons_of_mem _ (List.mem_cons_of_mem _ (List.mem_cons_self ..)))
  exact (needs_cons n0 (needs_cons n1 (needs_cons n2 needs_nil)))
noncomputable def row_View_l0_row := rowL (envT Cl_2 L0) (loopAt Try.prog 58 0) row_View_l0_S row_View_l0_E row_View_l0_un row_View_l0_fuel row_View_l0_next row_View_l0_goes row_View_l0_ps row_View_l0_outs
theorem row_View_l0_rok : ∀ s b ps outs, row_View_l0_row s = some (b, ps, outs) → Wf s ⟨ps, outs, none⟩ ∧ LoopOk (envT C0 L0) b s ps outs :=
  rowP_ok (T := row_View_l0_T) Cl_2_ok L0_ok (u := 9) (by kernel_rfl) (by decide) (fun ⟨a0, a1, a2, a3, a4, a5⟩ => row_View_l0_ev a0 a1 a2 a3 a4 a5) (fun ⟨a0, a1, a2, a3, a4, a5⟩ => row_View_l0_hA a0 a1 a2 a3 a4 a5) row_View_l0_unok (fun _ => okOuts_ok (n := 53) rfl) fun _ _ => rfl
noncomputable def row_View_l0_L := addLp 0 row_View_l0_row L0
theorem row_View_l0_Lok : LpOk row_View_l0_L := addLp_ok row_View_l0_rok L0_ok
def row_View_k1 (a0 : List TGroup) (a1 : TRow) : Bool := goodRow a0 a1 != (0 : Int)
def row_View_k0 (a0 : List TGroup) (a1 : TRow) : Bool := (↑(row_View_l0_run (a0, (↑a0.length : Int), (0 : Int), a1, a1.1, [])).snd.snd.snd.snd.snd.length : Int) == (0 : Int)
def row_View_0 (a0 : List TGroup) (a1 : TRow) : ByteArray := bif (row_View_k1 a0 a1) then ByteArray.mk #[] else bif (row_View_k0 a0 a1) then ByteArray.mk #[] else (row_View_l0_run (a0, (↑a0.length : Int), (0 : Int), a1, a1.1, [])).snd.snd.snd.snd.fst
def row_View_1 (a0 : List TGroup) (a1 : TRow) : Bool := bif (row_View_k1 a0 a1) then false else bif (row_View_k0 a0 a1) then false else true
def row_View_2 (a0 : List TGroup) (a1 : TRow) : List TField := bif (row_View_k1 a0 a1) then [] else bif (row_View_k0 a0 a1) then [] else (row_View_l0_run (a0, (↑a0.length : Int), (0 : Int), a1, a1.1, [])).snd.snd.snd.snd.snd
def row_View_r (a0 : List TGroup) (a1 : TRow) : A := .tup [.agg [.v (.string (row_View_0 a0 a1)), .sq 0], .v (.bool (row_View_1 a0 a1))]
def row_View_o (a0 : List TGroup) (a1 : TRow) : Objs := [(0, some (.arr 142 2 (.ty .field (row_View_2 a0 a1))))]
def row_View_ps (a0 : List TGroup) (a1 : TRow) : List Prop := [((!(row_View_k1 a0 a1)) = true → needX row_View_l0_next row_View_l0_goes row_View_l0_ps (row_View_l0_fuel (a0, (↑a0.length : Int), (0 : Int), a1, a1.1, [])) (a0, (↑a0.length : Int), (0 : Int), a1, a1.1, []))]
set_option maxRecDepth 100000 in
theorem row_View_ev (a0 : List TGroup) (a1 : TRow) : evF (envT Cl_2 row_View_l0_L) 9 58 [.sl .group a0, valA .row a1] 0 [] = some (1, row_View_r a0 a1, 1, row_View_o a0 a1, [((!(row_View_k1 a0 a1)) = true → loopAt Try.prog (58 : FuncId) (0 : Nat) = loopAt Try.prog (58 : FuncId) (0 : Nat)), ((!(row_View_k1 a0 a1)) = true → needX row_View_l0_next row_View_l0_goes row_View_l0_ps (row_View_l0_fuel (a0, (↑a0.length : Int), (0 : Int), a1, a1.1, [])) (a0, (↑a0.length : Int), (0 : Int), a1, a1.1, []))]) := by kernel_rfl
set_option maxRecDepth 100000 in
theorem row_View_c (a0 : List TGroup) (a1 : TRow) (hp : ∀ p ∈ row_View_ps a0 a1, p) : CallOk Try.prog 58 [.sl .group a0, valA .row a1] 0 [] 1 (row_View_r a0 a1) 1 (row_View_o a0 a1) := by
  have n0 : ((!(row_View_k1 a0 a1)) = true → loopAt Try.prog (58 : FuncId) (0 : Nat) = loopAt Try.prog (58 : FuncId) (0 : Nat)) := by intros; rfl
  have n1 : ((!(row_View_k1 a0 a1)) = true → needX row_View_l0_next row_View_l0_goes row_View_l0_ps (row_View_l0_fuel (a0, (↑a0.length : Int), (0 : Int), a1, a1.1, [])) (a0, (↑a0.length : Int), (0 : Int), a1, a1.1, [])) := hp _ (List.mem_cons_self ..)
  exact evF_ok (envP_ok Cl_2_ok row_View_l0_Lok) (row_View_ev a0 a1) (needs_cons n0 (needs_cons n1 needs_nil))
def row_View_r2 (a0 : List TGroup) (a1 : TRow) : A := .tup [.agg [.v (.string (viewK a0 a1)), .sq 0], .v (.bool (viewB a0 a1))]
def row_View_o2 (a0 : List TGroup) (a1 : TRow) : Objs := [(0, some (.arr 142 2 (.ty .field (viewF a0 a1))))]
def row_View_ps2 (_a0 : List TGroup) (_a1 : TRow) : List Prop := []
theorem row_View_loop (l : List TGroup) (r : TRow) (h0 : goodRow l r = 0) :
    needX row_View_l0_next row_View_l0_goes row_View_l0_ps (row_View_l0_fuel (l, (l.length : Int), 0, r, r.1, [])) (l, (l.length : Int), 0, r, r.1, []) ∧ row_View_l0_run (l, (l.length : Int), 0, r, r.1, []) = (l, (l.length : Int), (l.length : Int), r, r.1, fieldsN l r.cells l.length) := by
  obtain ⟨hp, hlen, _⟩ := goodRow_0 h0
  have hl4 := (goodP_0 hp).2
  obtain ⟨h1, k, hk, hx, _, hst, _⟩ := scanB (fun i => ((l, (l.length : Int), (i : Int), r, r.1, fieldsN l r.cells i) : row_View_l0_X)) l.length (fun _ => false) row_View_l0_next row_View_l0_goes row_View_l0_ps (row_View_l0_fuel (l, (l.length : Int), 0, r, r.1, [])) (l, (l.length : Int), 0, r, r.1, []) rfl (by show l.length ≤ ((l.length : Int) - 0).toNat; omega)
    (fun i _ _ => by
      show (!!decide ((i : Int) < (l.length : Int))) = _
      rw [nn, dlt, Bool.not_false, Bool.and_true])
    (fun i hi _ => by
      have hs := cell_Seen_eq (l.getD i (dflt TC.group)).2 (r.2.getD i (dflt TC.cell))
      show (l, (l.length : Int), IntKind.i64.wrap ((i : Int) + 1), r, (bif cell_Seen_1 (l.getD ((i : Int)).toNat (dflt TC.group)).2 (r.2.getD ((i : Int)).toNat (dflt TC.cell)) then r.1 else r.1), (bif cell_Seen_1 (l.getD ((i : Int)).toNat (dflt TC.group)).2 (r.2.getD ((i : Int)).toNat (dflt TC.cell)) then fieldsN l r.cells i ++ [TField.mk (i : Int) (cell_Seen_0 (l.getD ((i : Int)).toNat (dflt TC.group)).2 (r.2.getD ((i : Int)).toNat (dflt TC.cell)))] else fieldsN l r.cells i)) = (l, (l.length : Int), ((i + 1 : Nat) : Int), r, r.1, fieldsN l r.cells (i + 1))
      rw [wsucc (by omega), Int.toNat_natCast, hs.1, hs.2]
      have : ∀ b : Bool, (bif b then r.1 else r.1) = r.1 := fun b => by cases b <;> rfl
      rw [this]
      rfl)
    (fun i hi _ => by
      have hin : (!!decide ((i : Int) < (l.length : Int))) = true → (i : Int) < (l.length : Int) := fun h => by rw [nn] at h; exact of_decide_eq_true h
      exact needs_cons (fun h => ⟨by show (0 : Int) ≤ (i : Int); omega, hin h⟩) (needs_cons (fun h => ⟨by show (0 : Int) ≤ (i : Int); omega, by have := hin h; show (i : Int) < (r.cells.length : Int); omega⟩) (needs_cons (fun _ _ => by
        have := fieldsN_len l r.cells i
        show boundP ((fieldsN l r.cells i).length + 1)
        unfold boundP; omega) needs_nil)))
  have hkn : k = l.length := by
    rcases Nat.lt_or_ge k l.length with h | h
    · exact absurd (hst h) (by decide)
    · omega
  subst hkn
  exact ⟨h1, hx⟩
theorem row_View_c2 (a0 : List TGroup) (a1 : TRow) (_hp : ∀ p ∈ row_View_ps2 a0 a1, p) : CallOk Try.prog 58 [.sl .group a0, valA .row a1] 0 [] 1 (row_View_r2 a0 a1) 1 (row_View_o2 a0 a1) := by
  have hz : (!(goodRow a0 a1 != 0)) = true → goodRow a0 a1 = 0 := fun h => by simpa using h
  have h := row_View_c a0 a1 (needs_cons (fun h1 => (row_View_loop a0 a1 (hz h1)).1) needs_nil)
  have hk1 : row_View_k1 a0 a1 = (goodRow a0 a1 != 0) := rfl
  have e : row_View_0 a0 a1 = viewK a0 a1 ∧ row_View_1 a0 a1 = viewB a0 a1 ∧ row_View_2 a0 a1 = viewF a0 a1 := by
    unfold row_View_0 row_View_1 row_View_2 viewK viewF
    have hv : viewB a0 a1 = (goodRow a0 a1 == 0 && !((fieldsN a0 a1.cells a0.length).length == 0)) := rfl
    cases hg : goodRow a0 a1 != 0 with
    | true =>
      rw [hk1, hg]
      have : viewB a0 a1 = false := by
        rw [hv, show (goodRow a0 a1 == 0) = false by simpa using hg]
        rfl
      rw [this]
      exact ⟨rfl, rfl, rfl⟩
    | false =>
      have h0 : goodRow a0 a1 = 0 := by simpa using hg
      unfold row_View_k0
      rw [hk1, hg, (row_View_loop a0 a1 h0).2]
      have : viewB a0 a1 = !((fieldsN a0 a1.cells a0.length).length == 0) := by rw [hv, h0]; rfl
      rw [this]
      show (bif ((fieldsN a0 a1.cells a0.length).length : Int) == 0 then _ else _) = _ ∧ (bif ((fieldsN a0 a1.cells a0.length).length : Int) == 0 then _ else _) = _ ∧ (bif ((fieldsN a0 a1.cells a0.length).length : Int) == 0 then _ else _) = _
      rw [beq0i]
      cases (fieldsN a0 a1.cells a0.length).length == 0 <;> exact ⟨rfl, rfl, rfl⟩
  unfold row_View_r row_View_o at h
  rw [e.1, e.2.1, e.2.2] at h
  exact h
def row_View_t : List A → Nat → Objs → Option CRes
  | [y0, y1], nx, o => match argL .group y0, argU .row y1 with
    | some a0, some (a1, p1) => some (1, (row_View_r2 a0 a1).pk (shiftR nx), nx + 1, shiftO nx (row_View_o2 a0 a1) ++ o, p1 ++ (row_View_ps2 a0 a1))
    | _, _ => none
  | _, _, _ => none
theorem row_View_tok : TOk Try.prog 58 row_View_t := fun args nx o k x nx' o' ps h => by
  unfold row_View_t at h
  split at h <;> first | (cases h; done) | skip
  split at h <;> first | (cases h; done) | skip
  rename_i a0 a1 p1 e0 e1
  cases h
  refine ⟨fun hp => ?_, _, rfl⟩
  have q1 := fun p hm => hp p (List.mem_append.2 (.inl hm))
  have r1 := fun p hm => hp p (List.mem_append.2 (.inr hm))
  refine callOk_args (callOk_shift (row_View_c2 a0 a1 r1) (Nat.le_refl _) (freeL_cons rfl (freeL_cons (valA_free _ _) freeL_nil)) nx o) fun F N R vs hl => ?_
  obtain ⟨v0, w0, rfl, h0, hl⟩ := hl.inv
  obtain ⟨v1, w1, rfl, h1, hl⟩ := hl.inv
  exact HL.cons (argL_ok e0 h0) (HL.cons (argU_ok e1 q1 h1) (hl))
noncomputable def Cl_3 := addC 58 row_View_t Cl_2
theorem Cl_3_ok : COk Try.prog Cl_3 := addC_ok row_View_tok Cl_2_ok
/-! loop 0 of function 59 -/
abbrev r10_SameView_l0_X : Type := Int × TView × TView
def r10_SameView_l0_T (x : r10_SameView_l0_X) : St := ⟨38, 2, [(2, .own 0 0), (3, .own 1 0), (5, .v (.int .i64 x.1))], [(0, some (.box 94 [.v (.string x.2.1.key), .sl .field x.2.1.fields])), (1, some (.box 94 [.v (.string x.2.2.key), .sl .field x.2.2.fields]))]⟩
def r10_SameView_l0_un : St → Option r10_SameView_l0_X
  | ⟨38, 2, [(2, .own 0 0), (3, .own 1 0), (5, .v (.int .i64 z0))], [(0, some (.box 94 [.v (.string z1), .sl .field z2])), (1, some (.box 94 [.v (.string z3), .sl .field z4]))]⟩ => some (z0, ⟨z1, z2⟩, ⟨z3, z4⟩)
  | _ => none
theorem r10_SameView_l0_unok : ∀ s x, r10_SameView_l0_un s = some x → s = r10_SameView_l0_T x := fun s x h => by
  unfold r10_SameView_l0_un at h
  split at h
  · cases h; rfl
  · cases h
def r10_SameView_l0_S : Shape := ⟨2, 2, [2, 3, 5], [], [(0, 0), (1, 1)], [0, 1], [4], [0, 1]⟩
def r10_SameView_l0_E : Entry := ⟨[], [(0, 0), (1, 1)], [2, 3, 5], [0, 1]⟩
def r10_SameView_l0_f_k1 (a0 : Int) (a1 : TView) (_a2 : TView) : Bool := !!decide (a0 < (↑a1.2.length : Int))
def r10_SameView_l0_f_k0 (a0 : Int) (a1 : TView) (a2 : TView) : Bool := (r10_SameView_l0_f_k1 a0 a1 a2) && !((a1.2.getD a0.toNat (dflt TC.field)).1 == (a2.2.getD a0.toNat (dflt TC.field)).1 && (a1.2.getD a0.toNat (dflt TC.field)).2.toList == (a2.2.getD a0.toNat (dflt TC.field)).2.toList)
def r10_SameView_l0_f_3 (a0 : Int) (a1 : TView) (a2 : TView) : Bool := (r10_SameView_l0_f_k1 a0 a1 a2) && !(r10_SameView_l0_f_k0 a0 a1 a2)
def r10_SameView_l0_next (x : r10_SameView_l0_X) : r10_SameView_l0_X := (IntKind.i64.wrap (x.1 + (1 : Int)), x.2.1, x.2.2)
def r10_SameView_l0_goes (x : r10_SameView_l0_X) : Cnd := some (r10_SameView_l0_f_3 x.1 x.2.1 x.2.2)
def r10_SameView_l0_psA (x : r10_SameView_l0_X) : List Prop := [((r10_SameView_l0_f_k1 x.1 x.2.1 x.2.2) = true → (0 : Int) ≤ x.1 ∧ x.1 < (↑x.2.1.2.length : Int)), ((r10_SameView_l0_f_k1 x.1 x.2.1 x.2.2) = true → (0 : Int) ≤ x.1 ∧ x.1 < (↑x.2.2.2.length : Int))]
def r10_SameView_l0_ps (x : r10_SameView_l0_X) : List Prop := [((r10_SameView_l0_f_k1 x.1 x.2.1 x.2.2) = true → (0 : Int) ≤ x.1 ∧ x.1 < (↑x.2.1.2.length : Int)), ((r10_SameView_l0_f_k1 x.1 x.2.1 x.2.2) = true → (0 : Int) ≤ x.1 ∧ x.1 < (↑x.2.2.2.length : Int))]
def r10_SameView_l0_outs (x : r10_SameView_l0_X) : Outs := [(some 0, some (!decide (x.1 < (↑x.2.1.2.length : Int))), ⟨38, 2, [(4, .dead)], [(0, some (.box 94 [.v (.string x.2.1.1), .sl .field x.2.1.2])), (1, some (.box 94 [.v (.string x.2.2.1), .sl .field x.2.2.2]))]⟩), (none, some ((r10_SameView_l0_f_k0 x.1 x.2.1 x.2.2)), ⟨38, 2, [(4, .v (.bool (false)))], [(0, some (.box 94 [.v (.string x.2.1.1), .sl .field x.2.1.2])), (1, some (.box 94 [.v (.string x.2.2.1), .sl .field x.2.2.2]))]⟩)]
def r10_SameView_l0_fuel (x : r10_SameView_l0_X) : Nat := ((↑x.2.1.2.length : Int) - x.1).toNat
def r10_SameView_l0_run (x : r10_SameView_l0_X) : r10_SameView_l0_X := iterX r10_SameView_l0_next r10_SameView_l0_goes (r10_SameView_l0_fuel x) x
set_option maxRecDepth 100000 in
theorem r10_SameView_l0_ev (a0 : Int) (a1 : TView) (a2 : TView) : roundE (envT Cl_3 L0) 9 (loopAt Try.prog 59 0) r10_SameView_l0_S (r10_SameView_l0_T (a0, a1, a2)) = some (r10_SameView_l0_psA (a0, a1, a2), r10_SameView_l0_outs (a0, a1, a2), r10_SameView_l0_goes (a0, a1, a2), r10_SameView_l0_T (r10_SameView_l0_next (a0, a1, a2))) := by kernel_rfl
set_option maxRecDepth 100000 in
theorem r10_SameView_l0_hA (a0 : Int) (a1 : TView) (a2 : TView) (hp : ∀ p ∈ r10_SameView_l0_ps (a0, a1, a2), p) : ∀ p ∈ r10_SameView_l0_psA (a0, a1, a2), p := by
  have n0 : ((r10_SameView_l0_f_k1 a0 a1 a2) = true → (0 : Int) ≤ a0 ∧ a0 < (↑a1.2.length : Int)) := hp _ (List.mem_cons_self ..)
  have n1 : ((r10_SameView_l0_f_k1 a0 a1 a2) = true → (0 : Int) ≤ a0 ∧ a0 < (↑a2.2.length : Int)) := hp _ (List.mem_cons_of_mem _ (List.mem_cons_self ..))
  exact (needs_cons n0 (needs_cons n1 needs_nil))
noncomputable def r10_SameView_l0_row := rowL (envT Cl_3 L0) (loopAt Try.prog 59 0) r10_SameView_l0_S r10_SameView_l0_E r10_SameView_l0_un r10_SameView_l0_fuel r10_SameView_l0_next r10_SameView_l0_goes r10_SameView_l0_ps r10_SameView_l0_outs
theorem r10_SameView_l0_rok : ∀ s b ps outs, r10_SameView_l0_row s = some (b, ps, outs) → Wf s ⟨ps, outs, none⟩ ∧ LoopOk (envT C0 L0) b s ps outs :=
  rowP_ok (T := r10_SameView_l0_T) Cl_3_ok L0_ok (u := 9) (by kernel_rfl) (by decide) (fun ⟨a0, a1, a2⟩ => r10_SameView_l0_ev a0 a1 a2) (fun ⟨a0, a1, a2⟩ => r10_SameView_l0_hA a0 a1 a2) r10_SameView_l0_unok (fun _ => okOuts_ok (n := 38) rfl) fun _ _ => rfl
noncomputable def r10_SameView_l0_L := addLp 0 r10_SameView_l0_row L0
theorem r10_SameView_l0_Lok : LpOk r10_SameView_l0_L := addLp_ok r10_SameView_l0_rok L0_ok
def r10_SameView_k1 (a0 : TView) (a1 : TView) : r10_SameView_l0_X := r10_SameView_l0_run ((0 : Int), a0, a1)
def r10_SameView_k0 (a0 : TView) (a1 : TView) : Bool := !a0.1.toList == a1.1.toList || (↑a0.2.length : Int) != (↑a1.2.length : Int)
def r10_SameView_0 (a0 : TView) (a1 : TView) : Bool := bif (r10_SameView_k0 a0 a1) then false else bif r10_SameView_l0_f_k0 (r10_SameView_k1 a0 a1).fst (r10_SameView_k1 a0 a1).snd.fst (r10_SameView_k1 a0 a1).snd.snd then false else true
def r10_SameView_r (a0 : TView) (a1 : TView) : A := .v (.bool (r10_SameView_0 a0 a1))
def r10_SameView_o (_a0 : TView) (_a1 : TView) : Objs := []
def r10_SameView_ps (a0 : TView) (a1 : TView) : List Prop := [((!(r10_SameView_k0 a0 a1)) = true → needX r10_SameView_l0_next r10_SameView_l0_goes r10_SameView_l0_ps (r10_SameView_l0_fuel ((0 : Int), a0, a1)) ((0 : Int), a0, a1))]
set_option maxRecDepth 100000 in
theorem r10_SameView_ev (a0 : TView) (a1 : TView) : evF (envT Cl_3 r10_SameView_l0_L) 9 59 [valA .view a0, valA .view a1] 0 [] = some (1, r10_SameView_r a0 a1, 0, r10_SameView_o a0 a1, [((!(r10_SameView_k0 a0 a1)) = true → loopAt Try.prog (59 : FuncId) (0 : Nat) = loopAt Try.prog (59 : FuncId) (0 : Nat)), ((!(r10_SameView_k0 a0 a1)) = true → needX r10_SameView_l0_next r10_SameView_l0_goes r10_SameView_l0_ps (r10_SameView_l0_fuel ((0 : Int), a0, a1)) ((0 : Int), a0, a1))]) := by kernel_rfl
set_option maxRecDepth 100000 in
theorem r10_SameView_c (a0 : TView) (a1 : TView) (hp : ∀ p ∈ r10_SameView_ps a0 a1, p) : CallOk Try.prog 59 [valA .view a0, valA .view a1] 0 [] 1 (r10_SameView_r a0 a1) 0 (r10_SameView_o a0 a1) := by
  have n0 : ((!(r10_SameView_k0 a0 a1)) = true → loopAt Try.prog (59 : FuncId) (0 : Nat) = loopAt Try.prog (59 : FuncId) (0 : Nat)) := by intros; rfl
  have n1 : ((!(r10_SameView_k0 a0 a1)) = true → needX r10_SameView_l0_next r10_SameView_l0_goes r10_SameView_l0_ps (r10_SameView_l0_fuel ((0 : Int), a0, a1)) ((0 : Int), a0, a1)) := hp _ (List.mem_cons_self ..)
  exact evF_ok (envP_ok Cl_3_ok r10_SameView_l0_Lok) (r10_SameView_ev a0 a1) (needs_cons n0 (needs_cons n1 needs_nil))
def r10_SameView_r2 (a0 : TView) (a1 : TView) : A := .v (.bool (eqVw a0 a1))
def r10_SameView_o2 (_a0 : TView) (_a1 : TView) : Objs := []
def r10_SameView_ps2 (a0 : TView) (_a1 : TView) : List Prop := [wideN a0.fields.length]
theorem eqFs_iff : ∀ {a b : List TField}, eqFs a b = true ↔ a = b
  | [], [] => by simp [eqFs]
  | [], _ :: _ => by simp [eqFs]
  | _ :: _, [] => by simp [eqFs]
  | ⟨g, v⟩ :: xs, ⟨g', v'⟩ :: ys => by
    unfold eqFs
    rw [Bool.and_eq_true, Bool.and_eq_true, beq_iff_eq, beq_iff_eq, eqFs_iff]
    simp
theorem eqVw_iff {a b : TView} : eqVw a b = true ↔ a = b := by
  unfold eqVw
  rw [Bool.and_eq_true, beq_iff_eq, eqFs_iff]
  cases a; cases b
  simp
theorem eqFs_N : ∀ (a b : List TField), a.length = b.length → eqFs a b = allN a.length (fun i => (a.getD i (dflt TC.field)).1 == (b.getD i (dflt TC.field)).1 && (a.getD i (dflt TC.field)).2 == (b.getD i (dflt TC.field)).2) := fun a b h => by
  rw [Bool.eq_iff_iff, eqFs_iff, allN_iff]
  constructor
  · rintro rfl i _
    simp
  · intro g
    refine List.ext_getElem h fun i h1 h2 => ?_
    have := g i h1
    rw [List.getD_eq_getElem?_getD, List.getD_eq_getElem?_getD, List.getElem?_eq_getElem h1, List.getElem?_eq_getElem h2, Option.getD_some, Option.getD_some, Bool.and_eq_true, beq_iff_eq, beq_iff_eq] at this
    revert this
    generalize a[i] = x
    generalize b[i] = y
    cases x; cases y
    rintro ⟨rfl, rfl⟩
    rfl
theorem r10_SameView_eq (a b : TView) (hb : wideN a.fields.length) : (∀ p ∈ r10_SameView_ps a b, p) ∧ r10_SameView_0 a b = eqVw a b := by
  unfold wideN at hb
  have hk0 : r10_SameView_k0 a b = (!(a.key == b.key) || a.fields.length != b.fields.length) := by
    show (!(a.key.toList == b.key.toList) || ((a.fields.length : Int) != (b.fields.length : Int))) = _
    rw [tlb]
    congr 1
    rw [Bool.eq_iff_iff, bne_iff_ne, bne_iff_ne]; omega
  have main : r10_SameView_k0 a b = false → needX r10_SameView_l0_next r10_SameView_l0_goes r10_SameView_l0_ps (r10_SameView_l0_fuel (0, a, b)) (0, a, b) ∧ r10_SameView_l0_f_k0 (r10_SameView_k1 a b).fst (r10_SameView_k1 a b).snd.fst (r10_SameView_k1 a b).snd.snd = !eqFs a.fields b.fields := fun h0 => by
    rw [hk0] at h0
    have hlen : a.fields.length = b.fields.length := by simpa using (Bool.or_eq_false_iff.1 h0).2
    have hf : ∀ i : Nat, r10_SameView_l0_f_k0 (i : Int) a b = (decide (i < a.fields.length) && !((a.fields.getD i (dflt TC.field)).1 == (b.fields.getD i (dflt TC.field)).1 && (a.fields.getD i (dflt TC.field)).2 == (b.fields.getD i (dflt TC.field)).2)) := fun i => by
      unfold r10_SameView_l0_f_k0 r10_SameView_l0_f_k1
      rw [nn, dlt, Int.toNat_natCast, tlb]
    obtain ⟨h1, k, hk, hx, _, _, hb'⟩ := scanB (fun i => (((i : Int), a, b) : r10_SameView_l0_X)) a.fields.length (fun i => !((a.fields.getD i (dflt TC.field)).1 == (b.fields.getD i (dflt TC.field)).1 && (a.fields.getD i (dflt TC.field)).2 == (b.fields.getD i (dflt TC.field)).2)) r10_SameView_l0_next r10_SameView_l0_goes r10_SameView_l0_ps (r10_SameView_l0_fuel (0, a, b)) (0, a, b) rfl (by show a.fields.length ≤ ((a.fields.length : Int) - 0).toNat; omega)
      (fun i _ _ => by
        show ((!!decide ((i : Int) < (a.fields.length : Int))) && !r10_SameView_l0_f_k0 i a b) = _
        rw [hf, nn, dlt]
        cases decide (i < a.fields.length) <;> rfl)
      (fun i hi _ => by
        show (IntKind.i64.wrap ((i : Int) + 1), a, b) = (((i + 1 : Nat) : Int), a, b)
        rw [wsucc (by omega)])
      (fun i _ _ => by
        have hin : (!!decide ((i : Int) < (a.fields.length : Int))) = true → (i : Int) < (a.fields.length : Int) := fun h => by rw [nn] at h; exact of_decide_eq_true h
        exact needs_cons (fun h => ⟨by show (0 : Int) ≤ (i : Int); omega, hin h⟩) (needs_cons (fun h => ⟨by show (0 : Int) ≤ (i : Int); omega, by have := hin h; show (i : Int) < (b.fields.length : Int); omega⟩) needs_nil))
    refine ⟨h1, ?_⟩
    have hr : r10_SameView_k1 a b = ((k : Int), a, b) := hx
    rw [hr]
    show r10_SameView_l0_f_k0 (k : Int) a b = _
    rw [hf, hb', eqFs_N _ _ hlen]
    congr 1
    exact allN_congr fun i _ => Bool.not_not _
  refine ⟨needs_cons (fun h => (main (by simpa using h)).1) needs_nil, ?_⟩
  unfold r10_SameView_0 eqVw
  cases h0 : r10_SameView_k0 a b with
  | true =>
    rw [hk0] at h0
    rw [cond_true]
    cases hk : a.key == b.key with
    | false => rfl
    | true =>
      rw [hk] at h0
      have hne : a.fields.length ≠ b.fields.length := by simpa using h0
      cases he : eqFs a.fields b.fields with
      | false => rfl
      | true => exact absurd (congrArg List.length (eqFs_iff.1 he)) hne
  | false =>
    rw [cond_false, (main h0).2]
    rw [hk0] at h0
    have : (a.key == b.key) = true := by simpa using (Bool.or_eq_false_iff.1 h0).1
    rw [this, Bool.true_and]
    cases eqFs a.fields b.fields <;> rfl
theorem r10_SameView_c2 (a0 : TView) (a1 : TView) (hp : ∀ p ∈ r10_SameView_ps2 a0 a1, p) : CallOk Try.prog 59 [valA .view a0, valA .view a1] 0 [] 1 (r10_SameView_r2 a0 a1) 0 (r10_SameView_o2 a0 a1) := by
  have hb : wideN a0.fields.length := hp _ (List.mem_cons_self ..)
  have h := r10_SameView_c a0 a1 (r10_SameView_eq a0 a1 hb).1
  unfold r10_SameView_r at h
  rw [(r10_SameView_eq a0 a1 hb).2] at h
  exact h
def r10_SameView_t : List A → Nat → Objs → Option CRes
  | [y0, y1], nx, o => match argU .view y0, argU .view y1 with
    | some (a0, p0), some (a1, p1) => some (1, (r10_SameView_r2 a0 a1).pk (shiftR nx), nx + 0, shiftO nx (r10_SameView_o2 a0 a1) ++ o, p0 ++ (p1 ++ (r10_SameView_ps2 a0 a1)))
    | _, _ => none
  | _, _, _ => none
theorem r10_SameView_tok : TOk Try.prog 59 r10_SameView_t := fun args nx o k x nx' o' ps h => by
  unfold r10_SameView_t at h
  split at h <;> first | (cases h; done) | skip
  split at h <;> first | (cases h; done) | skip
  rename_i a0 p0 a1 p1 e0 e1
  cases h
  refine ⟨fun hp => ?_, _, rfl⟩
  have q0 := fun p hm => hp p (List.mem_append.2 (.inl hm))
  have r0 := fun p hm => hp p (List.mem_append.2 (.inr hm))
  have q1 := fun p hm => r0 p (List.mem_append.2 (.inl hm))
  have r1 := fun p hm => r0 p (List.mem_append.2 (.inr hm))
  refine callOk_args (callOk_shift (r10_SameView_c2 a0 a1 r1) (Nat.le_refl _) (freeL_cons (valA_free _ _) (freeL_cons (valA_free _ _) freeL_nil)) nx o) fun F N R vs hl => ?_
  obtain ⟨v0, w0, rfl, h0, hl⟩ := hl.inv
  obtain ⟨v1, w1, rfl, h1, hl⟩ := hl.inv
  exact HL.cons (argU_ok e0 q0 h0) (HL.cons (argU_ok e1 q1 h1) (hl))
noncomputable def Cl_4 := addC 59 r10_SameView_t Cl_3
theorem Cl_4_ok : COk Try.prog Cl_4 := addC_ok r10_SameView_tok Cl_3_ok

noncomputable def Cl := Cl_4
theorem Cl_ok : COk Try.prog Cl := Cl_4_ok
end Go.Proofs.Yteebobbhhgmeiaa
