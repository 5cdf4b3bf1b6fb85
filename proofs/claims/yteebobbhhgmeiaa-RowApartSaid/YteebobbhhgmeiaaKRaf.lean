/- made by a program (rowgen.py): RowApart: for every input the law returns true, and each argument reads behind the call as it read before. -/
import Derived.Test.YteebobbhhgmeiaaKRae
import Derived.Test.YteebobbhhgmeiaaRows

namespace Go.Proofs.Yteebobbhhgmeiaa

open Go.RowKit

def wrE (l : List TGroup) (r : TRow) (g : Int) (c : TCell) : Int := bif goodRow l r != 0 then goodRow l r else bif decide (g < 0) || decide (g ≥ (l.length : Int)) then 70 else bif !goodC (polN l g.toNat) c then 80 else 0

def wrCs (xs : List TCell) (g : Nat) (c : TCell) : List TCell := xs.set g (joinC (cellN xs g) c)

def wrR (r : TRow) (g : Nat) (c : TCell) : TRow := ⟨r.key, wrCs r.cells g c⟩

theorem wrE_0 {l : List TGroup} {r : TRow} {g : Int} {c : TCell} : wrE l r g c = 0 ↔ goodRow l r = 0 ∧ (0 ≤ g ∧ g < (l.length : Int)) ∧ goodC (polN l g.toNat) c = true := by
  unfold wrE
  cases h : goodRow l r != 0 with
  | true =>
    rw [cond_true]
    have h' : goodRow l r ≠ 0 := by simpa using h
    exact ⟨fun e => absurd e h', fun e => absurd e.1 h'⟩
  | false =>
    rw [cond_false]
    have h' : goodRow l r = 0 := by simpa using h
    by_cases k : 0 ≤ g ∧ g < (l.length : Int)
    · rw [decide_eq_false (by omega), decide_eq_false (by omega), Bool.false_or, cond_false]
      cases goodC (polN l g.toNat) c <;> simp [h', k]
    · have : (decide (g < 0) || decide (g ≥ (l.length : Int))) = true := by
        rw [Bool.or_eq_true, decide_eq_true_eq, decide_eq_true_eq]; omega
      rw [this]
      exact ⟨fun e => (by cases e), fun e => absurd e.2.1 k⟩

theorem wrCs_len (xs : List TCell) (g : Nat) (c : TCell) : (wrCs xs g c).length = xs.length := List.length_set

theorem wr_at (xs : List TCell) (g : Nat) (c : TCell) {i : Nat} (hi : i < xs.length) : cellN (wrCs xs g c) i = if i = g then joinC (cellN xs g) c else cellN xs i := by
  unfold wrCs
  show ((xs.set g (joinC (cellN xs g) c)).getD i (dflt TC.cell)) = _
  rw [List.getD_eq_getElem?_getD, List.getElem?_set]
  by_cases e : i = g
  · subst e
    rw [if_pos rfl, if_pos rfl, if_pos hi]
    rfl
  · rw [if_neg (fun h => e h.symm), if_neg e, ← List.getD_eq_getElem?_getD]
    rfl

theorem wr_good {l : List TGroup} {r : TRow} {g : Nat} {c : TCell} (h : goodRow l r = 0) (hg : g < l.length) (hc : goodC (polN l g) c = true) : goodRow l (wrR r g c) = 0 := by
  obtain ⟨h1, h2, h3, h4, _⟩ := goodRow_0 h
  have hl : (wrR r g c).cells.length = l.length := (wrCs_len _ _ _).trans h2
  refine goodRow_mk h1 h3 h4 hl ((good_at hl).2 fun i hi => ?_)
  show goodC (polN l i) (cellN (wrCs r.cells g c) i) = true
  rw [wr_at _ _ _ (by omega)]
  by_cases e : i = g
  · subst e
    rw [if_pos rfl, join_good (goodRow_at h hi)]
    exact two_good (goodRow_at h hi) hc
  · rw [if_neg e]
    exact goodRow_at h hi

theorem wr_again {l : List TGroup} {r : TRow} {g : Nat} {c : TCell} (h : goodRow l r = 0) (hg : g < l.length) (hc : goodC (polN l g) c = true) : wrR (wrR r g c) g c = wrR r g c := by
  have h2 := (goodRow_0 h).2.1
  have hl : (wrR r g c).cells.length = l.length := (wrCs_len _ _ _).trans h2
  refine row_ext (l := l) rfl ((wrCs_len _ _ _).trans hl) hl fun i hi => ?_
  show cellN (wrCs (wrCs r.cells g c) g c) i = cellN (wrCs r.cells g c) i
  rw [wr_at _ _ _ (by rw [wrCs_len]; omega), wr_at r.cells g c (i := g) (by omega), if_pos rfl, wr_at r.cells g c (i := i) (by omega)]
  by_cases e : i = g
  · rw [if_pos e, if_pos e, join_good (goodRow_at h hg), join_good (two_good (goodRow_at h hg) hc), two_assoc, two_self hc]
  · rw [if_neg e, if_neg e]

theorem wr_join {l : List TGroup} {r : TRow} {g : Nat} {c : TCell} (h : goodRow l r = 0) (hg : g < l.length) (hc : goodC (polN l g) c = true) : jnR (wrR r g c) r = wrR r g c := by
  have hw := wr_good h hg hc
  refine row_ext (l := l) rfl (jnR_len hw) (goodRow_0 hw).2.1 fun i hi => ?_
  rw [jnR_at hw h hi]
  have h2 := (goodRow_0 h).2.1
  show twoC (cellN (wrCs r.cells g c) i) (cellN r.cells i) = cellN (wrCs r.cells g c) i
  rw [wr_at _ _ _ (by omega)]
  by_cases e : i = g
  · subst e
    rw [if_pos rfl, join_good (goodRow_at h hi), two_comm, ← two_assoc, two_self (goodRow_at h hi)]
  · rw [if_neg e, two_self (goodRow_at h hi)]

end Go.Proofs.Yteebobbhhgmeiaa

namespace Go.Proofs.Yteebobbhhgmeiaa

open Go.RowKit

noncomputable def Cs_1 := addC 60 l10_light_t Cq

theorem Cs_1_ok : COk Try.prog Cs_1 := addC_ok l10_light_tok Cq_ok

noncomputable def Cs_2 := addC 61 l10_lives_t Cs_1

theorem Cs_2_ok : COk Try.prog Cs_2 := addC_ok l10_lives_tok Cs_1_ok

def policy_Of_k1 (a0 : List TGroup) (_a1 : Int) : Bool := goodP a0 != (0 : Int)

def policy_Of_k0 (a0 : List TGroup) (a1 : Int) : Bool := decide (a1 < (0 : Int)) || decide (a1 ≥ (↑a0.length : Int))

def policy_Of_0 (a0 : List TGroup) (a1 : Int) : Int := bif (policy_Of_k1 a0 a1) then (0 : Int) else bif (policy_Of_k0 a0 a1) then (0 : Int) else (a0.getD a1.toNat (dflt TC.group)).2

def policy_Of_1 (a0 : List TGroup) (a1 : Int) : Int := bif (policy_Of_k1 a0 a1) then goodP a0 else bif (policy_Of_k0 a0 a1) then (70 : Int) else (0 : Int)

def policy_Of_r (a0 : List TGroup) (a1 : Int) : A := .v (.tuple ⟨[.int .i64 (policy_Of_0 a0 a1), .int .i64 (policy_Of_1 a0 a1)]⟩)

def policy_Of_o (_a0 : List TGroup) (_a1 : Int) : Objs := []

def policy_Of_ps (a0 : List TGroup) (a1 : Int) : List Prop := [((!(policy_Of_k1 a0 a1)) = true → (!(policy_Of_k0 a0 a1)) = true → (0 : Int) ≤ a1 ∧ a1 < (↑a0.length : Int))]

set_option maxRecDepth 100000 in
theorem policy_Of_ev (a0 : List TGroup) (a1 : Int) : evF (envT Cs_2 L0) 9 134 [.sl .group a0, valA .i64 a1] 0 [] = some (1, policy_Of_r a0 a1, 0, policy_Of_o a0 a1, [((!(policy_Of_k1 a0 a1)) = true → (!(policy_Of_k0 a0 a1)) = true → (0 : Int) ≤ a1 ∧ a1 < (↑a0.length : Int))]) := by kernel_rfl

set_option maxRecDepth 100000 in
theorem policy_Of_c (a0 : List TGroup) (a1 : Int) (hp : ∀ p ∈ policy_Of_ps a0 a1, p) : CallOk Try.prog 134 [.sl .group a0, valA .i64 a1] 0 [] 1 (policy_Of_r a0 a1) 0 (policy_Of_o a0 a1) := by
  have n0 : ((!(policy_Of_k1 a0 a1)) = true → (!(policy_Of_k0 a0 a1)) = true → (0 : Int) ≤ a1 ∧ a1 < (↑a0.length : Int)) := hp _ (List.mem_cons_self ..)
  exact evF_ok (envP_ok Cs_2_ok L0_ok) (policy_Of_ev a0 a1) (needs_cons n0 needs_nil)

def policy_Of_t : List A → Nat → Objs → Option CRes
  | [y0, y1], nx, o => match argL .group y0, argU .i64 y1 with
    | some a0, some (a1, p1) => some (1, (policy_Of_r a0 a1).pk (shiftR nx), nx + 0, shiftO nx (policy_Of_o a0 a1) ++ o, p1 ++ (policy_Of_ps a0 a1))
    | _, _ => none
  | _, _, _ => none

theorem policy_Of_tok : TOk Try.prog 134 policy_Of_t := fun args nx o k x nx' o' ps h => by
  unfold policy_Of_t at h
  split at h <;> first | (cases h; done) | skip
  split at h <;> first | (cases h; done) | skip
  rename_i a0 a1 p1 e0 e1
  cases h
  refine ⟨fun hp => ?_, _, rfl⟩
  have q1 := fun p hm => hp p (List.mem_append.2 (.inl hm))
  have r1 := fun p hm => hp p (List.mem_append.2 (.inr hm))
  refine callOk_args (callOk_shift (policy_Of_c a0 a1 r1) (Nat.le_refl _) (freeL_cons rfl (freeL_cons (valA_free _ _) freeL_nil)) nx o) fun F N R vs hl => ?_
  obtain ⟨v0, w0, rfl, h0, hl⟩ := hl.inv
  obtain ⟨v1, w1, rfl, h1, hl⟩ := hl.inv
  exact HL.cons (argL_ok e0 h0) (HL.cons (argU_ok e1 q1 h1) (hl))

noncomputable def Cs_3 := addC 134 policy_Of_t Cs_2

theorem Cs_3_ok : COk Try.prog Cs_3 := addC_ok policy_Of_tok Cs_2_ok

def row_copied_k0 (a0 : TRow) : List TCell := List.replicate (↑a0.2.length : Int).toNat (dflt TC.cell)

def row_copied_1 (a0 : TRow) : List TCell := List.take (0 : Nat) (row_copied_k0 a0) ++ (List.take (row_copied_k0 a0).length a0.2 ++ List.drop ((0 : Nat) + (row_copied_k0 a0).length.min a0.2.length) (row_copied_k0 a0))

def row_copied_r (a0 : TRow) : A := .agg [.v (.string a0.1), .sq 0]

def row_copied_o (a0 : TRow) : Objs := [(0, some (.arr 55 8 (.ty .cell (row_copied_1 a0))))]

def row_copied_ps (a0 : TRow) : List Prop := [((0 : Int) ≤ (↑a0.2.length : Int) ∧ (↑a0.2.length : Int) ≤ (↑a0.2.length : Int) ∧ (↑a0.2.length : Int) ≤ (549755813888 : Int))]

set_option maxRecDepth 100000 in
theorem row_copied_ev (a0 : TRow) : evF (envT Cs_3 L0) 9 133 [valA .row a0] 0 [] = some (1, row_copied_r a0, 1, row_copied_o a0, [((0 : Int) ≤ (↑a0.2.length : Int) ∧ (↑a0.2.length : Int) ≤ (↑a0.2.length : Int) ∧ (↑a0.2.length : Int) ≤ (549755813888 : Int))]) := by kernel_rfl

set_option maxRecDepth 100000 in
theorem row_copied_c (a0 : TRow) (hp : ∀ p ∈ row_copied_ps a0, p) : CallOk Try.prog 133 [valA .row a0] 0 [] 1 (row_copied_r a0) 1 (row_copied_o a0) := by
  have n0 : ((0 : Int) ≤ (↑a0.2.length : Int) ∧ (↑a0.2.length : Int) ≤ (↑a0.2.length : Int) ∧ (↑a0.2.length : Int) ≤ (549755813888 : Int)) := hp _ (List.mem_cons_self ..)
  exact evF_ok (envP_ok Cs_3_ok L0_ok) (row_copied_ev a0) (needs_cons n0 needs_nil)

def row_copied_r2 (a0 : TRow) : A := .agg [.v (.string a0.1), .sq 0]

def row_copied_o2 (a0 : TRow) : Objs := [(0, some (.arr 55 8 (.ty .cell a0.2)))]

def row_copied_ps2 (a0 : TRow) : List Prop := [boundP a0.2.length]

theorem row_copied_eq (a : TRow) : row_copied_1 a = a.2 := by
  have hk : (row_copied_k0 a).length = a.2.length := by
    unfold row_copied_k0
    simp
  unfold row_copied_1
  rw [hk, List.take_length, List.take_zero, List.nil_append]
  have : List.drop (0 + a.2.length.min a.2.length) (row_copied_k0 a) = [] := List.drop_eq_nil_of_le (by rw [hk]; show a.2.length ≤ 0 + min a.2.length a.2.length; omega)
  rw [this, List.append_nil]

theorem row_copied_c2 (a0 : TRow) (hp : ∀ p ∈ row_copied_ps2 a0, p) : CallOk Try.prog 133 [valA .row a0] 0 [] 1 (row_copied_r2 a0) 1 (row_copied_o2 a0) := by
  have hb : boundP a0.2.length := hp _ (List.mem_cons_self ..)
  unfold boundP at hb
  have h := row_copied_c a0 (needs_cons (by omega) needs_nil)
  unfold row_copied_o at h
  rw [row_copied_eq] at h
  exact h

def row_copied_t : List A → Nat → Objs → Option CRes
  | [y0], nx, o => match argU .row y0 with
    | some (a0, p0) => some (1, (row_copied_r2 a0).pk (shiftR nx), nx + 1, shiftO nx (row_copied_o2 a0) ++ o, p0 ++ (row_copied_ps2 a0))
    | _ => none
  | _, _, _ => none

theorem row_copied_tok : TOk Try.prog 133 row_copied_t := fun args nx o k x nx' o' ps h => by
  unfold row_copied_t at h
  split at h <;> first | (cases h; done) | skip
  split at h <;> first | (cases h; done) | skip
  rename_i a0 p0 e0
  cases h
  refine ⟨fun hp => ?_, _, rfl⟩
  have q0 := fun p hm => hp p (List.mem_append.2 (.inl hm))
  have r0 := fun p hm => hp p (List.mem_append.2 (.inr hm))
  refine callOk_args (callOk_shift (row_copied_c2 a0 r0) (Nat.le_refl _) (freeL_cons (valA_free _ _) freeL_nil) nx o) fun F N R vs hl => ?_
  obtain ⟨v0, w0, rfl, h0, hl⟩ := hl.inv
  exact HL.cons (argU_ok e0 q0 h0) (hl)

noncomputable def Cs_4 := addC 133 row_copied_t Cs_3

theorem Cs_4_ok : COk Try.prog Cs_4 := addC_ok row_copied_tok Cs_3_ok

abbrev row_Join_l2_X : Type := (List TCell) × Int × Int × ByteArray × (List TCell)

def row_Join_l2_T (x : row_Join_l2_X) : St := ⟨60, 9, [(11, .own 7 0), (39, .sl .cell x.1), (40, .v (.int .i64 x.2.1)), (41, .v (.int .i64 x.2.2.1))], [(7, some (.box 71 [.v (.string x.2.2.2.1), .sq 8])), (8, some (.arr 55 8 (.ty .cell x.2.2.2.2)))]⟩

def row_Join_l2_un : St → Option row_Join_l2_X
  | ⟨60, 9, [(11, .own 7 0), (39, .sl .cell z0), (40, .v (.int .i64 z1)), (41, .v (.int .i64 z2))], [(7, some (.box 71 [.v (.string z3), .sq 8])), (8, some (.arr 55 8 (.ty .cell z4)))]⟩ => some (z0, z1, z2, z3, z4)
  | _ => none

theorem row_Join_l2_unok : ∀ s x, row_Join_l2_un s = some x → s = row_Join_l2_T x := fun s x h => by
  unfold row_Join_l2_un at h
  split at h
  · cases h; rfl
  · cases h

def row_Join_l2_S : Shape := ⟨8, 9, [11, 39, 40, 41], [], [(7, 7), (8, 8)], [7, 8], [], [7, 8]⟩

def row_Join_l2_E : Entry := ⟨[], [(7, 7), (6, 8)], [11, 39, 40, 41], [7, 6]⟩

def row_Join_l2_f_4 (a0 : List TCell) (_a1 : Int) (a2 : Int) (_a3 : ByteArray) (a4 : List TCell) : List TCell := a4.set a2.toNat (joinC (a4.getD a2.toNat (dflt TC.cell)) (a0.getD a2.toNat (dflt TC.cell)))

def row_Join_l2_next (x : row_Join_l2_X) : row_Join_l2_X := (x.1, x.2.1, IntKind.i64.wrap (x.2.2.1 + (1 : Int)), x.2.2.2.1, row_Join_l2_f_4 x.1 x.2.1 x.2.2.1 x.2.2.2.1 x.2.2.2.2)

def row_Join_l2_goes (x : row_Join_l2_X) : Cnd := some (!!decide (x.2.2.1 < x.2.1))

def row_Join_l2_psA (x : row_Join_l2_X) : List Prop := [((!!decide (x.2.2.1 < x.2.1)) = true → (0 : Int) ≤ x.2.2.1 ∧ x.2.2.1 < (↑x.1.length : Int)), ((!!decide (x.2.2.1 < x.2.1)) = true → (0 : Int) ≤ x.2.2.1 ∧ x.2.2.1 < (↑x.2.2.2.2.length : Int)), ((!!decide (x.2.2.1 < x.2.1)) = true → x.2.2.1.toNat < x.2.2.2.2.length), ((!!decide (x.2.2.1 < x.2.1)) = true → (0 : Int) ≤ x.2.2.1 ∧ x.2.2.1 < (↑x.2.2.2.2.length : Int)), ((!!decide (x.2.2.1 < x.2.1)) = true → x.2.2.1.toNat < x.2.2.2.2.length)]

def row_Join_l2_ps (x : row_Join_l2_X) : List Prop := [((!!decide (x.2.2.1 < x.2.1)) = true → (0 : Int) ≤ x.2.2.1 ∧ x.2.2.1 < (↑x.1.length : Int)), ((!!decide (x.2.2.1 < x.2.1)) = true → (0 : Int) ≤ x.2.2.1 ∧ x.2.2.1 < (↑x.2.2.2.2.length : Int))]

def row_Join_l2_outs (x : row_Join_l2_X) : Outs := [(some 2, some (!decide (x.2.2.1 < x.2.1)), ⟨60, 9, [], [(7, some (.box 71 [.v (.string x.2.2.2.1), .sq 8])), (8, some (.arr 55 8 (.ty .cell x.2.2.2.2)))]⟩)]

def row_Join_l2_fuel (x : row_Join_l2_X) : Nat := (x.2.1 - x.2.2.1).toNat

def row_Join_l2_run (x : row_Join_l2_X) : row_Join_l2_X := iterX row_Join_l2_next row_Join_l2_goes (row_Join_l2_fuel x) x

set_option maxRecDepth 100000 in
theorem row_Join_l2_ev (a0 : List TCell) (a1 : Int) (a2 : Int) (a3 : ByteArray) (a4 : List TCell) : roundE (envT Cs_4 L0) 9 (loopAt Try.prog 71 2) row_Join_l2_S (row_Join_l2_T (a0, a1, a2, a3, a4)) = some (row_Join_l2_psA (a0, a1, a2, a3, a4), row_Join_l2_outs (a0, a1, a2, a3, a4), row_Join_l2_goes (a0, a1, a2, a3, a4), row_Join_l2_T (row_Join_l2_next (a0, a1, a2, a3, a4))) := by kernel_rfl

set_option maxRecDepth 100000 in
theorem row_Join_l2_hA (a0 : List TCell) (a1 : Int) (a2 : Int) (a3 : ByteArray) (a4 : List TCell) (hp : ∀ p ∈ row_Join_l2_ps (a0, a1, a2, a3, a4), p) : ∀ p ∈ row_Join_l2_psA (a0, a1, a2, a3, a4), p := by
  have n0 : ((!!decide (a2 < a1)) = true → (0 : Int) ≤ a2 ∧ a2 < (↑a0.length : Int)) := hp _ (List.mem_cons_self ..)
  have n1 : ((!!decide (a2 < a1)) = true → (0 : Int) ≤ a2 ∧ a2 < (↑a4.length : Int)) := hp _ (List.mem_cons_of_mem _ (List.mem_cons_self ..))
  have n2 : ((!!decide (a2 < a1)) = true → a2.toNat < a4.length) := by intro h0; have g := n1 h0; omega
  exact (needs_cons n0 (needs_cons n1 (needs_cons n2 (needs_cons n1 (needs_cons n2 needs_nil)))))

noncomputable def row_Join_l2_row := rowL (envT Cs_4 L0) (loopAt Try.prog 71 2) row_Join_l2_S row_Join_l2_E row_Join_l2_un row_Join_l2_fuel row_Join_l2_next row_Join_l2_goes row_Join_l2_ps row_Join_l2_outs

theorem row_Join_l2_rok : ∀ s b ps outs, row_Join_l2_row s = some (b, ps, outs) → Wf s ⟨ps, outs, none⟩ ∧ LoopOk (envT C0 L0) b s ps outs :=
  rowP_ok (T := row_Join_l2_T) Cs_4_ok L0_ok (u := 9) (by kernel_rfl) (by decide) (fun ⟨a0, a1, a2, a3, a4⟩ => row_Join_l2_ev a0 a1 a2 a3 a4) (fun ⟨a0, a1, a2, a3, a4⟩ => row_Join_l2_hA a0 a1 a2 a3 a4) row_Join_l2_unok (fun _ => okOuts_ok (n := 60) rfl) fun _ _ => rfl

noncomputable def row_Join_l2_L := addLp 2 row_Join_l2_row L0

theorem row_Join_l2_Lok : LpOk row_Join_l2_L := addLp_ok row_Join_l2_rok L0_ok

def row_Join_k2 (_a0 : List TGroup) (a1 : TRow) (a2 : TRow) : Bool := !a1.1.toList == a2.1.toList

def row_Join_k1 (a0 : List TGroup) (a1 : TRow) (_a2 : TRow) : Bool := goodRow a0 a1 != (0 : Int)

def row_Join_k0 (a0 : List TGroup) (a1 : TRow) (a2 : TRow) : Bool := (row_Join_k1 a0 a1 a2) || goodRow a0 a2 != (0 : Int)

def row_Join_0 (a0 : List TGroup) (a1 : TRow) (a2 : TRow) : ByteArray := bif (row_Join_k0 a0 a1 a2) then bif (row_Join_k1 a0 a1 a2) then ByteArray.mk #[] else ByteArray.mk #[] else bif (row_Join_k2 a0 a1 a2) then ByteArray.mk #[] else (row_Join_l2_run (a2.2, (↑a2.2.length : Int), (0 : Int), a1.1, a1.2)).snd.snd.snd.fst

def row_Join_1 (a0 : List TGroup) (a1 : TRow) (a2 : TRow) : Int := bif (row_Join_k0 a0 a1 a2) then bif (row_Join_k1 a0 a1 a2) then goodRow a0 a1 else goodRow a0 a2 else bif (row_Join_k2 a0 a1 a2) then (100 : Int) else (0 : Int)

def row_Join_2 (a0 : List TGroup) (a1 : TRow) (a2 : TRow) : List TCell := bif (row_Join_k0 a0 a1 a2) then [] else bif (row_Join_k2 a0 a1 a2) then [] else (row_Join_l2_run (a2.2, (↑a2.2.length : Int), (0 : Int), a1.1, a1.2)).snd.snd.snd.snd

def row_Join_r (a0 : List TGroup) (a1 : TRow) (a2 : TRow) : A := .tup [.agg [.v (.string (row_Join_0 a0 a1 a2)), .sq 0], .v (.int .i64 (row_Join_1 a0 a1 a2))]

def row_Join_o (a0 : List TGroup) (a1 : TRow) (a2 : TRow) : Objs := [(0, some (.arr 55 8 (.ty .cell (row_Join_2 a0 a1 a2))))]

def row_Join_ps (a0 : List TGroup) (a1 : TRow) (a2 : TRow) : List Prop := [((!(row_Join_k0 a0 a1 a2)) = true → (!(row_Join_k2 a0 a1 a2)) = true → boundP a1.2.length), ((!(row_Join_k0 a0 a1 a2)) = true → (!(row_Join_k2 a0 a1 a2)) = true → needX row_Join_l2_next row_Join_l2_goes row_Join_l2_ps (row_Join_l2_fuel (a2.2, (↑a2.2.length : Int), (0 : Int), a1.1, a1.2)) (a2.2, (↑a2.2.length : Int), (0 : Int), a1.1, a1.2))]

set_option maxRecDepth 100000 in
theorem row_Join_ev (a0 : List TGroup) (a1 : TRow) (a2 : TRow) : evF (envT Cs_4 row_Join_l2_L) 9 71 [.sl .group a0, valA .row a1, valA .row a2] 0 [] = some (1, row_Join_r a0 a1 a2, 1, row_Join_o a0 a1 a2, [((0 : Int) ≤ (0 : Int) ∧ (0 : Int) < (↑(2 : Nat) : Int)), ((0 : Nat) < (2 : Nat)), ((!(row_Join_k1 a0 a1 a2)) = true → (0 : Int) ≤ (1 : Int) ∧ (1 : Int) < (↑(2 : Nat) : Int)), ((!(row_Join_k1 a0 a1 a2)) = true → (1 : Nat) < (2 : Nat)), ((!(row_Join_k0 a0 a1 a2)) = true → (!(row_Join_k2 a0 a1 a2)) = true → boundP a1.2.length), ((!(row_Join_k0 a0 a1 a2)) = true → (!(row_Join_k2 a0 a1 a2)) = true → loopAt Try.prog (71 : FuncId) (2 : Nat) = loopAt Try.prog (71 : FuncId) (2 : Nat)), ((!(row_Join_k0 a0 a1 a2)) = true → (!(row_Join_k2 a0 a1 a2)) = true → needX row_Join_l2_next row_Join_l2_goes row_Join_l2_ps (row_Join_l2_fuel (a2.2, (↑a2.2.length : Int), (0 : Int), a1.1, a1.2)) (a2.2, (↑a2.2.length : Int), (0 : Int), a1.1, a1.2))]) := by kernel_rfl

set_option maxRecDepth 100000 in
theorem row_Join_c (a0 : List TGroup) (a1 : TRow) (a2 : TRow) (hp : ∀ p ∈ row_Join_ps a0 a1 a2, p) : CallOk Try.prog 71 [.sl .group a0, valA .row a1, valA .row a2] 0 [] 1 (row_Join_r a0 a1 a2) 1 (row_Join_o a0 a1 a2) := by
  have n0 : ((0 : Int) ≤ (0 : Int) ∧ (0 : Int) < (↑(2 : Nat) : Int)) := by first | rfl | decide +kernel
  have n1 : ((0 : Nat) < (2 : Nat)) := by first | rfl | decide +kernel
  have n2 : ((!(row_Join_k1 a0 a1 a2)) = true → (0 : Int) ≤ (1 : Int) ∧ (1 : Int) < (↑(2 : Nat) : Int)) := by omega
  have n3 : ((!(row_Join_k1 a0 a1 a2)) = true → (1 : Nat) < (2 : Nat)) := by omega
  have n4 : ((!(row_Join_k0 a0 a1 a2)) = true → (!(row_Join_k2 a0 a1 a2)) = true → boundP a1.2.length) := hp _ (List.mem_cons_self ..)
  have n5 : ((!(row_Join_k0 a0 a1 a2)) = true → (!(row_Join_k2 a0 a1 a2)) = true → loopAt Try.prog (71 : FuncId) (2 : Nat) = loopAt Try.prog (71 : FuncId) (2 : Nat)) := by intros; rfl
  have n6 : ((!(row_Join_k0 a0 a1 a2)) = true → (!(row_Join_k2 a0 a1 a2)) = true → needX row_Join_l2_next row_Join_l2_goes row_Join_l2_ps (row_Join_l2_fuel (a2.2, (↑a2.2.length : Int), (0 : Int), a1.1, a1.2)) (a2.2, (↑a2.2.length : Int), (0 : Int), a1.1, a1.2)) := hp _ (List.mem_cons_of_mem _ (List.mem_cons_self ..))
  exact evF_ok (envP_ok Cs_4_ok row_Join_l2_Lok) (row_Join_ev a0 a1 a2) (needs_cons n0 (needs_cons n1 (needs_cons n2 (needs_cons n3 (needs_cons n4 (needs_cons n5 (needs_cons n6 needs_nil)))))))

def jnK (l : List TGroup) (a b : TRow) : ByteArray := bif jnE l a b == 0 then a.key else ⟨#[]⟩

def jnL (l : List TGroup) (a b : TRow) : List TCell := bif jnE l a b == 0 then jnN a.cells b.cells b.cells.length else []

def row_Join_r2 (a0 : List TGroup) (a1 : TRow) (a2 : TRow) : A := .tup [.agg [.v (.string (jnK a0 a1 a2)), .sq 0], .v (.int .i64 (jnE a0 a1 a2))]

def row_Join_o2 (a0 : List TGroup) (a1 : TRow) (a2 : TRow) : Objs := [(0, some (.arr 55 8 (.ty .cell (jnL a0 a1 a2))))]

def row_Join_ps2 (_a0 : List TGroup) (_a1 : TRow) (_a2 : TRow) : List Prop := []

theorem row_Join_loop (key : ByteArray) (us ws : List TCell) (hl : us.length = ws.length) (h4 : ws.length ≤ 4) :
    needX row_Join_l2_next row_Join_l2_goes row_Join_l2_ps (row_Join_l2_fuel (ws, (ws.length : Int), 0, key, us)) (ws, (ws.length : Int), 0, key, us) ∧
    row_Join_l2_run (ws, (ws.length : Int), 0, key, us) = (ws, (ws.length : Int), (ws.length : Int), key, jnN us ws ws.length) := by
  obtain ⟨h1, k, hk, hx, _, hst, _⟩ := scanB (fun i => (ws, (ws.length : Int), (i : Int), key, jnN us ws i) : Nat → row_Join_l2_X) ws.length (fun _ => false) row_Join_l2_next row_Join_l2_goes row_Join_l2_ps (row_Join_l2_fuel (ws, (ws.length : Int), 0, key, us)) (ws, (ws.length : Int), 0, key, us) rfl (by show ws.length ≤ ((ws.length : Int) - 0).toNat; omega)
    (fun i _ _ => by
      show (!!decide ((i : Int) < (ws.length : Int))) = _
      rw [nn, dlt, Bool.not_false, Bool.and_true])
    (fun i hi _ => by
      show (ws, (ws.length : Int), IntKind.i64.wrap ((i : Int) + 1), key, row_Join_l2_f_4 ws (ws.length : Int) (i : Int) key (jnN us ws i)) = (ws, (ws.length : Int), ((i + 1 : Nat) : Int), key, jnN us ws (i + 1))
      unfold row_Join_l2_f_4
      rw [wsucc (by omega), Int.toNat_natCast]
      rfl)
    (fun i hi _ => by
      have hin : (!!decide ((i : Int) < (ws.length : Int))) = true → i < ws.length := fun h => by rw [nn] at h; have := of_decide_eq_true h; omega
      have hlen := jnN_len us ws i
      exact needs_cons (fun h => ⟨by show (0 : Int) ≤ (i : Int); omega, by have := hin h; show (i : Int) < (ws.length : Int); omega⟩) (needs_cons (fun h => ⟨by show (0 : Int) ≤ (i : Int); omega, by have := hin h; show (i : Int) < ((jnN us ws i).length : Int); omega⟩) needs_nil))
  have hkn : k = ws.length := by
    rcases Nat.lt_or_ge k ws.length with h | h
    · exact absurd (hst h) (by decide)
    · omega
  subst hkn
  exact ⟨h1, hx⟩

theorem row_Join_c2 (a0 : List TGroup) (a1 : TRow) (a2 : TRow) (_hp : ∀ p ∈ row_Join_ps2 a0 a1 a2, p) : CallOk Try.prog 71 [.sl .group a0, valA .row a1, valA .row a2] 0 [] 1 (row_Join_r2 a0 a1 a2) 1 (row_Join_o2 a0 a1 a2) := by
  have hgood : (!(row_Join_k0 a0 a1 a2)) = true → goodRow a0 a1 = 0 ∧ goodRow a0 a2 = 0 := fun h => by
    have h' : (!((goodRow a0 a1 != 0) || (goodRow a0 a2 != 0))) = true := h
    rw [Bool.not_or, Bool.and_eq_true] at h'
    exact ⟨by simpa using h'.1, by simpa using h'.2⟩
  have hloop : goodRow a0 a1 = 0 → goodRow a0 a2 = 0 → _ := fun g1 g2 => row_Join_loop a1.1 a1.2 a2.2 (((goodRow_0 g1).2.1).trans ((goodRow_0 g2).2.1).symm) (by have := (goodP_0 (goodRow_0 g2).1).2; have := (goodRow_0 g2).2.1; show a2.cells.length ≤ 4; omega)
  have h := row_Join_c a0 a1 a2 (needs_cons (fun h _ => by
      obtain ⟨g1, _⟩ := hgood h
      have := (goodP_0 (goodRow_0 g1).1).2
      have := (goodRow_0 g1).2.1
      show boundP a1.cells.length
      unfold boundP
      omega) (needs_cons (fun h _ => (hloop (hgood h).1 (hgood h).2).1) needs_nil))
  have e : row_Join_0 a0 a1 a2 = jnK a0 a1 a2 ∧ row_Join_1 a0 a1 a2 = jnE a0 a1 a2 ∧ row_Join_2 a0 a1 a2 = jnL a0 a1 a2 := by
    have k0 : row_Join_k0 a0 a1 a2 = ((goodRow a0 a1 != 0) || (goodRow a0 a2 != 0)) := rfl
    have k1 : row_Join_k1 a0 a1 a2 = (goodRow a0 a1 != 0) := rfl
    have k2 : row_Join_k2 a0 a1 a2 = !(a1.key == a2.key) := by
      unfold row_Join_k2
      rw [tlb]
    unfold row_Join_0 row_Join_1 row_Join_2 jnK jnL jnE
    rw [k0, k1, k2]
    cases g1 : goodRow a0 a1 != 0 with
    | true =>
      have : (goodRow a0 a1 == 0) = false := by simpa using g1
      rw [Bool.true_or, cond_true, cond_true, cond_true, cond_true, cond_true, this]
      refine ⟨?_, ?_, ?_⟩ <;> first | rfl | trivial
    | false =>
      cases g2 : goodRow a0 a2 != 0 with
      | true =>
        have : (goodRow a0 a2 == 0) = false := by simpa using g2
        rw [Bool.false_or]
        simp only [cond_true, cond_false, this]
        refine ⟨?_, ?_, ?_⟩ <;> first | rfl | trivial
      | false =>
        rw [Bool.false_or]
        simp only [cond_false]
        cases hk : a1.key == a2.key with
        | false => refine ⟨?_, ?_, ?_⟩ <;> first | rfl | trivial
        | true =>
          rw [(hloop (by simpa using g1) (by simpa using g2)).2]
          refine ⟨?_, ?_, ?_⟩ <;> first | rfl | trivial
  unfold row_Join_r row_Join_o at h
  rw [e.1, e.2.1, e.2.2] at h
  exact h

def row_Join_t : List A → Nat → Objs → Option CRes
  | [y0, y1, y2], nx, o => match argL .group y0, argU .row y1, argU .row y2 with
    | some a0, some (a1, p1), some (a2, p2) => some (1, (row_Join_r2 a0 a1 a2).pk (shiftR nx), nx + 1, shiftO nx (row_Join_o2 a0 a1 a2) ++ o, p1 ++ (p2 ++ (row_Join_ps2 a0 a1 a2)))
    | _, _, _ => none
  | _, _, _ => none

theorem row_Join_tok : TOk Try.prog 71 row_Join_t := fun args nx o k x nx' o' ps h => by
  unfold row_Join_t at h
  split at h <;> first | (cases h; done) | skip
  split at h <;> first | (cases h; done) | skip
  rename_i a0 a1 p1 a2 p2 e0 e1 e2
  cases h
  refine ⟨fun hp => ?_, _, rfl⟩
  have q1 := fun p hm => hp p (List.mem_append.2 (.inl hm))
  have r1 := fun p hm => hp p (List.mem_append.2 (.inr hm))
  have q2 := fun p hm => r1 p (List.mem_append.2 (.inl hm))
  have r2 := fun p hm => r1 p (List.mem_append.2 (.inr hm))
  refine callOk_args (callOk_shift (row_Join_c2 a0 a1 a2 r2) (Nat.le_refl _) (freeL_cons rfl (freeL_cons (valA_free _ _) (freeL_cons (valA_free _ _) freeL_nil))) nx o) fun F N R vs hl => ?_
  obtain ⟨v0, w0, rfl, h0, hl⟩ := hl.inv
  obtain ⟨v1, w1, rfl, h1, hl⟩ := hl.inv
  obtain ⟨v2, w2, rfl, h2, hl⟩ := hl.inv
  exact HL.cons (argL_ok e0 h0) (HL.cons (argU_ok e1 q1 h1) (HL.cons (argU_ok e2 q2 h2) (hl)))

noncomputable def Cs_5 := addC 71 row_Join_t Cs_4

theorem Cs_5_ok : COk Try.prog Cs_5 := addC_ok row_Join_tok Cs_4_ok

def row_Write_k1 (a0 : List TGroup) (_a1 : TRow) (a2 : Int) (_a3 : TCell) : Bool := policy_Of_1 a0 a2 != (0 : Int)

def row_Write_k0 (a0 : List TGroup) (a1 : TRow) (_a2 : Int) (_a3 : TCell) : Bool := goodRow a0 a1 != (0 : Int)

def row_Write_0 (a0 : List TGroup) (a1 : TRow) (a2 : Int) (a3 : TCell) : ByteArray := bif (row_Write_k0 a0 a1 a2 a3) then ByteArray.mk #[] else bif (row_Write_k1 a0 a1 a2 a3) then ByteArray.mk #[] else bif !cell_Good_0 (policy_Of_0 a0 a2) a3 then ByteArray.mk #[] else a1.1

def row_Write_1 (a0 : List TGroup) (a1 : TRow) (a2 : Int) (a3 : TCell) : Int := bif (row_Write_k0 a0 a1 a2 a3) then goodRow a0 a1 else bif (row_Write_k1 a0 a1 a2 a3) then policy_Of_1 a0 a2 else bif !cell_Good_0 (policy_Of_0 a0 a2) a3 then (80 : Int) else (0 : Int)

def row_Write_2 (a0 : List TGroup) (a1 : TRow) (a2 : Int) (a3 : TCell) : List TCell := bif (row_Write_k0 a0 a1 a2 a3) then [] else bif (row_Write_k1 a0 a1 a2 a3) then [] else bif !cell_Good_0 (policy_Of_0 a0 a2) a3 then [] else a1.2.set a2.toNat (joinC (a1.2.getD a2.toNat (dflt TC.cell)) a3)

def row_Write_r (a0 : List TGroup) (a1 : TRow) (a2 : Int) (a3 : TCell) : A := .tup [.agg [.v (.string (row_Write_0 a0 a1 a2 a3)), .sq 0], .v (.int .i64 (row_Write_1 a0 a1 a2 a3))]

def row_Write_o (a0 : List TGroup) (a1 : TRow) (a2 : Int) (a3 : TCell) : Objs := [(0, some (.arr 55 8 (.ty .cell (row_Write_2 a0 a1 a2 a3))))]

def row_Write_ps (a0 : List TGroup) (a1 : TRow) (a2 : Int) (a3 : TCell) : List Prop := [((!(row_Write_k0 a0 a1 a2 a3)) = true → (!policy_Of_k1 a0 a2) = true → (!policy_Of_k0 a0 a2) = true → (0 : Int) ≤ a2 ∧ a2 < (↑a0.length : Int)), ((!(row_Write_k0 a0 a1 a2 a3)) = true → (!(row_Write_k1 a0 a1 a2 a3)) = true → (!!cell_Good_0 (policy_Of_0 a0 a2) a3) = true → boundP a1.2.length), ((!(row_Write_k0 a0 a1 a2 a3)) = true → (!(row_Write_k1 a0 a1 a2 a3)) = true → (!!cell_Good_0 (policy_Of_0 a0 a2) a3) = true → (0 : Int) ≤ a2 ∧ a2 < (↑a1.2.length : Int))]

set_option maxRecDepth 100000 in
theorem row_Write_ev (a0 : List TGroup) (a1 : TRow) (a2 : Int) (a3 : TCell) : evF (envT Cs_5 L0) 9 72 [.sl .group a0, valA .row a1, valA .i64 a2, valA .cell a3] 0 [] = some (1, row_Write_r a0 a1 a2 a3, 1, row_Write_o a0 a1 a2 a3, [((!(row_Write_k0 a0 a1 a2 a3)) = true → (!policy_Of_k1 a0 a2) = true → (!policy_Of_k0 a0 a2) = true → (0 : Int) ≤ a2 ∧ a2 < (↑a0.length : Int)), ((!(row_Write_k0 a0 a1 a2 a3)) = true → (!(row_Write_k1 a0 a1 a2 a3)) = true → (!!cell_Good_0 (policy_Of_0 a0 a2) a3) = true → boundP a1.2.length), ((!(row_Write_k0 a0 a1 a2 a3)) = true → (!(row_Write_k1 a0 a1 a2 a3)) = true → (!!cell_Good_0 (policy_Of_0 a0 a2) a3) = true → (0 : Int) ≤ a2 ∧ a2 < (↑a1.2.length : Int)), ((!(row_Write_k0 a0 a1 a2 a3)) = true → (!(row_Write_k1 a0 a1 a2 a3)) = true → (!!cell_Good_0 (policy_Of_0 a0 a2) a3) = true → a2.toNat < a1.2.length), ((!(row_Write_k0 a0 a1 a2 a3)) = true → (!(row_Write_k1 a0 a1 a2 a3)) = true → (!!cell_Good_0 (policy_Of_0 a0 a2) a3) = true → (0 : Int) ≤ a2 ∧ a2 < (↑a1.2.length : Int)), ((!(row_Write_k0 a0 a1 a2 a3)) = true → (!(row_Write_k1 a0 a1 a2 a3)) = true → (!!cell_Good_0 (policy_Of_0 a0 a2) a3) = true → a2.toNat < a1.2.length)]) := by kernel_rfl

set_option maxRecDepth 100000 in
theorem row_Write_c (a0 : List TGroup) (a1 : TRow) (a2 : Int) (a3 : TCell) (hp : ∀ p ∈ row_Write_ps a0 a1 a2 a3, p) : CallOk Try.prog 72 [.sl .group a0, valA .row a1, valA .i64 a2, valA .cell a3] 0 [] 1 (row_Write_r a0 a1 a2 a3) 1 (row_Write_o a0 a1 a2 a3) := by
  have n0 : ((!(row_Write_k0 a0 a1 a2 a3)) = true → (!policy_Of_k1 a0 a2) = true → (!policy_Of_k0 a0 a2) = true → (0 : Int) ≤ a2 ∧ a2 < (↑a0.length : Int)) := hp _ (List.mem_cons_self ..)
  have n1 : ((!(row_Write_k0 a0 a1 a2 a3)) = true → (!(row_Write_k1 a0 a1 a2 a3)) = true → (!!cell_Good_0 (policy_Of_0 a0 a2) a3) = true → boundP a1.2.length) := hp _ (List.mem_cons_of_mem _ (List.mem_cons_self ..))
  have n2 : ((!(row_Write_k0 a0 a1 a2 a3)) = true → (!(row_Write_k1 a0 a1 a2 a3)) = true → (!!cell_Good_0 (policy_Of_0 a0 a2) a3) = true → (0 : Int) ≤ a2 ∧ a2 < (↑a1.2.length : Int)) := hp _ (List.mem_cons_of_mem _ (List.mem_cons_of_mem _ (List.mem_cons_self ..)))
  have n3 : ((!(row_Write_k0 a0 a1 a2 a3)) = true → (!(row_Write_k1 a0 a1 a2 a3)) = true → (!!cell_Good_0 (policy_Of_0 a0 a2) a3) = true → a2.toNat < a1.2.length) := by intro h0 h1 h2; have g := n2 h0 h1 h2; omega
  exact evF_ok (envP_ok Cs_5_ok L0_ok) (row_Write_ev a0 a1 a2 a3) (needs_cons n0 (needs_cons n1 (needs_cons n2 (needs_cons n3 (needs_cons n2 (needs_cons n3 needs_nil))))))

def wrK (l : List TGroup) (r : TRow) (g : Int) (c : TCell) : ByteArray := bif wrE l r g c == 0 then r.key else ⟨#[]⟩

def wrL (l : List TGroup) (r : TRow) (g : Int) (c : TCell) : List TCell := bif wrE l r g c == 0 then wrCs r.cells g.toNat c else []

def row_Write_r2 (a0 : List TGroup) (a1 : TRow) (a2 : Int) (a3 : TCell) : A := .tup [.agg [.v (.string (wrK a0 a1 a2 a3)), .sq 0], .v (.int .i64 (wrE a0 a1 a2 a3))]

def row_Write_o2 (a0 : List TGroup) (a1 : TRow) (a2 : Int) (a3 : TCell) : Objs := [(0, some (.arr 55 8 (.ty .cell (wrL a0 a1 a2 a3))))]

def row_Write_ps2 (_a0 : List TGroup) (_a1 : TRow) (_a2 : Int) (_a3 : TCell) : List Prop := []

theorem row_Write_c2 (a0 : List TGroup) (a1 : TRow) (a2 : Int) (a3 : TCell) (_hp : ∀ p ∈ row_Write_ps2 a0 a1 a2 a3, p) : CallOk Try.prog 72 [.sl .group a0, valA .row a1, valA .i64 a2, valA .cell a3] 0 [] 1 (row_Write_r2 a0 a1 a2 a3) 1 (row_Write_o2 a0 a1 a2 a3) := by
  have hgood : (!(row_Write_k0 a0 a1 a2 a3)) = true → goodRow a0 a1 = 0 := fun h => by
    have h' : (!(goodRow a0 a1 != 0)) = true := h
    simpa using h'
  have h4 : goodRow a0 a1 = 0 → a1.cells.length = a0.length ∧ a0.length ≤ 4 := fun g => ⟨(goodRow_0 g).2.1, (goodP_0 (goodRow_0 g).1).2⟩
  have hin : (!policy_Of_k0 a0 a2) = true → 0 ≤ a2 ∧ a2 < (a0.length : Int) := fun h => by
    have h' : (!(decide (a2 < 0) || decide (a2 ≥ (a0.length : Int)))) = true := h
    rw [Bool.not_or, Bool.and_eq_true, Bool.not_eq_true', Bool.not_eq_true'] at h'
    have := of_decide_eq_false h'.1
    have := of_decide_eq_false h'.2
    omega
  have k1 : goodRow a0 a1 = 0 → row_Write_k1 a0 a1 a2 a3 = policy_Of_k0 a0 a2 := fun g => by
    have hp : (goodP a0 != 0) = false := by rw [(goodRow_0 g).1]; rfl
    have e1 : policy_Of_1 a0 a2 = bif policy_Of_k0 a0 a2 then 70 else 0 := by
      unfold policy_Of_1 policy_Of_k1
      rw [hp]
      rfl
    unfold row_Write_k1
    rw [e1]
    cases policy_Of_k0 a0 a2 <;> rfl
  have h := row_Write_c a0 a1 a2 a3 (needs_cons (fun _ _ g => hin g) (needs_cons (fun g _ _ => by
      obtain ⟨q1, q2⟩ := h4 (hgood g)
      show boundP a1.cells.length
      unfold boundP
      omega) (needs_cons (fun g g1 _ => by
      obtain ⟨q1, q2⟩ := h4 (hgood g)
      rw [k1 (hgood g)] at g1
      have := hin g1
      show (0 : Int) ≤ a2 ∧ a2 < (a1.cells.length : Int)
      omega) needs_nil)))
  have e : row_Write_0 a0 a1 a2 a3 = wrK a0 a1 a2 a3 ∧ row_Write_1 a0 a1 a2 a3 = wrE a0 a1 a2 a3 ∧ row_Write_2 a0 a1 a2 a3 = wrL a0 a1 a2 a3 := by
    have k0 : row_Write_k0 a0 a1 a2 a3 = (goodRow a0 a1 != 0) := rfl
    unfold row_Write_0 row_Write_1 row_Write_2 wrK wrL wrE
    rw [k0]
    cases g1 : goodRow a0 a1 != 0 with
    | true =>
      have : (goodRow a0 a1 == 0) = false := by simpa using g1
      simp only [cond_true, this]
      refine ⟨?_, ?_, ?_⟩ <;> first | rfl | trivial
    | false =>
      have g0 : goodRow a0 a1 = 0 := by simpa using g1
      have hp : (goodP a0 != 0) = false := by rw [(goodRow_0 g0).1]; rfl
      have e1 : policy_Of_1 a0 a2 = bif policy_Of_k0 a0 a2 then 70 else 0 := by
        unfold policy_Of_1 policy_Of_k1
        rw [hp]
        rfl
      have kk : policy_Of_k0 a0 a2 = (decide (a2 < 0) || decide (a2 ≥ (a0.length : Int))) := rfl
      rw [k1 g0, e1, ← kk]
      cases g2 : policy_Of_k0 a0 a2 with
      | true => refine ⟨?_, ?_, ?_⟩ <;> first | rfl | trivial
      | false =>
        have e0 : policy_Of_0 a0 a2 = polN a0 a2.toNat := by
          unfold policy_Of_0 policy_Of_k1
          rw [hp, g2]
          rfl
        rw [e0, cell_Good_eq]
        cases goodC (polN a0 a2.toNat) a3 <;> refine ⟨?_, ?_, ?_⟩ <;> first | rfl | trivial
  unfold row_Write_r row_Write_o at h
  rw [e.1, e.2.1, e.2.2] at h
  exact h

def row_Write_t : List A → Nat → Objs → Option CRes
  | [y0, y1, y2, y3], nx, o => match argL .group y0, argU .row y1, argU .i64 y2, argU .cell y3 with
    | some a0, some (a1, p1), some (a2, p2), some (a3, p3) => some (1, (row_Write_r2 a0 a1 a2 a3).pk (shiftR nx), nx + 1, shiftO nx (row_Write_o2 a0 a1 a2 a3) ++ o, p1 ++ (p2 ++ (p3 ++ (row_Write_ps2 a0 a1 a2 a3))))
    | _, _, _, _ => none
  | _, _, _ => none

theorem row_Write_tok : TOk Try.prog 72 row_Write_t := fun args nx o k x nx' o' ps h => by
  unfold row_Write_t at h
  split at h <;> first | (cases h; done) | skip
  split at h <;> first | (cases h; done) | skip
  rename_i a0 a1 p1 a2 p2 a3 p3 e0 e1 e2 e3
  cases h
  refine ⟨fun hp => ?_, _, rfl⟩
  have q1 := fun p hm => hp p (List.mem_append.2 (.inl hm))
  have r1 := fun p hm => hp p (List.mem_append.2 (.inr hm))
  have q2 := fun p hm => r1 p (List.mem_append.2 (.inl hm))
  have r2 := fun p hm => r1 p (List.mem_append.2 (.inr hm))
  have q3 := fun p hm => r2 p (List.mem_append.2 (.inl hm))
  have r3 := fun p hm => r2 p (List.mem_append.2 (.inr hm))
  refine callOk_args (callOk_shift (row_Write_c2 a0 a1 a2 a3 r3) (Nat.le_refl _) (freeL_cons rfl (freeL_cons (valA_free _ _) (freeL_cons (valA_free _ _) (freeL_cons (valA_free _ _) freeL_nil)))) nx o) fun F N R vs hl => ?_
  obtain ⟨v0, w0, rfl, h0, hl⟩ := hl.inv
  obtain ⟨v1, w1, rfl, h1, hl⟩ := hl.inv
  obtain ⟨v2, w2, rfl, h2, hl⟩ := hl.inv
  obtain ⟨v3, w3, rfl, h3, hl⟩ := hl.inv
  exact HL.cons (argL_ok e0 h0) (HL.cons (argU_ok e1 q1 h1) (HL.cons (argU_ok e2 q2 h2) (HL.cons (argU_ok e3 q3 h3) (hl))))

noncomputable def Cs_6 := addC 72 row_Write_t Cs_5

theorem Cs_6_ok : COk Try.prog Cs_6 := addC_ok row_Write_tok Cs_5_ok

noncomputable def Cs := Cs_6

theorem Cs_ok : COk Try.prog Cs := Cs_6_ok

end Go.Proofs.Yteebobbhhgmeiaa

namespace Go.Proofs.Yteebobbhhgmeiaa

open Go.RowKit

abbrev l10_RowApart_l0_X : Type := Int × Int × TTwo × ByteArray × (List TCell)

def l10_RowApart_l0_T (x : l10_RowApart_l0_X) : St := ⟨135, 5, [(3, .own 0 0), (5, .own 3 0), (70, .v (.int .i64 x.1)), (71, .v (.int .i64 x.2.1))], [(0, some (.box 112 [.v (.string x.2.2.1.row.key), .sl .cell x.2.2.1.row.cells, .v (.int .i64 x.2.2.1.group), .v (.int .i64 x.2.2.1.cell.stamp.n), .v (.int .i64 x.2.2.1.cell.stamp.site), .v (.int .i64 x.2.2.1.cell.vec.a), .v (.int .i64 x.2.2.1.cell.vec.b), .v (.bool x.2.2.1.cell.gone), .v (.string x.2.2.1.cell.value), .v (.int .i64 x.2.2.1.cell.dead.a), .v (.int .i64 x.2.2.1.cell.dead.b)])), (3, some (.box 71 [.v (.string x.2.2.2.1), .sq 4])), (4, some (.arr 55 8 (.ty .cell x.2.2.2.2)))]⟩

def l10_RowApart_l0_un : St → Option l10_RowApart_l0_X
  | ⟨135, 5, [(3, .own 0 0), (5, .own 3 0), (70, .v (.int .i64 z0)), (71, .v (.int .i64 z1))], [(0, some (.box 112 [.v (.string z2), .sl .cell z3, .v (.int .i64 z4), .v (.int .i64 z5), .v (.int .i64 z6), .v (.int .i64 z7), .v (.int .i64 z8), .v (.bool z9), .v (.string z10), .v (.int .i64 z11), .v (.int .i64 z12)])), (3, some (.box 71 [.v (.string z13), .sq 4])), (4, some (.arr 55 8 (.ty .cell z14)))]⟩ => some (z0, z1, ⟨⟨z2, z3⟩, z4, ⟨⟨z5, z6⟩, ⟨z7, z8⟩, z9, z10, ⟨z11, z12⟩⟩⟩, z13, z14)
  | _ => none

theorem l10_RowApart_l0_unok : ∀ s x, l10_RowApart_l0_un s = some x → s = l10_RowApart_l0_T x := fun s x h => by
  unfold l10_RowApart_l0_un at h
  split at h
  · cases h; rfl
  · cases h

def l10_RowApart_l0_S : Shape := ⟨4, 5, [3, 5, 70, 71], [], [(0, 0), (3, 3), (4, 4)], [0, 3, 4], [4], [0, 3, 4]⟩

def l10_RowApart_l0_E : Entry := ⟨[], [(0, 0), (3, 3), (2, 4)], [3, 5, 70, 71], [0, 3, 2]⟩

def l10_RowApart_l0_f_k2 (_a0 : Int) (a1 : Int) (a2 : TTwo) (_a3 : ByteArray) (a4 : List TCell) : List TCell := bif a1 == a2.2 then a4 else a4

def l10_RowApart_l0_f_k1 (_a0 : Int) (a1 : Int) (a2 : TTwo) (_a3 : ByteArray) (_a4 : List TCell) : List TCell := bif a1 == a2.2 then a2.1.2 else a2.1.2

def l10_RowApart_l0_f_k0 (a0 : Int) (a1 : Int) (a2 : TTwo) (a3 : ByteArray) (a4 : List TCell) : Bool := !!decide (a1 < a0) && !eqC ((l10_RowApart_l0_f_k2 a0 a1 a2 a3 a4).getD a1.toNat (dflt TC.cell)) (TCell.mk (TStamp.mk (bif a1 == a2.2 then (joinC (a2.1.2.getD a1.toNat (dflt TC.cell)) a2.3).1.1 else (a2.1.2.getD a1.toNat (dflt TC.cell)).1.1) (bif a1 == a2.2 then (joinC (a2.1.2.getD a1.toNat (dflt TC.cell)) a2.3).1.2 else (a2.1.2.getD a1.toNat (dflt TC.cell)).1.2)) (TVec.mk (bif a1 == a2.2 then (joinC (a2.1.2.getD a1.toNat (dflt TC.cell)) a2.3).2.1 else (a2.1.2.getD a1.toNat (dflt TC.cell)).2.1) (bif a1 == a2.2 then (joinC (a2.1.2.getD a1.toNat (dflt TC.cell)) a2.3).2.2 else (a2.1.2.getD a1.toNat (dflt TC.cell)).2.2)) (bif a1 == a2.2 then (joinC (a2.1.2.getD a1.toNat (dflt TC.cell)) a2.3).3 else (a2.1.2.getD a1.toNat (dflt TC.cell)).3) (bif a1 == a2.2 then (joinC (a2.1.2.getD a1.toNat (dflt TC.cell)) a2.3).4 else (a2.1.2.getD a1.toNat (dflt TC.cell)).4) (TVec.mk (bif a1 == a2.2 then (joinC (a2.1.2.getD a1.toNat (dflt TC.cell)) a2.3).5.1 else (a2.1.2.getD a1.toNat (dflt TC.cell)).5.1) (bif a1 == a2.2 then (joinC (a2.1.2.getD a1.toNat (dflt TC.cell)) a2.3).5.2 else (a2.1.2.getD a1.toNat (dflt TC.cell)).5.2)))

def l10_RowApart_l0_f_2 (a0 : Int) (a1 : Int) (a2 : TTwo) (a3 : ByteArray) (a4 : List TCell) : TTwo := TTwo.mk (TRow.mk (bif a1 == a2.2 then a2.1.1 else a2.1.1) (l10_RowApart_l0_f_k1 a0 a1 a2 a3 a4)) (bif a1 == a2.2 then a2.2 else a2.2) (TCell.mk (TStamp.mk (bif a1 == a2.2 then a2.3.1.1 else a2.3.1.1) (bif a1 == a2.2 then a2.3.1.2 else a2.3.1.2)) (TVec.mk (bif a1 == a2.2 then a2.3.2.1 else a2.3.2.1) (bif a1 == a2.2 then a2.3.2.2 else a2.3.2.2)) (bif a1 == a2.2 then a2.3.3 else a2.3.3) (bif a1 == a2.2 then a2.3.4 else a2.3.4) (TVec.mk (bif a1 == a2.2 then a2.3.5.1 else a2.3.5.1) (bif a1 == a2.2 then a2.3.5.2 else a2.3.5.2)))

def l10_RowApart_l0_f_3 (_a0 : Int) (a1 : Int) (a2 : TTwo) (a3 : ByteArray) (_a4 : List TCell) : ByteArray := bif a1 == a2.2 then a3 else a3

def l10_RowApart_l0_f_4 (a0 : Int) (a1 : Int) (a2 : TTwo) (a3 : ByteArray) (a4 : List TCell) : List TCell := (l10_RowApart_l0_f_k2 a0 a1 a2 a3 a4)

def l10_RowApart_l0_f_5 (a0 : Int) (a1 : Int) (a2 : TTwo) (a3 : ByteArray) (a4 : List TCell) : Bool := !!decide (a1 < a0) && !(l10_RowApart_l0_f_k0 a0 a1 a2 a3 a4)

def l10_RowApart_l0_f_24 (_a0 : Int) (a1 : Int) (a2 : TTwo) (_a3 : ByteArray) (_a4 : List TCell) : ByteArray := bif a1 == a2.2 then a2.1.1 else a2.1.1

def l10_RowApart_l0_f_25 (a0 : Int) (a1 : Int) (a2 : TTwo) (a3 : ByteArray) (a4 : List TCell) : List TCell := (l10_RowApart_l0_f_k1 a0 a1 a2 a3 a4)

def l10_RowApart_l0_f_27 (_a0 : Int) (a1 : Int) (a2 : TTwo) (_a3 : ByteArray) (_a4 : List TCell) : Int := bif a1 == a2.2 then a2.3.1.1 else a2.3.1.1

def l10_RowApart_l0_f_28 (_a0 : Int) (a1 : Int) (a2 : TTwo) (_a3 : ByteArray) (_a4 : List TCell) : Int := bif a1 == a2.2 then a2.3.1.2 else a2.3.1.2

def l10_RowApart_l0_f_29 (_a0 : Int) (a1 : Int) (a2 : TTwo) (_a3 : ByteArray) (_a4 : List TCell) : Int := bif a1 == a2.2 then a2.3.2.1 else a2.3.2.1

def l10_RowApart_l0_f_30 (_a0 : Int) (a1 : Int) (a2 : TTwo) (_a3 : ByteArray) (_a4 : List TCell) : Int := bif a1 == a2.2 then a2.3.2.2 else a2.3.2.2

def l10_RowApart_l0_f_32 (_a0 : Int) (a1 : Int) (a2 : TTwo) (_a3 : ByteArray) (_a4 : List TCell) : ByteArray := bif a1 == a2.2 then a2.3.4 else a2.3.4

def l10_RowApart_l0_f_33 (_a0 : Int) (a1 : Int) (a2 : TTwo) (_a3 : ByteArray) (_a4 : List TCell) : Int := bif a1 == a2.2 then a2.3.5.1 else a2.3.5.1

def l10_RowApart_l0_f_34 (_a0 : Int) (a1 : Int) (a2 : TTwo) (_a3 : ByteArray) (_a4 : List TCell) : Int := bif a1 == a2.2 then a2.3.5.2 else a2.3.5.2

def l10_RowApart_l0_f_35 (_a0 : Int) (a1 : Int) (a2 : TTwo) (a3 : ByteArray) (_a4 : List TCell) : ByteArray := bif a1 == a2.2 then a3 else a3

def l10_RowApart_l0_f_36 (a0 : Int) (a1 : Int) (a2 : TTwo) (a3 : ByteArray) (a4 : List TCell) : List TCell := (l10_RowApart_l0_f_k2 a0 a1 a2 a3 a4)

def l10_RowApart_l0_next (x : l10_RowApart_l0_X) : l10_RowApart_l0_X := (x.1, IntKind.i64.wrap (x.2.1 + (1 : Int)), l10_RowApart_l0_f_2 x.1 x.2.1 x.2.2.1 x.2.2.2.1 x.2.2.2.2, l10_RowApart_l0_f_3 x.1 x.2.1 x.2.2.1 x.2.2.2.1 x.2.2.2.2, l10_RowApart_l0_f_4 x.1 x.2.1 x.2.2.1 x.2.2.2.1 x.2.2.2.2)

def l10_RowApart_l0_goes (x : l10_RowApart_l0_X) : Cnd := some (l10_RowApart_l0_f_5 x.1 x.2.1 x.2.2.1 x.2.2.2.1 x.2.2.2.2)

def l10_RowApart_l0_psA (x : l10_RowApart_l0_X) : List Prop := [((!!decide (x.2.1 < x.1)) = true → (0 : Int) ≤ x.2.1 ∧ x.2.1 < (↑x.2.2.1.1.2.length : Int)), ((!!decide (x.2.1 < x.1)) = true → (0 : Int) ≤ x.2.1 ∧ x.2.1 < (↑(l10_RowApart_l0_f_k2 x.1 x.2.1 x.2.2.1 x.2.2.2.1 x.2.2.2.2).length : Int)), ((!!decide (x.2.1 < x.1)) = true → x.2.1.toNat < (l10_RowApart_l0_f_k2 x.1 x.2.1 x.2.2.1 x.2.2.2.1 x.2.2.2.2).length)]

def l10_RowApart_l0_ps (x : l10_RowApart_l0_X) : List Prop := [((!!decide (x.2.1 < x.1)) = true → (0 : Int) ≤ x.2.1 ∧ x.2.1 < (↑x.2.2.1.1.2.length : Int)), ((!!decide (x.2.1 < x.1)) = true → (0 : Int) ≤ x.2.1 ∧ x.2.1 < (↑(l10_RowApart_l0_f_k2 x.1 x.2.1 x.2.2.1 x.2.2.2.1 x.2.2.2.2).length : Int))]

def l10_RowApart_l0_outs (x : l10_RowApart_l0_X) : Outs := [(some 0, some (!decide (x.2.1 < x.1)), ⟨135, 5, [(4, .dead)], [(0, some (.box 112 [.v (.string x.2.2.1.1.1), .sl .cell x.2.2.1.1.2, .v (.int .i64 x.2.2.1.2), .v (.int .i64 x.2.2.1.3.1.1), .v (.int .i64 x.2.2.1.3.1.2), .v (.int .i64 x.2.2.1.3.2.1), .v (.int .i64 x.2.2.1.3.2.2), .v (.bool x.2.2.1.3.3), .v (.string x.2.2.1.3.4), .v (.int .i64 x.2.2.1.3.5.1), .v (.int .i64 x.2.2.1.3.5.2)])), (3, some (.box 71 [.v (.string x.2.2.2.1), .sq 4])), (4, some (.arr 55 8 (.ty .cell x.2.2.2.2)))]⟩), (none, some ((l10_RowApart_l0_f_k0 x.1 x.2.1 x.2.2.1 x.2.2.2.1 x.2.2.2.2)), ⟨135, 7, [(4, .v (.bool (false)))], [(0, some (.box 112 [.v (.string (l10_RowApart_l0_f_24 x.1 x.2.1 x.2.2.1 x.2.2.2.1 x.2.2.2.2)), .sl .cell (l10_RowApart_l0_f_25 x.1 x.2.1 x.2.2.1 x.2.2.2.1 x.2.2.2.2), .v (.int .i64 (bif x.2.1 == x.2.2.1.2 then x.2.2.1.2 else x.2.2.1.2)), .v (.int .i64 (l10_RowApart_l0_f_27 x.1 x.2.1 x.2.2.1 x.2.2.2.1 x.2.2.2.2)), .v (.int .i64 (l10_RowApart_l0_f_28 x.1 x.2.1 x.2.2.1 x.2.2.2.1 x.2.2.2.2)), .v (.int .i64 (l10_RowApart_l0_f_29 x.1 x.2.1 x.2.2.1 x.2.2.2.1 x.2.2.2.2)), .v (.int .i64 (l10_RowApart_l0_f_30 x.1 x.2.1 x.2.2.1 x.2.2.2.1 x.2.2.2.2)), .v (.bool (bif x.2.1 == x.2.2.1.2 then x.2.2.1.3.3 else x.2.2.1.3.3)), .v (.string (l10_RowApart_l0_f_32 x.1 x.2.1 x.2.2.1 x.2.2.2.1 x.2.2.2.2)), .v (.int .i64 (l10_RowApart_l0_f_33 x.1 x.2.1 x.2.2.1 x.2.2.2.1 x.2.2.2.2)), .v (.int .i64 (l10_RowApart_l0_f_34 x.1 x.2.1 x.2.2.1 x.2.2.2.1 x.2.2.2.2))])), (3, some (.box 71 [.v (.string (l10_RowApart_l0_f_35 x.1 x.2.1 x.2.2.1 x.2.2.2.1 x.2.2.2.2)), .sq 4])), (4, some (.arr 55 8 (.ty .cell (l10_RowApart_l0_f_36 x.1 x.2.1 x.2.2.1 x.2.2.2.1 x.2.2.2.2))))]⟩)]

def l10_RowApart_l0_fuel (x : l10_RowApart_l0_X) : Nat := (x.1 - x.2.1).toNat

def l10_RowApart_l0_run (x : l10_RowApart_l0_X) : l10_RowApart_l0_X := iterX l10_RowApart_l0_next l10_RowApart_l0_goes (l10_RowApart_l0_fuel x) x

set_option maxRecDepth 100000 in
theorem l10_RowApart_l0_ev (a0 : Int) (a1 : Int) (a2 : TTwo) (a3 : ByteArray) (a4 : List TCell) : roundE (envT Cs L0) 9 (loopAt Try.prog 16 0) l10_RowApart_l0_S (l10_RowApart_l0_T (a0, a1, a2, a3, a4)) = some (l10_RowApart_l0_psA (a0, a1, a2, a3, a4), l10_RowApart_l0_outs (a0, a1, a2, a3, a4), l10_RowApart_l0_goes (a0, a1, a2, a3, a4), l10_RowApart_l0_T (l10_RowApart_l0_next (a0, a1, a2, a3, a4))) := by kernel_rfl

set_option maxRecDepth 100000 in
theorem l10_RowApart_l0_hA (a0 : Int) (a1 : Int) (a2 : TTwo) (a3 : ByteArray) (a4 : List TCell) (hp : ∀ p ∈ l10_RowApart_l0_ps (a0, a1, a2, a3, a4), p) : ∀ p ∈ l10_RowApart_l0_psA (a0, a1, a2, a3, a4), p := by
  have n0 : ((!!decide (a1 < a0)) = true → (0 : Int) ≤ a1 ∧ a1 < (↑a2.1.2.length : Int)) := hp _ (List.mem_cons_self ..)
  have n1 : ((!!decide (a1 < a0)) = true → (0 : Int) ≤ a1 ∧ a1 < (↑(l10_RowApart_l0_f_k2 a0 a1 a2 a3 a4).length : Int)) := hp _ (List.mem_cons_of_mem _ (List.mem_cons_self ..))
  have n2 : ((!!decide (a1 < a0)) = true → a1.toNat < (l10_RowApart_l0_f_k2 a0 a1 a2 a3 a4).length) := by intro h0; have g := n1 h0; omega
  exact (needs_cons n0 (needs_cons n1 (needs_cons n2 needs_nil)))

noncomputable def l10_RowApart_l0_row := rowL (envT Cs L0) (loopAt Try.prog 16 0) l10_RowApart_l0_S l10_RowApart_l0_E l10_RowApart_l0_un l10_RowApart_l0_fuel l10_RowApart_l0_next l10_RowApart_l0_goes l10_RowApart_l0_ps l10_RowApart_l0_outs

theorem l10_RowApart_l0_rok : ∀ s b ps outs, l10_RowApart_l0_row s = some (b, ps, outs) → Wf s ⟨ps, outs, none⟩ ∧ LoopOk (envT C0 L0) b s ps outs :=
  rowP_ok (T := l10_RowApart_l0_T) Cs_ok L0_ok (u := 9) (by kernel_rfl) (by decide) (fun ⟨a0, a1, a2, a3, a4⟩ => l10_RowApart_l0_ev a0 a1 a2 a3 a4) (fun ⟨a0, a1, a2, a3, a4⟩ => l10_RowApart_l0_hA a0 a1 a2 a3 a4) l10_RowApart_l0_unok (fun _ => okOuts_ok (n := 135) rfl) fun _ _ => rfl

noncomputable def l10_RowApart_l0_L := addLp 0 l10_RowApart_l0_row L0

theorem l10_RowApart_l0_Lok : LpOk l10_RowApart_l0_L := addLp_ok l10_RowApart_l0_rok L0_ok

def l10_RowApart_k6 (a0 : List TGroup) (a1 : TTwo) : Bool := wrE a0 a1.1 a1.2 a1.3 != (0 : Int)

def l10_RowApart_k5 (a0 : List TGroup) (a1 : TTwo) : Bool := !l10_light_0 a0 [a1.1] || decide ((↑a1.3.4.size : Int) > (1000 : Int))

def l10_RowApart_k4 (a0 : List TGroup) (a1 : TTwo) : Bool := !(wrK a0 a1.1 a1.2 a1.3).toList == a1.1.1.toList || (↑(wrL a0 a1.1 a1.2 a1.3).length : Int) != (↑a1.1.2.length : Int)

def l10_RowApart_k3 (a0 : List TGroup) (a1 : TTwo) : TRow := TRow.mk (l10_RowApart_l0_run ((↑(wrL a0 a1.1 a1.2 a1.3).length : Int), (0 : Int), a1, wrK a0 a1.1 a1.2 a1.3, wrL a0 a1.1 a1.2 a1.3)).snd.snd.snd.fst (l10_RowApart_l0_run ((↑(wrL a0 a1.1 a1.2 a1.3).length : Int), (0 : Int), a1, wrK a0 a1.1 a1.2 a1.3, wrL a0 a1.1 a1.2 a1.3)).snd.snd.snd.snd

def l10_RowApart_k2 (a0 : List TGroup) (a1 : TTwo) : List TCell := wrL a0 (l10_RowApart_k3 a0 a1) (l10_RowApart_l0_run ((↑(wrL a0 a1.1 a1.2 a1.3).length : Int), (0 : Int), a1, wrK a0 a1.1 a1.2 a1.3, wrL a0 a1.1 a1.2 a1.3)).snd.snd.fst.2 (l10_RowApart_l0_run ((↑(wrL a0 a1.1 a1.2 a1.3).length : Int), (0 : Int), a1, wrK a0 a1.1 a1.2 a1.3, wrL a0 a1.1 a1.2 a1.3)).snd.snd.fst.3

def l10_RowApart_k1 (a0 : List TGroup) (a1 : TTwo) : Bool := l10_RowApart_l0_f_k0 (l10_RowApart_l0_run ((↑(wrL a0 a1.1 a1.2 a1.3).length : Int), (0 : Int), a1, wrK a0 a1.1 a1.2 a1.3, wrL a0 a1.1 a1.2 a1.3)).fst (l10_RowApart_l0_run ((↑(wrL a0 a1.1 a1.2 a1.3).length : Int), (0 : Int), a1, wrK a0 a1.1 a1.2 a1.3, wrL a0 a1.1 a1.2 a1.3)).snd.fst (l10_RowApart_l0_run ((↑(wrL a0 a1.1 a1.2 a1.3).length : Int), (0 : Int), a1, wrK a0 a1.1 a1.2 a1.3, wrL a0 a1.1 a1.2 a1.3)).snd.snd.fst (l10_RowApart_l0_run ((↑(wrL a0 a1.1 a1.2 a1.3).length : Int), (0 : Int), a1, wrK a0 a1.1 a1.2 a1.3, wrL a0 a1.1 a1.2 a1.3)).snd.snd.snd.fst (l10_RowApart_l0_run ((↑(wrL a0 a1.1 a1.2 a1.3).length : Int), (0 : Int), a1, wrK a0 a1.1 a1.2 a1.3, wrL a0 a1.1 a1.2 a1.3)).snd.snd.snd.snd

def l10_RowApart_k0 (a0 : List TGroup) (a1 : TTwo) : Bool := jnE a0 (l10_RowApart_k3 a0 a1) (l10_RowApart_l0_run ((↑(wrL a0 a1.1 a1.2 a1.3).length : Int), (0 : Int), a1, wrK a0 a1.1 a1.2 a1.3, wrL a0 a1.1 a1.2 a1.3)).snd.snd.fst.1 == (0 : Int) && wrE a0 (l10_RowApart_k3 a0 a1) (l10_RowApart_l0_run ((↑(wrL a0 a1.1 a1.2 a1.3).length : Int), (0 : Int), a1, wrK a0 a1.1 a1.2 a1.3, wrL a0 a1.1 a1.2 a1.3)).snd.snd.fst.2 (l10_RowApart_l0_run ((↑(wrL a0 a1.1 a1.2 a1.3).length : Int), (0 : Int), a1, wrK a0 a1.1 a1.2 a1.3, wrL a0 a1.1 a1.2 a1.3)).snd.snd.fst.3 == (0 : Int) && eqRw (TRow.mk (jnK a0 (l10_RowApart_k3 a0 a1) (l10_RowApart_l0_run ((↑(wrL a0 a1.1 a1.2 a1.3).length : Int), (0 : Int), a1, wrK a0 a1.1 a1.2 a1.3, wrL a0 a1.1 a1.2 a1.3)).snd.snd.fst.1) (jnL a0 (l10_RowApart_k3 a0 a1) (l10_RowApart_l0_run ((↑(wrL a0 a1.1 a1.2 a1.3).length : Int), (0 : Int), a1, wrK a0 a1.1 a1.2 a1.3, wrL a0 a1.1 a1.2 a1.3)).snd.snd.fst.1)) (l10_RowApart_k3 a0 a1)

def l10_RowApart_0 (a0 : List TGroup) (a1 : TTwo) : Bool := bif (l10_RowApart_k5 a0 a1) then true else bif (l10_RowApart_k6 a0 a1) then (↑(wrL a0 a1.1 a1.2 a1.3).length : Int) == (0 : Int) && (wrK a0 a1.1 a1.2 a1.3).toList == (ByteArray.mk #[]).toList && true else bif (l10_RowApart_k4 a0 a1) then false else bif (l10_RowApart_k1 a0 a1) then false else (l10_RowApart_k0 a0 a1) && eqRw (TRow.mk (wrK a0 (l10_RowApart_k3 a0 a1) (l10_RowApart_l0_run ((↑(wrL a0 a1.1 a1.2 a1.3).length : Int), (0 : Int), a1, wrK a0 a1.1 a1.2 a1.3, wrL a0 a1.1 a1.2 a1.3)).snd.snd.fst.2 (l10_RowApart_l0_run ((↑(wrL a0 a1.1 a1.2 a1.3).length : Int), (0 : Int), a1, wrK a0 a1.1 a1.2 a1.3, wrL a0 a1.1 a1.2 a1.3)).snd.snd.fst.3) (l10_RowApart_k2 a0 a1)) (l10_RowApart_k3 a0 a1) && true

def l10_RowApart_r (a0 : List TGroup) (a1 : TTwo) : A := .v (.bool (l10_RowApart_0 a0 a1))

def l10_RowApart_o (_a0 : List TGroup) (_a1 : TTwo) : Objs := []

def l10_RowApart_ps (a0 : List TGroup) (a1 : TTwo) : List Prop := [(wideN a0.length ∧ wideN (1 : Nat) ∧ ∀ (r : TRow), r ∈ [a1.1] → wideN r.1.size ∧ wideN r.2.length ∧ ∀ (c : TCell), c ∈ r.2 → wideN c.4.size), ((!(l10_RowApart_k5 a0 a1)) = true → (!(l10_RowApart_k6 a0 a1)) = true → (!(l10_RowApart_k4 a0 a1)) = true → needX l10_RowApart_l0_next l10_RowApart_l0_goes l10_RowApart_l0_ps (l10_RowApart_l0_fuel ((↑(wrL a0 a1.1 a1.2 a1.3).length : Int), (0 : Int), a1, wrK a0 a1.1 a1.2 a1.3, wrL a0 a1.1 a1.2 a1.3)) ((↑(wrL a0 a1.1 a1.2 a1.3).length : Int), (0 : Int), a1, wrK a0 a1.1 a1.2 a1.3, wrL a0 a1.1 a1.2 a1.3)), ((!(l10_RowApart_k5 a0 a1)) = true → (!(l10_RowApart_k6 a0 a1)) = true → (!(l10_RowApart_k4 a0 a1)) = true → (!(l10_RowApart_k1 a0 a1)) = true → (jnE a0 (l10_RowApart_k3 a0 a1) (l10_RowApart_l0_run ((↑(wrL a0 a1.1 a1.2 a1.3).length : Int), (0 : Int), a1, wrK a0 a1.1 a1.2 a1.3, wrL a0 a1.1 a1.2 a1.3)).snd.snd.fst.1 == (0 : Int) && wrE a0 (l10_RowApart_k3 a0 a1) (l10_RowApart_l0_run ((↑(wrL a0 a1.1 a1.2 a1.3).length : Int), (0 : Int), a1, wrK a0 a1.1 a1.2 a1.3, wrL a0 a1.1 a1.2 a1.3)).snd.snd.fst.2 (l10_RowApart_l0_run ((↑(wrL a0 a1.1 a1.2 a1.3).length : Int), (0 : Int), a1, wrK a0 a1.1 a1.2 a1.3, wrL a0 a1.1 a1.2 a1.3)).snd.snd.fst.3 == (0 : Int)) = true → boundP (jnL a0 (l10_RowApart_k3 a0 a1) (l10_RowApart_l0_run ((↑(wrL a0 a1.1 a1.2 a1.3).length : Int), (0 : Int), a1, wrK a0 a1.1 a1.2 a1.3, wrL a0 a1.1 a1.2 a1.3)).snd.snd.fst.1).length), ((!(l10_RowApart_k5 a0 a1)) = true → (!(l10_RowApart_k6 a0 a1)) = true → (!(l10_RowApart_k4 a0 a1)) = true → (!(l10_RowApart_k1 a0 a1)) = true → (l10_RowApart_k0 a0 a1) = true → boundP (l10_RowApart_k2 a0 a1).length)]

set_option maxRecDepth 100000 in
theorem l10_RowApart_ev (a0 : List TGroup) (a1 : TTwo) : evF (envT Cs l10_RowApart_l0_L) 9 16 [.sl .group a0, valA .two a1] 0 [] = some (1, l10_RowApart_r a0 a1, 0, l10_RowApart_o a0 a1, [(wideN a0.length ∧ wideN (1 : Nat) ∧ ∀ (r : TRow), r ∈ [a1.1] → wideN r.1.size ∧ wideN r.2.length ∧ ∀ (c : TCell), c ∈ r.2 → wideN c.4.size), ((!(l10_RowApart_k5 a0 a1)) = true → (!(l10_RowApart_k6 a0 a1)) = true → (!(l10_RowApart_k4 a0 a1)) = true → loopAt Try.prog (16 : FuncId) (0 : Nat) = loopAt Try.prog (16 : FuncId) (0 : Nat)), ((!(l10_RowApart_k5 a0 a1)) = true → (!(l10_RowApart_k6 a0 a1)) = true → (!(l10_RowApart_k4 a0 a1)) = true → needX l10_RowApart_l0_next l10_RowApart_l0_goes l10_RowApart_l0_ps (l10_RowApart_l0_fuel ((↑(wrL a0 a1.1 a1.2 a1.3).length : Int), (0 : Int), a1, wrK a0 a1.1 a1.2 a1.3, wrL a0 a1.1 a1.2 a1.3)) ((↑(wrL a0 a1.1 a1.2 a1.3).length : Int), (0 : Int), a1, wrK a0 a1.1 a1.2 a1.3, wrL a0 a1.1 a1.2 a1.3)), ((!(l10_RowApart_k5 a0 a1)) = true → (!(l10_RowApart_k6 a0 a1)) = true → (!(l10_RowApart_k4 a0 a1)) = true → (!(l10_RowApart_k1 a0 a1)) = true → (jnE a0 (l10_RowApart_k3 a0 a1) (l10_RowApart_l0_run ((↑(wrL a0 a1.1 a1.2 a1.3).length : Int), (0 : Int), a1, wrK a0 a1.1 a1.2 a1.3, wrL a0 a1.1 a1.2 a1.3)).snd.snd.fst.1 == (0 : Int) && wrE a0 (l10_RowApart_k3 a0 a1) (l10_RowApart_l0_run ((↑(wrL a0 a1.1 a1.2 a1.3).length : Int), (0 : Int), a1, wrK a0 a1.1 a1.2 a1.3, wrL a0 a1.1 a1.2 a1.3)).snd.snd.fst.2 (l10_RowApart_l0_run ((↑(wrL a0 a1.1 a1.2 a1.3).length : Int), (0 : Int), a1, wrK a0 a1.1 a1.2 a1.3, wrL a0 a1.1 a1.2 a1.3)).snd.snd.fst.3 == (0 : Int)) = true → boundP (jnL a0 (l10_RowApart_k3 a0 a1) (l10_RowApart_l0_run ((↑(wrL a0 a1.1 a1.2 a1.3).length : Int), (0 : Int), a1, wrK a0 a1.1 a1.2 a1.3, wrL a0 a1.1 a1.2 a1.3)).snd.snd.fst.1).length), ((!(l10_RowApart_k5 a0 a1)) = true → (!(l10_RowApart_k6 a0 a1)) = true → (!(l10_RowApart_k4 a0 a1)) = true → (!(l10_RowApart_k1 a0 a1)) = true → (l10_RowApart_k0 a0 a1) = true → boundP (l10_RowApart_k2 a0 a1).length)]) := by kernel_rfl

set_option maxRecDepth 100000 in
theorem l10_RowApart_c (a0 : List TGroup) (a1 : TTwo) (hp : ∀ p ∈ l10_RowApart_ps a0 a1, p) : CallOk Try.prog 16 [.sl .group a0, valA .two a1] 0 [] 1 (l10_RowApart_r a0 a1) 0 (l10_RowApart_o a0 a1) := by
  have n0 : (wideN a0.length ∧ wideN (1 : Nat) ∧ ∀ (r : TRow), r ∈ [a1.1] → wideN r.1.size ∧ wideN r.2.length ∧ ∀ (c : TCell), c ∈ r.2 → wideN c.4.size) := hp _ (List.mem_cons_self ..)
  have n1 : ((!(l10_RowApart_k5 a0 a1)) = true → (!(l10_RowApart_k6 a0 a1)) = true → (!(l10_RowApart_k4 a0 a1)) = true → loopAt Try.prog (16 : FuncId) (0 : Nat) = loopAt Try.prog (16 : FuncId) (0 : Nat)) := by intros; rfl
  have n2 : ((!(l10_RowApart_k5 a0 a1)) = true → (!(l10_RowApart_k6 a0 a1)) = true → (!(l10_RowApart_k4 a0 a1)) = true → needX l10_RowApart_l0_next l10_RowApart_l0_goes l10_RowApart_l0_ps (l10_RowApart_l0_fuel ((↑(wrL a0 a1.1 a1.2 a1.3).length : Int), (0 : Int), a1, wrK a0 a1.1 a1.2 a1.3, wrL a0 a1.1 a1.2 a1.3)) ((↑(wrL a0 a1.1 a1.2 a1.3).length : Int), (0 : Int), a1, wrK a0 a1.1 a1.2 a1.3, wrL a0 a1.1 a1.2 a1.3)) := hp _ (List.mem_cons_of_mem _ (List.mem_cons_self ..))
  have n3 : ((!(l10_RowApart_k5 a0 a1)) = true → (!(l10_RowApart_k6 a0 a1)) = true → (!(l10_RowApart_k4 a0 a1)) = true → (!(l10_RowApart_k1 a0 a1)) = true → (jnE a0 (l10_RowApart_k3 a0 a1) (l10_RowApart_l0_run ((↑(wrL a0 a1.1 a1.2 a1.3).length : Int), (0 : Int), a1, wrK a0 a1.1 a1.2 a1.3, wrL a0 a1.1 a1.2 a1.3)).snd.snd.fst.1 == (0 : Int) && wrE a0 (l10_RowApart_k3 a0 a1) (l10_RowApart_l0_run ((↑(wrL a0 a1.1 a1.2 a1.3).length : Int), (0 : Int), a1, wrK a0 a1.1 a1.2 a1.3, wrL a0 a1.1 a1.2 a1.3)).snd.snd.fst.2 (l10_RowApart_l0_run ((↑(wrL a0 a1.1 a1.2 a1.3).length : Int), (0 : Int), a1, wrK a0 a1.1 a1.2 a1.3, wrL a0 a1.1 a1.2 a1.3)).snd.snd.fst.3 == (0 : Int)) = true → boundP (jnL a0 (l10_RowApart_k3 a0 a1) (l10_RowApart_l0_run ((↑(wrL a0 a1.1 a1.2 a1.3).length : Int), (0 : Int), a1, wrK a0 a1.1 a1.2 a1.3, wrL a0 a1.1 a1.2 a1.3)).snd.snd.fst.1).length) := hp _ (List.mem_cons_of_mem _ (List.mem_cons_of_mem _ (List.mem_cons_self ..)))
  have n4 : ((!(l10_RowApart_k5 a0 a1)) = true → (!(l10_RowApart_k6 a0 a1)) = true → (!(l10_RowApart_k4 a0 a1)) = true → (!(l10_RowApart_k1 a0 a1)) = true → (l10_RowApart_k0 a0 a1) = true → boundP (l10_RowApart_k2 a0 a1).length) := hp _ (List.mem_cons_of_mem _ (List.mem_cons_of_mem _ (List.mem_cons_of_mem _ (List.mem_cons_self ..))))
  exact evF_ok (envP_ok Cs_ok l10_RowApart_l0_Lok) (l10_RowApart_ev a0 a1) (needs_cons n0 (needs_cons n1 (needs_cons n2 (needs_cons n3 (needs_cons n4 needs_nil)))))

end Go.Proofs.Yteebobbhhgmeiaa

namespace Go.Proofs.Yteebobbhhgmeiaa

open Go.RowKit

theorem cond_same {α : Type} (b : Bool) (x : α) : (bif b then x else x) = x := by cases b <;> rfl

theorem ap_want (b : Bool) (x y : TCell) : TCell.mk (TStamp.mk (bif b then x.1.1 else y.1.1) (bif b then x.1.2 else y.1.2)) (TVec.mk (bif b then x.2.1 else y.2.1) (bif b then x.2.2 else y.2.2)) (bif b then x.3 else y.3) (bif b then x.4 else y.4) (TVec.mk (bif b then x.5.1 else y.5.1) (bif b then x.5.2 else y.5.2)) = bif b then x else y := by cases b <;> rfl

theorem ap_loop (a : TTwo) (key : ByteArray) (ws : List TCell) (hl : ws.length = a.1.2.length) (hn : ws.length ≤ 4) (h0 : 0 ≤ a.2) (heq : ∀ i, i < ws.length → cellN ws i = if i = a.2.toNat then joinC (cellN a.1.2 a.2.toNat) a.3 else cellN a.1.2 i) :
    needX l10_RowApart_l0_next l10_RowApart_l0_goes l10_RowApart_l0_ps (l10_RowApart_l0_fuel ((ws.length : Int), 0, a, key, ws)) ((ws.length : Int), 0, a, key, ws) ∧
    l10_RowApart_l0_run ((ws.length : Int), 0, a, key, ws) = ((ws.length : Int), (ws.length : Int), a, key, ws) := by
  have k2 : ∀ i : Int, l10_RowApart_l0_f_k2 (ws.length : Int) i a key ws = ws := fun i => cond_same _ _
  have f2 : ∀ i : Int, l10_RowApart_l0_f_2 (ws.length : Int) i a key ws = a := fun i => by
    unfold l10_RowApart_l0_f_2 l10_RowApart_l0_f_k1
    simp only [cond_same]
  have f3 : ∀ i : Int, l10_RowApart_l0_f_3 (ws.length : Int) i a key ws = key := fun i => cond_same _ _
  have f4 : ∀ i : Int, l10_RowApart_l0_f_4 (ws.length : Int) i a key ws = ws := fun i => k2 i
  have k0 : ∀ i, i < ws.length → l10_RowApart_l0_f_k0 (ws.length : Int) (i : Int) a key ws = false := fun i hi => by
    unfold l10_RowApart_l0_f_k0
    rw [k2, ap_want, Int.toNat_natCast]
    have e : (bif (i : Int) == a.2 then joinC (a.1.2.getD i (dflt TC.cell)) a.3 else a.1.2.getD i (dflt TC.cell)) = ws.getD i (dflt TC.cell) := by
      have := heq i hi
      unfold cellN at this
      rw [this]
      by_cases h : i = a.2.toNat
      · rw [if_pos h, beq_iff_eq.2 (by omega : (i : Int) = a.2), ← h]
        rfl
      · rw [if_neg h, beq_eq_false_iff_ne.2 (by omega : (i : Int) ≠ a.2)]
        rfl
    rw [e, eqC_iff.2 rfl, Bool.not_true, Bool.and_false]
  obtain ⟨h1, k, hk, hx, _, hst, _⟩ := scanB (fun i => ((ws.length : Int), (i : Int), a, key, ws) : Nat → l10_RowApart_l0_X) ws.length (fun _ => false) l10_RowApart_l0_next l10_RowApart_l0_goes l10_RowApart_l0_ps (l10_RowApart_l0_fuel ((ws.length : Int), 0, a, key, ws)) ((ws.length : Int), 0, a, key, ws) rfl (by show ws.length ≤ ((ws.length : Int) - 0).toNat; omega)
    (fun i hi _ => by
      show (!!decide ((i : Int) < (ws.length : Int)) && !l10_RowApart_l0_f_k0 (ws.length : Int) (i : Int) a key ws) = _
      rw [nn, dlt]
      rcases Nat.lt_or_ge i ws.length with h | h
      · rw [k0 i h]
      · rw [decide_eq_false (by omega), Bool.false_and, Bool.false_and])
    (fun i hi _ => by
      show ((ws.length : Int), IntKind.i64.wrap ((i : Int) + 1), l10_RowApart_l0_f_2 (ws.length : Int) (i : Int) a key ws, l10_RowApart_l0_f_3 (ws.length : Int) (i : Int) a key ws, l10_RowApart_l0_f_4 (ws.length : Int) (i : Int) a key ws) = ((ws.length : Int), ((i + 1 : Nat) : Int), a, key, ws)
      rw [wsucc (by omega), f2, f3, f4])
    (fun i hi _ => by
      have hin : (!!decide ((i : Int) < (ws.length : Int))) = true → i < ws.length := fun h => by rw [nn] at h; have := of_decide_eq_true h; omega
      refine needs_cons (fun h => ⟨by show (0 : Int) ≤ (i : Int); omega, by have := hin h; show (i : Int) < (a.1.2.length : Int); omega⟩) (needs_cons (fun h => ⟨by show (0 : Int) ≤ (i : Int); omega, ?_⟩) needs_nil)
      have := hin h
      show (i : Int) < ((l10_RowApart_l0_f_k2 (ws.length : Int) (i : Int) a key ws).length : Int)
      rw [k2]
      omega)
  have hkn : k = ws.length := by
    rcases Nat.lt_or_ge k ws.length with h | h
    · exact absurd (hst h) (by decide)
    · omega
  subst hkn
  exact ⟨h1, hx⟩

theorem ra_true (a0 : List TGroup) (a1 : TTwo) (w0 : a0.length ≤ maxLen ∧ ∀ y ∈ a0, Wfd .group y) (w1 : Wfd .row a1.1) : (∀ p ∈ l10_RowApart_ps a0 a1, p) ∧ l10_RowApart_0 a0 a1 = true := by
  have hw : wideN a0.length ∧ wideN (1 : Nat) ∧ ∀ r ∈ [a1.1], wideN r.1.size ∧ wideN r.2.length ∧ ∀ c ∈ r.2, wideN c.4.size :=
    ⟨w0.1, by unfold wideN; omega, fun r hr => by rw [List.mem_singleton.1 hr]; exact ⟨w1.1, w1.2.1, fun c hc => (w1.2.2 c hc).2.2.2.1⟩⟩
  have hz : (!(l10_RowApart_k6 a0 a1)) = true → wrE a0 a1.1 a1.2 a1.3 = 0 := fun h => by
    unfold l10_RowApart_k6 at h
    simpa using h
  have main : wrE a0 a1.1 a1.2 a1.3 = 0 → wrK a0 a1.1 a1.2 a1.3 = a1.1.1 ∧ wrL a0 a1.1 a1.2 a1.3 = (wrR a1.1 a1.2.toNat a1.3).2 ∧ (wrR a1.1 a1.2.toNat a1.3).2.length = a1.1.2.length ∧ a1.1.2.length ≤ 4 ∧ goodRow a0 (wrR a1.1 a1.2.toNat a1.3) = 0 ∧
      (needX l10_RowApart_l0_next l10_RowApart_l0_goes l10_RowApart_l0_ps (l10_RowApart_l0_fuel (((wrR a1.1 a1.2.toNat a1.3).2.length : Int), 0, a1, a1.1.1, (wrR a1.1 a1.2.toNat a1.3).2)) (((wrR a1.1 a1.2.toNat a1.3).2.length : Int), 0, a1, a1.1.1, (wrR a1.1 a1.2.toNat a1.3).2) ∧
      l10_RowApart_l0_run (((wrR a1.1 a1.2.toNat a1.3).2.length : Int), 0, a1, a1.1.1, (wrR a1.1 a1.2.toNat a1.3).2) = (((wrR a1.1 a1.2.toNat a1.3).2.length : Int), ((wrR a1.1 a1.2.toNat a1.3).2.length : Int), a1, a1.1.1, (wrR a1.1 a1.2.toNat a1.3).2)) ∧
      jnE a0 (wrR a1.1 a1.2.toNat a1.3) a1.1 = 0 ∧ wrE a0 (wrR a1.1 a1.2.toNat a1.3) a1.2 a1.3 = 0 ∧
      TRow.mk (jnK a0 (wrR a1.1 a1.2.toNat a1.3) a1.1) (jnL a0 (wrR a1.1 a1.2.toNat a1.3) a1.1) = wrR a1.1 a1.2.toNat a1.3 ∧ TRow.mk (wrK a0 (wrR a1.1 a1.2.toNat a1.3) a1.2 a1.3) (wrL a0 (wrR a1.1 a1.2.toNat a1.3) a1.2 a1.3) = wrR a1.1 a1.2.toNat a1.3 := fun h => by
    obtain ⟨g1, g2, g3⟩ := wrE_0.1 h
    have hg : a1.2.toNat < a0.length := by omega
    have hl := (goodRow_0 g1).2.1
    have h4 := (goodP_0 (goodRow_0 g1).1).2
    have hgd := wr_good g1 hg g3
    have hlen : (wrR a1.1 a1.2.toNat a1.3).2.length = a1.1.2.length := wrCs_len _ _ _
    have hl' : a1.1.2.length = a0.length := hl
    have j0 : jnE a0 (wrR a1.1 a1.2.toNat a1.3) a1.1 = 0 := jnE_0.2 ⟨hgd, g1, rfl⟩
    have w0' : wrE a0 (wrR a1.1 a1.2.toNat a1.3) a1.2 a1.3 = 0 := wrE_0.2 ⟨hgd, g2, g3⟩
    refine ⟨by unfold wrK; rw [h]; rfl, by unfold wrL; rw [h]; rfl, hlen, by omega, hgd, ap_loop a1 a1.1.1 _ hlen (by omega) g2.1 (fun i hi => wr_at a1.1.2 a1.2.toNat a1.3 (by omega)), j0, w0', ?_, ?_⟩
    · have := wr_join g1 hg g3
      unfold jnK jnL
      rw [j0]
      exact this
    · have := wr_again g1 hg g3
      unfold wrK wrL
      rw [w0']
      exact this
  have hrun : wrE a0 a1.1 a1.2 a1.3 = 0 → l10_RowApart_l0_run (((wrL a0 a1.1 a1.2 a1.3).length : Int), 0, a1, wrK a0 a1.1 a1.2 a1.3, wrL a0 a1.1 a1.2 a1.3) = (((wrR a1.1 a1.2.toNat a1.3).2.length : Int), ((wrR a1.1 a1.2.toNat a1.3).2.length : Int), a1, a1.1.1, (wrR a1.1 a1.2.toNat a1.3).2) := fun h => by
    obtain ⟨m1, m2, _, _, _, m6, _⟩ := main h
    rw [m1, m2]
    exact m6.2
  have hk3 : wrE a0 a1.1 a1.2 a1.3 = 0 → l10_RowApart_k3 a0 a1 = wrR a1.1 a1.2.toNat a1.3 := fun h => by
    unfold l10_RowApart_k3
    rw [hrun h]
    rfl
  refine ⟨needs_cons hw (needs_cons (fun _ h _ => ?_) (needs_cons (fun _ h _ _ _ => ?_) (needs_cons (fun _ h _ _ _ => ?_) needs_nil))), ?_⟩
  · obtain ⟨m1, m2, _, _, _, m6, _⟩ := main (hz h)
    rw [m1, m2]
    exact m6.1
  · obtain ⟨_, _, m3, m4, _, _, _, _, m9, _⟩ := main (hz h)
    rw [hk3 (hz h), hrun (hz h)]
    have e : jnL a0 (wrR a1.1 a1.2.toNat a1.3) a1.1 = (wrR a1.1 a1.2.toNat a1.3).2 := congrArg TRow.cells m9
    show boundP (jnL a0 (wrR a1.1 a1.2.toNat a1.3) a1.1).length
    rw [e]
    unfold boundP
    omega
  · obtain ⟨_, _, m3, m4, _, _, _, _, _, m10⟩ := main (hz h)
    unfold l10_RowApart_k2
    rw [hk3 (hz h), hrun (hz h)]
    have e : wrL a0 (wrR a1.1 a1.2.toNat a1.3) a1.2 a1.3 = (wrR a1.1 a1.2.toNat a1.3).2 := congrArg TRow.cells m10
    show boundP (wrL a0 (wrR a1.1 a1.2.toNat a1.3) a1.2 a1.3).length
    rw [e]
    unfold boundP
    omega
  · unfold l10_RowApart_0
    cases h5 : l10_RowApart_k5 a0 a1 with
    | true => rfl
    | false =>
      rw [cond_false]
      cases h6 : l10_RowApart_k6 a0 a1 with
      | true =>
        have he : (wrE a0 a1.1 a1.2 a1.3 == 0) = false := by
          unfold l10_RowApart_k6 at h6
          simpa using h6
        have e1 : wrL a0 a1.1 a1.2 a1.3 = [] := by unfold wrL; rw [he]; rfl
        have e2 : wrK a0 a1.1 a1.2 a1.3 = ⟨#[]⟩ := by unfold wrK; rw [he]; rfl
        rw [e1, e2, tlb, beq_self_eq_true]
        rfl
      | false =>
        have h := hz (by rw [h6]; rfl)
        obtain ⟨m1, m2, m3, m4, m5, m6, m7, m8, m9, m10⟩ := main h
        have k4 : l10_RowApart_k4 a0 a1 = false := by
          unfold l10_RowApart_k4
          rw [m1, m2, tlb, beq_self_eq_true, m3]
          simp
        have k1 : l10_RowApart_k1 a0 a1 = false := by
          unfold l10_RowApart_k1
          rw [hrun h]
          show l10_RowApart_l0_f_k0 ((wrR a1.1 a1.2.toNat a1.3).2.length : Int) ((wrR a1.1 a1.2.toNat a1.3).2.length : Int) a1 a1.1.1 (wrR a1.1 a1.2.toNat a1.3).2 = false
          unfold l10_RowApart_l0_f_k0
          rw [nn, dlt, decide_eq_false (Nat.lt_irrefl _), Bool.false_and]
        have k0 : l10_RowApart_k0 a0 a1 = true := by
          unfold l10_RowApart_k0
          rw [hk3 h, hrun h]
          show (jnE a0 (wrR a1.1 a1.2.toNat a1.3) a1.1 == 0 && wrE a0 (wrR a1.1 a1.2.toNat a1.3) a1.2 a1.3 == 0 && eqRw (TRow.mk (jnK a0 (wrR a1.1 a1.2.toNat a1.3) a1.1) (jnL a0 (wrR a1.1 a1.2.toNat a1.3) a1.1)) (wrR a1.1 a1.2.toNat a1.3)) = true
          rw [m7, m8, eqRw_iff.2 m9]
          rfl
        rw [k4, k1, k0]
        unfold l10_RowApart_k2
        rw [hk3 h, hrun h]
        show (true && eqRw (TRow.mk (wrK a0 (wrR a1.1 a1.2.toNat a1.3) a1.2 a1.3) (wrL a0 (wrR a1.1 a1.2.toNat a1.3) a1.2 a1.3)) (wrR a1.1 a1.2.toNat a1.3) && true) = true
        rw [eqRw_iff.2 m10]
        rfl

end Go.Proofs.Yteebobbhhgmeiaa

namespace Go.Proofs.Yteebobbhhgmeiaa

open Go.RowKit

set_option maxRecDepth 100000

theorem op3 : Opn Try.prog .i64 3 := opn_i64 Try.underlying3

theorem op4 : Opn Try.prog .bool 4 := opn_bool Try.underlying4

theorem op9 : Opn Try.prog .str 9 := opn_str Try.underlying9

theorem op31 : Opn Try.prog .vec 31 := fun en w base spare held m cs y h => by
  obtain ⟨xs, n, _, _, hl, hz, hg⟩ := DataW.trod_array Try.underlying31 h
  have hl : cs.length = 2 := hl.trans (by kernel_rfl)
  obtain ⟨x0, w0, g0⟩ := arrO (i := 0) (k := 1) op3 (by kernel_rfl) (by omega) (by omega) hg
  obtain ⟨x1, w1, g1⟩ := arrO (i := 1) (k := 1) op3 (by kernel_rfl) (by omega) (by omega) hg
  exact ⟨⟨x0, x1⟩, ⟨w0, w1⟩, fun F N nx hF => HLd (o := 0) (k := 1) (g0 F N nx hF) (HLd (o := 1) (k := 1) (g1 F N nx hF) (HLe (o := 2) hl))⟩

theorem op51 : Opn Try.prog .stamp 51 := fun en w base spare held m cs y h => by
  obtain ⟨xs, n, _, _, hl, hz, hg⟩ := DataW.trod_struct Try.underlying51 h
  have hz : xs.length = 2 := hz
  have hl : cs.length = 2 := hl.trans (by kernel_rfl)
  obtain ⟨x0, w0, g0⟩ := fldO (i := 0) (o := 0) (k := 1) op3 rfl rfl rfl (by kernel_rfl) (by omega) hg
  obtain ⟨x1, w1, g1⟩ := fldO (i := 1) (o := 1) (k := 1) op3 rfl rfl rfl (by kernel_rfl) (by omega) hg
  exact ⟨⟨x0, x1⟩, ⟨w0, w1⟩, fun F N nx hF => HLd (o := 0) (k := 1) (g0 F N nx hF) (HLd (o := 1) (k := 1) (g1 F N nx hF) (HLe (o := 2) hl))⟩

theorem op55 : Opn Try.prog .cell 55 := fun en w base spare held m cs y h => by
  obtain ⟨xs, n, _, _, hl, hz, hg⟩ := DataW.trod_struct Try.underlying55 h
  have hz : xs.length = 5 := hz
  have hl : cs.length = 8 := hl.trans (by kernel_rfl)
  obtain ⟨x0, w0, g0⟩ := fldO (i := 0) (o := 0) (k := 2) op51 rfl rfl rfl (by kernel_rfl) (by omega) hg
  obtain ⟨x1, w1, g1⟩ := fldO (i := 1) (o := 2) (k := 2) op31 rfl rfl rfl (by kernel_rfl) (by omega) hg
  obtain ⟨x2, w2, g2⟩ := fldO (i := 2) (o := 4) (k := 1) op4 rfl rfl rfl (by kernel_rfl) (by omega) hg
  obtain ⟨x3, w3, g3⟩ := fldO (i := 3) (o := 5) (k := 1) op9 rfl rfl rfl (by kernel_rfl) (by omega) hg
  obtain ⟨x4, w4, g4⟩ := fldO (i := 4) (o := 6) (k := 2) op31 rfl rfl rfl (by kernel_rfl) (by omega) hg
  exact ⟨⟨x0, x1, x2, x3, x4⟩, ⟨w0, w1, w2, w3, w4⟩, fun F N nx hF => HLd (o := 0) (k := 2) (g0 F N nx hF) (HLd (o := 2) (k := 2) (g1 F N nx hF) (HLd (o := 4) (k := 1) (g2 F N nx hF) (HLd (o := 5) (k := 1) (g3 F N nx hF) (HLd (o := 6) (k := 2) (g4 F N nx hF) (HLe (o := 8) hl)))))⟩

theorem op79 : Opn Try.prog .group 79 := fun en w base spare held m cs y h => by
  obtain ⟨xs, n, _, _, hl, hz, hg⟩ := DataW.trod_struct Try.underlying79 h
  have hz : xs.length = 2 := hz
  have hl : cs.length = 2 := hl.trans (by kernel_rfl)
  obtain ⟨x0, w0, g0⟩ := fldO (i := 0) (o := 0) (k := 1) op9 rfl rfl rfl (by kernel_rfl) (by omega) hg
  obtain ⟨x1, w1, g1⟩ := fldO (i := 1) (o := 1) (k := 1) op3 rfl rfl rfl (by kernel_rfl) (by omega) hg
  exact ⟨⟨x0, x1⟩, ⟨w0, w1⟩, fun F N nx hF => HLd (o := 0) (k := 1) (g0 F N nx hF) (HLd (o := 1) (k := 1) (g1 F N nx hF) (HLe (o := 2) hl))⟩

theorem opL66 : OpnLs Try.prog .group 66 := opn_list Try.underlying66 (by kernel_rfl) op79

theorem opL69 : OpnLs Try.prog .cell 69 := opn_list Try.underlying69 (by kernel_rfl) op55

theorem op71 : Opn Try.prog .row 71 := fun en w base spare held m cs y h => by
  obtain ⟨xs, n, _, _, hl, hz, hg⟩ := DataW.trod_struct Try.underlying71 h
  have hz : xs.length = 2 := hz
  have hl : cs.length = 2 := hl.trans (by kernel_rfl)
  obtain ⟨x0, w0, g0⟩ := fldO (i := 0) (o := 0) (k := 1) op9 rfl rfl rfl (by kernel_rfl) (by omega) hg
  obtain ⟨x1, w1, g1⟩ := fldL (i := 1) (o := 1) (k := 1) opL69 rfl rfl rfl (by kernel_rfl) (by omega) hg
  exact ⟨⟨x0, x1⟩, ⟨w0, w1⟩, fun F N nx hF => HLd (o := 0) (k := 1) (g0 F N nx hF) (HLd (o := 1) (k := 1) (g1 F N nx hF) (HLe (o := 2) hl))⟩

theorem op112 : Opn Try.prog .two 112 := fun en w base spare held m cs y h => by
  obtain ⟨xs, n, _, _, hl, hz, hg⟩ := DataW.trod_struct Try.underlying112 h
  have hz : xs.length = 3 := hz
  have hl : cs.length = 11 := hl.trans (by kernel_rfl)
  obtain ⟨x0, w0, g0⟩ := fldO (i := 0) (o := 0) (k := 2) op71 rfl rfl rfl (by kernel_rfl) (by omega) hg
  obtain ⟨x1, w1, g1⟩ := fldO (i := 1) (o := 2) (k := 1) op3 rfl rfl rfl (by kernel_rfl) (by omega) hg
  obtain ⟨x2, w2, g2⟩ := fldO (i := 2) (o := 3) (k := 8) op55 rfl rfl rfl (by kernel_rfl) (by omega) hg
  exact ⟨⟨x0, x1, x2⟩, ⟨w0, w1, w2⟩, fun F N nx hF => HLd (o := 0) (k := 2) (g0 F N nx hF) (HLd (o := 2) (k := 1) (g1 F N nx hF) (HLd (o := 3) (k := 8) (g2 F N nx hF) (HLe (o := 11) hl)))⟩

end Go.Proofs.Yteebobbhhgmeiaa

namespace Go.Proofs.Yteebobbhhgmeiaa

open Go.ChangeShapes Go.WideShapes Go.ChangeAt Go.RowKit

theorem own : ownKnob Try.prog.godebug = none := by kernel_rfl

theorem laidOut : laidOutB Try.prog = true := by kernel_rfl

section

variable {P : Program} {H : Type} {enc : TypeId × Value → H} {w : World} {base : Nat} {spare : Nat → Bool} {held : Bool} {v : Value} {d : DataW H} {p : List MemPlace}

theorem agg_of_struct {r : Reach} {b0 : Nat} {t : TypeId} {fs : Array Field} (hu : P.underlying t = some (.struct fs)) (h : Value.okWide P w r b0 t v) : ∃ cs, v = .agg cs ∧ cs.size = P.cellsOf t := by
  unfold Value.okWide at h
  rw [hu] at h
  obtain ⟨cs, h1, h2, _⟩ := h
  exact ⟨cs, h1, h2⟩

end

/-- All arguments read behind the call as they read before it. -/
theorem below_trodAll {H : Type} {enc : TypeId × Value → H} {W W' : World} (hb : Below W.heap.size W W') : ∀ (ts : List TypeId) (vs : List Value) (ds : List (DataW H)) (ps : List MemPlace),
    (∀ t ∈ ts, Try.prog.readableRec t = true ∧ t < Try.prog.types.size) → DataW.TrodAll enc Try.prog W 0 (fun _ => true) true ts vs ds ps → (∀ x ∈ ps, x.block < W.heap.size) →
    DataW.TrodAll enc Try.prog W' 0 (fun b => decide (b < W.heap.size)) true ts vs ds ps
  | [], vs, ds, ps, _, h, _ => by
    obtain ⟨rfl, rfl, rfl⟩ := trodAll_nil h
    exact trodAll_mk0
  | t :: ts, vs, ds, ps, hr, h, hlt => by
    obtain ⟨v, vs', d, ds', p, q, rfl, rfl, rfl, h0, h1⟩ := trodAll_cons h
    exact trodAll_cons_mk (Below.trod laidOut (hr t (by simp)).1 (hr t (by simp)).2 h0 hb fun x hx => hlt x (by simp [hx]))
      (below_trodAll hb ts vs' ds' q (fun t' ht' => hr t' (by simp [ht'])) h1 fun x hx => hlt x (by simp [hx]))

section

variable {H : Type} {enc : TypeId × Value → H} {w : World} {base : Nat} {spare : Nat → Bool} {held : Bool} {v : Value} {d : DataW H} {p : List MemPlace}

end

end Go.Proofs.Yteebobbhhgmeiaa

namespace Go.Proofs.Yteebobbhhgmeiaa

open Go.RowKit Go.WideShapes Go.ChangeShapes

section

variable {H : Type} {en : TypeId × Value → H} {P : Program} {w : World} {base : Nat} {spare : Nat → Bool} {held : Bool} {t e : TypeId} {v : Value} {d : DataW H} {p : List MemPlace} {r : Reach} {b0 : Nat} {c : TC}

theorem arg_list (ht : P.underlying t = some (.slice e)) (ho : OpnLs P c t) (hv : Value.okWide P w r b0 t v) (h : DataW.Trod en P w base spare held t v d p) :
    ∃ l : List (U c), (l.length ≤ maxLen ∧ ∀ x ∈ l, Wfd c x) ∧ ∀ (F : Nat → Prop) (N : Nm) (nx : Nat), FB w F → Hv F N nx w (.sl c l) v := by
  obtain ⟨a, len, cap, rfl⟩ := okWide_slice ht hv
  obtain ⟨fuel, hf⟩ := h
  obtain ⟨l, h1, h2⟩ := ho en w base spare held fuel _ _ hf
  refine ⟨l, h1, fun F N nx hF => ?_⟩
  obtain ⟨y, ys, e, h3, _⟩ := (h2 F N nx hF).inv
  have e' : [Value.slice a len cap] = y :: ys := e
  cases e'
  exact h3

theorem arg_agg {cs : Array Value} (ho : Opn P c t) (ha : c.isAgg = true) (hv : v = .agg cs) (h : DataW.Trod en P w base spare held t v d p) :
    ∃ x : U c, Wfd c x ∧ ∀ (F : Nat → Prop) (N : Nm) (nx : Nat), FB w F → Hv F N nx w (valA c x) v := by
  subst hv
  obtain ⟨fuel, hf⟩ := h
  obtain ⟨x, h2, h3⟩ := ho en w base spare held fuel _ _ hf
  exact ⟨x, h2, fun F N nx hF => hl_agg (h3 F N nx hF) ha⟩

theorem arg_struct {fs : Array Field} (ht : P.underlying t = some (.struct fs)) (ho : Opn P c t) (ha : c.isAgg = true) (hv : Value.okWide P w r b0 t v) (h : DataW.Trod en P w base spare held t v d p) :
    ∃ x : U c, Wfd c x ∧ ∀ (F : Nat → Prop) (N : Nm) (nx : Nat), FB w F → Hv F N nx w (valA c x) v := by
  obtain ⟨cs, hcs, _⟩ := agg_of_struct ht hv
  exact arg_agg ho ha hcs h

end

/-- A call from outside. -/
theorem call_top {P : Program} {f : FuncId} {args : List A} {nx' : Nat} {o' : Objs} {b : Bool} (h : CallOk P f args 0 [] 1 (.v (.bool b)) nx' o') (W : World) (vs : List Value) (ha : ∀ (F : Nat → Prop) (N : Nm) (nx : Nat), FB W F → HL F N nx W args vs) :
    Calls P f vs.toArray W fun e W' => e = .returned (.bool b) ∧ Below W.heap.size W W' := by
  have hr : HRel (fun b => b < W.heap.size) ⟨fun _ => 0, fun _ => .nilFunc⟩ 0 [] W := ⟨fun g hg => hg, fun i ob hi => (by cases hi), fun i ob g hi => (by cases hi), fun i j x y g hi => (by cases hi)⟩
  refine (h _ _ W vs hr (ha _ _ _ fun b hb => hb)).mono fun e W' ⟨y, F', N', he, _, _, hy, hb⟩ => ?_
  rw [hy.v_inv] at he
  exact ⟨he, hb (Nat.le_refl _)⟩

end Go.Proofs.Yteebobbhhgmeiaa

namespace Go.Proofs.Yteebobbhhgmeiaa.rowApart

open Go.ChangeShapes Go.WideShapes Go.ChangeAt Go.RowKit

set_option maxRecDepth 100000 in
theorem lifted (os : Os) (started : os.Started) (H : Type) (enc : TypeId × Value → H) :
    ReturnsInHanded {} Try.checked os 16 .any (Rows.rowApartSpec.pre6 enc Try.prog Try.f16 Rows.rowApartRow.domain false) (Rows.rowApartSpec.post enc Try.prog Try.f16 false true false false) := by
  refine returnsInHanded_of_change (C := Try.checked) own started (by kernel_rfl) Try.func16
    (ChangeSpec.witness6 (enc := enc) (C := Try.checked) false ⟨#[], #[.slice none 0 0, .agg #[.string ⟨#[]⟩, .slice none 0 0, .int .i64 0, .int .i64 0, .int .i64 0, .int .i64 0, .int .i64 0, .bool false, .string ⟨#[]⟩, .int .i64 0, .int .i64 0]], []⟩ 8 (by kernel_rfl) (by kernel_rfl) (by kernel_rfl) (by kernel_rfl)) ?_
  intro W base args ds gs before hval0 hW hcnd _
  have hval : ∀ (j : Nat) t v, Try.f16.params[j]? = some t → args[j]? = some v → Value.okWide Try.prog W .any base t v := hval0
  have hW' := hW
  have hlt : ∀ x ∈ before, x.block < W.heap.size := fun x hx => hW.lt x hx
  obtain ⟨p, q, hA0, hV, rfl, hfz, hnd⟩ := hW
  have hA : DataW.TrodAll enc Try.prog W 0 (fun _ => true) true Try.f16.params.toList args.toList ds p := hA0
  rw [Try.params16] at hA hval
  have hA' := hA
  obtain ⟨v0, vs0, d0, ds0, p0, q0, hargs, rfl, rfl, h0, r0⟩ := trodAll_cons hA
  obtain ⟨v1, vs1, d1, ds1, p1, q1, rfl, rfl, rfl, h1, r1⟩ := trodAll_cons r0
  obtain ⟨rfl, rfl, rfl⟩ := trodAll_nil r1
  obtain rfl : args = #[v0, v1] := by cases args; simp_all
  obtain ⟨rfl, rfl⟩ := trodVars_none hV
  obtain ⟨a0, w0, g0⟩ := arg_list Try.underlying66 opL66 (hval 0 66 v0 rfl rfl) h0
  obtain ⟨a1, w1, g1⟩ := arg_struct Try.underlying112 op112 rfl (hval 1 112 v1 rfl rfl) h1
  obtain ⟨hn, ht⟩ := ra_true a0 a1 w0 w1.1
  have hc := l10_RowApart_c a0 a1 hn
  have hr : l10_RowApart_r a0 a1 = .v (.bool true) := by show A.v (.bool (l10_RowApart_0 a0 a1)) = _; rw [ht]
  rw [hr] at hc
  refine (call_top hc W [v0, v1] fun F N nx hF => HL.cons (g0 F N nx hF) (HL.cons (g1 F N nx hF) (HL.nil))).mono fun e W' ⟨he, bel⟩ => ?_
  subst he
  have hread : ∀ t ∈ [66, 112], Try.prog.readableRec t = true ∧ t < Try.prog.types.size := by
    intro t ht
    simp only [List.mem_cons, List.not_mem_nil, or_false] at ht
    rcases ht with rfl | rfl
    all_goals exact ⟨by kernel_rfl, of_decide_eq_true (by kernel_rfl)⟩
  exact ⟨_, rfl, _, _, _, [], _, [], hW', trodAll_mk1 (shut_bool Try.underlying4 _),
    below_trodAll bel _ _ _ _ hread hA' (fun x hx => hlt x (by simpa using hx)), rfl, bel.frame _, fun h => by cases h⟩

theorem tA : Try.prog.funcNamed Rows.rowApartRow.func = some 16 := by kernel_rfl

theorem b0 : (Rows.rowApartRow.wf (OpenSpec.ofChange Rows.rowApartSpec)) = true := by kernel_rfl

theorem b1 : (laidOutB Try.prog) = true := by kernel_rfl

theorem b2 : (mapsRowed Try.prog) = true := by kernel_rfl

theorem b3 : (Try.f16.params.all (Try.prog.readableRec ·)) = true := by kernel_rfl

theorem b4 : (namedTie Try.prog Rows.rowApartRow.named Rows.rowApartSpec.vars) = true := by kernel_rfl

theorem b5 : ((Rows.rowApartRow.stops == [])) = true := by kernel_rfl

theorem b6 : ((Try.prog.stops == [])) = true := by kernel_rfl

theorem b7 : ((Rows.rowApartRow.knobs == [])) = true := by kernel_rfl

theorem b8 : ((Try.prog.stopKnobs == [])) = true := by kernel_rfl

theorem b9 : ((Rows.rowApartRow.inPlace == Try.prog.inPlace 16)) = true := by kernel_rfl

theorem b10 : ((Rows.rowApartRow.unfollowed == Try.prog.unfollowed 16)) = true := by kernel_rfl

theorem b11 : ((Rows.rowApartRow.recurses == Try.prog.recurses 16)) = true := by kernel_rfl

theorem b12 : ((Rows.rowApartRow.named == Try.prog.varsNamed 16)) = true := by kernel_rfl

theorem b13 : ((Rows.rowApartRow.maps == (Try.f16.params.toList ++ Rows.rowApartSpec.plain.varTypes Try.prog).any (Try.prog.mapsRec ·))) = true := by kernel_rfl

theorem b14 : ((Rows.rowApartRow.ifaces == (Try.f16.params.toList ++ Rows.rowApartSpec.plain.varTypes Try.prog).any (Try.prog.ifacesRec ·))) = true := by kernel_rfl

theorem b15 : ((Rows.rowApartRow.mapsOut == Try.prog.mapsAmong Try.f16.resultTypes.toList)) = true := by kernel_rfl

theorem b16 : ((Rows.rowApartRow.loops == (Try.f16.params.toList ++ Rows.rowApartSpec.plain.varTypes Try.prog).any (Try.prog.loopsFrom ·))) = true := by kernel_rfl

theorem b17 : ((Rows.rowApartRow.wideKeys == (Try.f16.params.toList ++ Rows.rowApartSpec.plain.varTypes Try.prog ++ Try.f16.resultTypes.toList).any (Try.prog.wideKeysFrom ·))) = true := by kernel_rfl

theorem b18 : (Rows.rowApartSpec.vars.all (Try.prog.varReadable ·)) = true := by kernel_rfl

theorem b19 : (Try.f16.resultTypes.all (fun t => Try.prog.readableRec t && decide (t < Try.prog.types.size))) = true := by kernel_rfl

theorem b20 : ((Rows.rowApartRow.ifacesOut == Try.f16.resultTypes.toList.any (Try.prog.ifacesRec ·))) = true := by kernel_rfl

theorem b21 : ((Rows.rowApartRow.loopsOut == Try.f16.resultTypes.toList.any (Try.prog.loopsFrom ·))) = true := by kernel_rfl

theorem b22 : ((Rows.rowApartRow.plainKeys == Try.prog.plainKeys)) = true := by kernel_rfl

theorem b23 : (Rows.rowApartRow.shortTexts.isNone) = true := by kernel_rfl

theorem b24 : (Try.prog.stopsHeard) = true := by kernel_rfl

theorem b25 : (Try.prog.mayEnter) = true := by kernel_rfl

theorem b26 : ((Rows.rowApartRow.lifted == Try.prog.liftsFinal)) = true := by kernel_rfl

theorem b27 : ((Try.prog.make == some Rows.rowApartRow.make)) = true := by kernel_rfl

theorem b28 : ((Rows.rowApartRow.kinds == (if Rows.rowApartRow.domain.isEmpty then [] else Try.f16.params.toList.map fun t => match Try.prog.underlying t with | some (.int k) => some k | _ => none))) = true := by kernel_rfl

theorem b29 : ((Rows.rowApartRow.pinned == Rows.rowApartRow.pinnedBy)) = true := by kernel_rfl

theorem b30 : ((Rows.rowApartRow.veiled == (Try.f16.params.toList ++ Rows.rowApartSpec.plain.varTypes Try.prog ++ Try.f16.resultTypes.toList).any (Try.prog.veiledRec ·))) = true := by kernel_rfl

theorem b31 : (Rows.rowApartRow.veiledFits Try.prog Try.f16.params.toList (Try.f16.params.toList ++ Rows.rowApartSpec.plain.varTypes Try.prog ++ Try.f16.resultTypes.toList)) = true := by kernel_rfl

theorem andI {a b : Bool} (h : a = true) (g : b = true) : (a && b) = true := by rw [h, g]; rfl

theorem e1 : (Rows.rowApartRow.wf (OpenSpec.ofChange Rows.rowApartSpec) && laidOutB Try.prog) = true := andI b0 b1

theorem e2 : (Rows.rowApartRow.wf (OpenSpec.ofChange Rows.rowApartSpec) && laidOutB Try.prog && mapsRowed Try.prog) = true := andI e1 b2

theorem e3 : (Rows.rowApartRow.wf (OpenSpec.ofChange Rows.rowApartSpec) && laidOutB Try.prog && mapsRowed Try.prog && Try.f16.params.all (Try.prog.readableRec ·)) = true := andI e2 b3

theorem e4 : (Rows.rowApartRow.wf (OpenSpec.ofChange Rows.rowApartSpec) && laidOutB Try.prog && mapsRowed Try.prog && Try.f16.params.all (Try.prog.readableRec ·) && namedTie Try.prog Rows.rowApartRow.named Rows.rowApartSpec.vars) = true := andI e3 b4

theorem e5 : (Rows.rowApartRow.wf (OpenSpec.ofChange Rows.rowApartSpec) && laidOutB Try.prog && mapsRowed Try.prog && Try.f16.params.all (Try.prog.readableRec ·) && namedTie Try.prog Rows.rowApartRow.named Rows.rowApartSpec.vars && (Rows.rowApartRow.stops == [])) = true := andI e4 b5

theorem e6 : (Rows.rowApartRow.wf (OpenSpec.ofChange Rows.rowApartSpec) && laidOutB Try.prog && mapsRowed Try.prog && Try.f16.params.all (Try.prog.readableRec ·) && namedTie Try.prog Rows.rowApartRow.named Rows.rowApartSpec.vars && (Rows.rowApartRow.stops == []) && (Try.prog.stops == [])) = true := andI e5 b6

theorem e7 : (Rows.rowApartRow.wf (OpenSpec.ofChange Rows.rowApartSpec) && laidOutB Try.prog && mapsRowed Try.prog && Try.f16.params.all (Try.prog.readableRec ·) && namedTie Try.prog Rows.rowApartRow.named Rows.rowApartSpec.vars && (Rows.rowApartRow.stops == []) && (Try.prog.stops == []) && (Rows.rowApartRow.knobs == [])) = true := andI e6 b7

theorem e8 : (Rows.rowApartRow.wf (OpenSpec.ofChange Rows.rowApartSpec) && laidOutB Try.prog && mapsRowed Try.prog && Try.f16.params.all (Try.prog.readableRec ·) && namedTie Try.prog Rows.rowApartRow.named Rows.rowApartSpec.vars && (Rows.rowApartRow.stops == []) && (Try.prog.stops == []) && (Rows.rowApartRow.knobs == []) && (Try.prog.stopKnobs == [])) = true := andI e7 b8

theorem e9 : (Rows.rowApartRow.wf (OpenSpec.ofChange Rows.rowApartSpec) && laidOutB Try.prog && mapsRowed Try.prog && Try.f16.params.all (Try.prog.readableRec ·) && namedTie Try.prog Rows.rowApartRow.named Rows.rowApartSpec.vars && (Rows.rowApartRow.stops == []) && (Try.prog.stops == []) && (Rows.rowApartRow.knobs == []) && (Try.prog.stopKnobs == []) && (Rows.rowApartRow.inPlace == Try.prog.inPlace 16)) = true := andI e8 b9

theorem e10 : (Rows.rowApartRow.wf (OpenSpec.ofChange Rows.rowApartSpec) && laidOutB Try.prog && mapsRowed Try.prog && Try.f16.params.all (Try.prog.readableRec ·) && namedTie Try.prog Rows.rowApartRow.named Rows.rowApartSpec.vars && (Rows.rowApartRow.stops == []) && (Try.prog.stops == []) && (Rows.rowApartRow.knobs == []) && (Try.prog.stopKnobs == []) && (Rows.rowApartRow.inPlace == Try.prog.inPlace 16) && (Rows.rowApartRow.unfollowed == Try.prog.unfollowed 16)) = true := andI e9 b10

theorem e11 : (Rows.rowApartRow.wf (OpenSpec.ofChange Rows.rowApartSpec) && laidOutB Try.prog && mapsRowed Try.prog && Try.f16.params.all (Try.prog.readableRec ·) && namedTie Try.prog Rows.rowApartRow.named Rows.rowApartSpec.vars && (Rows.rowApartRow.stops == []) && (Try.prog.stops == []) && (Rows.rowApartRow.knobs == []) && (Try.prog.stopKnobs == []) && (Rows.rowApartRow.inPlace == Try.prog.inPlace 16) && (Rows.rowApartRow.unfollowed == Try.prog.unfollowed 16) && (Rows.rowApartRow.recurses == Try.prog.recurses 16)) = true := andI e10 b11

theorem e12 : (Rows.rowApartRow.wf (OpenSpec.ofChange Rows.rowApartSpec) && laidOutB Try.prog && mapsRowed Try.prog && Try.f16.params.all (Try.prog.readableRec ·) && namedTie Try.prog Rows.rowApartRow.named Rows.rowApartSpec.vars && (Rows.rowApartRow.stops == []) && (Try.prog.stops == []) && (Rows.rowApartRow.knobs == []) && (Try.prog.stopKnobs == []) && (Rows.rowApartRow.inPlace == Try.prog.inPlace 16) && (Rows.rowApartRow.unfollowed == Try.prog.unfollowed 16) && (Rows.rowApartRow.recurses == Try.prog.recurses 16) && (Rows.rowApartRow.named == Try.prog.varsNamed 16)) = true := andI e11 b12

theorem e13 : (Rows.rowApartRow.wf (OpenSpec.ofChange Rows.rowApartSpec) && laidOutB Try.prog && mapsRowed Try.prog && Try.f16.params.all (Try.prog.readableRec ·) && namedTie Try.prog Rows.rowApartRow.named Rows.rowApartSpec.vars && (Rows.rowApartRow.stops == []) && (Try.prog.stops == []) && (Rows.rowApartRow.knobs == []) && (Try.prog.stopKnobs == []) && (Rows.rowApartRow.inPlace == Try.prog.inPlace 16) && (Rows.rowApartRow.unfollowed == Try.prog.unfollowed 16) && (Rows.rowApartRow.recurses == Try.prog.recurses 16) && (Rows.rowApartRow.named == Try.prog.varsNamed 16) && (Rows.rowApartRow.maps == (Try.f16.params.toList ++ Rows.rowApartSpec.plain.varTypes Try.prog).any (Try.prog.mapsRec ·))) = true := andI e12 b13

theorem e14 : (Rows.rowApartRow.wf (OpenSpec.ofChange Rows.rowApartSpec) && laidOutB Try.prog && mapsRowed Try.prog && Try.f16.params.all (Try.prog.readableRec ·) && namedTie Try.prog Rows.rowApartRow.named Rows.rowApartSpec.vars && (Rows.rowApartRow.stops == []) && (Try.prog.stops == []) && (Rows.rowApartRow.knobs == []) && (Try.prog.stopKnobs == []) && (Rows.rowApartRow.inPlace == Try.prog.inPlace 16) && (Rows.rowApartRow.unfollowed == Try.prog.unfollowed 16) && (Rows.rowApartRow.recurses == Try.prog.recurses 16) && (Rows.rowApartRow.named == Try.prog.varsNamed 16) && (Rows.rowApartRow.maps == (Try.f16.params.toList ++ Rows.rowApartSpec.plain.varTypes Try.prog).any (Try.prog.mapsRec ·)) && (Rows.rowApartRow.ifaces == (Try.f16.params.toList ++ Rows.rowApartSpec.plain.varTypes Try.prog).any (Try.prog.ifacesRec ·))) = true := andI e13 b14

theorem e15 : (Rows.rowApartRow.wf (OpenSpec.ofChange Rows.rowApartSpec) && laidOutB Try.prog && mapsRowed Try.prog && Try.f16.params.all (Try.prog.readableRec ·) && namedTie Try.prog Rows.rowApartRow.named Rows.rowApartSpec.vars && (Rows.rowApartRow.stops == []) && (Try.prog.stops == []) && (Rows.rowApartRow.knobs == []) && (Try.prog.stopKnobs == []) && (Rows.rowApartRow.inPlace == Try.prog.inPlace 16) && (Rows.rowApartRow.unfollowed == Try.prog.unfollowed 16) && (Rows.rowApartRow.recurses == Try.prog.recurses 16) && (Rows.rowApartRow.named == Try.prog.varsNamed 16) && (Rows.rowApartRow.maps == (Try.f16.params.toList ++ Rows.rowApartSpec.plain.varTypes Try.prog).any (Try.prog.mapsRec ·)) && (Rows.rowApartRow.ifaces == (Try.f16.params.toList ++ Rows.rowApartSpec.plain.varTypes Try.prog).any (Try.prog.ifacesRec ·)) && (Rows.rowApartRow.mapsOut == Try.prog.mapsAmong Try.f16.resultTypes.toList)) = true := andI e14 b15

theorem e16 : (Rows.rowApartRow.wf (OpenSpec.ofChange Rows.rowApartSpec) && laidOutB Try.prog && mapsRowed Try.prog && Try.f16.params.all (Try.prog.readableRec ·) && namedTie Try.prog Rows.rowApartRow.named Rows.rowApartSpec.vars && (Rows.rowApartRow.stops == []) && (Try.prog.stops == []) && (Rows.rowApartRow.knobs == []) && (Try.prog.stopKnobs == []) && (Rows.rowApartRow.inPlace == Try.prog.inPlace 16) && (Rows.rowApartRow.unfollowed == Try.prog.unfollowed 16) && (Rows.rowApartRow.recurses == Try.prog.recurses 16) && (Rows.rowApartRow.named == Try.prog.varsNamed 16) && (Rows.rowApartRow.maps == (Try.f16.params.toList ++ Rows.rowApartSpec.plain.varTypes Try.prog).any (Try.prog.mapsRec ·)) && (Rows.rowApartRow.ifaces == (Try.f16.params.toList ++ Rows.rowApartSpec.plain.varTypes Try.prog).any (Try.prog.ifacesRec ·)) && (Rows.rowApartRow.mapsOut == Try.prog.mapsAmong Try.f16.resultTypes.toList) && (Rows.rowApartRow.loops == (Try.f16.params.toList ++ Rows.rowApartSpec.plain.varTypes Try.prog).any (Try.prog.loopsFrom ·))) = true := andI e15 b16

theorem e17 : (Rows.rowApartRow.wf (OpenSpec.ofChange Rows.rowApartSpec) && laidOutB Try.prog && mapsRowed Try.prog && Try.f16.params.all (Try.prog.readableRec ·) && namedTie Try.prog Rows.rowApartRow.named Rows.rowApartSpec.vars && (Rows.rowApartRow.stops == []) && (Try.prog.stops == []) && (Rows.rowApartRow.knobs == []) && (Try.prog.stopKnobs == []) && (Rows.rowApartRow.inPlace == Try.prog.inPlace 16) && (Rows.rowApartRow.unfollowed == Try.prog.unfollowed 16) && (Rows.rowApartRow.recurses == Try.prog.recurses 16) && (Rows.rowApartRow.named == Try.prog.varsNamed 16) && (Rows.rowApartRow.maps == (Try.f16.params.toList ++ Rows.rowApartSpec.plain.varTypes Try.prog).any (Try.prog.mapsRec ·)) && (Rows.rowApartRow.ifaces == (Try.f16.params.toList ++ Rows.rowApartSpec.plain.varTypes Try.prog).any (Try.prog.ifacesRec ·)) && (Rows.rowApartRow.mapsOut == Try.prog.mapsAmong Try.f16.resultTypes.toList) && (Rows.rowApartRow.loops == (Try.f16.params.toList ++ Rows.rowApartSpec.plain.varTypes Try.prog).any (Try.prog.loopsFrom ·)) && (Rows.rowApartRow.wideKeys == (Try.f16.params.toList ++ Rows.rowApartSpec.plain.varTypes Try.prog ++ Try.f16.resultTypes.toList).any (Try.prog.wideKeysFrom ·))) = true := andI e16 b17

theorem e18 : (Rows.rowApartRow.wf (OpenSpec.ofChange Rows.rowApartSpec) && laidOutB Try.prog && mapsRowed Try.prog && Try.f16.params.all (Try.prog.readableRec ·) && namedTie Try.prog Rows.rowApartRow.named Rows.rowApartSpec.vars && (Rows.rowApartRow.stops == []) && (Try.prog.stops == []) && (Rows.rowApartRow.knobs == []) && (Try.prog.stopKnobs == []) && (Rows.rowApartRow.inPlace == Try.prog.inPlace 16) && (Rows.rowApartRow.unfollowed == Try.prog.unfollowed 16) && (Rows.rowApartRow.recurses == Try.prog.recurses 16) && (Rows.rowApartRow.named == Try.prog.varsNamed 16) && (Rows.rowApartRow.maps == (Try.f16.params.toList ++ Rows.rowApartSpec.plain.varTypes Try.prog).any (Try.prog.mapsRec ·)) && (Rows.rowApartRow.ifaces == (Try.f16.params.toList ++ Rows.rowApartSpec.plain.varTypes Try.prog).any (Try.prog.ifacesRec ·)) && (Rows.rowApartRow.mapsOut == Try.prog.mapsAmong Try.f16.resultTypes.toList) && (Rows.rowApartRow.loops == (Try.f16.params.toList ++ Rows.rowApartSpec.plain.varTypes Try.prog).any (Try.prog.loopsFrom ·)) && (Rows.rowApartRow.wideKeys == (Try.f16.params.toList ++ Rows.rowApartSpec.plain.varTypes Try.prog ++ Try.f16.resultTypes.toList).any (Try.prog.wideKeysFrom ·)) && Rows.rowApartSpec.vars.all (Try.prog.varReadable ·)) = true := andI e17 b18

theorem e19 : (Rows.rowApartRow.wf (OpenSpec.ofChange Rows.rowApartSpec) && laidOutB Try.prog && mapsRowed Try.prog && Try.f16.params.all (Try.prog.readableRec ·) && namedTie Try.prog Rows.rowApartRow.named Rows.rowApartSpec.vars && (Rows.rowApartRow.stops == []) && (Try.prog.stops == []) && (Rows.rowApartRow.knobs == []) && (Try.prog.stopKnobs == []) && (Rows.rowApartRow.inPlace == Try.prog.inPlace 16) && (Rows.rowApartRow.unfollowed == Try.prog.unfollowed 16) && (Rows.rowApartRow.recurses == Try.prog.recurses 16) && (Rows.rowApartRow.named == Try.prog.varsNamed 16) && (Rows.rowApartRow.maps == (Try.f16.params.toList ++ Rows.rowApartSpec.plain.varTypes Try.prog).any (Try.prog.mapsRec ·)) && (Rows.rowApartRow.ifaces == (Try.f16.params.toList ++ Rows.rowApartSpec.plain.varTypes Try.prog).any (Try.prog.ifacesRec ·)) && (Rows.rowApartRow.mapsOut == Try.prog.mapsAmong Try.f16.resultTypes.toList) && (Rows.rowApartRow.loops == (Try.f16.params.toList ++ Rows.rowApartSpec.plain.varTypes Try.prog).any (Try.prog.loopsFrom ·)) && (Rows.rowApartRow.wideKeys == (Try.f16.params.toList ++ Rows.rowApartSpec.plain.varTypes Try.prog ++ Try.f16.resultTypes.toList).any (Try.prog.wideKeysFrom ·)) && Rows.rowApartSpec.vars.all (Try.prog.varReadable ·) && Try.f16.resultTypes.all (fun t => Try.prog.readableRec t && decide (t < Try.prog.types.size))) = true := andI e18 b19

theorem e20 : (Rows.rowApartRow.wf (OpenSpec.ofChange Rows.rowApartSpec) && laidOutB Try.prog && mapsRowed Try.prog && Try.f16.params.all (Try.prog.readableRec ·) && namedTie Try.prog Rows.rowApartRow.named Rows.rowApartSpec.vars && (Rows.rowApartRow.stops == []) && (Try.prog.stops == []) && (Rows.rowApartRow.knobs == []) && (Try.prog.stopKnobs == []) && (Rows.rowApartRow.inPlace == Try.prog.inPlace 16) && (Rows.rowApartRow.unfollowed == Try.prog.unfollowed 16) && (Rows.rowApartRow.recurses == Try.prog.recurses 16) && (Rows.rowApartRow.named == Try.prog.varsNamed 16) && (Rows.rowApartRow.maps == (Try.f16.params.toList ++ Rows.rowApartSpec.plain.varTypes Try.prog).any (Try.prog.mapsRec ·)) && (Rows.rowApartRow.ifaces == (Try.f16.params.toList ++ Rows.rowApartSpec.plain.varTypes Try.prog).any (Try.prog.ifacesRec ·)) && (Rows.rowApartRow.mapsOut == Try.prog.mapsAmong Try.f16.resultTypes.toList) && (Rows.rowApartRow.loops == (Try.f16.params.toList ++ Rows.rowApartSpec.plain.varTypes Try.prog).any (Try.prog.loopsFrom ·)) && (Rows.rowApartRow.wideKeys == (Try.f16.params.toList ++ Rows.rowApartSpec.plain.varTypes Try.prog ++ Try.f16.resultTypes.toList).any (Try.prog.wideKeysFrom ·)) && Rows.rowApartSpec.vars.all (Try.prog.varReadable ·) && Try.f16.resultTypes.all (fun t => Try.prog.readableRec t && decide (t < Try.prog.types.size)) && (Rows.rowApartRow.ifacesOut == Try.f16.resultTypes.toList.any (Try.prog.ifacesRec ·))) = true := andI e19 b20

theorem e21 : (Rows.rowApartRow.wf (OpenSpec.ofChange Rows.rowApartSpec) && laidOutB Try.prog && mapsRowed Try.prog && Try.f16.params.all (Try.prog.readableRec ·) && namedTie Try.prog Rows.rowApartRow.named Rows.rowApartSpec.vars && (Rows.rowApartRow.stops == []) && (Try.prog.stops == []) && (Rows.rowApartRow.knobs == []) && (Try.prog.stopKnobs == []) && (Rows.rowApartRow.inPlace == Try.prog.inPlace 16) && (Rows.rowApartRow.unfollowed == Try.prog.unfollowed 16) && (Rows.rowApartRow.recurses == Try.prog.recurses 16) && (Rows.rowApartRow.named == Try.prog.varsNamed 16) && (Rows.rowApartRow.maps == (Try.f16.params.toList ++ Rows.rowApartSpec.plain.varTypes Try.prog).any (Try.prog.mapsRec ·)) && (Rows.rowApartRow.ifaces == (Try.f16.params.toList ++ Rows.rowApartSpec.plain.varTypes Try.prog).any (Try.prog.ifacesRec ·)) && (Rows.rowApartRow.mapsOut == Try.prog.mapsAmong Try.f16.resultTypes.toList) && (Rows.rowApartRow.loops == (Try.f16.params.toList ++ Rows.rowApartSpec.plain.varTypes Try.prog).any (Try.prog.loopsFrom ·)) && (Rows.rowApartRow.wideKeys == (Try.f16.params.toList ++ Rows.rowApartSpec.plain.varTypes Try.prog ++ Try.f16.resultTypes.toList).any (Try.prog.wideKeysFrom ·)) && Rows.rowApartSpec.vars.all (Try.prog.varReadable ·) && Try.f16.resultTypes.all (fun t => Try.prog.readableRec t && decide (t < Try.prog.types.size)) && (Rows.rowApartRow.ifacesOut == Try.f16.resultTypes.toList.any (Try.prog.ifacesRec ·)) && (Rows.rowApartRow.loopsOut == Try.f16.resultTypes.toList.any (Try.prog.loopsFrom ·))) = true := andI e20 b21

theorem e22 : (Rows.rowApartRow.wf (OpenSpec.ofChange Rows.rowApartSpec) && laidOutB Try.prog && mapsRowed Try.prog && Try.f16.params.all (Try.prog.readableRec ·) && namedTie Try.prog Rows.rowApartRow.named Rows.rowApartSpec.vars && (Rows.rowApartRow.stops == []) && (Try.prog.stops == []) && (Rows.rowApartRow.knobs == []) && (Try.prog.stopKnobs == []) && (Rows.rowApartRow.inPlace == Try.prog.inPlace 16) && (Rows.rowApartRow.unfollowed == Try.prog.unfollowed 16) && (Rows.rowApartRow.recurses == Try.prog.recurses 16) && (Rows.rowApartRow.named == Try.prog.varsNamed 16) && (Rows.rowApartRow.maps == (Try.f16.params.toList ++ Rows.rowApartSpec.plain.varTypes Try.prog).any (Try.prog.mapsRec ·)) && (Rows.rowApartRow.ifaces == (Try.f16.params.toList ++ Rows.rowApartSpec.plain.varTypes Try.prog).any (Try.prog.ifacesRec ·)) && (Rows.rowApartRow.mapsOut == Try.prog.mapsAmong Try.f16.resultTypes.toList) && (Rows.rowApartRow.loops == (Try.f16.params.toList ++ Rows.rowApartSpec.plain.varTypes Try.prog).any (Try.prog.loopsFrom ·)) && (Rows.rowApartRow.wideKeys == (Try.f16.params.toList ++ Rows.rowApartSpec.plain.varTypes Try.prog ++ Try.f16.resultTypes.toList).any (Try.prog.wideKeysFrom ·)) && Rows.rowApartSpec.vars.all (Try.prog.varReadable ·) && Try.f16.resultTypes.all (fun t => Try.prog.readableRec t && decide (t < Try.prog.types.size)) && (Rows.rowApartRow.ifacesOut == Try.f16.resultTypes.toList.any (Try.prog.ifacesRec ·)) && (Rows.rowApartRow.loopsOut == Try.f16.resultTypes.toList.any (Try.prog.loopsFrom ·)) && (Rows.rowApartRow.plainKeys == Try.prog.plainKeys)) = true := andI e21 b22

theorem e23 : (Rows.rowApartRow.wf (OpenSpec.ofChange Rows.rowApartSpec) && laidOutB Try.prog && mapsRowed Try.prog && Try.f16.params.all (Try.prog.readableRec ·) && namedTie Try.prog Rows.rowApartRow.named Rows.rowApartSpec.vars && (Rows.rowApartRow.stops == []) && (Try.prog.stops == []) && (Rows.rowApartRow.knobs == []) && (Try.prog.stopKnobs == []) && (Rows.rowApartRow.inPlace == Try.prog.inPlace 16) && (Rows.rowApartRow.unfollowed == Try.prog.unfollowed 16) && (Rows.rowApartRow.recurses == Try.prog.recurses 16) && (Rows.rowApartRow.named == Try.prog.varsNamed 16) && (Rows.rowApartRow.maps == (Try.f16.params.toList ++ Rows.rowApartSpec.plain.varTypes Try.prog).any (Try.prog.mapsRec ·)) && (Rows.rowApartRow.ifaces == (Try.f16.params.toList ++ Rows.rowApartSpec.plain.varTypes Try.prog).any (Try.prog.ifacesRec ·)) && (Rows.rowApartRow.mapsOut == Try.prog.mapsAmong Try.f16.resultTypes.toList) && (Rows.rowApartRow.loops == (Try.f16.params.toList ++ Rows.rowApartSpec.plain.varTypes Try.prog).any (Try.prog.loopsFrom ·)) && (Rows.rowApartRow.wideKeys == (Try.f16.params.toList ++ Rows.rowApartSpec.plain.varTypes Try.prog ++ Try.f16.resultTypes.toList).any (Try.prog.wideKeysFrom ·)) && Rows.rowApartSpec.vars.all (Try.prog.varReadable ·) && Try.f16.resultTypes.all (fun t => Try.prog.readableRec t && decide (t < Try.prog.types.size)) && (Rows.rowApartRow.ifacesOut == Try.f16.resultTypes.toList.any (Try.prog.ifacesRec ·)) && (Rows.rowApartRow.loopsOut == Try.f16.resultTypes.toList.any (Try.prog.loopsFrom ·)) && (Rows.rowApartRow.plainKeys == Try.prog.plainKeys) && Rows.rowApartRow.shortTexts.isNone) = true := andI e22 b23

theorem e24 : (Rows.rowApartRow.wf (OpenSpec.ofChange Rows.rowApartSpec) && laidOutB Try.prog && mapsRowed Try.prog && Try.f16.params.all (Try.prog.readableRec ·) && namedTie Try.prog Rows.rowApartRow.named Rows.rowApartSpec.vars && (Rows.rowApartRow.stops == []) && (Try.prog.stops == []) && (Rows.rowApartRow.knobs == []) && (Try.prog.stopKnobs == []) && (Rows.rowApartRow.inPlace == Try.prog.inPlace 16) && (Rows.rowApartRow.unfollowed == Try.prog.unfollowed 16) && (Rows.rowApartRow.recurses == Try.prog.recurses 16) && (Rows.rowApartRow.named == Try.prog.varsNamed 16) && (Rows.rowApartRow.maps == (Try.f16.params.toList ++ Rows.rowApartSpec.plain.varTypes Try.prog).any (Try.prog.mapsRec ·)) && (Rows.rowApartRow.ifaces == (Try.f16.params.toList ++ Rows.rowApartSpec.plain.varTypes Try.prog).any (Try.prog.ifacesRec ·)) && (Rows.rowApartRow.mapsOut == Try.prog.mapsAmong Try.f16.resultTypes.toList) && (Rows.rowApartRow.loops == (Try.f16.params.toList ++ Rows.rowApartSpec.plain.varTypes Try.prog).any (Try.prog.loopsFrom ·)) && (Rows.rowApartRow.wideKeys == (Try.f16.params.toList ++ Rows.rowApartSpec.plain.varTypes Try.prog ++ Try.f16.resultTypes.toList).any (Try.prog.wideKeysFrom ·)) && Rows.rowApartSpec.vars.all (Try.prog.varReadable ·) && Try.f16.resultTypes.all (fun t => Try.prog.readableRec t && decide (t < Try.prog.types.size)) && (Rows.rowApartRow.ifacesOut == Try.f16.resultTypes.toList.any (Try.prog.ifacesRec ·)) && (Rows.rowApartRow.loopsOut == Try.f16.resultTypes.toList.any (Try.prog.loopsFrom ·)) && (Rows.rowApartRow.plainKeys == Try.prog.plainKeys) && Rows.rowApartRow.shortTexts.isNone && Try.prog.stopsHeard) = true := andI e23 b24

theorem e25 : (Rows.rowApartRow.wf (OpenSpec.ofChange Rows.rowApartSpec) && laidOutB Try.prog && mapsRowed Try.prog && Try.f16.params.all (Try.prog.readableRec ·) && namedTie Try.prog Rows.rowApartRow.named Rows.rowApartSpec.vars && (Rows.rowApartRow.stops == []) && (Try.prog.stops == []) && (Rows.rowApartRow.knobs == []) && (Try.prog.stopKnobs == []) && (Rows.rowApartRow.inPlace == Try.prog.inPlace 16) && (Rows.rowApartRow.unfollowed == Try.prog.unfollowed 16) && (Rows.rowApartRow.recurses == Try.prog.recurses 16) && (Rows.rowApartRow.named == Try.prog.varsNamed 16) && (Rows.rowApartRow.maps == (Try.f16.params.toList ++ Rows.rowApartSpec.plain.varTypes Try.prog).any (Try.prog.mapsRec ·)) && (Rows.rowApartRow.ifaces == (Try.f16.params.toList ++ Rows.rowApartSpec.plain.varTypes Try.prog).any (Try.prog.ifacesRec ·)) && (Rows.rowApartRow.mapsOut == Try.prog.mapsAmong Try.f16.resultTypes.toList) && (Rows.rowApartRow.loops == (Try.f16.params.toList ++ Rows.rowApartSpec.plain.varTypes Try.prog).any (Try.prog.loopsFrom ·)) && (Rows.rowApartRow.wideKeys == (Try.f16.params.toList ++ Rows.rowApartSpec.plain.varTypes Try.prog ++ Try.f16.resultTypes.toList).any (Try.prog.wideKeysFrom ·)) && Rows.rowApartSpec.vars.all (Try.prog.varReadable ·) && Try.f16.resultTypes.all (fun t => Try.prog.readableRec t && decide (t < Try.prog.types.size)) && (Rows.rowApartRow.ifacesOut == Try.f16.resultTypes.toList.any (Try.prog.ifacesRec ·)) && (Rows.rowApartRow.loopsOut == Try.f16.resultTypes.toList.any (Try.prog.loopsFrom ·)) && (Rows.rowApartRow.plainKeys == Try.prog.plainKeys) && Rows.rowApartRow.shortTexts.isNone && Try.prog.stopsHeard && Try.prog.mayEnter) = true := andI e24 b25

theorem e26 : (Rows.rowApartRow.wf (OpenSpec.ofChange Rows.rowApartSpec) && laidOutB Try.prog && mapsRowed Try.prog && Try.f16.params.all (Try.prog.readableRec ·) && namedTie Try.prog Rows.rowApartRow.named Rows.rowApartSpec.vars && (Rows.rowApartRow.stops == []) && (Try.prog.stops == []) && (Rows.rowApartRow.knobs == []) && (Try.prog.stopKnobs == []) && (Rows.rowApartRow.inPlace == Try.prog.inPlace 16) && (Rows.rowApartRow.unfollowed == Try.prog.unfollowed 16) && (Rows.rowApartRow.recurses == Try.prog.recurses 16) && (Rows.rowApartRow.named == Try.prog.varsNamed 16) && (Rows.rowApartRow.maps == (Try.f16.params.toList ++ Rows.rowApartSpec.plain.varTypes Try.prog).any (Try.prog.mapsRec ·)) && (Rows.rowApartRow.ifaces == (Try.f16.params.toList ++ Rows.rowApartSpec.plain.varTypes Try.prog).any (Try.prog.ifacesRec ·)) && (Rows.rowApartRow.mapsOut == Try.prog.mapsAmong Try.f16.resultTypes.toList) && (Rows.rowApartRow.loops == (Try.f16.params.toList ++ Rows.rowApartSpec.plain.varTypes Try.prog).any (Try.prog.loopsFrom ·)) && (Rows.rowApartRow.wideKeys == (Try.f16.params.toList ++ Rows.rowApartSpec.plain.varTypes Try.prog ++ Try.f16.resultTypes.toList).any (Try.prog.wideKeysFrom ·)) && Rows.rowApartSpec.vars.all (Try.prog.varReadable ·) && Try.f16.resultTypes.all (fun t => Try.prog.readableRec t && decide (t < Try.prog.types.size)) && (Rows.rowApartRow.ifacesOut == Try.f16.resultTypes.toList.any (Try.prog.ifacesRec ·)) && (Rows.rowApartRow.loopsOut == Try.f16.resultTypes.toList.any (Try.prog.loopsFrom ·)) && (Rows.rowApartRow.plainKeys == Try.prog.plainKeys) && Rows.rowApartRow.shortTexts.isNone && Try.prog.stopsHeard && Try.prog.mayEnter && (Rows.rowApartRow.lifted == Try.prog.liftsFinal)) = true := andI e25 b26

theorem e27 : (Rows.rowApartRow.wf (OpenSpec.ofChange Rows.rowApartSpec) && laidOutB Try.prog && mapsRowed Try.prog && Try.f16.params.all (Try.prog.readableRec ·) && namedTie Try.prog Rows.rowApartRow.named Rows.rowApartSpec.vars && (Rows.rowApartRow.stops == []) && (Try.prog.stops == []) && (Rows.rowApartRow.knobs == []) && (Try.prog.stopKnobs == []) && (Rows.rowApartRow.inPlace == Try.prog.inPlace 16) && (Rows.rowApartRow.unfollowed == Try.prog.unfollowed 16) && (Rows.rowApartRow.recurses == Try.prog.recurses 16) && (Rows.rowApartRow.named == Try.prog.varsNamed 16) && (Rows.rowApartRow.maps == (Try.f16.params.toList ++ Rows.rowApartSpec.plain.varTypes Try.prog).any (Try.prog.mapsRec ·)) && (Rows.rowApartRow.ifaces == (Try.f16.params.toList ++ Rows.rowApartSpec.plain.varTypes Try.prog).any (Try.prog.ifacesRec ·)) && (Rows.rowApartRow.mapsOut == Try.prog.mapsAmong Try.f16.resultTypes.toList) && (Rows.rowApartRow.loops == (Try.f16.params.toList ++ Rows.rowApartSpec.plain.varTypes Try.prog).any (Try.prog.loopsFrom ·)) && (Rows.rowApartRow.wideKeys == (Try.f16.params.toList ++ Rows.rowApartSpec.plain.varTypes Try.prog ++ Try.f16.resultTypes.toList).any (Try.prog.wideKeysFrom ·)) && Rows.rowApartSpec.vars.all (Try.prog.varReadable ·) && Try.f16.resultTypes.all (fun t => Try.prog.readableRec t && decide (t < Try.prog.types.size)) && (Rows.rowApartRow.ifacesOut == Try.f16.resultTypes.toList.any (Try.prog.ifacesRec ·)) && (Rows.rowApartRow.loopsOut == Try.f16.resultTypes.toList.any (Try.prog.loopsFrom ·)) && (Rows.rowApartRow.plainKeys == Try.prog.plainKeys) && Rows.rowApartRow.shortTexts.isNone && Try.prog.stopsHeard && Try.prog.mayEnter && (Rows.rowApartRow.lifted == Try.prog.liftsFinal) && (Try.prog.make == some Rows.rowApartRow.make)) = true := andI e26 b27

theorem e28 : (Rows.rowApartRow.wf (OpenSpec.ofChange Rows.rowApartSpec) && laidOutB Try.prog && mapsRowed Try.prog && Try.f16.params.all (Try.prog.readableRec ·) && namedTie Try.prog Rows.rowApartRow.named Rows.rowApartSpec.vars && (Rows.rowApartRow.stops == []) && (Try.prog.stops == []) && (Rows.rowApartRow.knobs == []) && (Try.prog.stopKnobs == []) && (Rows.rowApartRow.inPlace == Try.prog.inPlace 16) && (Rows.rowApartRow.unfollowed == Try.prog.unfollowed 16) && (Rows.rowApartRow.recurses == Try.prog.recurses 16) && (Rows.rowApartRow.named == Try.prog.varsNamed 16) && (Rows.rowApartRow.maps == (Try.f16.params.toList ++ Rows.rowApartSpec.plain.varTypes Try.prog).any (Try.prog.mapsRec ·)) && (Rows.rowApartRow.ifaces == (Try.f16.params.toList ++ Rows.rowApartSpec.plain.varTypes Try.prog).any (Try.prog.ifacesRec ·)) && (Rows.rowApartRow.mapsOut == Try.prog.mapsAmong Try.f16.resultTypes.toList) && (Rows.rowApartRow.loops == (Try.f16.params.toList ++ Rows.rowApartSpec.plain.varTypes Try.prog).any (Try.prog.loopsFrom ·)) && (Rows.rowApartRow.wideKeys == (Try.f16.params.toList ++ Rows.rowApartSpec.plain.varTypes Try.prog ++ Try.f16.resultTypes.toList).any (Try.prog.wideKeysFrom ·)) && Rows.rowApartSpec.vars.all (Try.prog.varReadable ·) && Try.f16.resultTypes.all (fun t => Try.prog.readableRec t && decide (t < Try.prog.types.size)) && (Rows.rowApartRow.ifacesOut == Try.f16.resultTypes.toList.any (Try.prog.ifacesRec ·)) && (Rows.rowApartRow.loopsOut == Try.f16.resultTypes.toList.any (Try.prog.loopsFrom ·)) && (Rows.rowApartRow.plainKeys == Try.prog.plainKeys) && Rows.rowApartRow.shortTexts.isNone && Try.prog.stopsHeard && Try.prog.mayEnter && (Rows.rowApartRow.lifted == Try.prog.liftsFinal) && (Try.prog.make == some Rows.rowApartRow.make) && (Rows.rowApartRow.kinds == (if Rows.rowApartRow.domain.isEmpty then [] else Try.f16.params.toList.map fun t => match Try.prog.underlying t with | some (.int k) => some k | _ => none))) = true := andI e27 b28

theorem e29 : (Rows.rowApartRow.wf (OpenSpec.ofChange Rows.rowApartSpec) && laidOutB Try.prog && mapsRowed Try.prog && Try.f16.params.all (Try.prog.readableRec ·) && namedTie Try.prog Rows.rowApartRow.named Rows.rowApartSpec.vars && (Rows.rowApartRow.stops == []) && (Try.prog.stops == []) && (Rows.rowApartRow.knobs == []) && (Try.prog.stopKnobs == []) && (Rows.rowApartRow.inPlace == Try.prog.inPlace 16) && (Rows.rowApartRow.unfollowed == Try.prog.unfollowed 16) && (Rows.rowApartRow.recurses == Try.prog.recurses 16) && (Rows.rowApartRow.named == Try.prog.varsNamed 16) && (Rows.rowApartRow.maps == (Try.f16.params.toList ++ Rows.rowApartSpec.plain.varTypes Try.prog).any (Try.prog.mapsRec ·)) && (Rows.rowApartRow.ifaces == (Try.f16.params.toList ++ Rows.rowApartSpec.plain.varTypes Try.prog).any (Try.prog.ifacesRec ·)) && (Rows.rowApartRow.mapsOut == Try.prog.mapsAmong Try.f16.resultTypes.toList) && (Rows.rowApartRow.loops == (Try.f16.params.toList ++ Rows.rowApartSpec.plain.varTypes Try.prog).any (Try.prog.loopsFrom ·)) && (Rows.rowApartRow.wideKeys == (Try.f16.params.toList ++ Rows.rowApartSpec.plain.varTypes Try.prog ++ Try.f16.resultTypes.toList).any (Try.prog.wideKeysFrom ·)) && Rows.rowApartSpec.vars.all (Try.prog.varReadable ·) && Try.f16.resultTypes.all (fun t => Try.prog.readableRec t && decide (t < Try.prog.types.size)) && (Rows.rowApartRow.ifacesOut == Try.f16.resultTypes.toList.any (Try.prog.ifacesRec ·)) && (Rows.rowApartRow.loopsOut == Try.f16.resultTypes.toList.any (Try.prog.loopsFrom ·)) && (Rows.rowApartRow.plainKeys == Try.prog.plainKeys) && Rows.rowApartRow.shortTexts.isNone && Try.prog.stopsHeard && Try.prog.mayEnter && (Rows.rowApartRow.lifted == Try.prog.liftsFinal) && (Try.prog.make == some Rows.rowApartRow.make) && (Rows.rowApartRow.kinds == (if Rows.rowApartRow.domain.isEmpty then [] else Try.f16.params.toList.map fun t => match Try.prog.underlying t with | some (.int k) => some k | _ => none)) && (Rows.rowApartRow.pinned == Rows.rowApartRow.pinnedBy)) = true := andI e28 b29

theorem e30 : (Rows.rowApartRow.wf (OpenSpec.ofChange Rows.rowApartSpec) && laidOutB Try.prog && mapsRowed Try.prog && Try.f16.params.all (Try.prog.readableRec ·) && namedTie Try.prog Rows.rowApartRow.named Rows.rowApartSpec.vars && (Rows.rowApartRow.stops == []) && (Try.prog.stops == []) && (Rows.rowApartRow.knobs == []) && (Try.prog.stopKnobs == []) && (Rows.rowApartRow.inPlace == Try.prog.inPlace 16) && (Rows.rowApartRow.unfollowed == Try.prog.unfollowed 16) && (Rows.rowApartRow.recurses == Try.prog.recurses 16) && (Rows.rowApartRow.named == Try.prog.varsNamed 16) && (Rows.rowApartRow.maps == (Try.f16.params.toList ++ Rows.rowApartSpec.plain.varTypes Try.prog).any (Try.prog.mapsRec ·)) && (Rows.rowApartRow.ifaces == (Try.f16.params.toList ++ Rows.rowApartSpec.plain.varTypes Try.prog).any (Try.prog.ifacesRec ·)) && (Rows.rowApartRow.mapsOut == Try.prog.mapsAmong Try.f16.resultTypes.toList) && (Rows.rowApartRow.loops == (Try.f16.params.toList ++ Rows.rowApartSpec.plain.varTypes Try.prog).any (Try.prog.loopsFrom ·)) && (Rows.rowApartRow.wideKeys == (Try.f16.params.toList ++ Rows.rowApartSpec.plain.varTypes Try.prog ++ Try.f16.resultTypes.toList).any (Try.prog.wideKeysFrom ·)) && Rows.rowApartSpec.vars.all (Try.prog.varReadable ·) && Try.f16.resultTypes.all (fun t => Try.prog.readableRec t && decide (t < Try.prog.types.size)) && (Rows.rowApartRow.ifacesOut == Try.f16.resultTypes.toList.any (Try.prog.ifacesRec ·)) && (Rows.rowApartRow.loopsOut == Try.f16.resultTypes.toList.any (Try.prog.loopsFrom ·)) && (Rows.rowApartRow.plainKeys == Try.prog.plainKeys) && Rows.rowApartRow.shortTexts.isNone && Try.prog.stopsHeard && Try.prog.mayEnter && (Rows.rowApartRow.lifted == Try.prog.liftsFinal) && (Try.prog.make == some Rows.rowApartRow.make) && (Rows.rowApartRow.kinds == (if Rows.rowApartRow.domain.isEmpty then [] else Try.f16.params.toList.map fun t => match Try.prog.underlying t with | some (.int k) => some k | _ => none)) && (Rows.rowApartRow.pinned == Rows.rowApartRow.pinnedBy) && (Rows.rowApartRow.veiled == (Try.f16.params.toList ++ Rows.rowApartSpec.plain.varTypes Try.prog ++ Try.f16.resultTypes.toList).any (Try.prog.veiledRec ·))) = true := andI e29 b30

theorem e31 : (Rows.rowApartRow.wf (OpenSpec.ofChange Rows.rowApartSpec) && laidOutB Try.prog && mapsRowed Try.prog && Try.f16.params.all (Try.prog.readableRec ·) && namedTie Try.prog Rows.rowApartRow.named Rows.rowApartSpec.vars && (Rows.rowApartRow.stops == []) && (Try.prog.stops == []) && (Rows.rowApartRow.knobs == []) && (Try.prog.stopKnobs == []) && (Rows.rowApartRow.inPlace == Try.prog.inPlace 16) && (Rows.rowApartRow.unfollowed == Try.prog.unfollowed 16) && (Rows.rowApartRow.recurses == Try.prog.recurses 16) && (Rows.rowApartRow.named == Try.prog.varsNamed 16) && (Rows.rowApartRow.maps == (Try.f16.params.toList ++ Rows.rowApartSpec.plain.varTypes Try.prog).any (Try.prog.mapsRec ·)) && (Rows.rowApartRow.ifaces == (Try.f16.params.toList ++ Rows.rowApartSpec.plain.varTypes Try.prog).any (Try.prog.ifacesRec ·)) && (Rows.rowApartRow.mapsOut == Try.prog.mapsAmong Try.f16.resultTypes.toList) && (Rows.rowApartRow.loops == (Try.f16.params.toList ++ Rows.rowApartSpec.plain.varTypes Try.prog).any (Try.prog.loopsFrom ·)) && (Rows.rowApartRow.wideKeys == (Try.f16.params.toList ++ Rows.rowApartSpec.plain.varTypes Try.prog ++ Try.f16.resultTypes.toList).any (Try.prog.wideKeysFrom ·)) && Rows.rowApartSpec.vars.all (Try.prog.varReadable ·) && Try.f16.resultTypes.all (fun t => Try.prog.readableRec t && decide (t < Try.prog.types.size)) && (Rows.rowApartRow.ifacesOut == Try.f16.resultTypes.toList.any (Try.prog.ifacesRec ·)) && (Rows.rowApartRow.loopsOut == Try.f16.resultTypes.toList.any (Try.prog.loopsFrom ·)) && (Rows.rowApartRow.plainKeys == Try.prog.plainKeys) && Rows.rowApartRow.shortTexts.isNone && Try.prog.stopsHeard && Try.prog.mayEnter && (Rows.rowApartRow.lifted == Try.prog.liftsFinal) && (Try.prog.make == some Rows.rowApartRow.make) && (Rows.rowApartRow.kinds == (if Rows.rowApartRow.domain.isEmpty then [] else Try.f16.params.toList.map fun t => match Try.prog.underlying t with | some (.int k) => some k | _ => none)) && (Rows.rowApartRow.pinned == Rows.rowApartRow.pinnedBy) && (Rows.rowApartRow.veiled == (Try.f16.params.toList ++ Rows.rowApartSpec.plain.varTypes Try.prog ++ Try.f16.resultTypes.toList).any (Try.prog.veiledRec ·)) && Rows.rowApartRow.veiledFits Try.prog Try.f16.params.toList (Try.f16.params.toList ++ Rows.rowApartSpec.plain.varTypes Try.prog ++ Try.f16.resultTypes.toList)) = true := andI e30 b31

set_option maxRecDepth 100000 in
theorem tB : joinedFacts Try.prog 16 Try.f16 Rows.rowApartSpec Rows.rowApartRow = true := by
  unfold joinedFacts
  exact e31

theorem tC : Try.f16.isInstance Try.prog Rows.rowApartRow.origin Rows.rowApartRow.targs := of_decide_eq_true (by kernel_rfl)

theorem tD0 : decide (Check.packageOf Try.f16.name = "main") = false := by kernel_rfl

theorem tD : Try.f16.isWrapper Try.prog Rows.rowApartRow.wrapper Rows.rowApartRow.mainSum := by
  unfold Func.isWrapper
  rw [if_neg (of_decide_eq_false tD0)]
  exact ⟨rfl, rfl⟩

theorem over : Rows.rowApartRow.holds Try.pinned (OpenSpec.ofChange Rows.rowApartSpec) :=
  OpenClaim.holds_of_wide 16 Try.f16 rfl rfl rfl rfl rfl rfl rfl ⟨rfl, rfl, rfl, rfl, rfl⟩ rfl rfl rfl rfl rfl tA Try.func16 tB tC tD
    (fun os started H enc _ => lifted os started H enc)

theorem proved : Rows.RowApartSaid := over

end Go.Proofs.Yteebobbhhgmeiaa.rowApart
