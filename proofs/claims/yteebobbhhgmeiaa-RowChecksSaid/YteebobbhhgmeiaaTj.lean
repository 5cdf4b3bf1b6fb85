/- made by a program (gent.py): what functions come to, by their symbolic run over typed data. -/
import Derived.Test.YteebobbhhgmeiaaTi
namespace Go.Proofs.Yteebobbhhgmeiaa
open Go.RowKit

def keyE (k : ByteArray) : Int := bif k.size == 0 then 2 else bif decide (32 < k.size) then 3 else 0
def eqC (a b : TCell) : Bool := a.stamp.n == b.stamp.n && a.stamp.site == b.stamp.site && (a.vec.a == b.vec.a && a.vec.b == b.vec.b) && a.gone == b.gone && a.value == b.value && (a.dead.a == b.dead.a && a.dead.b == b.dead.b)
def eqCs : List TCell → List TCell → Bool
  | [], [] => true
  | x :: xs, y :: ys => eqC x y && eqCs xs ys
  | _, _ => false
def eqRw (a b : TRow) : Bool := a.key == b.key && eqCs a.cells b.cells
def bareR (r : TRow) : Bool := r.cells.all fun c => eqC c zeroC
def r10_Key_0 (a0 : ByteArray) : Int := bif a0.toList == (ByteArray.mk #[]).toList then (2 : Int) else bif decide ((↑a0.size : Int) > (32 : Int)) then (3 : Int) else (0 : Int)
def r10_Key_r (a0 : ByteArray) : A := .v (.int .i64 (r10_Key_0 a0))
def r10_Key_o (_a0 : ByteArray) : Objs := []
def r10_Key_ps (_a0 : ByteArray) : List Prop := []
set_option maxRecDepth 100000 in
theorem r10_Key_ev (a0 : ByteArray) : evF (envT Ci L0) 9 129 [valA .str a0] 0 [] = some (1, r10_Key_r a0, 0, r10_Key_o a0, []) := by kernel_rfl
set_option maxRecDepth 100000 in
theorem r10_Key_c (a0 : ByteArray) (_hp : ∀ p ∈ r10_Key_ps a0, p) : CallOk Try.prog 129 [valA .str a0] 0 [] 1 (r10_Key_r a0) 0 (r10_Key_o a0) := by
  exact evF_ok (envP_ok Ci_ok L0_ok) (r10_Key_ev a0) needs_nil
def r10_Key_r2 (a0 : ByteArray) : A := .v (.int .i64 (keyE a0))
def r10_Key_o2 (_a0 : ByteArray) : Objs := []
def r10_Key_ps2 (_a0 : ByteArray) : List Prop := []
theorem eqC_iff {a b : TCell} : eqC a b = true ↔ a = b := by
  unfold eqC
  simp only [Bool.and_eq_true, beq_iff_eq]
  constructor
  · rintro ⟨⟨⟨⟨⟨h1, h2⟩, h3, h4⟩, h5⟩, h6⟩, h7, h8⟩
    cases a with | mk s v g t d => cases b with | mk s' v' g' t' d' =>
    cases s; cases s'; cases v; cases v'; cases d; cases d'
    cases h1; cases h2; cases h3; cases h4; cases h5; cases h6; cases h7; cases h8
    rfl
  · rintro rfl
    exact ⟨⟨⟨⟨⟨rfl, rfl⟩, rfl, rfl⟩, rfl⟩, rfl⟩, rfl, rfl⟩
theorem eqCs_iff : ∀ {a b : List TCell}, eqCs a b = true ↔ a = b
  | [], [] => by simp [eqCs]
  | [], _ :: _ => by simp [eqCs]
  | _ :: _, [] => by simp [eqCs]
  | x :: xs, y :: ys => by
    unfold eqCs
    rw [Bool.and_eq_true, eqC_iff, eqCs_iff]
    simp
theorem eqRw_iff {a b : TRow} : eqRw a b = true ↔ a = b := by
  unfold eqRw
  rw [Bool.and_eq_true, beq_iff_eq, eqCs_iff]
  cases a; cases b
  simp
theorem eqCs_N : ∀ (a b : List TCell), a.length = b.length → eqCs a b = allN a.length (fun i => eqC (a.getD i (dflt TC.cell)) (b.getD i (dflt TC.cell))) := fun a b h => by
  rw [Bool.eq_iff_iff, eqCs_iff, allN_iff]
  constructor
  · rintro rfl i _
    exact eqC_iff.2 rfl
  · intro g
    refine List.ext_getElem h fun i h1 h2 => ?_
    have := eqC_iff.1 (g i h1)
    rw [List.getD_eq_getElem?_getD, List.getD_eq_getElem?_getD, List.getElem?_eq_getElem h1, List.getElem?_eq_getElem h2] at this
    exact this
theorem r10_Key_eq (k : ByteArray) : r10_Key_0 k = keyE k := by
  unfold r10_Key_0 keyE
  rw [noB_eq]
  congr 2
  exact dgt k.size 32
theorem r10_Key_c2 (a0 : ByteArray) (_hp : ∀ p ∈ r10_Key_ps2 a0, p) : CallOk Try.prog 129 [valA .str a0] 0 [] 1 (r10_Key_r2 a0) 0 (r10_Key_o2 a0) := by
  have h := r10_Key_c a0 (fun _ h => by cases h)
  unfold r10_Key_r at h
  rw [r10_Key_eq] at h
  exact h
def r10_Key_t : List A → Nat → Objs → Option CRes
  | [y0], nx, o => match argU .str y0 with
    | some (a0, p0) => some (1, (r10_Key_r2 a0).pk (shiftR nx), nx + 0, shiftO nx (r10_Key_o2 a0) ++ o, p0 ++ (r10_Key_ps2 a0))
    | _ => none
  | _, _, _ => none
theorem r10_Key_tok : TOk Try.prog 129 r10_Key_t := fun args nx o k x nx' o' ps h => by
  unfold r10_Key_t at h
  split at h <;> first | (cases h; done) | skip
  split at h <;> first | (cases h; done) | skip
  rename_i a0 p0 e0
  cases h
  refine ⟨fun hp => ?_, _, rfl⟩
  have q0 := fun p hm => hp p (List.mem_append.2 (.inl hm))
  have r0 := fun p hm => hp p (List.mem_append.2 (.inr hm))
  refine callOk_args (callOk_shift (r10_Key_c2 a0 r0) (Nat.le_refl _) (freeL_cons (valA_free _ _) freeL_nil) nx o) fun F N R vs hl => ?_
  obtain ⟨v0, w0, rfl, h0, hl⟩ := hl.inv
  exact HL.cons (argU_ok e0 q0 h0) (hl)
noncomputable def Cj_1 := addC 129 r10_Key_t Ci
theorem Cj_1_ok : COk Try.prog Cj_1 := addC_ok r10_Key_tok Ci_ok
/-! loop 0 of function 66 -/
abbrev r10_Good_l0_X : Type := (List TGroup) × Int × TRow
def r10_Good_l0_T (x : r10_Good_l0_X) : St := ⟨42, 1, [(0, .sl .group x.1), (3, .own 0 0), (6, .v (.int .i64 x.2.1))], [(0, some (.box 71 [.v (.string x.2.2.key), .sl .cell x.2.2.cells]))]⟩
def r10_Good_l0_un : St → Option r10_Good_l0_X
  | ⟨42, 1, [(0, .sl .group z0), (3, .own 0 0), (6, .v (.int .i64 z1))], [(0, some (.box 71 [.v (.string z2), .sl .cell z3]))]⟩ => some (z0, z1, ⟨z2, z3⟩)
  | _ => none
theorem r10_Good_l0_unok : ∀ s x, r10_Good_l0_un s = some x → s = r10_Good_l0_T x := fun s x h => by
  unfold r10_Good_l0_un at h
  split at h
  · cases h; rfl
  · cases h
def r10_Good_l0_S : Shape := ⟨1, 1, [0, 3, 6], [], [(0, 0)], [0], [4], [0]⟩
def r10_Good_l0_E : Entry := ⟨[], [(0, 0)], [0, 3, 6], [0]⟩
def r10_Good_l0_f_k1 (a0 : List TGroup) (a1 : Int) (_a2 : TRow) : Bool := !!decide (a1 < (↑a0.length : Int))
def r10_Good_l0_f_k0 (a0 : List TGroup) (a1 : Int) (a2 : TRow) : Bool := (r10_Good_l0_f_k1 a0 a1 a2) && !r08_Good_0 (a0.getD a1.toNat (dflt TC.group)).2 (a2.2.getD a1.toNat (dflt TC.cell))
def r10_Good_l0_f_3 (a0 : List TGroup) (a1 : Int) (a2 : TRow) : Bool := (r10_Good_l0_f_k1 a0 a1 a2) && !(r10_Good_l0_f_k0 a0 a1 a2)
def r10_Good_l0_next (x : r10_Good_l0_X) : r10_Good_l0_X := (x.1, IntKind.i64.wrap (x.2.1 + (1 : Int)), x.2.2)
def r10_Good_l0_goes (x : r10_Good_l0_X) : Cnd := some (r10_Good_l0_f_3 x.1 x.2.1 x.2.2)
def r10_Good_l0_psA (x : r10_Good_l0_X) : List Prop := [((r10_Good_l0_f_k1 x.1 x.2.1 x.2.2) = true → (0 : Int) ≤ x.2.1 ∧ x.2.1 < (↑x.1.length : Int)), ((r10_Good_l0_f_k1 x.1 x.2.1 x.2.2) = true → (0 : Int) ≤ x.2.1 ∧ x.2.1 < (↑x.2.2.2.length : Int))]
def r10_Good_l0_ps (x : r10_Good_l0_X) : List Prop := [((r10_Good_l0_f_k1 x.1 x.2.1 x.2.2) = true → (0 : Int) ≤ x.2.1 ∧ x.2.1 < (↑x.1.length : Int)), ((r10_Good_l0_f_k1 x.1 x.2.1 x.2.2) = true → (0 : Int) ≤ x.2.1 ∧ x.2.1 < (↑x.2.2.2.length : Int))]
def r10_Good_l0_outs (x : r10_Good_l0_X) : Outs := [(some 0, some (!decide (x.2.1 < (↑x.1.length : Int))), ⟨42, 1, [(4, .dead)], [(0, some (.box 71 [.v (.string x.2.2.1), .sl .cell x.2.2.2]))]⟩), (none, some ((r10_Good_l0_f_k0 x.1 x.2.1 x.2.2)), ⟨42, 1, [(4, .v (.int .i64 ((80 : Int))))], [(0, some (.box 71 [.v (.string x.2.2.1), .sl .cell x.2.2.2]))]⟩)]
def r10_Good_l0_fuel (x : r10_Good_l0_X) : Nat := ((↑x.1.length : Int) - x.2.1).toNat
def r10_Good_l0_run (x : r10_Good_l0_X) : r10_Good_l0_X := iterX r10_Good_l0_next r10_Good_l0_goes (r10_Good_l0_fuel x) x
set_option maxRecDepth 100000 in
theorem r10_Good_l0_ev (a0 : List TGroup) (a1 : Int) (a2 : TRow) : roundE (envT Cj_1 L0) 9 (loopAt Try.prog 66 0) r10_Good_l0_S (r10_Good_l0_T (a0, a1, a2)) = some (r10_Good_l0_psA (a0, a1, a2), r10_Good_l0_outs (a0, a1, a2), r10_Good_l0_goes (a0, a1, a2), r10_Good_l0_T (r10_Good_l0_next (a0, a1, a2))) := by kernel_rfl
set_option maxRecDepth 100000 in
theorem r10_Good_l0_hA (a0 : List TGroup) (a1 : Int) (a2 : TRow) (hp : ∀ p ∈ r10_Good_l0_ps (a0, a1, a2), p) : ∀ p ∈ r10_Good_l0_psA (a0, a1, a2), p := by
  have n0 : ((r10_Good_l0_f_k1 a0 a1 a2) = true → (0 : Int) ≤ a1 ∧ a1 < (↑a0.length : Int)) := hp _ (List.mem_cons_self ..)
  have n1 : ((r10_Good_l0_f_k1 a0 a1 a2) = true → (0 : Int) ≤ a1 ∧ a1 < (↑a2.2.length : Int)) := hp _ (List.mem_cons_of_mem _ (List.mem_cons_self ..))
  exact (needs_cons n0 (needs_cons n1 needs_nil))
noncomputable def r10_Good_l0_row := rowL (envT Cj_1 L0) (loopAt Try.prog 66 0) r10_Good_l0_S r10_Good_l0_E r10_Good_l0_un r10_Good_l0_fuel r10_Good_l0_next r10_Good_l0_goes r10_Good_l0_ps r10_Good_l0_outs
theorem r10_Good_l0_rok : ∀ s b ps outs, r10_Good_l0_row s = some (b, ps, outs) → Wf s ⟨ps, outs, none⟩ ∧ LoopOk (envT C0 L0) b s ps outs :=
  rowP_ok (T := r10_Good_l0_T) Cj_1_ok L0_ok (u := 9) (by kernel_rfl) (by decide) (fun ⟨a0, a1, a2⟩ => r10_Good_l0_ev a0 a1 a2) (fun ⟨a0, a1, a2⟩ => r10_Good_l0_hA a0 a1 a2) r10_Good_l0_unok (fun _ => okOuts_ok (n := 42) rfl) fun _ _ => rfl
noncomputable def r10_Good_l0_L := addLp 0 r10_Good_l0_row L0
theorem r10_Good_l0_Lok : LpOk r10_Good_l0_L := addLp_ok r10_Good_l0_rok L0_ok
def r10_Good_k3 (_a0 : List TGroup) (a1 : TRow) : Bool := keyE a1.1 != (0 : Int)
def r10_Good_k2 (a0 : List TGroup) (_a1 : TRow) : Bool := goodP a0 != (0 : Int)
def r10_Good_k1 (a0 : List TGroup) (a1 : TRow) : r10_Good_l0_X := r10_Good_l0_run (a0, (0 : Int), a1)
def r10_Good_k0 (a0 : List TGroup) (a1 : TRow) : Bool := (↑a1.2.length : Int) != (↑a0.length : Int)
def r10_Good_0 (a0 : List TGroup) (a1 : TRow) : Int := bif (r10_Good_k2 a0 a1) then goodP a0 else bif (r10_Good_k3 a0 a1) then keyE a1.1 else bif (r10_Good_k0 a0 a1) then (100 : Int) else bif r10_Good_l0_f_k0 (r10_Good_k1 a0 a1).fst (r10_Good_k1 a0 a1).snd.fst (r10_Good_k1 a0 a1).snd.snd then (80 : Int) else (0 : Int)
def r10_Good_r (a0 : List TGroup) (a1 : TRow) : A := .v (.int .i64 (r10_Good_0 a0 a1))
def r10_Good_o (_a0 : List TGroup) (_a1 : TRow) : Objs := []
def r10_Good_ps (a0 : List TGroup) (a1 : TRow) : List Prop := [(∀ (g : TGroup), g ∈ a0 → wideN g.1.size), ((!(r10_Good_k2 a0 a1)) = true → (!(r10_Good_k3 a0 a1)) = true → (!(r10_Good_k0 a0 a1)) = true → needX r10_Good_l0_next r10_Good_l0_goes r10_Good_l0_ps (r10_Good_l0_fuel (a0, (0 : Int), a1)) (a0, (0 : Int), a1))]
set_option maxRecDepth 100000 in
theorem r10_Good_ev (a0 : List TGroup) (a1 : TRow) : evF (envT Cj_1 r10_Good_l0_L) 9 66 [.sl .group a0, valA .row a1] 0 [] = some (1, r10_Good_r a0 a1, 0, r10_Good_o a0 a1, [(∀ (g : TGroup), g ∈ a0 → wideN g.1.size), ((!(r10_Good_k2 a0 a1)) = true → (!(r10_Good_k3 a0 a1)) = true → (!(r10_Good_k0 a0 a1)) = true → loopAt Try.prog (66 : FuncId) (0 : Nat) = loopAt Try.prog (66 : FuncId) (0 : Nat)), ((!(r10_Good_k2 a0 a1)) = true → (!(r10_Good_k3 a0 a1)) = true → (!(r10_Good_k0 a0 a1)) = true → needX r10_Good_l0_next r10_Good_l0_goes r10_Good_l0_ps (r10_Good_l0_fuel (a0, (0 : Int), a1)) (a0, (0 : Int), a1))]) := by kernel_rfl
set_option maxRecDepth 100000 in
theorem r10_Good_c (a0 : List TGroup) (a1 : TRow) (hp : ∀ p ∈ r10_Good_ps a0 a1, p) : CallOk Try.prog 66 [.sl .group a0, valA .row a1] 0 [] 1 (r10_Good_r a0 a1) 0 (r10_Good_o a0 a1) := by
  have n0 : (∀ (g : TGroup), g ∈ a0 → wideN g.1.size) := hp _ (List.mem_cons_self ..)
  have n1 : ((!(r10_Good_k2 a0 a1)) = true → (!(r10_Good_k3 a0 a1)) = true → (!(r10_Good_k0 a0 a1)) = true → loopAt Try.prog (66 : FuncId) (0 : Nat) = loopAt Try.prog (66 : FuncId) (0 : Nat)) := by intros; rfl
  have n2 : ((!(r10_Good_k2 a0 a1)) = true → (!(r10_Good_k3 a0 a1)) = true → (!(r10_Good_k0 a0 a1)) = true → needX r10_Good_l0_next r10_Good_l0_goes r10_Good_l0_ps (r10_Good_l0_fuel (a0, (0 : Int), a1)) (a0, (0 : Int), a1)) := hp _ (List.mem_cons_of_mem _ (List.mem_cons_self ..))
  exact evF_ok (envP_ok Cj_1_ok r10_Good_l0_Lok) (r10_Good_ev a0 a1) (needs_cons n0 (needs_cons n1 (needs_cons n2 needs_nil)))
def r10_Good_r2 (a0 : List TGroup) (a1 : TRow) : A := .v (.int .i64 (goodRow a0 a1))
def r10_Good_o2 (_a0 : List TGroup) (_a1 : TRow) : Objs := []
def r10_Good_ps2 (a0 : List TGroup) (_a1 : TRow) : List Prop := [∀ g ∈ a0, wideN g.name.size]
theorem r10_Good_eq (l : List TGroup) (r : TRow) (hb : ∀ g ∈ l, wideN g.name.size) : (∀ p ∈ r10_Good_ps l r, p) ∧ r10_Good_0 l r = goodRow l r := by
  have hk2 : r10_Good_k2 l r = (goodP l != 0) := rfl
  have hk3 : r10_Good_k3 l r = (keyE r.key != 0) := rfl
  have hk0 : r10_Good_k0 l r = (r.cells.length != l.length) := by
    show ((r.cells.length : Int) != (l.length : Int)) = _
    rw [Bool.eq_iff_iff, bne_iff_ne, bne_iff_ne]; omega
  have main : r10_Good_k2 l r = false → r10_Good_k0 l r = false → needX r10_Good_l0_next r10_Good_l0_goes r10_Good_l0_ps (r10_Good_l0_fuel (l, 0, r)) (l, 0, r) ∧ r10_Good_l0_f_k0 (r10_Good_k1 l r).fst (r10_Good_k1 l r).snd.fst (r10_Good_k1 l r).snd.snd = !(l.zip r.cells).all (fun x => goodC x.1.policy x.2) := fun h2 h0 => by
    rw [hk0] at h0
    have hlen : r.cells.length = l.length := by simpa using h0
    have hl4 : l.length ≤ 4 := (goodP_0 (by rw [hk2] at h2; simpa using h2)).2
    have hf : ∀ i : Nat, r10_Good_l0_f_k0 l (i : Int) r = (decide (i < l.length) && !goodC (l.getD i (dflt TC.group)).2 (r.2.getD i (dflt TC.cell))) := fun i => by
      unfold r10_Good_l0_f_k0 r10_Good_l0_f_k1
      rw [nn, dlt, Int.toNat_natCast, r08_Good_eq]
    obtain ⟨h1, k, hk, hx, _, _, hb'⟩ := scanB (fun i => ((l, (i : Int), r) : r10_Good_l0_X)) l.length (fun i => !goodC (l.getD i (dflt TC.group)).2 (r.2.getD i (dflt TC.cell))) r10_Good_l0_next r10_Good_l0_goes r10_Good_l0_ps (r10_Good_l0_fuel (l, 0, r)) (l, 0, r) rfl (by show l.length ≤ ((l.length : Int) - 0).toNat; omega)
      (fun i _ _ => by
        show ((!!decide ((i : Int) < (l.length : Int))) && !r10_Good_l0_f_k0 l i r) = _
        rw [hf, nn, dlt]
        cases decide (i < l.length) <;> rfl)
      (fun i hi _ => by
        show (l, IntKind.i64.wrap ((i : Int) + 1), r) = (l, ((i + 1 : Nat) : Int), r)
        rw [wsucc (by omega)])
      (fun i _ _ => by
        have hin : (!!decide ((i : Int) < (l.length : Int))) = true → (i : Int) < (l.length : Int) := fun h => by rw [nn] at h; exact of_decide_eq_true h
        exact needs_cons (fun h => ⟨by show (0 : Int) ≤ (i : Int); omega, hin h⟩) (needs_cons (fun h => ⟨by show (0 : Int) ≤ (i : Int); omega, by have := hin h; show (i : Int) < (r.cells.length : Int); omega⟩) needs_nil))
    refine ⟨h1, ?_⟩
    have hr : r10_Good_k1 l r = (l, (k : Int), r) := hx
    rw [hr]
    show r10_Good_l0_f_k0 l (k : Int) r = _
    rw [hf, hb', zip_N l r.cells (dflt TC.group) (dflt TC.cell) (fun g c => goodC g.policy c) hlen]
    congr 1
    exact allN_congr fun i _ => Bool.not_not _
  refine ⟨needs_cons hb (needs_cons (fun h1 _ h3 => (main (by simpa using h1) (by simpa using h3)).1) needs_nil), ?_⟩
  unfold r10_Good_0 goodRow
  have ek : keyE r.key = bif r.key.size == 0 then 2 else bif decide (32 < r.key.size) then 3 else 0 := rfl
  cases h2 : r10_Good_k2 l r with
  | true => rw [hk2] at h2; rw [h2]; rfl
  | false =>
    rw [hk2] at h2
    rw [h2, cond_false, cond_false]
    cases h3 : r10_Good_k3 l r with
    | true =>
      rw [cond_true]
      rw [hk3, ek] at h3
      rw [ek]
      cases h5 : r.key.size == 0 with
      | true => rfl
      | false =>
        rw [h5] at h3
        cases h6 : decide (32 < r.key.size) with
        | true => rfl
        | false => rw [h6] at h3; cases h3
    | false =>
      rw [hk3, ek] at h3
      have h5 : (r.key.size == 0) = false := by
        cases h5 : r.key.size == 0 with
        | false => rfl
        | true => rw [h5] at h3; cases h3
      rw [h5] at h3
      have h6 : decide (32 < r.key.size) = false := by
        cases h6 : decide (32 < r.key.size) with
        | false => rfl
        | true => rw [h6] at h3; cases h3
      rw [h5, h6, cond_false, cond_false, cond_false]
      cases h0 : r10_Good_k0 l r with
      | true => rw [hk0] at h0; rw [h0]; rfl
      | false =>
        rw [cond_false, (main (by rw [hk2]; exact h2) h0).2]
        rw [hk0] at h0
        rw [h0, cond_false]
        cases (l.zip r.cells).all (fun x => goodC x.1.policy x.2) <;> rfl
theorem r10_Good_c2 (a0 : List TGroup) (a1 : TRow) (hp : ∀ p ∈ r10_Good_ps2 a0 a1, p) : CallOk Try.prog 66 [.sl .group a0, valA .row a1] 0 [] 1 (r10_Good_r2 a0 a1) 0 (r10_Good_o2 a0 a1) := by
  have hb : ∀ g ∈ a0, wideN g.name.size := hp _ (List.mem_cons_self ..)
  have h := r10_Good_c a0 a1 (r10_Good_eq a0 a1 hb).1
  unfold r10_Good_r at h
  rw [(r10_Good_eq a0 a1 hb).2] at h
  exact h
def r10_Good_t : List A → Nat → Objs → Option CRes
  | [y0, y1], nx, o => match argL .group y0, argU .row y1 with
    | some a0, some (a1, p1) => some (1, (r10_Good_r2 a0 a1).pk (shiftR nx), nx + 0, shiftO nx (r10_Good_o2 a0 a1) ++ o, p1 ++ (r10_Good_ps2 a0 a1))
    | _, _ => none
  | _, _, _ => none
theorem r10_Good_tok : TOk Try.prog 66 r10_Good_t := fun args nx o k x nx' o' ps h => by
  unfold r10_Good_t at h
  split at h <;> first | (cases h; done) | skip
  split at h <;> first | (cases h; done) | skip
  rename_i a0 a1 p1 e0 e1
  cases h
  refine ⟨fun hp => ?_, _, rfl⟩
  have q1 := fun p hm => hp p (List.mem_append.2 (.inl hm))
  have r1 := fun p hm => hp p (List.mem_append.2 (.inr hm))
  refine callOk_args (callOk_shift (r10_Good_c2 a0 a1 r1) (Nat.le_refl _) (freeL_cons rfl (freeL_cons (valA_free _ _) freeL_nil)) nx o) fun F N R vs hl => ?_
  obtain ⟨v0, w0, rfl, h0, hl⟩ := hl.inv
  obtain ⟨v1, w1, rfl, h1, hl⟩ := hl.inv
  exact HL.cons (argL_ok e0 h0) (HL.cons (argU_ok e1 q1 h1) (hl))
noncomputable def Cj_2 := addC 66 r10_Good_t Cj_1
theorem Cj_2_ok : COk Try.prog Cj_2 := addC_ok r10_Good_tok Cj_1_ok
def r08_Same_0 (a0 : TCell) (a1 : TCell) : Bool := a0.1.1 == a1.1.1 && a0.1.2 == a1.1.2 && (a0.2.1 == a1.2.1 && a0.2.2 == a1.2.2) && a0.3 == a1.3 && a0.4.toList == a1.4.toList && (a0.5.1 == a1.5.1 && a0.5.2 == a1.5.2)
def r08_Same_r (a0 : TCell) (a1 : TCell) : A := .v (.bool (r08_Same_0 a0 a1))
def r08_Same_o (_a0 : TCell) (_a1 : TCell) : Objs := []
def r08_Same_ps (_a0 : TCell) (_a1 : TCell) : List Prop := []
set_option maxRecDepth 100000 in
theorem r08_Same_ev (a0 : TCell) (a1 : TCell) : evF (envT Cj_2 L0) 9 76 [valA .cell a0, valA .cell a1] 0 [] = some (1, r08_Same_r a0 a1, 0, r08_Same_o a0 a1, []) := by kernel_rfl
set_option maxRecDepth 100000 in
theorem r08_Same_c (a0 : TCell) (a1 : TCell) (_hp : ∀ p ∈ r08_Same_ps a0 a1, p) : CallOk Try.prog 76 [valA .cell a0, valA .cell a1] 0 [] 1 (r08_Same_r a0 a1) 0 (r08_Same_o a0 a1) := by
  exact evF_ok (envP_ok Cj_2_ok L0_ok) (r08_Same_ev a0 a1) needs_nil
def r08_Same_r2 (a0 : TCell) (a1 : TCell) : A := .v (.bool (eqC a0 a1))
def r08_Same_o2 (_a0 : TCell) (_a1 : TCell) : Objs := []
def r08_Same_ps2 (_a0 : TCell) (_a1 : TCell) : List Prop := []
theorem r08_Same_c2 (a0 : TCell) (a1 : TCell) (_hp : ∀ p ∈ r08_Same_ps2 a0 a1, p) : CallOk Try.prog 76 [valA .cell a0, valA .cell a1] 0 [] 1 (r08_Same_r2 a0 a1) 0 (r08_Same_o2 a0 a1) := by
  have h := r08_Same_c a0 a1 (fun _ h => by cases h)
  have e : r08_Same_0 a0 a1 = eqC a0 a1 := by unfold r08_Same_0; rw [tlb]; rfl
  unfold r08_Same_r at h
  rw [e] at h
  exact h
def r08_Same_t : List A → Nat → Objs → Option CRes
  | [y0, y1], nx, o => match argU .cell y0, argU .cell y1 with
    | some (a0, p0), some (a1, p1) => some (1, (r08_Same_r2 a0 a1).pk (shiftR nx), nx + 0, shiftO nx (r08_Same_o2 a0 a1) ++ o, p0 ++ (p1 ++ (r08_Same_ps2 a0 a1)))
    | _, _ => none
  | _, _, _ => none
theorem r08_Same_tok : TOk Try.prog 76 r08_Same_t := fun args nx o k x nx' o' ps h => by
  unfold r08_Same_t at h
  split at h <;> first | (cases h; done) | skip
  split at h <;> first | (cases h; done) | skip
  rename_i a0 p0 a1 p1 e0 e1
  cases h
  refine ⟨fun hp => ?_, _, rfl⟩
  have q0 := fun p hm => hp p (List.mem_append.2 (.inl hm))
  have r0 := fun p hm => hp p (List.mem_append.2 (.inr hm))
  have q1 := fun p hm => r0 p (List.mem_append.2 (.inl hm))
  have r1 := fun p hm => r0 p (List.mem_append.2 (.inr hm))
  refine callOk_args (callOk_shift (r08_Same_c2 a0 a1 r1) (Nat.le_refl _) (freeL_cons (valA_free _ _) (freeL_cons (valA_free _ _) freeL_nil)) nx o) fun F N R vs hl => ?_
  obtain ⟨v0, w0, rfl, h0, hl⟩ := hl.inv
  obtain ⟨v1, w1, rfl, h1, hl⟩ := hl.inv
  exact HL.cons (argU_ok e0 q0 h0) (HL.cons (argU_ok e1 q1 h1) (hl))
noncomputable def Cj_3 := addC 76 r08_Same_t Cj_2
theorem Cj_3_ok : COk Try.prog Cj_3 := addC_ok r08_Same_tok Cj_2_ok
/-! loop 0 of function 67 -/
abbrev r10_Same_l0_X : Type := Int × TRow × TRow
def r10_Same_l0_T (x : r10_Same_l0_X) : St := ⟨39, 2, [(2, .own 0 0), (3, .own 1 0), (5, .v (.int .i64 x.1))], [(0, some (.box 71 [.v (.string x.2.1.key), .sl .cell x.2.1.cells])), (1, some (.box 71 [.v (.string x.2.2.key), .sl .cell x.2.2.cells]))]⟩
def r10_Same_l0_un : St → Option r10_Same_l0_X
  | ⟨39, 2, [(2, .own 0 0), (3, .own 1 0), (5, .v (.int .i64 z0))], [(0, some (.box 71 [.v (.string z1), .sl .cell z2])), (1, some (.box 71 [.v (.string z3), .sl .cell z4]))]⟩ => some (z0, ⟨z1, z2⟩, ⟨z3, z4⟩)
  | _ => none
theorem r10_Same_l0_unok : ∀ s x, r10_Same_l0_un s = some x → s = r10_Same_l0_T x := fun s x h => by
  unfold r10_Same_l0_un at h
  split at h
  · cases h; rfl
  · cases h
def r10_Same_l0_S : Shape := ⟨2, 2, [2, 3, 5], [], [(0, 0), (1, 1)], [0, 1], [4], [0, 1]⟩
def r10_Same_l0_E : Entry := ⟨[], [(0, 0), (1, 1)], [2, 3, 5], [0, 1]⟩
def r10_Same_l0_f_k1 (a0 : Int) (a1 : TRow) (_a2 : TRow) : Bool := !!decide (a0 < (↑a1.2.length : Int))
def r10_Same_l0_f_k0 (a0 : Int) (a1 : TRow) (a2 : TRow) : Bool := (r10_Same_l0_f_k1 a0 a1 a2) && !eqC (a1.2.getD a0.toNat (dflt TC.cell)) (a2.2.getD a0.toNat (dflt TC.cell))
def r10_Same_l0_f_3 (a0 : Int) (a1 : TRow) (a2 : TRow) : Bool := (r10_Same_l0_f_k1 a0 a1 a2) && !(r10_Same_l0_f_k0 a0 a1 a2)
def r10_Same_l0_next (x : r10_Same_l0_X) : r10_Same_l0_X := (IntKind.i64.wrap (x.1 + (1 : Int)), x.2.1, x.2.2)
def r10_Same_l0_goes (x : r10_Same_l0_X) : Cnd := some (r10_Same_l0_f_3 x.1 x.2.1 x.2.2)
def r10_Same_l0_psA (x : r10_Same_l0_X) : List Prop := [((r10_Same_l0_f_k1 x.1 x.2.1 x.2.2) = true → (0 : Int) ≤ x.1 ∧ x.1 < (↑x.2.1.2.length : Int)), ((r10_Same_l0_f_k1 x.1 x.2.1 x.2.2) = true → (0 : Int) ≤ x.1 ∧ x.1 < (↑x.2.2.2.length : Int))]
def r10_Same_l0_ps (x : r10_Same_l0_X) : List Prop := [((r10_Same_l0_f_k1 x.1 x.2.1 x.2.2) = true → (0 : Int) ≤ x.1 ∧ x.1 < (↑x.2.1.2.length : Int)), ((r10_Same_l0_f_k1 x.1 x.2.1 x.2.2) = true → (0 : Int) ≤ x.1 ∧ x.1 < (↑x.2.2.2.length : Int))]
def r10_Same_l0_outs (x : r10_Same_l0_X) : Outs := [(some 0, some (!decide (x.1 < (↑x.2.1.2.length : Int))), ⟨39, 2, [(4, .dead)], [(0, some (.box 71 [.v (.string x.2.1.1), .sl .cell x.2.1.2])), (1, some (.box 71 [.v (.string x.2.2.1), .sl .cell x.2.2.2]))]⟩), (none, some ((r10_Same_l0_f_k0 x.1 x.2.1 x.2.2)), ⟨39, 2, [(4, .v (.bool (false)))], [(0, some (.box 71 [.v (.string x.2.1.1), .sl .cell x.2.1.2])), (1, some (.box 71 [.v (.string x.2.2.1), .sl .cell x.2.2.2]))]⟩)]
def r10_Same_l0_fuel (x : r10_Same_l0_X) : Nat := ((↑x.2.1.2.length : Int) - x.1).toNat
def r10_Same_l0_run (x : r10_Same_l0_X) : r10_Same_l0_X := iterX r10_Same_l0_next r10_Same_l0_goes (r10_Same_l0_fuel x) x
set_option maxRecDepth 100000 in
theorem r10_Same_l0_ev (a0 : Int) (a1 : TRow) (a2 : TRow) : roundE (envT Cj_3 L0) 9 (loopAt Try.prog 67 0) r10_Same_l0_S (r10_Same_l0_T (a0, a1, a2)) = some (r10_Same_l0_psA (a0, a1, a2), r10_Same_l0_outs (a0, a1, a2), r10_Same_l0_goes (a0, a1, a2), r10_Same_l0_T (r10_Same_l0_next (a0, a1, a2))) := by kernel_rfl
set_option maxRecDepth 100000 in
theorem r10_Same_l0_hA (a0 : Int) (a1 : TRow) (a2 : TRow) (hp : ∀ p ∈ r10_Same_l0_ps (a0, a1, a2), p) : ∀ p ∈ r10_Same_l0_psA (a0, a1, a2), p := by
  have n0 : ((r10_Same_l0_f_k1 a0 a1 a2) = true → (0 : Int) ≤ a0 ∧ a0 < (↑a1.2.length : Int)) := hp _ (List.mem_cons_self ..)
  have n1 : ((r10_Same_l0_f_k1 a0 a1 a2) = true → (0 : Int) ≤ a0 ∧ a0 < (↑a2.2.length : Int)) := hp _ (List.mem_cons_of_mem _ (List.mem_cons_self ..))
  exact (needs_cons n0 (needs_cons n1 needs_nil))
noncomputable def r10_Same_l0_row := rowL (envT Cj_3 L0) (loopAt Try.prog 67 0) r10_Same_l0_S r10_Same_l0_E r10_Same_l0_un r10_Same_l0_fuel r10_Same_l0_next r10_Same_l0_goes r10_Same_l0_ps r10_Same_l0_outs
theorem r10_Same_l0_rok : ∀ s b ps outs, r10_Same_l0_row s = some (b, ps, outs) → Wf s ⟨ps, outs, none⟩ ∧ LoopOk (envT C0 L0) b s ps outs :=
  rowP_ok (T := r10_Same_l0_T) Cj_3_ok L0_ok (u := 9) (by kernel_rfl) (by decide) (fun ⟨a0, a1, a2⟩ => r10_Same_l0_ev a0 a1 a2) (fun ⟨a0, a1, a2⟩ => r10_Same_l0_hA a0 a1 a2) r10_Same_l0_unok (fun _ => okOuts_ok (n := 39) rfl) fun _ _ => rfl
noncomputable def r10_Same_l0_L := addLp 0 r10_Same_l0_row L0
theorem r10_Same_l0_Lok : LpOk r10_Same_l0_L := addLp_ok r10_Same_l0_rok L0_ok
def r10_Same_k1 (a0 : TRow) (a1 : TRow) : r10_Same_l0_X := r10_Same_l0_run ((0 : Int), a0, a1)
def r10_Same_k0 (a0 : TRow) (a1 : TRow) : Bool := !a0.1.toList == a1.1.toList || (↑a0.2.length : Int) != (↑a1.2.length : Int)
def r10_Same_0 (a0 : TRow) (a1 : TRow) : Bool := bif (r10_Same_k0 a0 a1) then false else bif r10_Same_l0_f_k0 (r10_Same_k1 a0 a1).fst (r10_Same_k1 a0 a1).snd.fst (r10_Same_k1 a0 a1).snd.snd then false else true
def r10_Same_r (a0 : TRow) (a1 : TRow) : A := .v (.bool (r10_Same_0 a0 a1))
def r10_Same_o (_a0 : TRow) (_a1 : TRow) : Objs := []
def r10_Same_ps (a0 : TRow) (a1 : TRow) : List Prop := [((!(r10_Same_k0 a0 a1)) = true → needX r10_Same_l0_next r10_Same_l0_goes r10_Same_l0_ps (r10_Same_l0_fuel ((0 : Int), a0, a1)) ((0 : Int), a0, a1))]
set_option maxRecDepth 100000 in
theorem r10_Same_ev (a0 : TRow) (a1 : TRow) : evF (envT Cj_3 r10_Same_l0_L) 9 67 [valA .row a0, valA .row a1] 0 [] = some (1, r10_Same_r a0 a1, 0, r10_Same_o a0 a1, [((!(r10_Same_k0 a0 a1)) = true → loopAt Try.prog (67 : FuncId) (0 : Nat) = loopAt Try.prog (67 : FuncId) (0 : Nat)), ((!(r10_Same_k0 a0 a1)) = true → needX r10_Same_l0_next r10_Same_l0_goes r10_Same_l0_ps (r10_Same_l0_fuel ((0 : Int), a0, a1)) ((0 : Int), a0, a1))]) := by kernel_rfl
set_option maxRecDepth 100000 in
theorem r10_Same_c (a0 : TRow) (a1 : TRow) (hp : ∀ p ∈ r10_Same_ps a0 a1, p) : CallOk Try.prog 67 [valA .row a0, valA .row a1] 0 [] 1 (r10_Same_r a0 a1) 0 (r10_Same_o a0 a1) := by
  have n0 : ((!(r10_Same_k0 a0 a1)) = true → loopAt Try.prog (67 : FuncId) (0 : Nat) = loopAt Try.prog (67 : FuncId) (0 : Nat)) := by intros; rfl
  have n1 : ((!(r10_Same_k0 a0 a1)) = true → needX r10_Same_l0_next r10_Same_l0_goes r10_Same_l0_ps (r10_Same_l0_fuel ((0 : Int), a0, a1)) ((0 : Int), a0, a1)) := hp _ (List.mem_cons_self ..)
  exact evF_ok (envP_ok Cj_3_ok r10_Same_l0_Lok) (r10_Same_ev a0 a1) (needs_cons n0 (needs_cons n1 needs_nil))
def r10_Same_r2 (a0 : TRow) (a1 : TRow) : A := .v (.bool (eqRw a0 a1))
def r10_Same_o2 (_a0 : TRow) (_a1 : TRow) : Objs := []
def r10_Same_ps2 (a0 : TRow) (_a1 : TRow) : List Prop := [boundP a0.cells.length]
theorem r10_Same_eq (a b : TRow) (hb : boundP a.cells.length) : (∀ p ∈ r10_Same_ps a b, p) ∧ r10_Same_0 a b = eqRw a b := by
  unfold boundP at hb
  have hk0 : r10_Same_k0 a b = (!(a.key == b.key) || a.cells.length != b.cells.length) := by
    show (!(a.key.toList == b.key.toList) || ((a.cells.length : Int) != (b.cells.length : Int))) = _
    rw [tlb]
    congr 1
    rw [Bool.eq_iff_iff, bne_iff_ne, bne_iff_ne]; omega
  have main : r10_Same_k0 a b = false → needX r10_Same_l0_next r10_Same_l0_goes r10_Same_l0_ps (r10_Same_l0_fuel (0, a, b)) (0, a, b) ∧ r10_Same_l0_f_k0 (r10_Same_k1 a b).fst (r10_Same_k1 a b).snd.fst (r10_Same_k1 a b).snd.snd = !eqCs a.cells b.cells := fun h0 => by
    rw [hk0] at h0
    have hlen : a.cells.length = b.cells.length := by simpa using (Bool.or_eq_false_iff.1 h0).2
    have hf : ∀ i : Nat, r10_Same_l0_f_k0 (i : Int) a b = (decide (i < a.cells.length) && !eqC (a.2.getD i (dflt TC.cell)) (b.2.getD i (dflt TC.cell))) := fun i => by
      unfold r10_Same_l0_f_k0 r10_Same_l0_f_k1
      rw [nn, dlt, Int.toNat_natCast]
    obtain ⟨h1, k, hk, hx, _, _, hb'⟩ := scanB (fun i => (((i : Int), a, b) : r10_Same_l0_X)) a.cells.length (fun i => !eqC (a.2.getD i (dflt TC.cell)) (b.2.getD i (dflt TC.cell))) r10_Same_l0_next r10_Same_l0_goes r10_Same_l0_ps (r10_Same_l0_fuel (0, a, b)) (0, a, b) rfl (by show a.cells.length ≤ ((a.cells.length : Int) - 0).toNat; omega)
      (fun i _ _ => by
        show ((!!decide ((i : Int) < (a.cells.length : Int))) && !r10_Same_l0_f_k0 i a b) = _
        rw [hf, nn, dlt]
        cases decide (i < a.cells.length) <;> rfl)
      (fun i hi _ => by
        show (IntKind.i64.wrap ((i : Int) + 1), a, b) = (((i + 1 : Nat) : Int), a, b)
        rw [wsucc (by omega)])
      (fun i _ _ => by
        have hin : (!!decide ((i : Int) < (a.cells.length : Int))) = true → (i : Int) < (a.cells.length : Int) := fun h => by rw [nn] at h; exact of_decide_eq_true h
        exact needs_cons (fun h => ⟨by show (0 : Int) ≤ (i : Int); omega, hin h⟩) (needs_cons (fun h => ⟨by show (0 : Int) ≤ (i : Int); omega, by have := hin h; show (i : Int) < (b.cells.length : Int); omega⟩) needs_nil))
    refine ⟨h1, ?_⟩
    have hr : r10_Same_k1 a b = ((k : Int), a, b) := hx
    rw [hr]
    show r10_Same_l0_f_k0 (k : Int) a b = _
    rw [hf, hb', eqCs_N _ _ hlen]
    congr 1
    exact allN_congr fun i _ => Bool.not_not _
  refine ⟨needs_cons (fun h => (main (by simpa using h)).1) needs_nil, ?_⟩
  unfold r10_Same_0 eqRw
  cases h0 : r10_Same_k0 a b with
  | true =>
    rw [hk0] at h0
    rw [cond_true]
    cases hk : a.key == b.key with
    | false => rfl
    | true =>
      rw [hk] at h0
      have hne : a.cells.length ≠ b.cells.length := by simpa using h0
      cases he : eqCs a.cells b.cells with
      | false => rfl
      | true => exact absurd (congrArg List.length (eqCs_iff.1 he)) hne
  | false =>
    rw [cond_false, (main h0).2]
    rw [hk0] at h0
    have : (a.key == b.key) = true := by simpa using (Bool.or_eq_false_iff.1 h0).1
    rw [this, Bool.true_and]
    cases eqCs a.cells b.cells <;> rfl
theorem r10_Same_c2 (a0 : TRow) (a1 : TRow) (hp : ∀ p ∈ r10_Same_ps2 a0 a1, p) : CallOk Try.prog 67 [valA .row a0, valA .row a1] 0 [] 1 (r10_Same_r2 a0 a1) 0 (r10_Same_o2 a0 a1) := by
  have hb : boundP a0.cells.length := hp _ (List.mem_cons_self ..)
  have h := r10_Same_c a0 a1 (r10_Same_eq a0 a1 hb).1
  unfold r10_Same_r at h
  rw [(r10_Same_eq a0 a1 hb).2] at h
  exact h
def r10_Same_t : List A → Nat → Objs → Option CRes
  | [y0, y1], nx, o => match argU .row y0, argU .row y1 with
    | some (a0, p0), some (a1, p1) => some (1, (r10_Same_r2 a0 a1).pk (shiftR nx), nx + 0, shiftO nx (r10_Same_o2 a0 a1) ++ o, p0 ++ (p1 ++ (r10_Same_ps2 a0 a1)))
    | _, _ => none
  | _, _, _ => none
theorem r10_Same_tok : TOk Try.prog 67 r10_Same_t := fun args nx o k x nx' o' ps h => by
  unfold r10_Same_t at h
  split at h <;> first | (cases h; done) | skip
  split at h <;> first | (cases h; done) | skip
  rename_i a0 p0 a1 p1 e0 e1
  cases h
  refine ⟨fun hp => ?_, _, rfl⟩
  have q0 := fun p hm => hp p (List.mem_append.2 (.inl hm))
  have r0 := fun p hm => hp p (List.mem_append.2 (.inr hm))
  have q1 := fun p hm => r0 p (List.mem_append.2 (.inl hm))
  have r1 := fun p hm => r0 p (List.mem_append.2 (.inr hm))
  refine callOk_args (callOk_shift (r10_Same_c2 a0 a1 r1) (Nat.le_refl _) (freeL_cons (valA_free _ _) (freeL_cons (valA_free _ _) freeL_nil)) nx o) fun F N R vs hl => ?_
  obtain ⟨v0, w0, rfl, h0, hl⟩ := hl.inv
  obtain ⟨v1, w1, rfl, h1, hl⟩ := hl.inv
  exact HL.cons (argU_ok e0 q0 h0) (HL.cons (argU_ok e1 q1 h1) (hl))
noncomputable def Cj_4 := addC 67 r10_Same_t Cj_3
theorem Cj_4_ok : COk Try.prog Cj_4 := addC_ok r10_Same_tok Cj_3_ok
/-! loop 0 of function 68 -/
abbrev r10_Bare_l0_X : Type := Int × TRow
def r10_Bare_l0_T (x : r10_Bare_l0_X) : St := ⟨19, 1, [(1, .own 0 0), (3, .v (.int .i64 x.1))], [(0, some (.box 71 [.v (.string x.2.key), .sl .cell x.2.cells]))]⟩
def r10_Bare_l0_un : St → Option r10_Bare_l0_X
  | ⟨19, 1, [(1, .own 0 0), (3, .v (.int .i64 z0))], [(0, some (.box 71 [.v (.string z1), .sl .cell z2]))]⟩ => some (z0, ⟨z1, z2⟩)
  | _ => none
theorem r10_Bare_l0_unok : ∀ s x, r10_Bare_l0_un s = some x → s = r10_Bare_l0_T x := fun s x h => by
  unfold r10_Bare_l0_un at h
  split at h
  · cases h; rfl
  · cases h
def r10_Bare_l0_S : Shape := ⟨1, 1, [1, 3], [], [(0, 0)], [0], [2], [0]⟩
def r10_Bare_l0_E : Entry := ⟨[], [(0, 0)], [1, 3], [0]⟩
def r10_Bare_l0_f_k1 (a0 : Int) (a1 : TRow) : Bool := !!decide (a0 < (↑a1.2.length : Int))
def r10_Bare_l0_f_k0 (a0 : Int) (a1 : TRow) : Bool := (r10_Bare_l0_f_k1 a0 a1) && !eqC (a1.2.getD a0.toNat (dflt TC.cell)) (TCell.mk (TStamp.mk (0 : Int) (0 : Int)) (TVec.mk (0 : Int) (0 : Int)) false (ByteArray.mk #[]) (TVec.mk (0 : Int) (0 : Int)))
def r10_Bare_l0_f_2 (a0 : Int) (a1 : TRow) : Bool := (r10_Bare_l0_f_k1 a0 a1) && !(r10_Bare_l0_f_k0 a0 a1)
def r10_Bare_l0_next (x : r10_Bare_l0_X) : r10_Bare_l0_X := (IntKind.i64.wrap (x.1 + (1 : Int)), x.2)
def r10_Bare_l0_goes (x : r10_Bare_l0_X) : Cnd := some (r10_Bare_l0_f_2 x.1 x.2)
def r10_Bare_l0_psA (x : r10_Bare_l0_X) : List Prop := [((r10_Bare_l0_f_k1 x.1 x.2) = true → (0 : Int) ≤ x.1 ∧ x.1 < (↑x.2.2.length : Int))]
def r10_Bare_l0_ps (x : r10_Bare_l0_X) : List Prop := [((r10_Bare_l0_f_k1 x.1 x.2) = true → (0 : Int) ≤ x.1 ∧ x.1 < (↑x.2.2.length : Int))]
def r10_Bare_l0_outs (x : r10_Bare_l0_X) : Outs := [(some 0, some (!decide (x.1 < (↑x.2.2.length : Int))), ⟨19, 1, [(2, .dead)], [(0, some (.box 71 [.v (.string x.2.1), .sl .cell x.2.2]))]⟩), (none, some ((r10_Bare_l0_f_k0 x.1 x.2)), ⟨19, 1, [(2, .v (.bool (false)))], [(0, some (.box 71 [.v (.string x.2.1), .sl .cell x.2.2]))]⟩)]
def r10_Bare_l0_fuel (x : r10_Bare_l0_X) : Nat := ((↑x.2.2.length : Int) - x.1).toNat
def r10_Bare_l0_run (x : r10_Bare_l0_X) : r10_Bare_l0_X := iterX r10_Bare_l0_next r10_Bare_l0_goes (r10_Bare_l0_fuel x) x
set_option maxRecDepth 100000 in
theorem r10_Bare_l0_ev (a0 : Int) (a1 : TRow) : roundE (envT Cj_4 L0) 9 (loopAt Try.prog 68 0) r10_Bare_l0_S (r10_Bare_l0_T (a0, a1)) = some (r10_Bare_l0_psA (a0, a1), r10_Bare_l0_outs (a0, a1), r10_Bare_l0_goes (a0, a1), r10_Bare_l0_T (r10_Bare_l0_next (a0, a1))) := by kernel_rfl
set_option maxRecDepth 100000 in
theorem r10_Bare_l0_hA (a0 : Int) (a1 : TRow) (hp : ∀ p ∈ r10_Bare_l0_ps (a0, a1), p) : ∀ p ∈ r10_Bare_l0_psA (a0, a1), p := by
  have n0 : ((r10_Bare_l0_f_k1 a0 a1) = true → (0 : Int) ≤ a0 ∧ a0 < (↑a1.2.length : Int)) := hp _ (List.mem_cons_self ..)
  exact (needs_cons n0 needs_nil)
noncomputable def r10_Bare_l0_row := rowL (envT Cj_4 L0) (loopAt Try.prog 68 0) r10_Bare_l0_S r10_Bare_l0_E r10_Bare_l0_un r10_Bare_l0_fuel r10_Bare_l0_next r10_Bare_l0_goes r10_Bare_l0_ps r10_Bare_l0_outs
theorem r10_Bare_l0_rok : ∀ s b ps outs, r10_Bare_l0_row s = some (b, ps, outs) → Wf s ⟨ps, outs, none⟩ ∧ LoopOk (envT C0 L0) b s ps outs :=
  rowP_ok (T := r10_Bare_l0_T) Cj_4_ok L0_ok (u := 9) (by kernel_rfl) (by decide) (fun ⟨a0, a1⟩ => r10_Bare_l0_ev a0 a1) (fun ⟨a0, a1⟩ => r10_Bare_l0_hA a0 a1) r10_Bare_l0_unok (fun _ => okOuts_ok (n := 19) rfl) fun _ _ => rfl
noncomputable def r10_Bare_l0_L := addLp 0 r10_Bare_l0_row L0
theorem r10_Bare_l0_Lok : LpOk r10_Bare_l0_L := addLp_ok r10_Bare_l0_rok L0_ok
def r10_Bare_0 (a0 : TRow) : Bool := bif r10_Bare_l0_f_k0 (r10_Bare_l0_run ((0 : Int), a0)).fst (r10_Bare_l0_run ((0 : Int), a0)).snd then false else true
def r10_Bare_r (a0 : TRow) : A := .v (.bool (r10_Bare_0 a0))
def r10_Bare_o (_a0 : TRow) : Objs := []
def r10_Bare_ps (a0 : TRow) : List Prop := [(needX r10_Bare_l0_next r10_Bare_l0_goes r10_Bare_l0_ps (r10_Bare_l0_fuel ((0 : Int), a0)) ((0 : Int), a0))]
set_option maxRecDepth 100000 in
theorem r10_Bare_ev (a0 : TRow) : evF (envT Cj_4 r10_Bare_l0_L) 9 68 [valA .row a0] 0 [] = some (1, r10_Bare_r a0, 0, r10_Bare_o a0, [(loopAt Try.prog (68 : FuncId) (0 : Nat) = loopAt Try.prog (68 : FuncId) (0 : Nat)), (needX r10_Bare_l0_next r10_Bare_l0_goes r10_Bare_l0_ps (r10_Bare_l0_fuel ((0 : Int), a0)) ((0 : Int), a0))]) := by kernel_rfl
set_option maxRecDepth 100000 in
theorem r10_Bare_c (a0 : TRow) (hp : ∀ p ∈ r10_Bare_ps a0, p) : CallOk Try.prog 68 [valA .row a0] 0 [] 1 (r10_Bare_r a0) 0 (r10_Bare_o a0) := by
  have n1 : (needX r10_Bare_l0_next r10_Bare_l0_goes r10_Bare_l0_ps (r10_Bare_l0_fuel ((0 : Int), a0)) ((0 : Int), a0)) := hp _ (List.mem_cons_self ..)
  exact evF_ok (envP_ok Cj_4_ok r10_Bare_l0_Lok) (r10_Bare_ev a0) (needs_cons rfl (needs_cons n1 needs_nil))
def r10_Bare_r2 (a0 : TRow) : A := .v (.bool (bareR a0))
def r10_Bare_o2 (_a0 : TRow) : Objs := []
def r10_Bare_ps2 (a0 : TRow) : List Prop := [boundP a0.cells.length]
theorem r10_Bare_eq (a : TRow) (hb : boundP a.cells.length) : (∀ p ∈ r10_Bare_ps a, p) ∧ r10_Bare_0 a = bareR a := by
  unfold boundP at hb
  have hf : ∀ i : Nat, r10_Bare_l0_f_k0 (i : Int) a = (decide (i < a.cells.length) && !eqC (a.2.getD i (dflt TC.cell)) zeroC) := fun i => by
    unfold r10_Bare_l0_f_k0 r10_Bare_l0_f_k1
    rw [nn, dlt, Int.toNat_natCast]
    rfl
  obtain ⟨h1, k, hk, hx, _, _, hb'⟩ := scanB (fun i => (((i : Int), a) : r10_Bare_l0_X)) a.cells.length (fun i => !eqC (a.2.getD i (dflt TC.cell)) zeroC) r10_Bare_l0_next r10_Bare_l0_goes r10_Bare_l0_ps (r10_Bare_l0_fuel (0, a)) (0, a) rfl (by show a.cells.length ≤ ((a.cells.length : Int) - 0).toNat; omega)
    (fun i _ _ => by
      show ((!!decide ((i : Int) < (a.cells.length : Int))) && !r10_Bare_l0_f_k0 i a) = _
      rw [hf, nn, dlt]
      cases decide (i < a.cells.length) <;> rfl)
    (fun i hi _ => by
      show (IntKind.i64.wrap ((i : Int) + 1), a) = (((i + 1 : Nat) : Int), a)
      rw [wsucc (by omega)])
    (fun i _ _ => needs_cons (fun h => ⟨by show (0 : Int) ≤ (i : Int); omega, by
      have h' : (!!decide ((i : Int) < (a.cells.length : Int))) = true := h
      rw [nn] at h'; exact of_decide_eq_true h'⟩) needs_nil)
  refine ⟨needs_cons h1 needs_nil, ?_⟩
  have hr : r10_Bare_l0_run (0, a) = ((k : Int), a) := hx
  unfold r10_Bare_0
  rw [hr]
  show (bif r10_Bare_l0_f_k0 (k : Int) a then false else true) = _
  rw [hf, hb']
  unfold bareR
  rw [all_N a.cells (dflt TC.cell)]
  rw [show allN a.cells.length (fun i => !!eqC (a.2.getD i (dflt TC.cell)) zeroC) = allN a.cells.length (fun i => eqC (a.cells.getD i (dflt TC.cell)) zeroC) from allN_congr fun i _ => Bool.not_not _]
  cases allN a.cells.length (fun i => eqC (a.cells.getD i (dflt TC.cell)) zeroC) <;> rfl
theorem r10_Bare_c2 (a0 : TRow) (hp : ∀ p ∈ r10_Bare_ps2 a0, p) : CallOk Try.prog 68 [valA .row a0] 0 [] 1 (r10_Bare_r2 a0) 0 (r10_Bare_o2 a0) := by
  have hb : boundP a0.cells.length := hp _ (List.mem_cons_self ..)
  have h := r10_Bare_c a0 (r10_Bare_eq a0 hb).1
  unfold r10_Bare_r at h
  rw [(r10_Bare_eq a0 hb).2] at h
  exact h
def r10_Bare_t : List A → Nat → Objs → Option CRes
  | [y0], nx, o => match argU .row y0 with
    | some (a0, p0) => some (1, (r10_Bare_r2 a0).pk (shiftR nx), nx + 0, shiftO nx (r10_Bare_o2 a0) ++ o, p0 ++ (r10_Bare_ps2 a0))
    | _ => none
  | _, _, _ => none
theorem r10_Bare_tok : TOk Try.prog 68 r10_Bare_t := fun args nx o k x nx' o' ps h => by
  unfold r10_Bare_t at h
  split at h <;> first | (cases h; done) | skip
  split at h <;> first | (cases h; done) | skip
  rename_i a0 p0 e0
  cases h
  refine ⟨fun hp => ?_, _, rfl⟩
  have q0 := fun p hm => hp p (List.mem_append.2 (.inl hm))
  have r0 := fun p hm => hp p (List.mem_append.2 (.inr hm))
  refine callOk_args (callOk_shift (r10_Bare_c2 a0 r0) (Nat.le_refl _) (freeL_cons (valA_free _ _) freeL_nil) nx o) fun F N R vs hl => ?_
  obtain ⟨v0, w0, rfl, h0, hl⟩ := hl.inv
  exact HL.cons (argU_ok e0 q0 h0) (hl)
noncomputable def Cj_5 := addC 68 r10_Bare_t Cj_4
theorem Cj_5_ok : COk Try.prog Cj_5 := addC_ok r10_Bare_tok Cj_4_ok
/-! loop 0 of function 52 -/
abbrev row_Bare_l0_X : Type := (List TCell) × Int × Int
def row_Bare_l0_T (x : row_Bare_l0_X) : St := ⟨16, 1, [(6, .sl .cell x.1), (7, .v (.int .i64 x.2.1)), (8, .v (.int .i64 x.2.2))], []⟩
def row_Bare_l0_un : St → Option row_Bare_l0_X
  | ⟨16, 1, [(6, .sl .cell z0), (7, .v (.int .i64 z1)), (8, .v (.int .i64 z2))], []⟩ => some (z0, z1, z2)
  | _ => none
theorem row_Bare_l0_unok : ∀ s x, row_Bare_l0_un s = some x → s = row_Bare_l0_T x := fun s x h => by
  unfold row_Bare_l0_un at h
  split at h
  · cases h; rfl
  · cases h
def row_Bare_l0_S : Shape := ⟨1, 1, [6, 7, 8], [], [], [], [2], []⟩
def row_Bare_l0_E : Entry := ⟨[], [], [6, 7, 8], []⟩
def row_Bare_l0_f_k0 (a0 : List TCell) (a1 : Int) (a2 : Int) : Bool := !!decide (a2 < a1) && !((a0.getD a2.toNat (dflt TC.cell)).1.1 == (0 : Int) && (a0.getD a2.toNat (dflt TC.cell)).1.2 == (0 : Int) && ((a0.getD a2.toNat (dflt TC.cell)).2.1 == (0 : Int) && (a0.getD a2.toNat (dflt TC.cell)).2.2 == (0 : Int) && ((a0.getD a2.toNat (dflt TC.cell)).3 == false && ((a0.getD a2.toNat (dflt TC.cell)).4.toList == (ByteArray.mk #[]).toList && ((a0.getD a2.toNat (dflt TC.cell)).5.1 == (0 : Int) && (a0.getD a2.toNat (dflt TC.cell)).5.2 == (0 : Int))))))
def row_Bare_l0_f_3 (a0 : List TCell) (a1 : Int) (a2 : Int) : Bool := !!decide (a2 < a1) && !(row_Bare_l0_f_k0 a0 a1 a2)
def row_Bare_l0_next (x : row_Bare_l0_X) : row_Bare_l0_X := (x.1, x.2.1, IntKind.i64.wrap (x.2.2 + (1 : Int)))
def row_Bare_l0_goes (x : row_Bare_l0_X) : Cnd := some (row_Bare_l0_f_3 x.1 x.2.1 x.2.2)
def row_Bare_l0_psA (x : row_Bare_l0_X) : List Prop := [((!!decide (x.2.2 < x.2.1)) = true → (0 : Int) ≤ x.2.2 ∧ x.2.2 < (↑x.1.length : Int))]
def row_Bare_l0_ps (x : row_Bare_l0_X) : List Prop := [((!!decide (x.2.2 < x.2.1)) = true → (0 : Int) ≤ x.2.2 ∧ x.2.2 < (↑x.1.length : Int))]
def row_Bare_l0_outs (x : row_Bare_l0_X) : Outs := [(some 0, some (!decide (x.2.2 < x.2.1)), ⟨16, 1, [(2, .dead)], []⟩), (none, some ((row_Bare_l0_f_k0 x.1 x.2.1 x.2.2)), ⟨16, 2, [(2, .v (.bool (false)))], []⟩)]
def row_Bare_l0_fuel (x : row_Bare_l0_X) : Nat := (x.2.1 - x.2.2).toNat
def row_Bare_l0_run (x : row_Bare_l0_X) : row_Bare_l0_X := iterX row_Bare_l0_next row_Bare_l0_goes (row_Bare_l0_fuel x) x
set_option maxRecDepth 100000 in
theorem row_Bare_l0_ev (a0 : List TCell) (a1 : Int) (a2 : Int) : roundE (envT Cj_5 L0) 9 (loopAt Try.prog 52 0) row_Bare_l0_S (row_Bare_l0_T (a0, a1, a2)) = some (row_Bare_l0_psA (a0, a1, a2), row_Bare_l0_outs (a0, a1, a2), row_Bare_l0_goes (a0, a1, a2), row_Bare_l0_T (row_Bare_l0_next (a0, a1, a2))) := by kernel_rfl
set_option maxRecDepth 100000 in
theorem row_Bare_l0_hA (a0 : List TCell) (a1 : Int) (a2 : Int) (hp : ∀ p ∈ row_Bare_l0_ps (a0, a1, a2), p) : ∀ p ∈ row_Bare_l0_psA (a0, a1, a2), p := by
  have n0 : ((!!decide (a2 < a1)) = true → (0 : Int) ≤ a2 ∧ a2 < (↑a0.length : Int)) := hp _ (List.mem_cons_self ..)
  exact (needs_cons n0 needs_nil)
noncomputable def row_Bare_l0_row := rowL (envT Cj_5 L0) (loopAt Try.prog 52 0) row_Bare_l0_S row_Bare_l0_E row_Bare_l0_un row_Bare_l0_fuel row_Bare_l0_next row_Bare_l0_goes row_Bare_l0_ps row_Bare_l0_outs
theorem row_Bare_l0_rok : ∀ s b ps outs, row_Bare_l0_row s = some (b, ps, outs) → Wf s ⟨ps, outs, none⟩ ∧ LoopOk (envT C0 L0) b s ps outs :=
  rowP_ok (T := row_Bare_l0_T) Cj_5_ok L0_ok (u := 9) (by kernel_rfl) (by decide) (fun ⟨a0, a1, a2⟩ => row_Bare_l0_ev a0 a1 a2) (fun ⟨a0, a1, a2⟩ => row_Bare_l0_hA a0 a1 a2) row_Bare_l0_unok (fun _ => okOuts_ok (n := 16) rfl) fun _ _ => rfl
noncomputable def row_Bare_l0_L := addLp 0 row_Bare_l0_row L0
theorem row_Bare_l0_Lok : LpOk row_Bare_l0_L := addLp_ok row_Bare_l0_rok L0_ok
def row_Bare_k0 (a0 : TRow) : row_Bare_l0_X := row_Bare_l0_run (a0.2, (↑a0.2.length : Int), (0 : Int))
def row_Bare_0 (a0 : TRow) : Bool := bif row_Bare_l0_f_k0 (row_Bare_k0 a0).fst (row_Bare_k0 a0).snd.fst (row_Bare_k0 a0).snd.snd then false else true
def row_Bare_r (a0 : TRow) : A := .v (.bool (row_Bare_0 a0))
def row_Bare_o (_a0 : TRow) : Objs := []
def row_Bare_ps (a0 : TRow) : List Prop := [(needX row_Bare_l0_next row_Bare_l0_goes row_Bare_l0_ps (row_Bare_l0_fuel (a0.2, (↑a0.2.length : Int), (0 : Int))) (a0.2, (↑a0.2.length : Int), (0 : Int)))]
set_option maxRecDepth 100000 in
theorem row_Bare_ev (a0 : TRow) : evF (envT Cj_5 row_Bare_l0_L) 9 52 [valA .row a0] 0 [] = some (1, row_Bare_r a0, 0, row_Bare_o a0, [(loopAt Try.prog (52 : FuncId) (0 : Nat) = loopAt Try.prog (52 : FuncId) (0 : Nat)), (needX row_Bare_l0_next row_Bare_l0_goes row_Bare_l0_ps (row_Bare_l0_fuel (a0.2, (↑a0.2.length : Int), (0 : Int))) (a0.2, (↑a0.2.length : Int), (0 : Int)))]) := by kernel_rfl
set_option maxRecDepth 100000 in
theorem row_Bare_c (a0 : TRow) (hp : ∀ p ∈ row_Bare_ps a0, p) : CallOk Try.prog 52 [valA .row a0] 0 [] 1 (row_Bare_r a0) 0 (row_Bare_o a0) := by
  have n1 : (needX row_Bare_l0_next row_Bare_l0_goes row_Bare_l0_ps (row_Bare_l0_fuel (a0.2, (↑a0.2.length : Int), (0 : Int))) (a0.2, (↑a0.2.length : Int), (0 : Int))) := hp _ (List.mem_cons_self ..)
  exact evF_ok (envP_ok Cj_5_ok row_Bare_l0_Lok) (row_Bare_ev a0) (needs_cons rfl (needs_cons n1 needs_nil))
def row_Bare_r2 (a0 : TRow) : A := .v (.bool (bareR a0))
def row_Bare_o2 (_a0 : TRow) : Objs := []
def row_Bare_ps2 (a0 : TRow) : List Prop := [boundP a0.cells.length]
theorem row_Bare_eq (a : TRow) (hb : boundP a.cells.length) : (∀ p ∈ row_Bare_ps a, p) ∧ row_Bare_0 a = bareR a := by
  unfold boundP at hb
  have hz : ∀ c : TCell, (c.1.1 == (0 : Int) && c.1.2 == (0 : Int) && (c.2.1 == (0 : Int) && c.2.2 == (0 : Int) && (c.3 == false && (c.4.toList == (ByteArray.mk #[]).toList && (c.5.1 == (0 : Int) && c.5.2 == (0 : Int)))))) = eqC c zeroC := fun c => by
    rw [tlb]
    unfold eqC zeroC
    simp only [Bool.and_assoc]
  have hf : ∀ i : Nat, row_Bare_l0_f_k0 a.2 (a.2.length : Int) (i : Int) = (decide (i < a.cells.length) && !eqC (a.2.getD i (dflt TC.cell)) zeroC) := fun i => by
    unfold row_Bare_l0_f_k0
    rw [nn, dlt, Int.toNat_natCast, hz]
  obtain ⟨h1, k, hk, hx, _, _, hb'⟩ := scanB (fun i => ((a.2, (a.2.length : Int), (i : Int)) : row_Bare_l0_X)) a.cells.length (fun i => !eqC (a.2.getD i (dflt TC.cell)) zeroC) row_Bare_l0_next row_Bare_l0_goes row_Bare_l0_ps (row_Bare_l0_fuel (a.2, (a.2.length : Int), 0)) (a.2, (a.2.length : Int), 0) rfl (by show a.cells.length ≤ ((a.cells.length : Int) - 0).toNat; omega)
    (fun i _ _ => by
      show ((!!decide ((i : Int) < (a.cells.length : Int))) && !row_Bare_l0_f_k0 a.2 (a.2.length : Int) i) = _
      rw [hf, nn, dlt]
      cases decide (i < a.cells.length) <;> rfl)
    (fun i hi _ => by
      show (a.2, (a.2.length : Int), IntKind.i64.wrap ((i : Int) + 1)) = (a.2, (a.2.length : Int), ((i + 1 : Nat) : Int))
      rw [wsucc (by omega)])
    (fun i _ _ => needs_cons (fun h => ⟨by show (0 : Int) ≤ (i : Int); omega, by
      have h' : (!!decide ((i : Int) < (a.cells.length : Int))) = true := h
      rw [nn] at h'; exact of_decide_eq_true h'⟩) needs_nil)
  refine ⟨needs_cons h1 needs_nil, ?_⟩
  have hr : row_Bare_k0 a = (a.2, (a.2.length : Int), (k : Int)) := hx
  unfold row_Bare_0
  rw [hr]
  show (bif row_Bare_l0_f_k0 a.2 (a.2.length : Int) (k : Int) then false else true) = _
  rw [hf, hb']
  unfold bareR
  rw [all_N a.cells (dflt TC.cell)]
  rw [show allN a.cells.length (fun i => !!eqC (a.2.getD i (dflt TC.cell)) zeroC) = allN a.cells.length (fun i => eqC (a.cells.getD i (dflt TC.cell)) zeroC) from allN_congr fun i _ => Bool.not_not _]
  cases allN a.cells.length (fun i => eqC (a.cells.getD i (dflt TC.cell)) zeroC) <;> rfl
theorem row_Bare_c2 (a0 : TRow) (hp : ∀ p ∈ row_Bare_ps2 a0, p) : CallOk Try.prog 52 [valA .row a0] 0 [] 1 (row_Bare_r2 a0) 0 (row_Bare_o2 a0) := by
  have hb : boundP a0.cells.length := hp _ (List.mem_cons_self ..)
  have h := row_Bare_c a0 (row_Bare_eq a0 hb).1
  unfold row_Bare_r at h
  rw [(row_Bare_eq a0 hb).2] at h
  exact h
def row_Bare_t : List A → Nat → Objs → Option CRes
  | [y0], nx, o => match argU .row y0 with
    | some (a0, p0) => some (1, (row_Bare_r2 a0).pk (shiftR nx), nx + 0, shiftO nx (row_Bare_o2 a0) ++ o, p0 ++ (row_Bare_ps2 a0))
    | _ => none
  | _, _, _ => none
theorem row_Bare_tok : TOk Try.prog 52 row_Bare_t := fun args nx o k x nx' o' ps h => by
  unfold row_Bare_t at h
  split at h <;> first | (cases h; done) | skip
  split at h <;> first | (cases h; done) | skip
  rename_i a0 p0 e0
  cases h
  refine ⟨fun hp => ?_, _, rfl⟩
  have q0 := fun p hm => hp p (List.mem_append.2 (.inl hm))
  have r0 := fun p hm => hp p (List.mem_append.2 (.inr hm))
  refine callOk_args (callOk_shift (row_Bare_c2 a0 r0) (Nat.le_refl _) (freeL_cons (valA_free _ _) freeL_nil) nx o) fun F N R vs hl => ?_
  obtain ⟨v0, w0, rfl, h0, hl⟩ := hl.inv
  exact HL.cons (argU_ok e0 q0 h0) (hl)
noncomputable def Cj_6 := addC 52 row_Bare_t Cj_5
theorem Cj_6_ok : COk Try.prog Cj_6 := addC_ok row_Bare_tok Cj_5_ok

noncomputable def Cj := Cj_6
theorem Cj_ok : COk Try.prog Cj := Cj_6_ok
end Go.Proofs.Yteebobbhhgmeiaa
