/- made by a program (gent.py): what functions come to, by their symbolic run over typed data. -/
import Derived.Test.YteebobbhhgmeiaaTf
import Derived.Test.YteebobbhhgmeiaaCh
namespace Go.Proofs.Yteebobbhhgmeiaa
open Go.RowKit

/-! loop 0 of function 164 -/
abbrev policy_named_l0_X : Type := ByteArray × Nat
def policy_named_l0_T (x : policy_named_l0_X) : St := ⟨36, 2, [(26, .own 1 0)], [(1, some (.sit x.1 x.2))]⟩
def policy_named_l0_un : St → Option policy_named_l0_X
  | ⟨36, 2, [(26, .own 1 0)], [(1, some (.sit z0 z1))]⟩ => some (z0, z1)
  | _ => none
theorem policy_named_l0_unok : ∀ s x, policy_named_l0_un s = some x → s = policy_named_l0_T x := fun s x h => by
  unfold policy_named_l0_un at h
  split at h
  · cases h; rfl
  · cases h
def policy_named_l0_S : Shape := ⟨2, 2, [26], [], [(1, 1)], [1], [2], [1]⟩
def policy_named_l0_E : Entry := ⟨[], [(1, 1)], [26], [1]⟩
def policy_named_l0_f_k1 (a0 : ByteArray) (a1 : Nat) : Bool := !!decide (a1 < a0.size)
def policy_named_l0_f_k0 (a0 : ByteArray) (a1 : Nat) : Bool := (policy_named_l0_f_k1 a0 a1) && (decide ((↑(Utf8.decode a0 a1).fst : Int) < (97 : Int)) || decide ((↑(Utf8.decode a0 a1).fst : Int) > (122 : Int)))
def policy_named_l0_f_1 (a0 : ByteArray) (a1 : Nat) : Nat := bif decide (a1 < a0.size) then a1 + (Utf8.decode a0 a1).snd else a1
def policy_named_l0_f_2 (a0 : ByteArray) (a1 : Nat) : Bool := (policy_named_l0_f_k1 a0 a1) && !(policy_named_l0_f_k0 a0 a1)
def policy_named_l0_f_6 (a0 : ByteArray) (a1 : Nat) : Nat := bif decide (a1 < a0.size) then a1 + (Utf8.decode a0 a1).snd else a1
def policy_named_l0_f_9 (a0 : ByteArray) (a1 : Nat) : Nat := bif decide (a1 < a0.size) then a1 + (Utf8.decode a0 a1).snd else a1
def policy_named_l0_next (x : policy_named_l0_X) : policy_named_l0_X := (x.1, policy_named_l0_f_1 x.1 x.2)
def policy_named_l0_goes (x : policy_named_l0_X) : Cnd := some (policy_named_l0_f_2 x.1 x.2)
def policy_named_l0_psA (x : policy_named_l0_X) : List Prop := [((policy_named_l0_f_k1 x.1 x.2) = true → decide (x.2 < x.1.size) = true)]
def policy_named_l0_ps (_x : policy_named_l0_X) : List Prop := []
def policy_named_l0_outs (x : policy_named_l0_X) : Outs := [(some 0, some (!decide (x.2 < x.1.size)), ⟨36, 2, [(2, .dead)], [(1, some (.sit x.1 (policy_named_l0_f_6 x.1 x.2)))]⟩), (none, some ((policy_named_l0_f_k0 x.1 x.2)), ⟨36, 2, [(2, .v (.bool (false)))], [(1, some (.sit x.1 (policy_named_l0_f_9 x.1 x.2)))]⟩)]
def policy_named_l0_fuel (x : policy_named_l0_X) : Nat := x.1.size - x.2
def policy_named_l0_run (x : policy_named_l0_X) : policy_named_l0_X := iterX policy_named_l0_next policy_named_l0_goes (policy_named_l0_fuel x) x
set_option maxRecDepth 100000 in
theorem policy_named_l0_ev (a0 : ByteArray) (a1 : Nat) : roundE (envT Cf L0) 9 (loopAt Try.prog 164 0) policy_named_l0_S (policy_named_l0_T (a0, a1)) = some (policy_named_l0_psA (a0, a1), policy_named_l0_outs (a0, a1), policy_named_l0_goes (a0, a1), policy_named_l0_T (policy_named_l0_next (a0, a1))) := by kernel_rfl
set_option maxRecDepth 100000 in
theorem policy_named_l0_hA (a0 : ByteArray) (a1 : Nat) (_hp : ∀ p ∈ policy_named_l0_ps (a0, a1), p) : ∀ p ∈ policy_named_l0_psA (a0, a1), p := by
  have n0 : ((policy_named_l0_f_k1 a0 a1) = true → decide (a1 < a0.size) = true) := by intro h; exact (Bool.not_not _).symm.trans h
  exact (needs_cons n0 needs_nil)
noncomputable def policy_named_l0_row := rowL (envT Cf L0) (loopAt Try.prog 164 0) policy_named_l0_S policy_named_l0_E policy_named_l0_un policy_named_l0_fuel policy_named_l0_next policy_named_l0_goes policy_named_l0_ps policy_named_l0_outs
theorem policy_named_l0_rok : ∀ s b ps outs, policy_named_l0_row s = some (b, ps, outs) → Wf s ⟨ps, outs, none⟩ ∧ LoopOk (envT C0 L0) b s ps outs :=
  rowP_ok (T := policy_named_l0_T) Cf_ok L0_ok (u := 9) (by kernel_rfl) (by decide) (fun ⟨a0, a1⟩ => policy_named_l0_ev a0 a1) (fun ⟨a0, a1⟩ => policy_named_l0_hA a0 a1) policy_named_l0_unok (fun _ => okOuts_ok (n := 36) rfl) fun _ _ => rfl
noncomputable def policy_named_l0_L := addLp 0 policy_named_l0_row L0
theorem policy_named_l0_Lok : LpOk policy_named_l0_L := addLp_ok policy_named_l0_rok L0_ok
def policy_named_k0 (a0 : TGroup) : Bool := a0.1.toList == (ByteArray.mk #[]).toList || decide ((↑a0.1.size : Int) > (12 : Int)) || a0.2 != (1 : Int) && a0.2 != (2 : Int)
def policy_named_0 (a0 : TGroup) : Bool := bif (policy_named_k0 a0) then false else bif policy_named_l0_f_k0 (policy_named_l0_run (a0.1, (0 : Nat))).fst (policy_named_l0_run (a0.1, (0 : Nat))).snd then false else true
def policy_named_r (a0 : TGroup) : A := .v (.bool (policy_named_0 a0))
def policy_named_o (_a0 : TGroup) : Objs := []
def policy_named_ps (a0 : TGroup) : List Prop := [((!(policy_named_k0 a0)) = true → needX policy_named_l0_next policy_named_l0_goes policy_named_l0_ps (policy_named_l0_fuel (a0.1, (0 : Nat))) (a0.1, (0 : Nat)))]
set_option maxRecDepth 100000 in
theorem policy_named_ev (a0 : TGroup) : evF (envT Cf policy_named_l0_L) 9 164 [valA .group a0] 0 [] = some (1, policy_named_r a0, 0, policy_named_o a0, [((!(policy_named_k0 a0)) = true → loopAt Try.prog (164 : FuncId) (0 : Nat) = loopAt Try.prog (164 : FuncId) (0 : Nat)), ((!(policy_named_k0 a0)) = true → needX policy_named_l0_next policy_named_l0_goes policy_named_l0_ps (policy_named_l0_fuel (a0.1, (0 : Nat))) (a0.1, (0 : Nat)))]) := by kernel_rfl
set_option maxRecDepth 100000 in
theorem policy_named_c (a0 : TGroup) (hp : ∀ p ∈ policy_named_ps a0, p) : CallOk Try.prog 164 [valA .group a0] 0 [] 1 (policy_named_r a0) 0 (policy_named_o a0) := by
  have n0 : ((!(policy_named_k0 a0)) = true → loopAt Try.prog (164 : FuncId) (0 : Nat) = loopAt Try.prog (164 : FuncId) (0 : Nat)) := by intros; rfl
  have n1 : ((!(policy_named_k0 a0)) = true → needX policy_named_l0_next policy_named_l0_goes policy_named_l0_ps (policy_named_l0_fuel (a0.1, (0 : Nat))) (a0.1, (0 : Nat))) := hp _ (List.mem_cons_self ..)
  exact evF_ok (envP_ok Cf_ok policy_named_l0_Lok) (policy_named_ev a0) (needs_cons n0 (needs_cons n1 needs_nil))
def policy_named_r2 (a0 : TGroup) : A := .v (.bool (nameB a0.name && polB a0.policy))
def policy_named_o2 (_a0 : TGroup) : Objs := []
def policy_named_ps2 (_a0 : TGroup) : List Prop := []
theorem policy_named_eq (g : TGroup) : (∀ p ∈ policy_named_ps g, p) ∧ policy_named_0 g = (nameB g.name && polB g.policy) := by
  have hk0 : ∀ i, policy_named_l0_f_k0 g.1 i = (decide (i < g.1.size) && !lowB (g.1.data.toList.getD i 0)) := fun i => by
    unfold policy_named_l0_f_k0 policy_named_l0_f_k1
    rw [nn]
    by_cases h : i < g.1.size
    · rw [decide_eq_true h, Bool.true_and, Bool.true_and]; exact (rune_low g.1 i h).1
    · rw [decide_eq_false h]; rfl
  obtain ⟨h1, k, hk, hx, hs, hst⟩ := scan (fun i => ((g.1, i) : ByteArray × Nat)) g.1.size (fun i => !lowB (g.1.data.toList.getD i 0)) policy_named_l0_next policy_named_l0_goes policy_named_l0_ps (policy_named_l0_fuel (g.1, 0)) (g.1, 0) rfl (Nat.le_refl _)
    (fun i _ _ => by
      show ((!!decide (i < g.1.size)) && !policy_named_l0_f_k0 g.1 i) = _
      rw [hk0, nn]
      cases decide (i < g.1.size) <;> rfl)
    (fun i hi hj => by
      show (g.1, (bif decide (i < g.1.size) then i + (Utf8.decode g.1 i).snd else i)) = (g.1, i + 1)
      have h2 := hj i (Nat.lt_succ_self i)
      rw [decide_eq_true hi, cond_true, (rune_low g.1 i hi).2 (by simpa using h2)])
    (fun _ _ _ => needs_nil)
  refine ⟨needs_cons (fun _ => h1) needs_nil, ?_⟩
  have hr : policy_named_l0_run (g.1, 0) = (g.1, k) := hx
  have ha : g.1.data.toList.all lowB = decide (¬ k < g.1.size) := by
    have := all_scan g.1.data.toList 0 lowB k (by rw [size_data]; exact hk) (fun j hj => by simpa using hs j hj) (fun h => by rw [size_data] at h; simpa using hst h)
    rw [size_data] at this
    exact this
  unfold policy_named_0
  rw [hr]
  show (bif policy_named_k0 g then false else bif policy_named_l0_f_k0 g.1 k then false else true) = _
  rw [hk0]
  unfold policy_named_k0 nameB polB
  rw [noB_eq]
  show _ = (g.1.data.toList.all lowB && (decide (1 ≤ g.1.size) && decide (g.1.size ≤ 12)) && (g.2 == 1 || g.2 == 2))
  rw [ha]
  have e1 : (g.1.size == 0) = !decide (1 ≤ g.1.size) := beq0 _
  have e2 : decide ((g.1.size : Int) > 12) = !decide (g.1.size ≤ 12) := by
    rw [← decide_not]; exact decide_eq_decide.2 (by generalize g.1.size = m; omega)
  have e3 : (g.2 != 1 && g.2 != 2) = !(g.2 == 1 || g.2 == 2) := by simp [bne]
  rw [e1, e2, e3]
  by_cases h : k < g.1.size
  · have := hst h
    rw [this, decide_eq_true h, decide_eq_false (not_not_intro h)]
    simp
  · rw [decide_eq_false h, decide_eq_true h]
    cases decide (1 ≤ g.1.size) <;> cases decide (g.1.size ≤ 12) <;> cases (g.2 == 1 || g.2 == 2) <;> rfl
theorem policy_named_c2 (a0 : TGroup) (_hp : ∀ p ∈ policy_named_ps2 a0, p) : CallOk Try.prog 164 [valA .group a0] 0 [] 1 (policy_named_r2 a0) 0 (policy_named_o2 a0) := by
  have h := policy_named_c a0 (policy_named_eq a0).1
  unfold policy_named_r at h
  rw [(policy_named_eq a0).2] at h
  exact h
def policy_named_t : List A → Nat → Objs → Option CRes
  | [y0], nx, o => match argU .group y0 with
    | some (a0, p0) => some (1, (policy_named_r2 a0).pk (shiftR nx), nx + 0, shiftO nx (policy_named_o2 a0) ++ o, p0 ++ (policy_named_ps2 a0))
    | _ => none
  | _, _, _ => none
theorem policy_named_tok : TOk Try.prog 164 policy_named_t := fun args nx o k x nx' o' ps h => by
  unfold policy_named_t at h
  split at h <;> first | (cases h; done) | skip
  split at h <;> first | (cases h; done) | skip
  rename_i a0 p0 e0
  cases h
  refine ⟨fun hp => ?_, _, rfl⟩
  have q0 := fun p hm => hp p (List.mem_append.2 (.inl hm))
  have r0 := fun p hm => hp p (List.mem_append.2 (.inr hm))
  refine callOk_args (callOk_shift (policy_named_c2 a0 r0) (Nat.le_refl _) (freeL_cons (valA_free _ _) freeL_nil) nx o) fun F N R vs hl => ?_
  obtain ⟨v0, w0, rfl, h0, hl⟩ := hl.inv
  exact HL.cons (argU_ok e0 q0 h0) (hl)
noncomputable def Ch_1 := addC 164 policy_named_t Cf
theorem Ch_1_ok : COk Try.prog Ch_1 := addC_ok policy_named_tok Cf_ok
/-! loop 1 of function 131 -/
abbrev policy_Good_l1_X : Type := (List TGroup) × Int × Int × (List (U .str × U .i64))
def policy_Good_l1_T (x : policy_Good_l1_X) : St := ⟨35, 1, [(3, .mp 0), (15, .sl .group x.1), (16, .v (.int .i64 x.2.1)), (17, .v (.int .i64 x.2.2.1))], [(0, some (.map .str .i64 x.2.2.2))]⟩
def policy_Good_l1_un : St → Option policy_Good_l1_X
  | ⟨35, 1, [(3, .mp 0), (15, .sl .group z0), (16, .v (.int .i64 z1)), (17, .v (.int .i64 z2))], [(0, some (.map .str .i64 z3))]⟩ => some (z0, z1, z2, z3)
  | _ => none
theorem policy_Good_l1_unok : ∀ s x, policy_Good_l1_un s = some x → s = policy_Good_l1_T x := fun s x h => by
  unfold policy_Good_l1_un at h
  split at h
  · cases h; rfl
  · cases h
def policy_Good_l1_S : Shape := ⟨1, 1, [3, 15, 16, 17], [], [(0, 0)], [0], [2], [0]⟩
def policy_Good_l1_E : Entry := ⟨[], [(0, 0)], [3, 15, 16, 17], [0]⟩
def policy_Good_l1_f_k1 (a0 : List TGroup) (_a1 : Int) (a2 : Int) (a3 : List (U .str × U .i64)) : List (ByteArray × Int) := updM a3 (a0.getD a2.toNat (dflt TC.group)).1 (IntKind.i64.wrap (findM a3 (a0.getD a2.toNat (dflt TC.group)).1 + (1 : Int)))
def policy_Good_l1_f_k0 (a0 : List TGroup) (a1 : Int) (a2 : Int) (a3 : List (U .str × U .i64)) : Bool := !!decide (a2 < a1) && (!(nameB (a0.getD a2.toNat (dflt TC.group)).1 && polB (a0.getD a2.toNat (dflt TC.group)).2) || decide (findM (policy_Good_l1_f_k1 a0 a1 a2 a3) (a0.getD a2.toNat (dflt TC.group)).1 > (1 : Int)))
def policy_Good_l1_f_3 (a0 : List TGroup) (a1 : Int) (a2 : Int) (a3 : List (U .str × U .i64)) : List (U .str × U .i64) := (policy_Good_l1_f_k1 a0 a1 a2 a3)
def policy_Good_l1_f_4 (a0 : List TGroup) (a1 : Int) (a2 : Int) (a3 : List (U .str × U .i64)) : Bool := !!decide (a2 < a1) && !(policy_Good_l1_f_k0 a0 a1 a2 a3)
def policy_Good_l1_f_9 (a0 : List TGroup) (_a1 : Int) (a2 : Int) (_a3 : List (U .str × U .i64)) : Int := bif !(nameB (a0.getD a2.toNat (dflt TC.group)).1 && polB (a0.getD a2.toNat (dflt TC.group)).2) then (2 : Int) else (70 : Int)
def policy_Good_l1_f_10 (a0 : List TGroup) (a1 : Int) (a2 : Int) (a3 : List (U .str × U .i64)) : List (U .str × U .i64) := bif !(nameB (a0.getD a2.toNat (dflt TC.group)).1 && polB (a0.getD a2.toNat (dflt TC.group)).2) then a3 else (policy_Good_l1_f_k1 a0 a1 a2 a3)
def policy_Good_l1_next (x : policy_Good_l1_X) : policy_Good_l1_X := (x.1, x.2.1, IntKind.i64.wrap (x.2.2.1 + (1 : Int)), policy_Good_l1_f_3 x.1 x.2.1 x.2.2.1 x.2.2.2)
def policy_Good_l1_goes (x : policy_Good_l1_X) : Cnd := some (policy_Good_l1_f_4 x.1 x.2.1 x.2.2.1 x.2.2.2)
def policy_Good_l1_psA (x : policy_Good_l1_X) : List Prop := [((!!decide (x.2.2.1 < x.2.1)) = true → (0 : Int) ≤ x.2.2.1 ∧ x.2.2.1 < (↑x.1.length : Int))]
def policy_Good_l1_ps (x : policy_Good_l1_X) : List Prop := [((!!decide (x.2.2.1 < x.2.1)) = true → (0 : Int) ≤ x.2.2.1 ∧ x.2.2.1 < (↑x.1.length : Int))]
def policy_Good_l1_outs (x : policy_Good_l1_X) : Outs := [(some 1, some (!decide (x.2.2.1 < x.2.1)), ⟨35, 1, [(2, .dead)], [(0, some (.map .str .i64 x.2.2.2))]⟩), (none, some ((policy_Good_l1_f_k0 x.1 x.2.1 x.2.2.1 x.2.2.2)), ⟨35, 2, [(2, .v (.int .i64 (policy_Good_l1_f_9 x.1 x.2.1 x.2.2.1 x.2.2.2)))], [(0, some (.map .str .i64 (policy_Good_l1_f_10 x.1 x.2.1 x.2.2.1 x.2.2.2)))]⟩)]
def policy_Good_l1_fuel (x : policy_Good_l1_X) : Nat := (x.2.1 - x.2.2.1).toNat
def policy_Good_l1_run (x : policy_Good_l1_X) : policy_Good_l1_X := iterX policy_Good_l1_next policy_Good_l1_goes (policy_Good_l1_fuel x) x
set_option maxRecDepth 100000 in
theorem policy_Good_l1_ev (a0 : List TGroup) (a1 : Int) (a2 : Int) (a3 : List (U .str × U .i64)) : roundE (envT Ch_1 L0) 9 (loopAt Try.prog 131 1) policy_Good_l1_S (policy_Good_l1_T (a0, a1, a2, a3)) = some (policy_Good_l1_psA (a0, a1, a2, a3), policy_Good_l1_outs (a0, a1, a2, a3), policy_Good_l1_goes (a0, a1, a2, a3), policy_Good_l1_T (policy_Good_l1_next (a0, a1, a2, a3))) := by kernel_rfl
set_option maxRecDepth 100000 in
theorem policy_Good_l1_hA (a0 : List TGroup) (a1 : Int) (a2 : Int) (a3 : List (U .str × U .i64)) (hp : ∀ p ∈ policy_Good_l1_ps (a0, a1, a2, a3), p) : ∀ p ∈ policy_Good_l1_psA (a0, a1, a2, a3), p := by
  have n0 : ((!!decide (a2 < a1)) = true → (0 : Int) ≤ a2 ∧ a2 < (↑a0.length : Int)) := hp _ (List.mem_cons_self ..)
  exact (needs_cons n0 needs_nil)
noncomputable def policy_Good_l1_row := rowL (envT Ch_1 L0) (loopAt Try.prog 131 1) policy_Good_l1_S policy_Good_l1_E policy_Good_l1_un policy_Good_l1_fuel policy_Good_l1_next policy_Good_l1_goes policy_Good_l1_ps policy_Good_l1_outs
theorem policy_Good_l1_rok : ∀ s b ps outs, policy_Good_l1_row s = some (b, ps, outs) → Wf s ⟨ps, outs, none⟩ ∧ LoopOk (envT C0 L0) b s ps outs :=
  rowP_ok (T := policy_Good_l1_T) Ch_1_ok L0_ok (u := 9) (by kernel_rfl) (by decide) (fun ⟨a0, a1, a2, a3⟩ => policy_Good_l1_ev a0 a1 a2 a3) (fun ⟨a0, a1, a2, a3⟩ => policy_Good_l1_hA a0 a1 a2 a3) policy_Good_l1_unok (fun _ => okOuts_ok (n := 35) rfl) fun _ _ => rfl
noncomputable def policy_Good_l1_L := addLp 1 policy_Good_l1_row L0
theorem policy_Good_l1_Lok : LpOk policy_Good_l1_L := addLp_ok policy_Good_l1_rok L0_ok
def policy_Good_k4 (a0 : List TGroup) : Bool := (↑a0.length : Int) == (0 : Int) || decide ((↑a0.length : Int) > (4 : Int))
def policy_Good_k3 (a0 : List TGroup) : List TGroup := (policy_Good_l1_run (a0, (↑a0.length : Int), (0 : Int), [])).fst
def policy_Good_k2 (a0 : List TGroup) : Int := (policy_Good_l1_run (a0, (↑a0.length : Int), (0 : Int), [])).snd.fst
def policy_Good_k1 (a0 : List TGroup) : List (U TC.str × U TC.i64) := (policy_Good_l1_run (a0, (↑a0.length : Int), (0 : Int), [])).snd.snd.snd
def policy_Good_k0 (a0 : List TGroup) : Int := (policy_Good_l1_run (a0, (↑a0.length : Int), (0 : Int), [])).snd.snd.fst
def policy_Good_0 (a0 : List TGroup) : Int := bif (policy_Good_k4 a0) then bif (↑a0.length : Int) == (0 : Int) then (2 : Int) else (3 : Int) else bif policy_Good_l1_f_k0 (policy_Good_k3 a0) (policy_Good_k2 a0) (policy_Good_k0 a0) (policy_Good_k1 a0) then policy_Good_l1_f_9 (policy_Good_k3 a0) (policy_Good_k2 a0) (policy_Good_k0 a0) (policy_Good_k1 a0) else (0 : Int)
def policy_Good_r (a0 : List TGroup) : A := .v (.int .i64 (policy_Good_0 a0))
def policy_Good_o (_a0 : List TGroup) : Objs := []
def policy_Good_ps (a0 : List TGroup) : List Prop := [((!(policy_Good_k4 a0)) = true → needX policy_Good_l1_next policy_Good_l1_goes policy_Good_l1_ps (policy_Good_l1_fuel (a0, (↑a0.length : Int), (0 : Int), [])) (a0, (↑a0.length : Int), (0 : Int), []))]
set_option maxRecDepth 100000 in
theorem policy_Good_ev (a0 : List TGroup) : evF (envT Ch_1 policy_Good_l1_L) 9 131 [.sl .group a0] 0 [] = some (1, policy_Good_r a0, 0, policy_Good_o a0, [((!(policy_Good_k4 a0)) = true → loopAt Try.prog (131 : FuncId) (1 : Nat) = loopAt Try.prog (131 : FuncId) (1 : Nat)), ((!(policy_Good_k4 a0)) = true → needX policy_Good_l1_next policy_Good_l1_goes policy_Good_l1_ps (policy_Good_l1_fuel (a0, (↑a0.length : Int), (0 : Int), [])) (a0, (↑a0.length : Int), (0 : Int), []))]) := by kernel_rfl
set_option maxRecDepth 100000 in
theorem policy_Good_c (a0 : List TGroup) (hp : ∀ p ∈ policy_Good_ps a0, p) : CallOk Try.prog 131 [.sl .group a0] 0 [] 1 (policy_Good_r a0) 0 (policy_Good_o a0) := by
  have n0 : ((!(policy_Good_k4 a0)) = true → loopAt Try.prog (131 : FuncId) (1 : Nat) = loopAt Try.prog (131 : FuncId) (1 : Nat)) := by intros; rfl
  have n1 : ((!(policy_Good_k4 a0)) = true → needX policy_Good_l1_next policy_Good_l1_goes policy_Good_l1_ps (policy_Good_l1_fuel (a0, (↑a0.length : Int), (0 : Int), [])) (a0, (↑a0.length : Int), (0 : Int), [])) := hp _ (List.mem_cons_self ..)
  exact evF_ok (envP_ok Ch_1_ok policy_Good_l1_Lok) (policy_Good_ev a0) (needs_cons n0 (needs_cons n1 needs_nil))
def policy_Good_r2 (a0 : List TGroup) : A := .v (.int .i64 (goodP a0))
def policy_Good_o2 (_a0 : List TGroup) : Objs := []
def policy_Good_ps2 (_a0 : List TGroup) : List Prop := []
theorem policy_Good_eq (l : List TGroup) : (∀ p ∈ policy_Good_ps l, p) ∧ policy_Good_0 l = goodP l := by
  have e4 : policy_Good_k4 l = (l.length == 0 || decide (4 < l.length)) := by
    unfold policy_Good_k4
    rw [beq0i]
    congr 1
    exact dgt l.length 4
  have main : policy_Good_k4 l = false → needX policy_Good_l1_next policy_Good_l1_goes policy_Good_l1_ps (policy_Good_l1_fuel (l, (l.length : Int), 0, [])) (l, (l.length : Int), 0, []) ∧ policy_Good_0 l = goodP l := fun h4 => by
    have hn4 : l.length ≤ 4 := by
      rw [e4] at h4
      have := of_decide_eq_false (Bool.or_eq_false_iff.1 h4).2
      omega
    have hk0 : ∀ i, i ≤ l.length → (∀ j, j < i → stopG l j = false) → policy_Good_l1_f_k0 l (l.length : Int) (i : Int) (mapAt l i) = (decide (i < l.length) && stopG l i) := fun i hi hs => by
      unfold policy_Good_l1_f_k0 policy_Good_l1_f_k1
      rw [Int.toNat_natCast, find_upd, if_pos rfl, find_mapAt l i hi hs, nn, dlt]
      unfold stopG
      congr 2
      cases ((l.take i).map (·.name)).any (fun s => s == (l.getD i (dflt TC.group)).1) <;> rfl
    obtain ⟨h1, k, hk, hx, hs, hst⟩ := scan (fun i => ((l, (l.length : Int), (i : Int), mapAt l i) : policy_Good_l1_X)) l.length (stopG l) policy_Good_l1_next policy_Good_l1_goes policy_Good_l1_ps (policy_Good_l1_fuel (l, (l.length : Int), 0, [])) ((l, (l.length : Int), 0, []) : policy_Good_l1_X) rfl
      (by show l.length ≤ ((l.length : Int) - 0).toNat; omega)
      (fun i hi hs => by
        show ((!!decide ((i : Int) < (l.length : Int))) && !policy_Good_l1_f_k0 l (l.length : Int) (i : Int) (mapAt l i)) = _
        rw [hk0 i hi hs, nn, dlt]
        cases decide (i < l.length) <;> rfl)
      (fun i hi hs => by
        show (l, (l.length : Int), IntKind.i64.wrap ((i : Int) + 1), policy_Good_l1_f_k1 l (l.length : Int) (i : Int) (mapAt l i)) = (l, (l.length : Int), ((i + 1 : Nat) : Int), mapAt l (i + 1))
        rw [wsucc (by omega)]
        unfold policy_Good_l1_f_k1
        rw [Int.toNat_natCast]
        rfl)
      (fun i hi hs => needs_cons (fun h => by
        have h' : (!!decide ((i : Int) < (l.length : Int))) = true := h
        rw [nn] at h'
        have := of_decide_eq_true h'
        show (0 : Int) ≤ (i : Int) ∧ (i : Int) < (l.length : Int)
        omega) needs_nil)
    refine ⟨h1, ?_⟩
    have hr : policy_Good_l1_run (l, (l.length : Int), 0, []) = (l, (l.length : Int), (k : Int), mapAt l k) := hx
    unfold policy_Good_0 policy_Good_k3 policy_Good_k2 policy_Good_k1 policy_Good_k0
    rw [hr, h4, cond_false]
    show (bif policy_Good_l1_f_k0 l (l.length : Int) (k : Int) (mapAt l k) then policy_Good_l1_f_9 l (l.length : Int) (k : Int) (mapAt l k) else 0) = _
    rw [hk0 k hk hs]
    rw [e4] at h4
    obtain ⟨h5, h6⟩ := Bool.or_eq_false_iff.1 h4
    unfold goodP
    rw [h5, h6, cond_false, cond_false, goodPs_at l k [] (fun j hj hl => by
      have := hs j hj
      unfold stopG at this
      obtain ⟨q1, q2⟩ := Bool.or_eq_false_iff.1 this
      exact ⟨by rw [Bool.not_eq_false'] at q1; exact q1, by simpa using q2⟩), List.nil_append]
    by_cases hkl : k < l.length
    · have hst' := hst hkl
      rw [hst', decide_eq_true hkl, Bool.and_true, cond_true]
      have hd : l.drop k = l.getD k (dflt TC.group) :: l.drop (k + 1) := by
        rw [List.getD_eq_getElem?_getD, List.getElem?_eq_getElem hkl, Option.getD_some]
        exact List.drop_eq_getElem_cons hkl
      rw [hd]
      unfold goodPs policy_Good_l1_f_9
      rw [Int.toNat_natCast]
      unfold stopG at hst'
      show (bif !(nameB (l.getD k (dflt TC.group)).1 && polB (l.getD k (dflt TC.group)).2) then (2 : Int) else 70) = bif !(nameB (l.getD k (dflt TC.group)).1 && polB (l.getD k (dflt TC.group)).2) then 2 else _
      cases hq : !(nameB (l.getD k (dflt TC.group)).1 && polB (l.getD k (dflt TC.group)).2) with
      | true => rfl
      | false =>
        rw [hq, Bool.false_or] at hst'
        have hst2 : ((l.take k).map (·.name)).any (fun s => s == (l.getD k (dflt TC.group)).name) = true := hst'
        rw [cond_false, cond_false, hst2]
        rfl
    · rw [decide_eq_false hkl, Bool.false_and, cond_false, List.drop_eq_nil_of_le (by omega)]
      rfl
  cases h4 : policy_Good_k4 l with
  | false =>
    obtain ⟨g1, g2⟩ := main h4
    exact ⟨needs_cons (fun _ => g1) needs_nil, g2⟩
  | true =>
    refine ⟨needs_cons (fun h => by rw [h4] at h; cases h) needs_nil, ?_⟩
    unfold policy_Good_0 goodP
    rw [h4, cond_true, beq0i]
    rw [e4] at h4
    cases h5 : l.length == 0 with
    | true => rfl
    | false =>
      rw [h5, Bool.false_or] at h4
      rw [h4]
      rfl
theorem policy_Good_c2 (a0 : List TGroup) (_hp : ∀ p ∈ policy_Good_ps2 a0, p) : CallOk Try.prog 131 [.sl .group a0] 0 [] 1 (policy_Good_r2 a0) 0 (policy_Good_o2 a0) := by
  have h := policy_Good_c a0 (policy_Good_eq a0).1
  unfold policy_Good_r at h
  rw [(policy_Good_eq a0).2] at h
  exact h
def policy_Good_t : List A → Nat → Objs → Option CRes
  | [y0], nx, o => match argL .group y0 with
    | some a0 => some (1, (policy_Good_r2 a0).pk (shiftR nx), nx + 0, shiftO nx (policy_Good_o2 a0) ++ o, policy_Good_ps2 a0)
    | _ => none
  | _, _, _ => none
theorem policy_Good_tok : TOk Try.prog 131 policy_Good_t := fun args nx o k x nx' o' ps h => by
  unfold policy_Good_t at h
  split at h <;> first | (cases h; done) | skip
  split at h <;> first | (cases h; done) | skip
  rename_i a0 e0
  cases h
  refine ⟨fun hp => ?_, _, rfl⟩
  refine callOk_args (callOk_shift (policy_Good_c2 a0 hp) (Nat.le_refl _) (freeL_cons rfl freeL_nil) nx o) fun F N R vs hl => ?_
  obtain ⟨v0, w0, rfl, h0, hl⟩ := hl.inv
  exact HL.cons (argL_ok e0 h0) (hl)
noncomputable def Ch_2 := addC 131 policy_Good_t Ch_1
theorem Ch_2_ok : COk Try.prog Ch_2 := addC_ok policy_Good_tok Ch_1_ok
/-! loop 0 of function 163 -/
abbrev r07_Name_l0_X : Type := ByteArray × Int
def r07_Name_l0_T (x : r07_Name_l0_X) : St := ⟨28, 0, [(0, .v (.string x.1)), (3, .v (.int .i64 x.2))], []⟩
def r07_Name_l0_un : St → Option r07_Name_l0_X
  | ⟨28, 0, [(0, .v (.string z0)), (3, .v (.int .i64 z1))], []⟩ => some (z0, z1)
  | _ => none
theorem r07_Name_l0_unok : ∀ s x, r07_Name_l0_un s = some x → s = r07_Name_l0_T x := fun s x h => by
  unfold r07_Name_l0_un at h
  split at h
  · cases h; rfl
  · cases h
def r07_Name_l0_S : Shape := ⟨0, 0, [0, 3], [], [], [], [2], []⟩
def r07_Name_l0_E : Entry := ⟨[], [], [0, 3], []⟩
def r07_Name_l0_f_k1 (a0 : ByteArray) (a1 : Int) : Bool := !!decide (a1 < (↑a0.size : Int))
def r07_Name_l0_f_k0 (a0 : ByteArray) (a1 : Int) : Bool := (r07_Name_l0_f_k1 a0 a1) && (decide ((↑(a0.data.toList.getD a1.toNat (0 : UInt8)).toNat : Int) < (97 : Int)) || decide ((↑(a0.data.toList.getD a1.toNat (0 : UInt8)).toNat : Int) > (122 : Int)))
def r07_Name_l0_f_2 (a0 : ByteArray) (a1 : Int) : Bool := (r07_Name_l0_f_k1 a0 a1) && !(r07_Name_l0_f_k0 a0 a1)
def r07_Name_l0_next (x : r07_Name_l0_X) : r07_Name_l0_X := (x.1, IntKind.i64.wrap (x.2 + (1 : Int)))
def r07_Name_l0_goes (x : r07_Name_l0_X) : Cnd := some (r07_Name_l0_f_2 x.1 x.2)
def r07_Name_l0_psA (x : r07_Name_l0_X) : List Prop := [((r07_Name_l0_f_k1 x.1 x.2) = true → (0 : Int) ≤ x.2 ∧ x.2 < (↑x.1.size : Int)), ((r07_Name_l0_f_k1 x.1 x.2) = true → decide ((↑(x.1.data.toList.getD x.2.toNat (0 : UInt8)).toNat : Int) < (97 : Int)) = false → (0 : Int) ≤ x.2 ∧ x.2 < (↑x.1.size : Int))]
def r07_Name_l0_ps (x : r07_Name_l0_X) : List Prop := [((r07_Name_l0_f_k1 x.1 x.2) = true → (0 : Int) ≤ x.2 ∧ x.2 < (↑x.1.size : Int)), ((r07_Name_l0_f_k1 x.1 x.2) = true → decide ((↑(x.1.data.toList.getD x.2.toNat (0 : UInt8)).toNat : Int) < (97 : Int)) = false → (0 : Int) ≤ x.2 ∧ x.2 < (↑x.1.size : Int))]
def r07_Name_l0_outs (x : r07_Name_l0_X) : Outs := [(some 0, some (!decide (x.2 < (↑x.1.size : Int))), ⟨28, 0, [(2, .dead)], []⟩), (none, some ((r07_Name_l0_f_k0 x.1 x.2)), ⟨28, 0, [(2, .v (.bool (false)))], []⟩)]
def r07_Name_l0_fuel (x : r07_Name_l0_X) : Nat := ((↑x.1.size : Int) - x.2).toNat
def r07_Name_l0_run (x : r07_Name_l0_X) : r07_Name_l0_X := iterX r07_Name_l0_next r07_Name_l0_goes (r07_Name_l0_fuel x) x
set_option maxRecDepth 100000 in
theorem r07_Name_l0_ev (a0 : ByteArray) (a1 : Int) : roundE (envT Ch_2 L0) 9 (loopAt Try.prog 163 0) r07_Name_l0_S (r07_Name_l0_T (a0, a1)) = some (r07_Name_l0_psA (a0, a1), r07_Name_l0_outs (a0, a1), r07_Name_l0_goes (a0, a1), r07_Name_l0_T (r07_Name_l0_next (a0, a1))) := by kernel_rfl
set_option maxRecDepth 100000 in
theorem r07_Name_l0_hA (a0 : ByteArray) (a1 : Int) (hp : ∀ p ∈ r07_Name_l0_ps (a0, a1), p) : ∀ p ∈ r07_Name_l0_psA (a0, a1), p := by
  have n0 : ((r07_Name_l0_f_k1 a0 a1) = true → (0 : Int) ≤ a1 ∧ a1 < (↑a0.size : Int)) := hp _ (List.mem_cons_self ..)
  have n1 : ((r07_Name_l0_f_k1 a0 a1) = true → decide ((↑(a0.data.toList.getD a1.toNat (0 : UInt8)).toNat : Int) < (97 : Int)) = false → (0 : Int) ≤ a1 ∧ a1 < (↑a0.size : Int)) := hp _ (List.mem_cons_of_mem _ (List.mem_cons_self ..))
  exact (needs_cons n0 (needs_cons n1 needs_nil))
noncomputable def r07_Name_l0_row := rowL (envT Ch_2 L0) (loopAt Try.prog 163 0) r07_Name_l0_S r07_Name_l0_E r07_Name_l0_un r07_Name_l0_fuel r07_Name_l0_next r07_Name_l0_goes r07_Name_l0_ps r07_Name_l0_outs
theorem r07_Name_l0_rok : ∀ s b ps outs, r07_Name_l0_row s = some (b, ps, outs) → Wf s ⟨ps, outs, none⟩ ∧ LoopOk (envT C0 L0) b s ps outs :=
  rowP_ok (T := r07_Name_l0_T) Ch_2_ok L0_ok (u := 9) (by kernel_rfl) (by decide) (fun ⟨a0, a1⟩ => r07_Name_l0_ev a0 a1) (fun ⟨a0, a1⟩ => r07_Name_l0_hA a0 a1) r07_Name_l0_unok (fun _ => okOuts_ok (n := 28) rfl) fun _ _ => rfl
noncomputable def r07_Name_l0_L := addLp 0 r07_Name_l0_row L0
theorem r07_Name_l0_Lok : LpOk r07_Name_l0_L := addLp_ok r07_Name_l0_rok L0_ok
def r07_Name_0 (a0 : ByteArray) : Bool := bif r07_Name_l0_f_k0 (r07_Name_l0_run (a0, (0 : Int))).fst (r07_Name_l0_run (a0, (0 : Int))).snd then false else decide ((↑a0.size : Int) ≥ (1 : Int)) && decide ((↑a0.size : Int) ≤ (12 : Int))
def r07_Name_r (a0 : ByteArray) : A := .v (.bool (r07_Name_0 a0))
def r07_Name_o (_a0 : ByteArray) : Objs := []
def r07_Name_ps (a0 : ByteArray) : List Prop := [(needX r07_Name_l0_next r07_Name_l0_goes r07_Name_l0_ps (r07_Name_l0_fuel (a0, (0 : Int))) (a0, (0 : Int)))]
set_option maxRecDepth 100000 in
theorem r07_Name_ev (a0 : ByteArray) : evF (envT Ch_2 r07_Name_l0_L) 9 163 [valA .str a0] 0 [] = some (1, r07_Name_r a0, 0, r07_Name_o a0, [(loopAt Try.prog (163 : FuncId) (0 : Nat) = loopAt Try.prog (163 : FuncId) (0 : Nat)), (needX r07_Name_l0_next r07_Name_l0_goes r07_Name_l0_ps (r07_Name_l0_fuel (a0, (0 : Int))) (a0, (0 : Int)))]) := by kernel_rfl
set_option maxRecDepth 100000 in
theorem r07_Name_c (a0 : ByteArray) (hp : ∀ p ∈ r07_Name_ps a0, p) : CallOk Try.prog 163 [valA .str a0] 0 [] 1 (r07_Name_r a0) 0 (r07_Name_o a0) := by
  have n1 : (needX r07_Name_l0_next r07_Name_l0_goes r07_Name_l0_ps (r07_Name_l0_fuel (a0, (0 : Int))) (a0, (0 : Int))) := hp _ (List.mem_cons_self ..)
  exact evF_ok (envP_ok Ch_2_ok r07_Name_l0_Lok) (r07_Name_ev a0) (needs_cons rfl (needs_cons n1 needs_nil))
def r07_Name_r2 (a0 : ByteArray) : A := .v (.bool (nameB a0))
def r07_Name_o2 (_a0 : ByteArray) : Objs := []
def r07_Name_ps2 (a0 : ByteArray) : List Prop := [wideN a0.size]
theorem r07_Name_eq (g : ByteArray) (hb : wideN g.size) : (∀ p ∈ r07_Name_ps g, p) ∧ r07_Name_0 g = nameB g := by
  unfold wideN at hb
  have hlow : ∀ i, (decide ((((g.data.toList.getD i 0).toNat : Nat) : Int) < 97) || decide ((((g.data.toList.getD i 0).toNat : Nat) : Int) > 122)) = !lowB (g.data.toList.getD i 0) := fun i => by
    unfold lowB
    rw [Bool.not_and, ← decide_not, ← decide_not]
    congr 1 <;> exact decide_eq_decide.2 (by omega)
  have hk0 : ∀ i : Nat, r07_Name_l0_f_k0 g (i : Int) = (decide (i < g.size) && !lowB (g.data.toList.getD i 0)) := fun i => by
    unfold r07_Name_l0_f_k0 r07_Name_l0_f_k1
    rw [nn, dlt, Int.toNat_natCast, hlow]
  obtain ⟨h1, k, hk, hx, hs, hst⟩ := scan (fun i => ((g, (i : Int)) : ByteArray × Int)) g.size (fun i => !lowB (g.data.toList.getD i 0)) r07_Name_l0_next r07_Name_l0_goes r07_Name_l0_ps (r07_Name_l0_fuel (g, 0)) (g, 0) rfl (by show g.size ≤ ((g.size : Int) - 0).toNat; omega)
    (fun i _ _ => by
      show ((!!decide ((i : Int) < (g.size : Int))) && !r07_Name_l0_f_k0 g i) = _
      rw [hk0, nn, dlt]
      cases decide (i < g.size) <;> rfl)
    (fun i hi hj => by
      show (g, IntKind.i64.wrap ((i : Int) + 1)) = (g, ((i + 1 : Nat) : Int))
      rw [wsucc (by omega)])
    (fun i _ _ => needs_cons (fun h => by
        have h' : (!!decide ((i : Int) < (g.size : Int))) = true := h
        rw [nn] at h'
        have := of_decide_eq_true h'
        show (0 : Int) ≤ (i : Int) ∧ (i : Int) < (g.size : Int)
        omega) (needs_cons (fun h _ => by
        have h' : (!!decide ((i : Int) < (g.size : Int))) = true := h
        rw [nn] at h'
        have := of_decide_eq_true h'
        show (0 : Int) ≤ (i : Int) ∧ (i : Int) < (g.size : Int)
        omega) needs_nil))
  refine ⟨needs_cons h1 needs_nil, ?_⟩
  have hr : r07_Name_l0_run (g, 0) = (g, (k : Int)) := hx
  have ha : g.data.toList.all lowB = decide (¬ k < g.size) := by
    have := all_scan g.data.toList 0 lowB k (by rw [size_data]; exact hk) (fun j hj => by simpa using hs j hj) (fun h => by rw [size_data] at h; simpa using hst h)
    rw [size_data] at this
    exact this
  unfold r07_Name_0
  rw [hr]
  show (bif r07_Name_l0_f_k0 g (k : Int) then false else decide ((g.size : Int) ≥ 1) && decide ((g.size : Int) ≤ 12)) = _
  rw [hk0]
  unfold nameB
  rw [ha, show decide ((g.size : Int) ≥ 1) = decide (1 ≤ g.size) from decide_eq_decide.2 (by omega), show decide ((g.size : Int) ≤ 12) = decide (g.size ≤ 12) from decide_eq_decide.2 (by omega)]
  by_cases h : k < g.size
  · rw [hst h, decide_eq_true h, decide_eq_false (not_not_intro h)]
    rfl
  · rw [decide_eq_false h, decide_eq_true h]
    rfl
theorem r07_Name_c2 (a0 : ByteArray) (hp : ∀ p ∈ r07_Name_ps2 a0, p) : CallOk Try.prog 163 [valA .str a0] 0 [] 1 (r07_Name_r2 a0) 0 (r07_Name_o2 a0) := by
  have hb : wideN a0.size := hp _ (List.mem_cons_self ..)
  have h := r07_Name_c a0 (r07_Name_eq a0 hb).1
  unfold r07_Name_r at h
  rw [(r07_Name_eq a0 hb).2] at h
  exact h
def r07_Name_t : List A → Nat → Objs → Option CRes
  | [y0], nx, o => match argU .str y0 with
    | some (a0, p0) => some (1, (r07_Name_r2 a0).pk (shiftR nx), nx + 0, shiftO nx (r07_Name_o2 a0) ++ o, p0 ++ (r07_Name_ps2 a0))
    | _ => none
  | _, _, _ => none
theorem r07_Name_tok : TOk Try.prog 163 r07_Name_t := fun args nx o k x nx' o' ps h => by
  unfold r07_Name_t at h
  split at h <;> first | (cases h; done) | skip
  split at h <;> first | (cases h; done) | skip
  rename_i a0 p0 e0
  cases h
  refine ⟨fun hp => ?_, _, rfl⟩
  have q0 := fun p hm => hp p (List.mem_append.2 (.inl hm))
  have r0 := fun p hm => hp p (List.mem_append.2 (.inr hm))
  refine callOk_args (callOk_shift (r07_Name_c2 a0 r0) (Nat.le_refl _) (freeL_cons (valA_free _ _) freeL_nil) nx o) fun F N R vs hl => ?_
  obtain ⟨v0, w0, rfl, h0, hl⟩ := hl.inv
  exact HL.cons (argU_ok e0 q0 h0) (hl)
noncomputable def Ch_3 := addC 163 r07_Name_t Ch_2
theorem Ch_3_ok : COk Try.prog Ch_3 := addC_ok r07_Name_tok Ch_2_ok
/-! loop 2 of function 128 -/
abbrev r07_Good_l2_X : Type := (List TGroup) × Int × Int
def r07_Good_l2_T (x : r07_Good_l2_X) : St := ⟨56, 0, [(0, .sl .group x.1), (3, .v (.int .i64 x.2.1)), (4, .v (.int .i64 x.2.2))], []⟩
def r07_Good_l2_un : St → Option r07_Good_l2_X
  | ⟨56, 0, [(0, .sl .group z0), (3, .v (.int .i64 z1)), (4, .v (.int .i64 z2))], []⟩ => some (z0, z1, z2)
  | _ => none
theorem r07_Good_l2_unok : ∀ s x, r07_Good_l2_un s = some x → s = r07_Good_l2_T x := fun s x h => by
  unfold r07_Good_l2_un at h
  split at h
  · cases h; rfl
  · cases h
def r07_Good_l2_S : Shape := ⟨0, 0, [0, 3, 4], [], [], [], [2], []⟩
def r07_Good_l2_E : Entry := ⟨[], [], [0, 3, 4], []⟩
def r07_Good_l2_f_k0 (a0 : List TGroup) (a1 : Int) (a2 : Int) : Bool := !!decide (a2 < a1) && (a0.getD a2.toNat (dflt TC.group)).1.toList == (a0.getD a1.toNat (dflt TC.group)).1.toList
def r07_Good_l2_f_3 (a0 : List TGroup) (a1 : Int) (a2 : Int) : Bool := !!decide (a2 < a1) && !(r07_Good_l2_f_k0 a0 a1 a2)
def r07_Good_l2_next (x : r07_Good_l2_X) : r07_Good_l2_X := (x.1, x.2.1, IntKind.i64.wrap (x.2.2 + (1 : Int)))
def r07_Good_l2_goes (x : r07_Good_l2_X) : Cnd := some (r07_Good_l2_f_3 x.1 x.2.1 x.2.2)
def r07_Good_l2_psA (x : r07_Good_l2_X) : List Prop := [((!!decide (x.2.2 < x.2.1)) = true → (0 : Int) ≤ x.2.2 ∧ x.2.2 < (↑x.1.length : Int)), ((!!decide (x.2.2 < x.2.1)) = true → (0 : Int) ≤ x.2.1 ∧ x.2.1 < (↑x.1.length : Int))]
def r07_Good_l2_ps (x : r07_Good_l2_X) : List Prop := [((!!decide (x.2.2 < x.2.1)) = true → (0 : Int) ≤ x.2.2 ∧ x.2.2 < (↑x.1.length : Int)), ((!!decide (x.2.2 < x.2.1)) = true → (0 : Int) ≤ x.2.1 ∧ x.2.1 < (↑x.1.length : Int))]
def r07_Good_l2_outs (x : r07_Good_l2_X) : Outs := [(some 2, some (!decide (x.2.2 < x.2.1)), ⟨56, 0, [(2, .dead)], []⟩), (none, some ((r07_Good_l2_f_k0 x.1 x.2.1 x.2.2)), ⟨56, 0, [(2, .v (.int .i64 ((70 : Int))))], []⟩)]
def r07_Good_l2_fuel (x : r07_Good_l2_X) : Nat := (x.2.1 - x.2.2).toNat
def r07_Good_l2_run (x : r07_Good_l2_X) : r07_Good_l2_X := iterX r07_Good_l2_next r07_Good_l2_goes (r07_Good_l2_fuel x) x
set_option maxRecDepth 100000 in
theorem r07_Good_l2_ev (a0 : List TGroup) (a1 : Int) (a2 : Int) : roundE (envT Ch_3 L0) 9 (loopAt Try.prog 128 2) r07_Good_l2_S (r07_Good_l2_T (a0, a1, a2)) = some (r07_Good_l2_psA (a0, a1, a2), r07_Good_l2_outs (a0, a1, a2), r07_Good_l2_goes (a0, a1, a2), r07_Good_l2_T (r07_Good_l2_next (a0, a1, a2))) := by kernel_rfl
set_option maxRecDepth 100000 in
theorem r07_Good_l2_hA (a0 : List TGroup) (a1 : Int) (a2 : Int) (hp : ∀ p ∈ r07_Good_l2_ps (a0, a1, a2), p) : ∀ p ∈ r07_Good_l2_psA (a0, a1, a2), p := by
  have n0 : ((!!decide (a2 < a1)) = true → (0 : Int) ≤ a2 ∧ a2 < (↑a0.length : Int)) := hp _ (List.mem_cons_self ..)
  have n1 : ((!!decide (a2 < a1)) = true → (0 : Int) ≤ a1 ∧ a1 < (↑a0.length : Int)) := hp _ (List.mem_cons_of_mem _ (List.mem_cons_self ..))
  exact (needs_cons n0 (needs_cons n1 needs_nil))
noncomputable def r07_Good_l2_row := rowL (envT Ch_3 L0) (loopAt Try.prog 128 2) r07_Good_l2_S r07_Good_l2_E r07_Good_l2_un r07_Good_l2_fuel r07_Good_l2_next r07_Good_l2_goes r07_Good_l2_ps r07_Good_l2_outs
theorem r07_Good_l2_rok : ∀ s b ps outs, r07_Good_l2_row s = some (b, ps, outs) → Wf s ⟨ps, outs, none⟩ ∧ LoopOk (envT C0 L0) b s ps outs :=
  rowP_ok (T := r07_Good_l2_T) Ch_3_ok L0_ok (u := 9) (by kernel_rfl) (by decide) (fun ⟨a0, a1, a2⟩ => r07_Good_l2_ev a0 a1 a2) (fun ⟨a0, a1, a2⟩ => r07_Good_l2_hA a0 a1 a2) r07_Good_l2_unok (fun _ => okOuts_ok (n := 56) rfl) fun _ _ => rfl
noncomputable def r07_Good_l2_L := addLp 2 r07_Good_l2_row L0
theorem r07_Good_l2_Lok : LpOk r07_Good_l2_L := addLp_ok r07_Good_l2_rok L0_ok
/-! loop 0 of function 128 -/
abbrev r07_Good_l0_X : Type := (List TGroup) × Int
def r07_Good_l0_T (x : r07_Good_l0_X) : St := ⟨56, 0, [(0, .sl .group x.1), (3, .v (.int .i64 x.2))], []⟩
def r07_Good_l0_un : St → Option r07_Good_l0_X
  | ⟨56, 0, [(0, .sl .group z0), (3, .v (.int .i64 z1))], []⟩ => some (z0, z1)
  | _ => none
theorem r07_Good_l0_unok : ∀ s x, r07_Good_l0_un s = some x → s = r07_Good_l0_T x := fun s x h => by
  unfold r07_Good_l0_un at h
  split at h
  · cases h; rfl
  · cases h
def r07_Good_l0_S : Shape := ⟨0, 0, [0, 3], [], [], [], [2], []⟩
def r07_Good_l0_E : Entry := ⟨[], [], [0, 3], []⟩
def r07_Good_l0_f_k2 (a0 : List TGroup) (a1 : Int) : Bool := !!decide (a1 < (↑a0.length : Int))
def r07_Good_l0_f_k1 (a0 : List TGroup) (a1 : Int) : Bool := !nameB (a0.getD a1.toNat (dflt TC.group)).1 || (a0.getD a1.toNat (dflt TC.group)).2 != (1 : Int) && (a0.getD a1.toNat (dflt TC.group)).2 != (2 : Int)
def r07_Good_l0_f_k0 (a0 : List TGroup) (a1 : Int) : Bool := (r07_Good_l0_f_k2 a0 a1) && ((r07_Good_l0_f_k1 a0 a1) || r07_Good_l2_f_k0 (r07_Good_l2_run (a0, a1, (0 : Int))).fst (r07_Good_l2_run (a0, a1, (0 : Int))).snd.fst (r07_Good_l2_run (a0, a1, (0 : Int))).snd.snd)
def r07_Good_l0_f_2 (a0 : List TGroup) (a1 : Int) : Bool := (r07_Good_l0_f_k2 a0 a1) && !(r07_Good_l0_f_k0 a0 a1)
def r07_Good_l0_f_11 (a0 : List TGroup) (a1 : Int) : Int := bif (r07_Good_l0_f_k1 a0 a1) then (2 : Int) else (70 : Int)
def r07_Good_l0_next (x : r07_Good_l0_X) : r07_Good_l0_X := (x.1, IntKind.i64.wrap (x.2 + (1 : Int)))
def r07_Good_l0_goes (x : r07_Good_l0_X) : Cnd := some (r07_Good_l0_f_2 x.1 x.2)
def r07_Good_l0_psA (x : r07_Good_l0_X) : List Prop := [((r07_Good_l0_f_k2 x.1 x.2) = true → (0 : Int) ≤ x.2 ∧ x.2 < (↑x.1.length : Int)), ((r07_Good_l0_f_k2 x.1 x.2) = true → wideN (x.1.getD x.2.toNat (dflt TC.group)).1.size), ((r07_Good_l0_f_k2 x.1 x.2) = true → (!nameB (x.1.getD x.2.toNat (dflt TC.group)).1) = false → (0 : Int) ≤ x.2 ∧ x.2 < (↑x.1.length : Int)), ((r07_Good_l0_f_k2 x.1 x.2) = true → ((x.1.getD x.2.toNat (dflt TC.group)).2 != (1 : Int)) = true → (!nameB (x.1.getD x.2.toNat (dflt TC.group)).1) = false → (0 : Int) ≤ x.2 ∧ x.2 < (↑x.1.length : Int)), ((r07_Good_l0_f_k2 x.1 x.2) = true → (!(r07_Good_l0_f_k1 x.1 x.2)) = true → loopAt Try.prog (128 : FuncId) (2 : Nat) = loopAt Try.prog (128 : FuncId) (2 : Nat)), ((r07_Good_l0_f_k2 x.1 x.2) = true → (!(r07_Good_l0_f_k1 x.1 x.2)) = true → needX r07_Good_l2_next r07_Good_l2_goes r07_Good_l2_ps (r07_Good_l2_fuel (x.1, x.2, (0 : Int))) (x.1, x.2, (0 : Int)))]
def r07_Good_l0_ps (x : r07_Good_l0_X) : List Prop := [((r07_Good_l0_f_k2 x.1 x.2) = true → (0 : Int) ≤ x.2 ∧ x.2 < (↑x.1.length : Int)), ((r07_Good_l0_f_k2 x.1 x.2) = true → wideN (x.1.getD x.2.toNat (dflt TC.group)).1.size), ((r07_Good_l0_f_k2 x.1 x.2) = true → (!nameB (x.1.getD x.2.toNat (dflt TC.group)).1) = false → (0 : Int) ≤ x.2 ∧ x.2 < (↑x.1.length : Int)), ((r07_Good_l0_f_k2 x.1 x.2) = true → ((x.1.getD x.2.toNat (dflt TC.group)).2 != (1 : Int)) = true → (!nameB (x.1.getD x.2.toNat (dflt TC.group)).1) = false → (0 : Int) ≤ x.2 ∧ x.2 < (↑x.1.length : Int)), ((r07_Good_l0_f_k2 x.1 x.2) = true → (!(r07_Good_l0_f_k1 x.1 x.2)) = true → needX r07_Good_l2_next r07_Good_l2_goes r07_Good_l2_ps (r07_Good_l2_fuel (x.1, x.2, (0 : Int))) (x.1, x.2, (0 : Int)))]
def r07_Good_l0_outs (x : r07_Good_l0_X) : Outs := [(some 0, some (!decide (x.2 < (↑x.1.length : Int))), ⟨56, 0, [(2, .dead)], []⟩), (none, some ((r07_Good_l0_f_k0 x.1 x.2)), ⟨56, 0, [(2, .v (.int .i64 (r07_Good_l0_f_11 x.1 x.2)))], []⟩)]
def r07_Good_l0_fuel (x : r07_Good_l0_X) : Nat := ((↑x.1.length : Int) - x.2).toNat
def r07_Good_l0_run (x : r07_Good_l0_X) : r07_Good_l0_X := iterX r07_Good_l0_next r07_Good_l0_goes (r07_Good_l0_fuel x) x
set_option maxRecDepth 100000 in
theorem r07_Good_l0_ev (a0 : List TGroup) (a1 : Int) : roundE (envT Ch_3 r07_Good_l2_L) 9 (loopAt Try.prog 128 0) r07_Good_l0_S (r07_Good_l0_T (a0, a1)) = some (r07_Good_l0_psA (a0, a1), r07_Good_l0_outs (a0, a1), r07_Good_l0_goes (a0, a1), r07_Good_l0_T (r07_Good_l0_next (a0, a1))) := by kernel_rfl
set_option maxRecDepth 100000 in
theorem r07_Good_l0_hA (a0 : List TGroup) (a1 : Int) (hp : ∀ p ∈ r07_Good_l0_ps (a0, a1), p) : ∀ p ∈ r07_Good_l0_psA (a0, a1), p := by
  have n0 : ((r07_Good_l0_f_k2 a0 a1) = true → (0 : Int) ≤ a1 ∧ a1 < (↑a0.length : Int)) := hp _ (List.mem_cons_self ..)
  have n1 : ((r07_Good_l0_f_k2 a0 a1) = true → wideN (a0.getD a1.toNat (dflt TC.group)).1.size) := hp _ (List.mem_cons_of_mem _ (List.mem_cons_self ..))
  have n2 : ((r07_Good_l0_f_k2 a0 a1) = true → (!nameB (a0.getD a1.toNat (dflt TC.group)).1) = false → (0 : Int) ≤ a1 ∧ a1 < (↑a0.length : Int)) := hp _ (List.mem_cons_of_mem _ (List.mem_cons_of_mem _ (List.mem_cons_self ..)))
  have n3 : ((r07_Good_l0_f_k2 a0 a1) = true → ((a0.getD a1.toNat (dflt TC.group)).2 != (1 : Int)) = true → (!nameB (a0.getD a1.toNat (dflt TC.group)).1) = false → (0 : Int) ≤ a1 ∧ a1 < (↑a0.length : Int)) := hp _ (List.mem_cons_of_mem _ (List.mem_cons_of_mem _ (List.mem_cons_of_mem _ (List.mem_cons_self ..))))
  have n4 : ((r07_Good_l0_f_k2 a0 a1) = true → (!(r07_Good_l0_f_k1 a0 a1)) = true → loopAt Try.prog (128 : FuncId) (2 : Nat) = loopAt Try.prog (128 : FuncId) (2 : Nat)) := by intros; rfl
  have n5 : ((r07_Good_l0_f_k2 a0 a1) = true → (!(r07_Good_l0_f_k1 a0 a1)) = true → needX r07_Good_l2_next r07_Good_l2_goes r07_Good_l2_ps (r07_Good_l2_fuel (a0, a1, (0 : Int))) (a0, a1, (0 : Int))) := hp _ (List.mem_cons_of_mem _ (List.mem_cons_of_mem _ (List.mem_cons_of_mem _ (List.mem_cons_of_mem _ (List.mem_cons_self ..)))))
  exact (needs_cons n0 (needs_cons n1 (needs_cons n2 (needs_cons n3 (needs_cons n4 (needs_cons n5 needs_nil))))))
noncomputable def r07_Good_l0_row := rowL (envT Ch_3 r07_Good_l2_L) (loopAt Try.prog 128 0) r07_Good_l0_S r07_Good_l0_E r07_Good_l0_un r07_Good_l0_fuel r07_Good_l0_next r07_Good_l0_goes r07_Good_l0_ps r07_Good_l0_outs
theorem r07_Good_l0_rok : ∀ s b ps outs, r07_Good_l0_row s = some (b, ps, outs) → Wf s ⟨ps, outs, none⟩ ∧ LoopOk (envT C0 L0) b s ps outs :=
  rowP_ok (T := r07_Good_l0_T) Ch_3_ok r07_Good_l2_Lok (u := 9) (by kernel_rfl) (by decide) (fun ⟨a0, a1⟩ => r07_Good_l0_ev a0 a1) (fun ⟨a0, a1⟩ => r07_Good_l0_hA a0 a1) r07_Good_l0_unok (fun _ => okOuts_ok (n := 56) rfl) fun _ _ => rfl
noncomputable def r07_Good_l0_L := addLp 0 r07_Good_l0_row r07_Good_l2_L
theorem r07_Good_l0_Lok : LpOk r07_Good_l0_L := addLp_ok r07_Good_l0_rok r07_Good_l2_Lok
def r07_Good_k3 (a0 : List TGroup) : Int := (r07_Good_l0_run (a0, (0 : Int))).snd
def r07_Good_k2 (a0 : List TGroup) : List TGroup := (r07_Good_l0_run (a0, (0 : Int))).fst
def r07_Good_k1 (a0 : List TGroup) : Bool := (↑a0.length : Int) == (0 : Int)
def r07_Good_k0 (a0 : List TGroup) : Bool := decide ((↑a0.length : Int) > (4 : Int))
def r07_Good_0 (a0 : List TGroup) : Int := bif (r07_Good_k1 a0) then (2 : Int) else bif (r07_Good_k0 a0) then (3 : Int) else bif r07_Good_l0_f_k0 (r07_Good_k2 a0) (r07_Good_k3 a0) then r07_Good_l0_f_11 (r07_Good_k2 a0) (r07_Good_k3 a0) else (0 : Int)
def r07_Good_r (a0 : List TGroup) : A := .v (.int .i64 (r07_Good_0 a0))
def r07_Good_o (_a0 : List TGroup) : Objs := []
def r07_Good_ps (a0 : List TGroup) : List Prop := [((!(r07_Good_k1 a0)) = true → (!(r07_Good_k0 a0)) = true → needX r07_Good_l0_next r07_Good_l0_goes r07_Good_l0_ps (r07_Good_l0_fuel (a0, (0 : Int))) (a0, (0 : Int)))]
set_option maxRecDepth 100000 in
theorem r07_Good_ev (a0 : List TGroup) : evF (envT Ch_3 r07_Good_l0_L) 9 128 [.sl .group a0] 0 [] = some (1, r07_Good_r a0, 0, r07_Good_o a0, [((!(r07_Good_k1 a0)) = true → (!(r07_Good_k0 a0)) = true → loopAt Try.prog (128 : FuncId) (0 : Nat) = loopAt Try.prog (128 : FuncId) (0 : Nat)), ((!(r07_Good_k1 a0)) = true → (!(r07_Good_k0 a0)) = true → needX r07_Good_l0_next r07_Good_l0_goes r07_Good_l0_ps (r07_Good_l0_fuel (a0, (0 : Int))) (a0, (0 : Int)))]) := by kernel_rfl
set_option maxRecDepth 100000 in
theorem r07_Good_c (a0 : List TGroup) (hp : ∀ p ∈ r07_Good_ps a0, p) : CallOk Try.prog 128 [.sl .group a0] 0 [] 1 (r07_Good_r a0) 0 (r07_Good_o a0) := by
  have n0 : ((!(r07_Good_k1 a0)) = true → (!(r07_Good_k0 a0)) = true → loopAt Try.prog (128 : FuncId) (0 : Nat) = loopAt Try.prog (128 : FuncId) (0 : Nat)) := by intros; rfl
  have n1 : ((!(r07_Good_k1 a0)) = true → (!(r07_Good_k0 a0)) = true → needX r07_Good_l0_next r07_Good_l0_goes r07_Good_l0_ps (r07_Good_l0_fuel (a0, (0 : Int))) (a0, (0 : Int))) := hp _ (List.mem_cons_self ..)
  exact evF_ok (envP_ok Ch_3_ok r07_Good_l0_Lok) (r07_Good_ev a0) (needs_cons n0 (needs_cons n1 needs_nil))
def r07_Good_r2 (a0 : List TGroup) : A := .v (.int .i64 (goodP a0))
def r07_Good_o2 (_a0 : List TGroup) : Objs := []
def r07_Good_ps2 (a0 : List TGroup) : List Prop := [∀ g ∈ a0, wideN g.name.size]
theorem tlb (a b : ByteArray) : (a.toList == b.toList) = (a == b) := by
  rw [Bool.eq_iff_iff, eqB_iff, beq_iff_eq]
theorem any_names (l : List TGroup) (x : ByteArray) (i k : Nat) (hi : i ≤ l.length) (hk : k ≤ i) (h1 : ∀ j, j < k → ((l.getD j (dflt TC.group)).1 == x) = false) (h2 : k < i → ((l.getD k (dflt TC.group)).1 == x) = true) : ((l.take i).map (·.name)).any (fun s => s == x) = decide (k < i) := by
  rw [List.any_map]
  by_cases h : k < i
  · rw [decide_eq_true h]
    refine List.any_eq_true.2 ⟨l.getD k (dflt TC.group), ?_, h2 h⟩
    rw [List.getD_eq_getElem?_getD, List.getElem?_eq_getElem (by omega), Option.getD_some]
    exact List.mem_take_iff_getElem.2 ⟨k, by omega, rfl⟩
  · rw [decide_eq_false h]
    refine Bool.eq_false_iff.2 fun ha => ?_
    obtain ⟨g, hg, hx⟩ := List.any_eq_true.1 ha
    obtain ⟨j, hj, rfl⟩ := List.mem_take_iff_getElem.1 hg
    have := h1 j (by omega)
    rw [List.getD_eq_getElem?_getD, List.getElem?_eq_getElem (by omega), Option.getD_some] at this
    have hx' : (l[j].1 == x) = true := hx
    rw [this] at hx'
    cases hx'
theorem r07_inner (l : List TGroup) (hl : l.length ≤ 4) (i : Nat) (hi : i < l.length) :
    needX r07_Good_l2_next r07_Good_l2_goes r07_Good_l2_ps (r07_Good_l2_fuel (l, (i : Int), 0)) (l, (i : Int), 0) ∧
    r07_Good_l2_f_k0 (r07_Good_l2_run (l, (i : Int), 0)).fst (r07_Good_l2_run (l, (i : Int), 0)).snd.fst (r07_Good_l2_run (l, (i : Int), 0)).snd.snd = ((l.take i).map (·.name)).any (fun s => s == (l.getD i (dflt TC.group)).1) := by
  have hk0 : ∀ k : Nat, r07_Good_l2_f_k0 l (i : Int) (k : Int) = (decide (k < i) && ((l.getD k (dflt TC.group)).1 == (l.getD i (dflt TC.group)).1)) := fun k => by
    unfold r07_Good_l2_f_k0
    rw [nn, dlt, Int.toNat_natCast, Int.toNat_natCast, tlb]
  obtain ⟨h1, k, hk, hx, hs, hst⟩ := scan (fun k => ((l, (i : Int), (k : Int)) : r07_Good_l2_X)) i (fun k => (l.getD k (dflt TC.group)).1 == (l.getD i (dflt TC.group)).1) r07_Good_l2_next r07_Good_l2_goes r07_Good_l2_ps (r07_Good_l2_fuel (l, (i : Int), 0)) (l, (i : Int), 0) rfl (by show i ≤ ((i : Int) - 0).toNat; omega)
    (fun k _ _ => by
      show ((!!decide ((k : Int) < (i : Int))) && !r07_Good_l2_f_k0 l i k) = _
      rw [hk0, nn, dlt]
      cases decide (k < i) <;> rfl)
    (fun k hk _ => by
      show (l, (i : Int), IntKind.i64.wrap ((k : Int) + 1)) = (l, (i : Int), ((k + 1 : Nat) : Int))
      rw [wsucc (by omega)])
    (fun k _ _ => needs_cons (fun h => by
        have h' : (!!decide ((k : Int) < (i : Int))) = true := h
        rw [nn] at h'
        have := of_decide_eq_true h'
        show (0 : Int) ≤ (k : Int) ∧ (k : Int) < (l.length : Int)
        omega) (needs_cons (fun _ => by
        show (0 : Int) ≤ (i : Int) ∧ (i : Int) < (l.length : Int)
        omega) needs_nil))
  refine ⟨h1, ?_⟩
  have hr : r07_Good_l2_run (l, (i : Int), 0) = (l, (i : Int), (k : Int)) := hx
  rw [hr]
  show r07_Good_l2_f_k0 l (i : Int) (k : Int) = _
  rw [hk0, any_names l _ i k (by omega) hk hs hst]
  by_cases h : k < i
  · rw [hst h, Bool.and_true]
  · rw [decide_eq_false h, Bool.false_and]
theorem r07_Good_eq (l : List TGroup) (hb : ∀ g ∈ l, wideN g.name.size) : (∀ p ∈ r07_Good_ps l, p) ∧ r07_Good_0 l = goodP l := by
  have main : r07_Good_k1 l = false → r07_Good_k0 l = false → needX r07_Good_l0_next r07_Good_l0_goes r07_Good_l0_ps (r07_Good_l0_fuel (l, 0)) (l, 0) ∧ r07_Good_0 l = goodP l := fun h1 h0 => by
    have hn4 : l.length ≤ 4 := by have h := of_decide_eq_false h0; omega
    have hf1 : ∀ i : Nat, r07_Good_l0_f_k1 l (i : Int) = !(nameB (l.getD i (dflt TC.group)).1 && polB (l.getD i (dflt TC.group)).2) := fun i => by
      unfold r07_Good_l0_f_k1 polB
      rw [Int.toNat_natCast, Bool.not_and]
      congr 1
      simp [bne]
    have hk0 : ∀ i : Nat, r07_Good_l0_f_k0 l (i : Int) = (decide (i < l.length) && stopG l i) := fun i => by
      unfold r07_Good_l0_f_k0 r07_Good_l0_f_k2
      rw [hf1, nn, dlt]
      by_cases hi : i < l.length
      · rw [(r07_inner l hn4 i hi).2]; rfl
      · rw [decide_eq_false hi]; rfl
    obtain ⟨g1, k, hk, hx, hs, hst⟩ := scan (fun i => ((l, (i : Int)) : r07_Good_l0_X)) l.length (stopG l) r07_Good_l0_next r07_Good_l0_goes r07_Good_l0_ps (r07_Good_l0_fuel (l, 0)) ((l, 0) : r07_Good_l0_X) rfl
      (by show l.length ≤ ((l.length : Int) - 0).toNat; omega)
      (fun i hi hs => by
        show ((!!decide ((i : Int) < (l.length : Int))) && !r07_Good_l0_f_k0 l (i : Int)) = _
        rw [hk0 i, nn, dlt]
        cases decide (i < l.length) <;> rfl)
      (fun i hi hs => by
        show (l, IntKind.i64.wrap ((i : Int) + 1)) = (l, ((i + 1 : Nat) : Int))
        rw [wsucc (by omega)])
      (fun i hi hs => by
        have hlt : (!!decide ((i : Int) < (l.length : Int))) = true → i < l.length := fun h => by
          rw [nn] at h
          have := of_decide_eq_true h
          omega
        have hin : (!!decide ((i : Int) < (l.length : Int))) = true → (0 : Int) ≤ (i : Int) ∧ (i : Int) < (l.length : Int) := fun h => by
          have := hlt h
          omega
        exact needs_cons hin (needs_cons (fun h => by
          have := hlt h
          show wideN (l.getD i (dflt TC.group)).1.size
          rw [List.getD_eq_getElem?_getD, List.getElem?_eq_getElem this, Option.getD_some]
          exact hb _ (List.getElem_mem this)) (needs_cons (fun h _ => hin h) (needs_cons (fun h _ _ => hin h) (needs_cons (fun h _ => (r07_inner l hn4 i (hlt h)).1) needs_nil)))))
    refine ⟨g1, ?_⟩
    have hr : r07_Good_l0_run (l, 0) = (l, (k : Int)) := hx
    unfold r07_Good_0 r07_Good_k3 r07_Good_k2
    rw [hr, h1, h0, cond_false, cond_false]
    show (bif r07_Good_l0_f_k0 l (k : Int) then r07_Good_l0_f_11 l (k : Int) else 0) = _
    rw [hk0 k]
    have e1 : (l.length == 0) = false := by rw [← beq0i]; exact h1
    have e2 : decide (4 < l.length) = false := decide_eq_false (by omega)
    unfold goodP
    rw [e1, e2, cond_false, cond_false, goodPs_at l k [] (fun j hj hl => by
      have := hs j hj
      unfold stopG at this
      obtain ⟨q1, q2⟩ := Bool.or_eq_false_iff.1 this
      exact ⟨by rw [Bool.not_eq_false'] at q1; exact q1, by simpa using q2⟩), List.nil_append]
    by_cases hkl : k < l.length
    · have hst' := hst hkl
      rw [hst', decide_eq_true hkl, Bool.and_true, cond_true]
      have hd : l.drop k = l.getD k (dflt TC.group) :: l.drop (k + 1) := by
        rw [List.getD_eq_getElem?_getD, List.getElem?_eq_getElem hkl, Option.getD_some]
        exact List.drop_eq_getElem_cons hkl
      rw [hd]
      unfold goodPs r07_Good_l0_f_11
      rw [hf1]
      unfold stopG at hst'
      show (bif !(nameB (l.getD k (dflt TC.group)).1 && polB (l.getD k (dflt TC.group)).2) then (2 : Int) else 70) = bif !(nameB (l.getD k (dflt TC.group)).1 && polB (l.getD k (dflt TC.group)).2) then 2 else _
      cases hq : !(nameB (l.getD k (dflt TC.group)).1 && polB (l.getD k (dflt TC.group)).2) with
      | true => rfl
      | false =>
        rw [hq, Bool.false_or] at hst'
        have hst2 : ((l.take k).map (·.name)).any (fun s => s == (l.getD k (dflt TC.group)).name) = true := hst'
        rw [cond_false, cond_false, hst2]
        rfl
    · rw [decide_eq_false hkl, Bool.false_and, cond_false, List.drop_eq_nil_of_le (by omega)]
      rfl
  cases h1 : r07_Good_k1 l with
  | true =>
    refine ⟨needs_cons (fun h => by rw [h1] at h; cases h) needs_nil, ?_⟩
    unfold r07_Good_0 goodP
    rw [h1, cond_true, ← beq0i]
    unfold r07_Good_k1 at h1
    rw [h1]
    rfl
  | false =>
    cases h0 : r07_Good_k0 l with
    | true =>
      refine ⟨needs_cons (fun _ h => by rw [h0] at h; cases h) needs_nil, ?_⟩
      unfold r07_Good_0 goodP
      rw [h1, h0, cond_false, cond_true, ← beq0i]
      unfold r07_Good_k1 at h1
      rw [h1, cond_false, ← dgt l.length 4]
      unfold r07_Good_k0 at h0
      rw [show (decide ((l.length : Int) > ((4 : Nat) : Int))) = true from h0]
      rfl
    | false =>
      obtain ⟨g1, g2⟩ := main h1 h0
      exact ⟨needs_cons (fun _ _ => g1) needs_nil, g2⟩
theorem r07_Good_c2 (a0 : List TGroup) (hp : ∀ p ∈ r07_Good_ps2 a0, p) : CallOk Try.prog 128 [.sl .group a0] 0 [] 1 (r07_Good_r2 a0) 0 (r07_Good_o2 a0) := by
  have hb : ∀ g ∈ a0, wideN g.name.size := hp _ (List.mem_cons_self ..)
  have h := r07_Good_c a0 (r07_Good_eq a0 hb).1
  unfold r07_Good_r at h
  rw [(r07_Good_eq a0 hb).2] at h
  exact h
def r07_Good_t : List A → Nat → Objs → Option CRes
  | [y0], nx, o => match argL .group y0 with
    | some a0 => some (1, (r07_Good_r2 a0).pk (shiftR nx), nx + 0, shiftO nx (r07_Good_o2 a0) ++ o, r07_Good_ps2 a0)
    | _ => none
  | _, _, _ => none
theorem r07_Good_tok : TOk Try.prog 128 r07_Good_t := fun args nx o k x nx' o' ps h => by
  unfold r07_Good_t at h
  split at h <;> first | (cases h; done) | skip
  split at h <;> first | (cases h; done) | skip
  rename_i a0 e0
  cases h
  refine ⟨fun hp => ?_, _, rfl⟩
  refine callOk_args (callOk_shift (r07_Good_c2 a0 hp) (Nat.le_refl _) (freeL_cons rfl freeL_nil) nx o) fun F N R vs hl => ?_
  obtain ⟨v0, w0, rfl, h0, hl⟩ := hl.inv
  exact HL.cons (argL_ok e0 h0) (hl)
noncomputable def Ch_4 := addC 128 r07_Good_t Ch_3
theorem Ch_4_ok : COk Try.prog Ch_4 := addC_ok r07_Good_tok Ch_3_ok

noncomputable def Ch := Ch_4
theorem Ch_ok : COk Try.prog Ch := Ch_4_ok
end Go.Proofs.Yteebobbhhgmeiaa
