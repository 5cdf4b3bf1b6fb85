/- made by a program (rowgen.py): FrontierSeen: for every input the law returns true, and each argument reads behind the call as it read before. -/
import Derived.Test.YteebobbhhgmeiaaKFse
import Derived.Test.YteebobbhhgmeiaaRows

namespace Go.Proofs.Yteebobbhhgmeiaa

open Go.RowKit

theorem acc_from {X : Type} (mk : Nat → Int → X) (len : Nat) (step : Nat → Int → Int) (P : Nat → Prop) (m c : Int) (s : Bool) (next : X → X) (goes : X → Cnd) (ps : X → List Prop)
    (hs : ∀ i n, i < len → 0 ≤ n → 0 ≤ step i n ∧ (step i n ≤ m → n + c ≤ step i n ∧ P i)) (hc : 0 ≤ c)
    (hg : ∀ i n, i ≤ len → cval (goes (mk i n)) = (decide (i < len) && (s || decide (n ≤ m)))) (hn : ∀ i n, i < len → 0 ≤ n → next (mk i n) = mk (i + 1) (step i n))
    (hp : ∀ i n, i ≤ len → 0 ≤ n → ∀ p ∈ ps (mk i n), p) :
    ∀ (f i : Nat) (n : Int), i ≤ len → len ≤ i + f → 0 ≤ n →
    needX next goes ps f (mk i n) ∧ ∃ k n', iterX next goes f (mk i n) = mk k n' ∧ 0 ≤ n' ∧ (n' ≤ m → n + c * ((len : Int) - (i : Int)) ≤ n' ∧ ∀ j, i ≤ j → j < len → P j)
  | 0, i, n, hi, hf, h0 => by
    obtain rfl : i = len := by omega
    have hb := hg i n (Nat.le_refl _)
    rw [decide_eq_false (Nat.lt_irrefl _), Bool.false_and] at hb
    exact ⟨⟨hp i n hi h0, hb⟩, i, n, rfl, h0, fun _ => ⟨by rw [Int.sub_self, Int.mul_zero]; omega, fun j h1 h2 => by omega⟩⟩
  | f + 1, i, n, hi, hf, h0 => by
    have hb := hg i n hi
    cases hv : cval (goes (mk i n)) with
    | false =>
      have e : iterX next goes (f + 1) (mk i n) = mk i n := by
        show (bif cval (goes (mk i n)) then _ else mk i n) = _
        rw [hv]; rfl
      rw [e]
      refine ⟨⟨hp i n hi h0, fun h => by rw [hv] at h; cases h⟩, i, n, rfl, h0, fun hm => ?_⟩
      rw [hv] at hb
      rw [decide_eq_true hm, Bool.or_true, Bool.and_true] at hb
      have : ¬ i < len := of_decide_eq_false hb.symm
      obtain rfl : i = len := by omega
      exact ⟨by rw [Int.sub_self, Int.mul_zero]; omega, fun j h1 h2 => by omega⟩
    | true =>
      rw [hv] at hb
      have hi' : i < len := by
        cases h : decide (i < len) with
        | true => exact of_decide_eq_true h
        | false => rw [h] at hb; cases hb
      obtain ⟨s1, s2⟩ := hs i n hi' h0
      have e : iterX next goes (f + 1) (mk i n) = iterX next goes f (mk (i + 1) (step i n)) := by
        show (bif cval (goes (mk i n)) then iterX next goes f (next (mk i n)) else mk i n) = _
        rw [hv, hn i n hi' h0]; rfl
      obtain ⟨g1, k, n', g2, g3, g4⟩ := acc_from mk len step P m c s next goes ps hs hc hg hn hp f (i + 1) (step i n) hi' (by omega) s1
      rw [e]
      refine ⟨⟨hp i n hi h0, fun _ => by rw [hn i n hi' h0]; exact g1⟩, k, n', g2, g3, fun hm => ?_⟩
      obtain ⟨a1, a2⟩ := g4 hm
      have hpos : 0 ≤ c * ((len : Int) - ((i + 1 : Nat) : Int)) := Int.mul_nonneg hc (by omega)
      obtain ⟨b1, b2⟩ := s2 (by omega)
      have hd : c * ((len : Int) - (i : Int)) = c * ((len : Int) - ((i + 1 : Nat) : Int)) + c := by
        rw [show ((len : Int) - (i : Int)) = ((len : Int) - ((i + 1 : Nat) : Int)) + 1 by omega, Int.mul_add, Int.mul_one]
      refine ⟨by rw [hd]; omega, fun j h1 h2 => ?_⟩
      by_cases e : j = i
      · subst e; exact b2
      · exact a2 j (by omega) h2

/-- **A sum that is added up along a list.** -/
theorem acc_loop {X : Type} (mk : Nat → Int → X) (len : Nat) (step : Nat → Int → Int) (P : Nat → Prop) (m c : Int) (s : Bool) (next : X → X) (goes : X → Cnd) (ps : X → List Prop) (f : Nat) (x : X) (n0 : Int) (hx : x = mk 0 n0) (hf : len ≤ f) (h0 : 0 ≤ n0)
    (hs : ∀ i n, i < len → 0 ≤ n → 0 ≤ step i n ∧ (step i n ≤ m → n + c ≤ step i n ∧ P i)) (hc : 0 ≤ c)
    (hg : ∀ i n, i ≤ len → cval (goes (mk i n)) = (decide (i < len) && (s || decide (n ≤ m)))) (hn : ∀ i n, i < len → 0 ≤ n → next (mk i n) = mk (i + 1) (step i n))
    (hp : ∀ i n, i ≤ len → 0 ≤ n → ∀ p ∈ ps (mk i n), p) :
    needX next goes ps f x ∧ ∃ k n', iterX next goes f x = mk k n' ∧ 0 ≤ n' ∧ (n' ≤ m → n0 + c * (len : Int) ≤ n' ∧ ∀ j, j < len → P j) := by
  subst hx
  obtain ⟨h1, k, n', h2, h3, h4⟩ := acc_from mk len step P m c s next goes ps hs hc hg hn hp f 0 n0 (Nat.zero_le _) (by omega) h0
  refine ⟨h1, k, n', h2, h3, fun h => ?_⟩
  obtain ⟨h5, h6⟩ := h4 h
  rw [show ((len : Int) - ((0 : Nat) : Int)) = (len : Int) by omega] at h5
  exact ⟨h5, fun j hj => h6 j (Nat.zero_le _) hj⟩

theorem all_of_at {α : Type} {l : List α} {d : α} {P : α → Prop} (h : ∀ j, j < l.length → P (l.getD j d)) : ∀ x ∈ l, P x := fun x hx => by
  obtain ⟨j, hj, rfl⟩ := List.mem_iff_getElem.1 hx
  have := h j hj
  rw [List.getD_eq_getElem?_getD, List.getElem?_eq_getElem hj] at this
  exact this

end Go.Proofs.Yteebobbhhgmeiaa

namespace Go.Proofs.Yteebobbhhgmeiaa

open Go.RowKit

noncomputable def Cn_1 := addC 111 r01_Add_t Cl

theorem Cn_1_ok : COk Try.prog Cn_1 := addC_ok r01_Add_tok Cl_ok

noncomputable def Cn_2 := addC 25 l23_lives_t Cn_1

theorem Cn_2_ok : COk Try.prog Cn_2 := addC_ok l23_lives_tok Cn_1_ok

abbrev l13_Light_l2_X : Type := (List TChange) × Int × Int × Int

def l13_Light_l2_T (x : l13_Light_l2_X) : St := ⟨122, 0, [(1, .sl .change x.1), (7, .v (.int .i64 x.2.1)), (8, .v (.int .i64 x.2.2.1)), (9, .v (.int .i64 x.2.2.2))], []⟩

def l13_Light_l2_un : St → Option l13_Light_l2_X
  | ⟨122, 0, [(1, .sl .change z0), (7, .v (.int .i64 z1)), (8, .v (.int .i64 z2)), (9, .v (.int .i64 z3))], []⟩ => some (z0, z1, z2, z3)
  | _ => none

theorem l13_Light_l2_unok : ∀ s x, l13_Light_l2_un s = some x → s = l13_Light_l2_T x := fun s x h => by
  unfold l13_Light_l2_un at h
  split at h
  · cases h; rfl
  · cases h

def l13_Light_l2_S : Shape := ⟨0, 0, [1, 7, 8, 9], [], [], [], [7], []⟩

def l13_Light_l2_E : Entry := ⟨[], [], [1, 7, 8, 9], []⟩

def l13_Light_l2_f_k0 (a0 : List TChange) (a1 : Int) (a2 : Int) (a3 : Int) : Bool := !!(decide (a3 < (↑(a0.getD a2.toNat (dflt TC.change)).5.length : Int)) && decide (a1 ≤ (6000 : Int)))

def l13_Light_l2_f_1 (a0 : List TChange) (a1 : Int) (a2 : Int) (a3 : Int) : Int := r01_Add_0 (r01_Add_0 (r01_Add_0 a1 (10 : Int) (6000 : Int)) (↑((a0.getD a2.toNat (dflt TC.change)).5.getD a3.toNat (dflt TC.write)).1.size : Int) (6000 : Int)) (↑((a0.getD a2.toNat (dflt TC.change)).5.getD a3.toNat (dflt TC.write)).4.size : Int) (6000 : Int)

def l13_Light_l2_f_10 (a0 : List TChange) (a1 : Int) (a2 : Int) (a3 : Int) : Bool := !(decide (a3 < (↑(a0.getD a2.toNat (dflt TC.change)).5.length : Int)) && decide (a1 ≤ (6000 : Int)))

def l13_Light_l2_next (x : l13_Light_l2_X) : l13_Light_l2_X := (x.1, l13_Light_l2_f_1 x.1 x.2.1 x.2.2.1 x.2.2.2, x.2.2.1, IntKind.i64.wrap (x.2.2.2 + (1 : Int)))

def l13_Light_l2_goes (x : l13_Light_l2_X) : Cnd := some ((l13_Light_l2_f_k0 x.1 x.2.1 x.2.2.1 x.2.2.2))

def l13_Light_l2_psA (x : l13_Light_l2_X) : List Prop := [((0 : Int) ≤ x.2.2.1 ∧ x.2.2.1 < (↑x.1.length : Int)), ((l13_Light_l2_f_k0 x.1 x.2.1 x.2.2.1 x.2.2.2) = true → (0 : Int) ≤ x.2.2.1 ∧ x.2.2.1 < (↑x.1.length : Int)), ((l13_Light_l2_f_k0 x.1 x.2.1 x.2.2.1 x.2.2.2) = true → (0 : Int) ≤ x.2.2.2 ∧ x.2.2.2 < (↑(x.1.getD x.2.2.1.toNat (dflt TC.change)).5.length : Int)), ((l13_Light_l2_f_k0 x.1 x.2.1 x.2.2.1 x.2.2.2) = true → (0 : Int) ≤ x.2.2.1 ∧ x.2.2.1 < (↑x.1.length : Int)), ((l13_Light_l2_f_k0 x.1 x.2.1 x.2.2.1 x.2.2.2) = true → (0 : Int) ≤ x.2.2.2 ∧ x.2.2.2 < (↑(x.1.getD x.2.2.1.toNat (dflt TC.change)).5.length : Int))]

def l13_Light_l2_ps (x : l13_Light_l2_X) : List Prop := [((0 : Int) ≤ x.2.2.1 ∧ x.2.2.1 < (↑x.1.length : Int)), ((l13_Light_l2_f_k0 x.1 x.2.1 x.2.2.1 x.2.2.2) = true → (0 : Int) ≤ x.2.2.1 ∧ x.2.2.1 < (↑x.1.length : Int)), ((l13_Light_l2_f_k0 x.1 x.2.1 x.2.2.1 x.2.2.2) = true → (0 : Int) ≤ x.2.2.2 ∧ x.2.2.2 < (↑(x.1.getD x.2.2.1.toNat (dflt TC.change)).5.length : Int))]

def l13_Light_l2_outs (x : l13_Light_l2_X) : Outs := [(some 2, some (l13_Light_l2_f_10 x.1 x.2.1 x.2.2.1 x.2.2.2), ⟨122, 0, [(7, .v (.int .i64 x.2.1))], []⟩)]

def l13_Light_l2_fuel (x : l13_Light_l2_X) : Nat := ((↑(x.1.getD x.2.2.1.toNat (dflt TC.change)).5.length : Int) - x.2.2.2).toNat

def l13_Light_l2_run (x : l13_Light_l2_X) : l13_Light_l2_X := iterX l13_Light_l2_next l13_Light_l2_goes (l13_Light_l2_fuel x) x

set_option maxRecDepth 100000 in
theorem l13_Light_l2_ev (a0 : List TChange) (a1 : Int) (a2 : Int) (a3 : Int) : roundE (envT Cn_2 L0) 9 (loopAt Try.prog 45 2) l13_Light_l2_S (l13_Light_l2_T (a0, a1, a2, a3)) = some (l13_Light_l2_psA (a0, a1, a2, a3), l13_Light_l2_outs (a0, a1, a2, a3), l13_Light_l2_goes (a0, a1, a2, a3), l13_Light_l2_T (l13_Light_l2_next (a0, a1, a2, a3))) := by kernel_rfl

set_option maxRecDepth 100000 in
theorem l13_Light_l2_hA (a0 : List TChange) (a1 : Int) (a2 : Int) (a3 : Int) (hp : ∀ p ∈ l13_Light_l2_ps (a0, a1, a2, a3), p) : ∀ p ∈ l13_Light_l2_psA (a0, a1, a2, a3), p := by
  have n0 : ((0 : Int) ≤ a2 ∧ a2 < (↑a0.length : Int)) := hp _ (List.mem_cons_self ..)
  have n1 : ((l13_Light_l2_f_k0 a0 a1 a2 a3) = true → (0 : Int) ≤ a2 ∧ a2 < (↑a0.length : Int)) := hp _ (List.mem_cons_of_mem _ (List.mem_cons_self ..))
  have n2 : ((l13_Light_l2_f_k0 a0 a1 a2 a3) = true → (0 : Int) ≤ a3 ∧ a3 < (↑(a0.getD a2.toNat (dflt TC.change)).5.length : Int)) := hp _ (List.mem_cons_of_mem _ (List.mem_cons_of_mem _ (List.mem_cons_self ..)))
  exact (needs_cons n0 (needs_cons n1 (needs_cons n2 (needs_cons n1 (needs_cons n2 needs_nil)))))

noncomputable def l13_Light_l2_row := rowL (envT Cn_2 L0) (loopAt Try.prog 45 2) l13_Light_l2_S l13_Light_l2_E l13_Light_l2_un l13_Light_l2_fuel l13_Light_l2_next l13_Light_l2_goes l13_Light_l2_ps l13_Light_l2_outs

theorem l13_Light_l2_rok : ∀ s b ps outs, l13_Light_l2_row s = some (b, ps, outs) → Wf s ⟨ps, outs, none⟩ ∧ LoopOk (envT C0 L0) b s ps outs :=
  rowP_ok (T := l13_Light_l2_T) Cn_2_ok L0_ok (u := 9) (by kernel_rfl) (by decide) (fun ⟨a0, a1, a2, a3⟩ => l13_Light_l2_ev a0 a1 a2 a3) (fun ⟨a0, a1, a2, a3⟩ => l13_Light_l2_hA a0 a1 a2 a3) l13_Light_l2_unok (fun _ => okOuts_ok (n := 122) rfl) fun _ _ => rfl

noncomputable def l13_Light_l2_L := addLp 2 l13_Light_l2_row L0

theorem l13_Light_l2_Lok : LpOk l13_Light_l2_L := addLp_ok l13_Light_l2_rok L0_ok

abbrev l13_Light_l0_X : Type := (List TChange) × Int × Int

def l13_Light_l0_T (x : l13_Light_l0_X) : St := ⟨122, 0, [(1, .sl .change x.1), (7, .v (.int .i64 x.2.1)), (8, .v (.int .i64 x.2.2))], []⟩

def l13_Light_l0_un : St → Option l13_Light_l0_X
  | ⟨122, 0, [(1, .sl .change z0), (7, .v (.int .i64 z1)), (8, .v (.int .i64 z2))], []⟩ => some (z0, z1, z2)
  | _ => none

theorem l13_Light_l0_unok : ∀ s x, l13_Light_l0_un s = some x → s = l13_Light_l0_T x := fun s x h => by
  unfold l13_Light_l0_un at h
  split at h
  · cases h; rfl
  · cases h

def l13_Light_l0_S : Shape := ⟨0, 0, [1, 7, 8], [], [], [], [7], []⟩

def l13_Light_l0_E : Entry := ⟨[], [], [1, 7, 8], []⟩

def l13_Light_l0_f_k0 (a0 : List TChange) (a1 : Int) (a2 : Int) : Bool := !!(decide (a2 < (↑a0.length : Int)) && decide (a1 ≤ (6000 : Int)))

def l13_Light_l0_f_1 (a0 : List TChange) (a1 : Int) (a2 : Int) : Int := (l13_Light_l2_run (a0, r01_Add_0 a1 (10 : Int) (6000 : Int), a2, (0 : Int))).snd.fst

def l13_Light_l0_f_6 (a0 : List TChange) (a1 : Int) (a2 : Int) : Bool := !(decide (a2 < (↑a0.length : Int)) && decide (a1 ≤ (6000 : Int)))

def l13_Light_l0_next (x : l13_Light_l0_X) : l13_Light_l0_X := (x.1, l13_Light_l0_f_1 x.1 x.2.1 x.2.2, IntKind.i64.wrap (x.2.2 + (1 : Int)))

def l13_Light_l0_goes (x : l13_Light_l0_X) : Cnd := some ((l13_Light_l0_f_k0 x.1 x.2.1 x.2.2))

def l13_Light_l0_psA (x : l13_Light_l0_X) : List Prop := [((l13_Light_l0_f_k0 x.1 x.2.1 x.2.2) = true → loopAt Try.prog (45 : FuncId) (2 : Nat) = loopAt Try.prog (45 : FuncId) (2 : Nat)), ((l13_Light_l0_f_k0 x.1 x.2.1 x.2.2) = true → needX l13_Light_l2_next l13_Light_l2_goes l13_Light_l2_ps (l13_Light_l2_fuel (x.1, r01_Add_0 x.2.1 (10 : Int) (6000 : Int), x.2.2, (0 : Int))) (x.1, r01_Add_0 x.2.1 (10 : Int) (6000 : Int), x.2.2, (0 : Int)))]

def l13_Light_l0_ps (x : l13_Light_l0_X) : List Prop := [((l13_Light_l0_f_k0 x.1 x.2.1 x.2.2) = true → needX l13_Light_l2_next l13_Light_l2_goes l13_Light_l2_ps (l13_Light_l2_fuel (x.1, r01_Add_0 x.2.1 (10 : Int) (6000 : Int), x.2.2, (0 : Int))) (x.1, r01_Add_0 x.2.1 (10 : Int) (6000 : Int), x.2.2, (0 : Int)))]

def l13_Light_l0_outs (x : l13_Light_l0_X) : Outs := [(some 0, some (l13_Light_l0_f_6 x.1 x.2.1 x.2.2), ⟨122, 0, [(7, .v (.int .i64 x.2.1))], []⟩)]

def l13_Light_l0_fuel (x : l13_Light_l0_X) : Nat := ((↑x.1.length : Int) - x.2.2).toNat

def l13_Light_l0_run (x : l13_Light_l0_X) : l13_Light_l0_X := iterX l13_Light_l0_next l13_Light_l0_goes (l13_Light_l0_fuel x) x

set_option maxRecDepth 100000 in
theorem l13_Light_l0_ev (a0 : List TChange) (a1 : Int) (a2 : Int) : roundE (envT Cn_2 l13_Light_l2_L) 9 (loopAt Try.prog 45 0) l13_Light_l0_S (l13_Light_l0_T (a0, a1, a2)) = some (l13_Light_l0_psA (a0, a1, a2), l13_Light_l0_outs (a0, a1, a2), l13_Light_l0_goes (a0, a1, a2), l13_Light_l0_T (l13_Light_l0_next (a0, a1, a2))) := by kernel_rfl

set_option maxRecDepth 100000 in
theorem l13_Light_l0_hA (a0 : List TChange) (a1 : Int) (a2 : Int) (hp : ∀ p ∈ l13_Light_l0_ps (a0, a1, a2), p) : ∀ p ∈ l13_Light_l0_psA (a0, a1, a2), p := by
  have n0 : ((l13_Light_l0_f_k0 a0 a1 a2) = true → loopAt Try.prog (45 : FuncId) (2 : Nat) = loopAt Try.prog (45 : FuncId) (2 : Nat)) := by intros; rfl
  have n1 : ((l13_Light_l0_f_k0 a0 a1 a2) = true → needX l13_Light_l2_next l13_Light_l2_goes l13_Light_l2_ps (l13_Light_l2_fuel (a0, r01_Add_0 a1 (10 : Int) (6000 : Int), a2, (0 : Int))) (a0, r01_Add_0 a1 (10 : Int) (6000 : Int), a2, (0 : Int))) := hp _ (List.mem_cons_self ..)
  exact (needs_cons n0 (needs_cons n1 needs_nil))

noncomputable def l13_Light_l0_row := rowL (envT Cn_2 l13_Light_l2_L) (loopAt Try.prog 45 0) l13_Light_l0_S l13_Light_l0_E l13_Light_l0_un l13_Light_l0_fuel l13_Light_l0_next l13_Light_l0_goes l13_Light_l0_ps l13_Light_l0_outs

theorem l13_Light_l0_rok : ∀ s b ps outs, l13_Light_l0_row s = some (b, ps, outs) → Wf s ⟨ps, outs, none⟩ ∧ LoopOk (envT C0 L0) b s ps outs :=
  rowP_ok (T := l13_Light_l0_T) Cn_2_ok l13_Light_l2_Lok (u := 9) (by kernel_rfl) (by decide) (fun ⟨a0, a1, a2⟩ => l13_Light_l0_ev a0 a1 a2) (fun ⟨a0, a1, a2⟩ => l13_Light_l0_hA a0 a1 a2) l13_Light_l0_unok (fun _ => okOuts_ok (n := 122) rfl) fun _ _ => rfl

noncomputable def l13_Light_l0_L := addLp 0 l13_Light_l0_row l13_Light_l2_L

theorem l13_Light_l0_Lok : LpOk l13_Light_l0_L := addLp_ok l13_Light_l0_rok l13_Light_l2_Lok

abbrev l13_Light_l8_X : Type := Int × (List TRow) × Int × Int

def l13_Light_l8_T (x : l13_Light_l8_X) : St := ⟨122, 0, [(7, .v (.int .i64 x.1)), (11, .sl .row x.2.1), (12, .v (.int .i64 x.2.2.1)), (13, .v (.int .i64 x.2.2.2))], []⟩

def l13_Light_l8_un : St → Option l13_Light_l8_X
  | ⟨122, 0, [(7, .v (.int .i64 z0)), (11, .sl .row z1), (12, .v (.int .i64 z2)), (13, .v (.int .i64 z3))], []⟩ => some (z0, z1, z2, z3)
  | _ => none

theorem l13_Light_l8_unok : ∀ s x, l13_Light_l8_un s = some x → s = l13_Light_l8_T x := fun s x h => by
  unfold l13_Light_l8_un at h
  split at h
  · cases h; rfl
  · cases h

def l13_Light_l8_S : Shape := ⟨0, 0, [7, 11, 12, 13], [], [], [], [7], []⟩

def l13_Light_l8_E : Entry := ⟨[], [], [7, 11, 12, 13], []⟩

def l13_Light_l8_f_k0 (a0 : Int) (a1 : List TRow) (a2 : Int) (a3 : Int) : Bool := !!(decide (a3 < (↑(a1.getD a2.toNat (dflt TC.row)).2.length : Int)) && decide (a0 ≤ (6000 : Int)))

def l13_Light_l8_f_0 (a0 : Int) (a1 : List TRow) (a2 : Int) (a3 : Int) : Int := r01_Add_0 (r01_Add_0 a0 (10 : Int) (6000 : Int)) (↑((a1.getD a2.toNat (dflt TC.row)).2.getD a3.toNat (dflt TC.cell)).4.size : Int) (6000 : Int)

def l13_Light_l8_f_8 (a0 : Int) (a1 : List TRow) (a2 : Int) (a3 : Int) : Bool := !(decide (a3 < (↑(a1.getD a2.toNat (dflt TC.row)).2.length : Int)) && decide (a0 ≤ (6000 : Int)))

def l13_Light_l8_next (x : l13_Light_l8_X) : l13_Light_l8_X := (l13_Light_l8_f_0 x.1 x.2.1 x.2.2.1 x.2.2.2, x.2.1, x.2.2.1, IntKind.i64.wrap (x.2.2.2 + (1 : Int)))

def l13_Light_l8_goes (x : l13_Light_l8_X) : Cnd := some ((l13_Light_l8_f_k0 x.1 x.2.1 x.2.2.1 x.2.2.2))

def l13_Light_l8_psA (x : l13_Light_l8_X) : List Prop := [((0 : Int) ≤ x.2.2.1 ∧ x.2.2.1 < (↑x.2.1.length : Int)), ((l13_Light_l8_f_k0 x.1 x.2.1 x.2.2.1 x.2.2.2) = true → (0 : Int) ≤ x.2.2.1 ∧ x.2.2.1 < (↑x.2.1.length : Int)), ((l13_Light_l8_f_k0 x.1 x.2.1 x.2.2.1 x.2.2.2) = true → (0 : Int) ≤ x.2.2.2 ∧ x.2.2.2 < (↑(x.2.1.getD x.2.2.1.toNat (dflt TC.row)).2.length : Int))]

def l13_Light_l8_ps (x : l13_Light_l8_X) : List Prop := [((0 : Int) ≤ x.2.2.1 ∧ x.2.2.1 < (↑x.2.1.length : Int)), ((l13_Light_l8_f_k0 x.1 x.2.1 x.2.2.1 x.2.2.2) = true → (0 : Int) ≤ x.2.2.1 ∧ x.2.2.1 < (↑x.2.1.length : Int)), ((l13_Light_l8_f_k0 x.1 x.2.1 x.2.2.1 x.2.2.2) = true → (0 : Int) ≤ x.2.2.2 ∧ x.2.2.2 < (↑(x.2.1.getD x.2.2.1.toNat (dflt TC.row)).2.length : Int))]

def l13_Light_l8_outs (x : l13_Light_l8_X) : Outs := [(some 8, some (l13_Light_l8_f_8 x.1 x.2.1 x.2.2.1 x.2.2.2), ⟨122, 0, [(7, .v (.int .i64 x.1))], []⟩)]

def l13_Light_l8_fuel (x : l13_Light_l8_X) : Nat := ((↑(x.2.1.getD x.2.2.1.toNat (dflt TC.row)).2.length : Int) - x.2.2.2).toNat

def l13_Light_l8_run (x : l13_Light_l8_X) : l13_Light_l8_X := iterX l13_Light_l8_next l13_Light_l8_goes (l13_Light_l8_fuel x) x

set_option maxRecDepth 100000 in
theorem l13_Light_l8_ev (a0 : Int) (a1 : List TRow) (a2 : Int) (a3 : Int) : roundE (envT Cn_2 l13_Light_l0_L) 9 (loopAt Try.prog 45 8) l13_Light_l8_S (l13_Light_l8_T (a0, a1, a2, a3)) = some (l13_Light_l8_psA (a0, a1, a2, a3), l13_Light_l8_outs (a0, a1, a2, a3), l13_Light_l8_goes (a0, a1, a2, a3), l13_Light_l8_T (l13_Light_l8_next (a0, a1, a2, a3))) := by kernel_rfl

set_option maxRecDepth 100000 in
theorem l13_Light_l8_hA (a0 : Int) (a1 : List TRow) (a2 : Int) (a3 : Int) (hp : ∀ p ∈ l13_Light_l8_ps (a0, a1, a2, a3), p) : ∀ p ∈ l13_Light_l8_psA (a0, a1, a2, a3), p := by
  have n0 : ((0 : Int) ≤ a2 ∧ a2 < (↑a1.length : Int)) := hp _ (List.mem_cons_self ..)
  have n1 : ((l13_Light_l8_f_k0 a0 a1 a2 a3) = true → (0 : Int) ≤ a2 ∧ a2 < (↑a1.length : Int)) := hp _ (List.mem_cons_of_mem _ (List.mem_cons_self ..))
  have n2 : ((l13_Light_l8_f_k0 a0 a1 a2 a3) = true → (0 : Int) ≤ a3 ∧ a3 < (↑(a1.getD a2.toNat (dflt TC.row)).2.length : Int)) := hp _ (List.mem_cons_of_mem _ (List.mem_cons_of_mem _ (List.mem_cons_self ..)))
  exact (needs_cons n0 (needs_cons n1 (needs_cons n2 needs_nil)))

noncomputable def l13_Light_l8_row := rowL (envT Cn_2 l13_Light_l0_L) (loopAt Try.prog 45 8) l13_Light_l8_S l13_Light_l8_E l13_Light_l8_un l13_Light_l8_fuel l13_Light_l8_next l13_Light_l8_goes l13_Light_l8_ps l13_Light_l8_outs

theorem l13_Light_l8_rok : ∀ s b ps outs, l13_Light_l8_row s = some (b, ps, outs) → Wf s ⟨ps, outs, none⟩ ∧ LoopOk (envT C0 L0) b s ps outs :=
  rowP_ok (T := l13_Light_l8_T) Cn_2_ok l13_Light_l0_Lok (u := 9) (by kernel_rfl) (by decide) (fun ⟨a0, a1, a2, a3⟩ => l13_Light_l8_ev a0 a1 a2 a3) (fun ⟨a0, a1, a2, a3⟩ => l13_Light_l8_hA a0 a1 a2 a3) l13_Light_l8_unok (fun _ => okOuts_ok (n := 122) rfl) fun _ _ => rfl

noncomputable def l13_Light_l8_L := addLp 8 l13_Light_l8_row l13_Light_l0_L

theorem l13_Light_l8_Lok : LpOk l13_Light_l8_L := addLp_ok l13_Light_l8_rok l13_Light_l0_Lok

abbrev l13_Light_l6_X : Type := Int × (List TRow) × Int

def l13_Light_l6_T (x : l13_Light_l6_X) : St := ⟨122, 0, [(7, .v (.int .i64 x.1)), (11, .sl .row x.2.1), (12, .v (.int .i64 x.2.2))], []⟩

def l13_Light_l6_un : St → Option l13_Light_l6_X
  | ⟨122, 0, [(7, .v (.int .i64 z0)), (11, .sl .row z1), (12, .v (.int .i64 z2))], []⟩ => some (z0, z1, z2)
  | _ => none

theorem l13_Light_l6_unok : ∀ s x, l13_Light_l6_un s = some x → s = l13_Light_l6_T x := fun s x h => by
  unfold l13_Light_l6_un at h
  split at h
  · cases h; rfl
  · cases h

def l13_Light_l6_S : Shape := ⟨0, 0, [7, 11, 12], [], [], [], [7], []⟩

def l13_Light_l6_E : Entry := ⟨[], [], [7, 11, 12], []⟩

def l13_Light_l6_f_k0 (a0 : Int) (a1 : List TRow) (a2 : Int) : Bool := !!(decide (a2 < (↑a1.length : Int)) && decide (a0 ≤ (6000 : Int)))

def l13_Light_l6_f_0 (a0 : Int) (a1 : List TRow) (a2 : Int) : Int := (l13_Light_l8_run (r01_Add_0 (r01_Add_0 a0 (10 : Int) (6000 : Int)) (↑(a1.getD a2.toNat (dflt TC.row)).1.size : Int) (6000 : Int), a1, a2, (0 : Int))).fst

def l13_Light_l6_f_7 (a0 : Int) (a1 : List TRow) (a2 : Int) : Bool := !(decide (a2 < (↑a1.length : Int)) && decide (a0 ≤ (6000 : Int)))

def l13_Light_l6_next (x : l13_Light_l6_X) : l13_Light_l6_X := (l13_Light_l6_f_0 x.1 x.2.1 x.2.2, x.2.1, IntKind.i64.wrap (x.2.2 + (1 : Int)))

def l13_Light_l6_goes (x : l13_Light_l6_X) : Cnd := some ((l13_Light_l6_f_k0 x.1 x.2.1 x.2.2))

def l13_Light_l6_psA (x : l13_Light_l6_X) : List Prop := [((l13_Light_l6_f_k0 x.1 x.2.1 x.2.2) = true → (0 : Int) ≤ x.2.2 ∧ x.2.2 < (↑x.2.1.length : Int)), ((l13_Light_l6_f_k0 x.1 x.2.1 x.2.2) = true → loopAt Try.prog (45 : FuncId) (8 : Nat) = loopAt Try.prog (45 : FuncId) (8 : Nat)), ((l13_Light_l6_f_k0 x.1 x.2.1 x.2.2) = true → needX l13_Light_l8_next l13_Light_l8_goes l13_Light_l8_ps (l13_Light_l8_fuel (r01_Add_0 (r01_Add_0 x.1 (10 : Int) (6000 : Int)) (↑(x.2.1.getD x.2.2.toNat (dflt TC.row)).1.size : Int) (6000 : Int), x.2.1, x.2.2, (0 : Int))) (r01_Add_0 (r01_Add_0 x.1 (10 : Int) (6000 : Int)) (↑(x.2.1.getD x.2.2.toNat (dflt TC.row)).1.size : Int) (6000 : Int), x.2.1, x.2.2, (0 : Int)))]

def l13_Light_l6_ps (x : l13_Light_l6_X) : List Prop := [((l13_Light_l6_f_k0 x.1 x.2.1 x.2.2) = true → (0 : Int) ≤ x.2.2 ∧ x.2.2 < (↑x.2.1.length : Int)), ((l13_Light_l6_f_k0 x.1 x.2.1 x.2.2) = true → needX l13_Light_l8_next l13_Light_l8_goes l13_Light_l8_ps (l13_Light_l8_fuel (r01_Add_0 (r01_Add_0 x.1 (10 : Int) (6000 : Int)) (↑(x.2.1.getD x.2.2.toNat (dflt TC.row)).1.size : Int) (6000 : Int), x.2.1, x.2.2, (0 : Int))) (r01_Add_0 (r01_Add_0 x.1 (10 : Int) (6000 : Int)) (↑(x.2.1.getD x.2.2.toNat (dflt TC.row)).1.size : Int) (6000 : Int), x.2.1, x.2.2, (0 : Int)))]

def l13_Light_l6_outs (x : l13_Light_l6_X) : Outs := [(some 6, some (l13_Light_l6_f_7 x.1 x.2.1 x.2.2), ⟨122, 0, [(7, .v (.int .i64 x.1))], []⟩)]

def l13_Light_l6_fuel (x : l13_Light_l6_X) : Nat := ((↑x.2.1.length : Int) - x.2.2).toNat

def l13_Light_l6_run (x : l13_Light_l6_X) : l13_Light_l6_X := iterX l13_Light_l6_next l13_Light_l6_goes (l13_Light_l6_fuel x) x

set_option maxRecDepth 100000 in
theorem l13_Light_l6_ev (a0 : Int) (a1 : List TRow) (a2 : Int) : roundE (envT Cn_2 l13_Light_l8_L) 9 (loopAt Try.prog 45 6) l13_Light_l6_S (l13_Light_l6_T (a0, a1, a2)) = some (l13_Light_l6_psA (a0, a1, a2), l13_Light_l6_outs (a0, a1, a2), l13_Light_l6_goes (a0, a1, a2), l13_Light_l6_T (l13_Light_l6_next (a0, a1, a2))) := by kernel_rfl

set_option maxRecDepth 100000 in
theorem l13_Light_l6_hA (a0 : Int) (a1 : List TRow) (a2 : Int) (hp : ∀ p ∈ l13_Light_l6_ps (a0, a1, a2), p) : ∀ p ∈ l13_Light_l6_psA (a0, a1, a2), p := by
  have n0 : ((l13_Light_l6_f_k0 a0 a1 a2) = true → (0 : Int) ≤ a2 ∧ a2 < (↑a1.length : Int)) := hp _ (List.mem_cons_self ..)
  have n1 : ((l13_Light_l6_f_k0 a0 a1 a2) = true → loopAt Try.prog (45 : FuncId) (8 : Nat) = loopAt Try.prog (45 : FuncId) (8 : Nat)) := by intros; rfl
  have n2 : ((l13_Light_l6_f_k0 a0 a1 a2) = true → needX l13_Light_l8_next l13_Light_l8_goes l13_Light_l8_ps (l13_Light_l8_fuel (r01_Add_0 (r01_Add_0 a0 (10 : Int) (6000 : Int)) (↑(a1.getD a2.toNat (dflt TC.row)).1.size : Int) (6000 : Int), a1, a2, (0 : Int))) (r01_Add_0 (r01_Add_0 a0 (10 : Int) (6000 : Int)) (↑(a1.getD a2.toNat (dflt TC.row)).1.size : Int) (6000 : Int), a1, a2, (0 : Int))) := hp _ (List.mem_cons_of_mem _ (List.mem_cons_self ..))
  exact (needs_cons n0 (needs_cons n1 (needs_cons n2 needs_nil)))

noncomputable def l13_Light_l6_row := rowL (envT Cn_2 l13_Light_l8_L) (loopAt Try.prog 45 6) l13_Light_l6_S l13_Light_l6_E l13_Light_l6_un l13_Light_l6_fuel l13_Light_l6_next l13_Light_l6_goes l13_Light_l6_ps l13_Light_l6_outs

theorem l13_Light_l6_rok : ∀ s b ps outs, l13_Light_l6_row s = some (b, ps, outs) → Wf s ⟨ps, outs, none⟩ ∧ LoopOk (envT C0 L0) b s ps outs :=
  rowP_ok (T := l13_Light_l6_T) Cn_2_ok l13_Light_l8_Lok (u := 9) (by kernel_rfl) (by decide) (fun ⟨a0, a1, a2⟩ => l13_Light_l6_ev a0 a1 a2) (fun ⟨a0, a1, a2⟩ => l13_Light_l6_hA a0 a1 a2) l13_Light_l6_unok (fun _ => okOuts_ok (n := 122) rfl) fun _ _ => rfl

noncomputable def l13_Light_l6_L := addLp 6 l13_Light_l6_row l13_Light_l8_L

theorem l13_Light_l6_Lok : LpOk l13_Light_l6_L := addLp_ok l13_Light_l6_rok l13_Light_l8_Lok

abbrev l13_Light_l4_X : Type := Int × (List (List TRow)) × Int × Int

def l13_Light_l4_T (x : l13_Light_l4_X) : St := ⟨122, 0, [(7, .v (.int .i64 x.1)), (67, .sl .rows x.2.1), (68, .v (.int .i64 x.2.2.1)), (69, .v (.int .i64 x.2.2.2))], []⟩

def l13_Light_l4_un : St → Option l13_Light_l4_X
  | ⟨122, 0, [(7, .v (.int .i64 z0)), (67, .sl .rows z1), (68, .v (.int .i64 z2)), (69, .v (.int .i64 z3))], []⟩ => some (z0, z1, z2, z3)
  | _ => none

theorem l13_Light_l4_unok : ∀ s x, l13_Light_l4_un s = some x → s = l13_Light_l4_T x := fun s x h => by
  unfold l13_Light_l4_un at h
  split at h
  · cases h; rfl
  · cases h

def l13_Light_l4_S : Shape := ⟨0, 0, [7, 67, 68, 69], [], [], [], [7], []⟩

def l13_Light_l4_E : Entry := ⟨[], [], [7, 67, 68, 69], []⟩

def l13_Light_l4_f_0 (a0 : Int) (a1 : List (List TRow)) (_a2 : Int) (a3 : Int) : Int := (l13_Light_l6_run (a0, a1.getD a3.toNat (dflt TC.rows), (0 : Int))).fst

def l13_Light_l4_next (x : l13_Light_l4_X) : l13_Light_l4_X := (l13_Light_l4_f_0 x.1 x.2.1 x.2.2.1 x.2.2.2, x.2.1, x.2.2.1, IntKind.i64.wrap (x.2.2.2 + (1 : Int)))

def l13_Light_l4_goes (x : l13_Light_l4_X) : Cnd := some (!!decide (x.2.2.2 < x.2.2.1))

def l13_Light_l4_psA (x : l13_Light_l4_X) : List Prop := [((!!decide (x.2.2.2 < x.2.2.1)) = true → (0 : Int) ≤ x.2.2.2 ∧ x.2.2.2 < (↑x.2.1.length : Int)), ((!!decide (x.2.2.2 < x.2.2.1)) = true → loopAt Try.prog (45 : FuncId) (6 : Nat) = loopAt Try.prog (45 : FuncId) (6 : Nat)), ((!!decide (x.2.2.2 < x.2.2.1)) = true → needX l13_Light_l6_next l13_Light_l6_goes l13_Light_l6_ps (l13_Light_l6_fuel (x.1, x.2.1.getD x.2.2.2.toNat (dflt TC.rows), (0 : Int))) (x.1, x.2.1.getD x.2.2.2.toNat (dflt TC.rows), (0 : Int)))]

def l13_Light_l4_ps (x : l13_Light_l4_X) : List Prop := [((!!decide (x.2.2.2 < x.2.2.1)) = true → (0 : Int) ≤ x.2.2.2 ∧ x.2.2.2 < (↑x.2.1.length : Int)), ((!!decide (x.2.2.2 < x.2.2.1)) = true → needX l13_Light_l6_next l13_Light_l6_goes l13_Light_l6_ps (l13_Light_l6_fuel (x.1, x.2.1.getD x.2.2.2.toNat (dflt TC.rows), (0 : Int))) (x.1, x.2.1.getD x.2.2.2.toNat (dflt TC.rows), (0 : Int)))]

def l13_Light_l4_outs (x : l13_Light_l4_X) : Outs := [(some 4, some (!decide (x.2.2.2 < x.2.2.1)), ⟨122, 0, [(7, .v (.int .i64 x.1))], []⟩)]

def l13_Light_l4_fuel (x : l13_Light_l4_X) : Nat := (x.2.2.1 - x.2.2.2).toNat

def l13_Light_l4_run (x : l13_Light_l4_X) : l13_Light_l4_X := iterX l13_Light_l4_next l13_Light_l4_goes (l13_Light_l4_fuel x) x

set_option maxRecDepth 100000 in
theorem l13_Light_l4_ev (a0 : Int) (a1 : List (List TRow)) (a2 : Int) (a3 : Int) : roundE (envT Cn_2 l13_Light_l6_L) 9 (loopAt Try.prog 45 4) l13_Light_l4_S (l13_Light_l4_T (a0, a1, a2, a3)) = some (l13_Light_l4_psA (a0, a1, a2, a3), l13_Light_l4_outs (a0, a1, a2, a3), l13_Light_l4_goes (a0, a1, a2, a3), l13_Light_l4_T (l13_Light_l4_next (a0, a1, a2, a3))) := by kernel_rfl

set_option maxRecDepth 100000 in
theorem l13_Light_l4_hA (a0 : Int) (a1 : List (List TRow)) (a2 : Int) (a3 : Int) (hp : ∀ p ∈ l13_Light_l4_ps (a0, a1, a2, a3), p) : ∀ p ∈ l13_Light_l4_psA (a0, a1, a2, a3), p := by
  have n0 : ((!!decide (a3 < a2)) = true → (0 : Int) ≤ a3 ∧ a3 < (↑a1.length : Int)) := hp _ (List.mem_cons_self ..)
  have n1 : ((!!decide (a3 < a2)) = true → loopAt Try.prog (45 : FuncId) (6 : Nat) = loopAt Try.prog (45 : FuncId) (6 : Nat)) := by intros; rfl
  have n2 : ((!!decide (a3 < a2)) = true → needX l13_Light_l6_next l13_Light_l6_goes l13_Light_l6_ps (l13_Light_l6_fuel (a0, a1.getD a3.toNat (dflt TC.rows), (0 : Int))) (a0, a1.getD a3.toNat (dflt TC.rows), (0 : Int))) := hp _ (List.mem_cons_of_mem _ (List.mem_cons_self ..))
  exact (needs_cons n0 (needs_cons n1 (needs_cons n2 needs_nil)))

noncomputable def l13_Light_l4_row := rowL (envT Cn_2 l13_Light_l6_L) (loopAt Try.prog 45 4) l13_Light_l4_S l13_Light_l4_E l13_Light_l4_un l13_Light_l4_fuel l13_Light_l4_next l13_Light_l4_goes l13_Light_l4_ps l13_Light_l4_outs

theorem l13_Light_l4_rok : ∀ s b ps outs, l13_Light_l4_row s = some (b, ps, outs) → Wf s ⟨ps, outs, none⟩ ∧ LoopOk (envT C0 L0) b s ps outs :=
  rowP_ok (T := l13_Light_l4_T) Cn_2_ok l13_Light_l6_Lok (u := 9) (by kernel_rfl) (by decide) (fun ⟨a0, a1, a2, a3⟩ => l13_Light_l4_ev a0 a1 a2 a3) (fun ⟨a0, a1, a2, a3⟩ => l13_Light_l4_hA a0 a1 a2 a3) l13_Light_l4_unok (fun _ => okOuts_ok (n := 122) rfl) fun _ _ => rfl

noncomputable def l13_Light_l4_L := addLp 4 l13_Light_l4_row l13_Light_l6_L

theorem l13_Light_l4_Lok : LpOk l13_Light_l4_L := addLp_ok l13_Light_l4_rok l13_Light_l6_Lok

def l13_Light_0 (a0 : List TGroup) (a1 : List TChange) (a2 : List (List TRow)) : Bool := decide ((l13_Light_l4_run ((l13_Light_l0_run (a1, r01_Add_0 (0 : Int) (↑a0.length : Int) (6000 : Int), (0 : Int))).snd.fst, a2, (↑a2.length : Int), (0 : Int))).fst ≤ (6000 : Int))

def l13_Light_r (a0 : List TGroup) (a1 : List TChange) (a2 : List (List TRow)) : A := .v (.bool (l13_Light_0 a0 a1 a2))

def l13_Light_o (_a0 : List TGroup) (_a1 : List TChange) (_a2 : List (List TRow)) : Objs := []

def l13_Light_ps (a0 : List TGroup) (a1 : List TChange) (a2 : List (List TRow)) : List Prop := [(needX l13_Light_l0_next l13_Light_l0_goes l13_Light_l0_ps (l13_Light_l0_fuel (a1, r01_Add_0 (0 : Int) (↑a0.length : Int) (6000 : Int), (0 : Int))) (a1, r01_Add_0 (0 : Int) (↑a0.length : Int) (6000 : Int), (0 : Int))), (needX l13_Light_l4_next l13_Light_l4_goes l13_Light_l4_ps (l13_Light_l4_fuel ((l13_Light_l0_run (a1, r01_Add_0 (0 : Int) (↑a0.length : Int) (6000 : Int), (0 : Int))).snd.fst, a2, (↑a2.length : Int), (0 : Int))) ((l13_Light_l0_run (a1, r01_Add_0 (0 : Int) (↑a0.length : Int) (6000 : Int), (0 : Int))).snd.fst, a2, (↑a2.length : Int), (0 : Int)))]

set_option maxRecDepth 100000 in
theorem l13_Light_ev (a0 : List TGroup) (a1 : List TChange) (a2 : List (List TRow)) : evF (envT Cn_2 l13_Light_l4_L) 9 45 [.sl .group a0, .sl .change a1, .sl .rows a2] 0 [] = some (1, l13_Light_r a0 a1 a2, 0, l13_Light_o a0 a1 a2, [(loopAt Try.prog (45 : FuncId) (0 : Nat) = loopAt Try.prog (45 : FuncId) (0 : Nat)), (needX l13_Light_l0_next l13_Light_l0_goes l13_Light_l0_ps (l13_Light_l0_fuel (a1, r01_Add_0 (0 : Int) (↑a0.length : Int) (6000 : Int), (0 : Int))) (a1, r01_Add_0 (0 : Int) (↑a0.length : Int) (6000 : Int), (0 : Int))), (loopAt Try.prog (45 : FuncId) (4 : Nat) = loopAt Try.prog (45 : FuncId) (4 : Nat)), (needX l13_Light_l4_next l13_Light_l4_goes l13_Light_l4_ps (l13_Light_l4_fuel ((l13_Light_l0_run (a1, r01_Add_0 (0 : Int) (↑a0.length : Int) (6000 : Int), (0 : Int))).snd.fst, a2, (↑a2.length : Int), (0 : Int))) ((l13_Light_l0_run (a1, r01_Add_0 (0 : Int) (↑a0.length : Int) (6000 : Int), (0 : Int))).snd.fst, a2, (↑a2.length : Int), (0 : Int)))]) := by kernel_rfl

set_option maxRecDepth 100000 in
theorem l13_Light_c (a0 : List TGroup) (a1 : List TChange) (a2 : List (List TRow)) (hp : ∀ p ∈ l13_Light_ps a0 a1 a2, p) : CallOk Try.prog 45 [.sl .group a0, .sl .change a1, .sl .rows a2] 0 [] 1 (l13_Light_r a0 a1 a2) 0 (l13_Light_o a0 a1 a2) := by
  have n1 : (needX l13_Light_l0_next l13_Light_l0_goes l13_Light_l0_ps (l13_Light_l0_fuel (a1, r01_Add_0 (0 : Int) (↑a0.length : Int) (6000 : Int), (0 : Int))) (a1, r01_Add_0 (0 : Int) (↑a0.length : Int) (6000 : Int), (0 : Int))) := hp _ (List.mem_cons_self ..)
  have n3 : (needX l13_Light_l4_next l13_Light_l4_goes l13_Light_l4_ps (l13_Light_l4_fuel ((l13_Light_l0_run (a1, r01_Add_0 (0 : Int) (↑a0.length : Int) (6000 : Int), (0 : Int))).snd.fst, a2, (↑a2.length : Int), (0 : Int))) ((l13_Light_l0_run (a1, r01_Add_0 (0 : Int) (↑a0.length : Int) (6000 : Int), (0 : Int))).snd.fst, a2, (↑a2.length : Int), (0 : Int))) := hp _ (List.mem_cons_of_mem _ (List.mem_cons_self ..))
  exact evF_ok (envP_ok Cn_2_ok l13_Light_l4_Lok) (l13_Light_ev a0 a1 a2) (needs_cons rfl (needs_cons n1 (needs_cons rfl (needs_cons n3 needs_nil))))

def l13_Light_r2 (a0 : List TGroup) (a1 : List TChange) (a2 : List (List TRow)) : A := .v (.bool (l13_Light_0 a0 a1 a2))

def l13_Light_o2 (_a0 : List TGroup) (_a1 : List TChange) (_a2 : List (List TRow)) : Objs := []

/-- What is said of a change. -/
def wideCh (c : TChange) : Prop := wideN c.writes.length ∧ ∀ w ∈ c.writes, wideN w.key.size ∧ wideN w.value.size

def smallCh (c : TChange) : Prop := c.writes.length ≤ 6000 ∧ ∀ w ∈ c.writes, w.key.size ≤ 6000 ∧ w.value.size ≤ 6000

def l13_Light_ps2 (a0 : List TGroup) (a1 : List TChange) (a2 : List (List TRow)) : List Prop := [wideN a0.length ∧ (wideN a1.length ∧ ∀ c ∈ a1, wideCh c) ∧ wideN a2.length ∧ ∀ x ∈ a2, wideN x.length ∧ ∀ r ∈ x, wideR r]

theorem add6 {n k : Int} (hn : 0 ≤ n) (hk : 0 ≤ k ∧ k ≤ 9223372036854775807) : 0 ≤ r01_Add_0 n k 6000 ∧ (r01_Add_0 n k 6000 ≤ 6000 → n + k ≤ r01_Add_0 n k 6000 ∧ n + k ≤ 6000) := by
  obtain ⟨h1, h2, h3⟩ := add_ok (n := n) (k := k) (m := 6000) hn hk (by omega)
  exact ⟨h2, fun h => ⟨by rw [h3 (h1 h)]; omega, h1 h⟩⟩

/-- The cells of a row. -/
theorem light13_cells (rows : List TRow) (i : Nat) (hi : i < rows.length) (n0 : Int) (h0 : 0 ≤ n0) (hl : wideN (rows.getD i (dflt TC.row)).cells.length) (hw : ∀ c ∈ (rows.getD i (dflt TC.row)).cells, wideN c.value.size) :
    needX l13_Light_l8_next l13_Light_l8_goes l13_Light_l8_ps (l13_Light_l8_fuel (n0, rows, (i : Int), 0)) (n0, rows, (i : Int), 0) ∧
    0 ≤ (l13_Light_l8_run (n0, rows, (i : Int), 0)).fst ∧ ((l13_Light_l8_run (n0, rows, (i : Int), 0)).fst ≤ 6000 → n0 + 10 * ((rows.getD i (dflt TC.row)).cells.length : Int) ≤ (l13_Light_l8_run (n0, rows, (i : Int), 0)).fst ∧ ∀ c ∈ (rows.getD i (dflt TC.row)).cells, c.value.size ≤ 6000) := by
  generalize hcs : (rows.getD i (dflt TC.row)).cells = cs at *
  have hcs2 : (rows.getD i (dflt TC.row)).2 = cs := hcs
  have hgo : ∀ (k : Nat) (n : Int), l13_Light_l8_f_k0 n rows (i : Int) (k : Int) = (decide (k < cs.length) && (false || decide (n ≤ 6000))) := fun k n => by
    unfold l13_Light_l8_f_k0
    rw [Int.toNat_natCast, hcs2, nn, dlt, Bool.false_or]
  unfold wideN at hl
  obtain ⟨h1, k, n', hx, h2, h3⟩ := acc_loop (fun k n => ((n, rows, (i : Int), (k : Int)) : l13_Light_l8_X)) cs.length (fun k n => r01_Add_0 (r01_Add_0 n 10 6000) ((cs.getD k (dflt TC.cell)).4.size : Int) 6000) (fun k => (cs.getD k (dflt TC.cell)).value.size ≤ 6000) 6000 10 false l13_Light_l8_next l13_Light_l8_goes l13_Light_l8_ps (l13_Light_l8_fuel (n0, rows, (i : Int), 0)) (n0, rows, (i : Int), 0) n0 rfl
    (by show cs.length ≤ (((rows.getD ((i : Int)).toNat (dflt TC.row)).2.length : Int) - 0).toNat; rw [Int.toNat_natCast, hcs2]; omega) h0
    (fun k n hk hn => by
      obtain ⟨a1, a2⟩ := add6 (k := 10) hn (by omega)
      obtain ⟨b1, b2⟩ := add6 a1 (sz_in (hw _ (getD_in cs (dflt TC.cell) k hk)))
      refine ⟨b1, fun h => ?_⟩
      obtain ⟨c1, c2⟩ := b2 h
      obtain ⟨d1, d2⟩ := a2 (by omega)
      exact ⟨by omega, by show (cs.getD k (dflt TC.cell)).4.size ≤ 6000; omega⟩)
    (by omega)
    (fun k n _ => hgo k n)
    (fun k n hk _ => by
      show (l13_Light_l8_f_0 n rows (i : Int) (k : Int), rows, (i : Int), IntKind.i64.wrap ((k : Int) + 1)) = (_, rows, (i : Int), ((k + 1 : Nat) : Int))
      rw [wsucc (by omega)]
      unfold l13_Light_l8_f_0
      rw [Int.toNat_natCast, Int.toNat_natCast, hcs2])
    (fun k n _ _ => needs_cons (by show (0 : Int) ≤ (i : Int) ∧ (i : Int) < (rows.length : Int); omega) (needs_cons (fun _ => by show (0 : Int) ≤ (i : Int) ∧ (i : Int) < (rows.length : Int); omega) (needs_cons (fun h => by
      have h' : l13_Light_l8_f_k0 n rows (i : Int) (k : Int) = true := h
      rw [hgo, Bool.and_eq_true] at h'
      have := of_decide_eq_true h'.1
      show (0 : Int) ≤ (k : Int) ∧ (k : Int) < ((rows.getD ((i : Int)).toNat (dflt TC.row)).2.length : Int)
      rw [Int.toNat_natCast, hcs2]
      omega) needs_nil)))
  have hr : l13_Light_l8_run (n0, rows, (i : Int), 0) = (n', rows, (i : Int), (k : Int)) := hx
  rw [hr]
  exact ⟨h1, h2, fun h => ⟨(h3 h).1, all_of_at (h3 h).2⟩⟩

/-- The rows of a list. -/
theorem light13_rows (rows : List TRow) (n0 : Int) (h0 : 0 ≤ n0) (hl : wideN rows.length) (hw : ∀ r ∈ rows, wideR r) :
    needX l13_Light_l6_next l13_Light_l6_goes l13_Light_l6_ps (l13_Light_l6_fuel (n0, rows, 0)) (n0, rows, 0) ∧
    0 ≤ (l13_Light_l6_run (n0, rows, 0)).fst ∧ ((l13_Light_l6_run (n0, rows, 0)).fst ≤ 6000 → n0 + 10 * (rows.length : Int) ≤ (l13_Light_l6_run (n0, rows, 0)).fst ∧ ∀ r ∈ rows, smallR 6000 r) := by
  have hgo : ∀ (k : Nat) (n : Int), l13_Light_l6_f_k0 n rows (k : Int) = (decide (k < rows.length) && (false || decide (n ≤ 6000))) := fun k n => by
    unfold l13_Light_l6_f_k0
    rw [nn, dlt, Bool.false_or]
  unfold wideN at hl
  have hin : ∀ (i : Nat) (n : Int), i < rows.length → 0 ≤ n → _ := fun i n hi hn =>
    light13_cells rows i hi (r01_Add_0 (r01_Add_0 n 10 6000) ((rows.getD i (dflt TC.row)).1.size : Int) 6000) (add6 (add6 hn (by omega)).1 (sz_in (hw _ (getD_in rows (dflt TC.row) i hi)).1)).1 (hw _ (getD_in rows (dflt TC.row) i hi)).2.1 (hw _ (getD_in rows (dflt TC.row) i hi)).2.2
  obtain ⟨h1, k, n', hx, h2, h3⟩ := acc_loop (fun k n => ((n, rows, (k : Int)) : l13_Light_l6_X)) rows.length (fun k n => l13_Light_l6_f_0 n rows (k : Int)) (fun k => smallR 6000 (rows.getD k (dflt TC.row))) 6000 10 false l13_Light_l6_next l13_Light_l6_goes l13_Light_l6_ps (l13_Light_l6_fuel (n0, rows, 0)) (n0, rows, 0) n0 rfl
    (by show rows.length ≤ ((rows.length : Int) - 0).toNat; omega) h0
    (fun k n hk hn => by
      obtain ⟨_, g2, g3⟩ := hin k n hk hn
      obtain ⟨a1, a2⟩ := add6 (k := 10) hn (by omega)
      obtain ⟨b1, b2⟩ := add6 a1 (sz_in (hw _ (getD_in rows (dflt TC.row) k hk)).1)
      unfold l13_Light_l6_f_0
      rw [Int.toNat_natCast]
      refine ⟨g2, fun h => ?_⟩
      obtain ⟨c1, c2⟩ := g3 h
      have h' : (l13_Light_l8_run (r01_Add_0 (r01_Add_0 n 10 6000) ((rows.getD k (dflt TC.row)).1.size : Int) 6000, rows, (k : Int), 0)).fst ≤ 6000 := h
      obtain ⟨d1, d2⟩ := b2 (by omega)
      obtain ⟨e1, e2⟩ := a2 (by omega)
      exact ⟨by omega, by show (rows.getD k (dflt TC.row)).1.size ≤ 6000; omega, by omega, c2⟩)
    (by omega)
    (fun k n _ => hgo k n)
    (fun k n hk _ => by
      show (l13_Light_l6_f_0 n rows (k : Int), rows, IntKind.i64.wrap ((k : Int) + 1)) = (_, rows, ((k + 1 : Nat) : Int))
      rw [wsucc (by omega)])
    (fun k n hk hn => by
      have hlt : l13_Light_l6_f_k0 n rows (k : Int) = true → k < rows.length := fun h => by
        rw [hgo, Bool.and_eq_true] at h
        exact of_decide_eq_true h.1
      refine needs_cons (fun h => ?_) (needs_cons (fun h => ?_) needs_nil)
      · have := hlt h
        show (0 : Int) ≤ (k : Int) ∧ (k : Int) < (rows.length : Int)
        omega
      · have := (hin k n (hlt h) hn).1
        have e : ((k : Int)).toNat = k := Int.toNat_natCast k
        show needX l13_Light_l8_next l13_Light_l8_goes l13_Light_l8_ps (l13_Light_l8_fuel (r01_Add_0 (r01_Add_0 n 10 6000) ((rows.getD ((k : Int)).toNat (dflt TC.row)).1.size : Int) 6000, rows, (k : Int), 0)) (r01_Add_0 (r01_Add_0 n 10 6000) ((rows.getD ((k : Int)).toNat (dflt TC.row)).1.size : Int) 6000, rows, (k : Int), 0)
        rw [e]
        exact this)
  have hr : l13_Light_l6_run (n0, rows, 0) = (n', rows, (k : Int)) := hx
  rw [hr]
  exact ⟨h1, h2, fun h => ⟨(h3 h).1, all_of_at (h3 h).2⟩⟩

/-- The lists of rows. -/
theorem light13_all (xs : List (List TRow)) (n0 : Int) (h0 : 0 ≤ n0) (hl : wideN xs.length) (hw : ∀ x ∈ xs, wideN x.length ∧ ∀ r ∈ x, wideR r) :
    needX l13_Light_l4_next l13_Light_l4_goes l13_Light_l4_ps (l13_Light_l4_fuel (n0, xs, (xs.length : Int), 0)) (n0, xs, (xs.length : Int), 0) ∧
    ((l13_Light_l4_run (n0, xs, (xs.length : Int), 0)).fst ≤ 6000 → n0 ≤ 6000 ∧ ∀ x ∈ xs, x.length ≤ 6000 ∧ ∀ r ∈ x, smallR 6000 r) := by
  unfold wideN at hl
  have hin : ∀ (i : Nat) (n : Int), i < xs.length → 0 ≤ n → _ := fun i n hi hn =>
    light13_rows (xs.getD i (dflt TC.rows)) n hn (hw _ (getD_in xs (dflt TC.rows) i hi)).1 (hw _ (getD_in xs (dflt TC.rows) i hi)).2
  obtain ⟨h1, k, n', hx, h2, h3⟩ := acc_loop (fun k n => ((n, xs, (xs.length : Int), (k : Int)) : l13_Light_l4_X)) xs.length (fun k n => l13_Light_l4_f_0 n xs (xs.length : Int) (k : Int)) (fun k => (xs.getD k (dflt TC.rows)).length ≤ 6000 ∧ ∀ r ∈ xs.getD k (dflt TC.rows), smallR 6000 r) 6000 0 true l13_Light_l4_next l13_Light_l4_goes l13_Light_l4_ps (l13_Light_l4_fuel (n0, xs, (xs.length : Int), 0)) (n0, xs, (xs.length : Int), 0) n0 rfl
    (by show xs.length ≤ ((xs.length : Int) - 0).toNat; omega) h0
    (fun k n hk hn => by
      obtain ⟨_, g2, g3⟩ := hin k n hk hn
      unfold l13_Light_l4_f_0
      rw [Int.toNat_natCast]
      refine ⟨g2, fun h => ?_⟩
      obtain ⟨c1, c2⟩ := g3 h
      have h' : (l13_Light_l6_run (n, xs.getD k (dflt TC.rows), 0)).fst ≤ 6000 := h
      exact ⟨by omega, by omega, c2⟩)
    (Int.le_refl _)
    (fun k n _ => by
      show (!!decide ((k : Int) < (xs.length : Int))) = _
      rw [nn, dlt, Bool.true_or, Bool.and_true])
    (fun k n hk _ => by
      show (l13_Light_l4_f_0 n xs (xs.length : Int) (k : Int), xs, (xs.length : Int), IntKind.i64.wrap ((k : Int) + 1)) = (_, xs, (xs.length : Int), ((k + 1 : Nat) : Int))
      rw [wsucc (by omega)])
    (fun k n hk hn => by
      have hlt : (!!decide ((k : Int) < (xs.length : Int))) = true → k < xs.length := fun h => by
        rw [nn] at h
        have := of_decide_eq_true h
        omega
      refine needs_cons (fun h => ?_) (needs_cons (fun h => ?_) needs_nil)
      · have := hlt h
        show (0 : Int) ≤ (k : Int) ∧ (k : Int) < (xs.length : Int)
        omega
      · have := (hin k n (hlt h) hn).1
        have e : ((k : Int)).toNat = k := Int.toNat_natCast k
        show needX l13_Light_l6_next l13_Light_l6_goes l13_Light_l6_ps (l13_Light_l6_fuel (n, xs.getD ((k : Int)).toNat (dflt TC.rows), 0)) (n, xs.getD ((k : Int)).toNat (dflt TC.rows), 0)
        rw [e]
        exact this)
  have hr : l13_Light_l4_run (n0, xs, (xs.length : Int), 0) = (n', xs, (xs.length : Int), (k : Int)) := hx
  rw [hr]
  exact ⟨h1, fun h => ⟨by have h' : n' ≤ 6000 := h; have := (h3 h).1; omega, all_of_at (h3 h).2⟩⟩

/-- The writes of a change. -/
theorem light13_writes (cs : List TChange) (i : Nat) (hi : i < cs.length) (n0 : Int) (h0 : 0 ≤ n0) (hw : wideCh (cs.getD i (dflt TC.change))) :
    needX l13_Light_l2_next l13_Light_l2_goes l13_Light_l2_ps (l13_Light_l2_fuel (cs, n0, (i : Int), 0)) (cs, n0, (i : Int), 0) ∧
    0 ≤ (l13_Light_l2_run (cs, n0, (i : Int), 0)).snd.fst ∧ ((l13_Light_l2_run (cs, n0, (i : Int), 0)).snd.fst ≤ 6000 → n0 ≤ (l13_Light_l2_run (cs, n0, (i : Int), 0)).snd.fst ∧ smallCh (cs.getD i (dflt TC.change))) := by
  obtain ⟨hl, hw⟩ := hw
  unfold smallCh
  generalize hcs : (cs.getD i (dflt TC.change)).writes = ws at *
  have hcs2 : (cs.getD i (dflt TC.change)).5 = ws := hcs
  have hgo : ∀ (k : Nat) (n : Int), l13_Light_l2_f_k0 cs n (i : Int) (k : Int) = (decide (k < ws.length) && (false || decide (n ≤ 6000))) := fun k n => by
    unfold l13_Light_l2_f_k0
    rw [Int.toNat_natCast, hcs2, nn, dlt, Bool.false_or]
  unfold wideN at hl
  obtain ⟨h1, k, n', hx, h2, h3⟩ := acc_loop (fun k n => ((cs, n, (i : Int), (k : Int)) : l13_Light_l2_X)) ws.length (fun k n => r01_Add_0 (r01_Add_0 (r01_Add_0 n 10 6000) ((ws.getD k (dflt TC.write)).1.size : Int) 6000) ((ws.getD k (dflt TC.write)).4.size : Int) 6000) (fun k => (ws.getD k (dflt TC.write)).key.size ≤ 6000 ∧ (ws.getD k (dflt TC.write)).value.size ≤ 6000) 6000 10 false l13_Light_l2_next l13_Light_l2_goes l13_Light_l2_ps (l13_Light_l2_fuel (cs, n0, (i : Int), 0)) (cs, n0, (i : Int), 0) n0 rfl
    (by show ws.length ≤ (((cs.getD ((i : Int)).toNat (dflt TC.change)).5.length : Int) - 0).toNat; rw [Int.toNat_natCast, hcs2]; omega) h0
    (fun k n hk hn => by
      obtain ⟨w1, w2⟩ := hw _ (getD_in ws (dflt TC.write) k hk)
      obtain ⟨a1, a2⟩ := add6 (k := 10) hn (by omega)
      obtain ⟨b1, b2⟩ := add6 a1 (sz_in w1)
      obtain ⟨f1, f2⟩ := add6 b1 (sz_in w2)
      refine ⟨f1, fun h => ?_⟩
      obtain ⟨g1, g2⟩ := f2 h
      obtain ⟨c1, c2⟩ := b2 (by omega)
      obtain ⟨d1, d2⟩ := a2 (by omega)
      exact ⟨by omega, by omega, by omega⟩)
    (by omega)
    (fun k n _ => hgo k n)
    (fun k n hk _ => by
      show (cs, l13_Light_l2_f_1 cs n (i : Int) (k : Int), (i : Int), IntKind.i64.wrap ((k : Int) + 1)) = (cs, _, (i : Int), ((k + 1 : Nat) : Int))
      rw [wsucc (by omega)]
      unfold l13_Light_l2_f_1
      rw [Int.toNat_natCast, Int.toNat_natCast, hcs2])
    (fun k n _ _ => needs_cons (by show (0 : Int) ≤ (i : Int) ∧ (i : Int) < (cs.length : Int); omega) (needs_cons (fun _ => by show (0 : Int) ≤ (i : Int) ∧ (i : Int) < (cs.length : Int); omega) (needs_cons (fun h => by
      have h' : l13_Light_l2_f_k0 cs n (i : Int) (k : Int) = true := h
      rw [hgo, Bool.and_eq_true] at h'
      have := of_decide_eq_true h'.1
      show (0 : Int) ≤ (k : Int) ∧ (k : Int) < ((cs.getD ((i : Int)).toNat (dflt TC.change)).5.length : Int)
      rw [Int.toNat_natCast, hcs2]
      omega) needs_nil)))
  have hr : l13_Light_l2_run (cs, n0, (i : Int), 0) = (cs, n', (i : Int), (k : Int)) := hx
  rw [hr]
  refine ⟨h1, h2, fun h => ?_⟩
  have h' : n' ≤ 6000 := h
  obtain ⟨q1, q2⟩ := h3 h
  refine ⟨by show n0 ≤ n'; omega, by omega, ?_⟩
  exact all_of_at (P := fun w : TWrite => w.key.size ≤ 6000 ∧ w.value.size ≤ 6000) q2

/-- The changes. -/
theorem light13_changes (cs : List TChange) (n0 : Int) (h0 : 0 ≤ n0) (hl : wideN cs.length) (hw : ∀ c ∈ cs, wideCh c) :
    needX l13_Light_l0_next l13_Light_l0_goes l13_Light_l0_ps (l13_Light_l0_fuel (cs, n0, 0)) (cs, n0, 0) ∧
    0 ≤ (l13_Light_l0_run (cs, n0, 0)).snd.fst ∧ ((l13_Light_l0_run (cs, n0, 0)).snd.fst ≤ 6000 → n0 + 10 * (cs.length : Int) ≤ (l13_Light_l0_run (cs, n0, 0)).snd.fst ∧ ∀ c ∈ cs, smallCh c) := by
  have hgo : ∀ (k : Nat) (n : Int), l13_Light_l0_f_k0 cs n (k : Int) = (decide (k < cs.length) && (false || decide (n ≤ 6000))) := fun k n => by
    unfold l13_Light_l0_f_k0
    rw [nn, dlt, Bool.false_or]
  unfold wideN at hl
  have hin : ∀ (i : Nat) (n : Int), i < cs.length → 0 ≤ n → _ := fun i n hi hn =>
    light13_writes cs i hi (r01_Add_0 n 10 6000) (add6 hn (by omega)).1 (hw _ (getD_in cs (dflt TC.change) i hi))
  obtain ⟨h1, k, n', hx, h2, h3⟩ := acc_loop (fun k n => ((cs, n, (k : Int)) : l13_Light_l0_X)) cs.length (fun k n => l13_Light_l0_f_1 cs n (k : Int)) (fun k => smallCh (cs.getD k (dflt TC.change))) 6000 10 false l13_Light_l0_next l13_Light_l0_goes l13_Light_l0_ps (l13_Light_l0_fuel (cs, n0, 0)) (cs, n0, 0) n0 rfl
    (by show cs.length ≤ ((cs.length : Int) - 0).toNat; omega) h0
    (fun k n hk hn => by
      obtain ⟨_, g2, g3⟩ := hin k n hk hn
      obtain ⟨a1, a2⟩ := add6 (k := 10) hn (by omega)
      unfold l13_Light_l0_f_1
      refine ⟨g2, fun h => ?_⟩
      obtain ⟨c1, c2⟩ := g3 h
      have h' : (l13_Light_l2_run (cs, r01_Add_0 n 10 6000, (k : Int), 0)).snd.fst ≤ 6000 := h
      obtain ⟨e1, e2⟩ := a2 (by omega)
      exact ⟨by omega, c2⟩)
    (by omega)
    (fun k n _ => hgo k n)
    (fun k n hk _ => by
      show (cs, l13_Light_l0_f_1 cs n (k : Int), IntKind.i64.wrap ((k : Int) + 1)) = (cs, _, ((k + 1 : Nat) : Int))
      rw [wsucc (by omega)])
    (fun k n hk hn => needs_cons (fun h => by
        have h' : l13_Light_l0_f_k0 cs n (k : Int) = true := h
        rw [hgo, Bool.and_eq_true] at h'
        exact (hin k n (of_decide_eq_true h'.1) hn).1) needs_nil)
  have hr : l13_Light_l0_run (cs, n0, 0) = (cs, n', (k : Int)) := hx
  rw [hr]
  exact ⟨h1, h2, fun h => ⟨(h3 h).1, all_of_at (h3 h).2⟩⟩

theorem light13_eq (l : List TGroup) (cs : List TChange) (xs : List (List TRow)) (hl : wideN l.length) (hc : wideN cs.length ∧ ∀ c ∈ cs, wideCh c) (hr : wideN xs.length) (hw : ∀ x ∈ xs, wideN x.length ∧ ∀ r ∈ x, wideR r) : (∀ p ∈ l13_Light_ps l cs xs, p) ∧
    (l13_Light_0 l cs xs = true → l.length ≤ 6000 ∧ (cs.length ≤ 6000 ∧ ∀ c ∈ cs, smallCh c) ∧ ∀ x ∈ xs, x.length ≤ 6000 ∧ ∀ r ∈ x, smallR 6000 r) := by
  obtain ⟨a1, a2⟩ := add6 (n := 0) (k := (l.length : Int)) (Int.le_refl _) (sz_in hl)
  obtain ⟨b1, b2, b3⟩ := light13_changes cs _ a1 hc.1 hc.2
  obtain ⟨c1, c2⟩ := light13_all xs _ b2 hr hw
  refine ⟨needs_cons b1 (needs_cons c1 needs_nil), fun h => ?_⟩
  have h' := of_decide_eq_true h
  obtain ⟨d1, d2⟩ := c2 h'
  obtain ⟨e1, e2⟩ := b3 d1
  have := a2 (by omega)
  exact ⟨by omega, ⟨by omega, e2⟩, d2⟩

theorem l13_Light_c2 (a0 : List TGroup) (a1 : List TChange) (a2 : List (List TRow)) (hp : ∀ p ∈ l13_Light_ps2 a0 a1 a2, p) : CallOk Try.prog 45 [.sl .group a0, .sl .change a1, .sl .rows a2] 0 [] 1 (l13_Light_r2 a0 a1 a2) 0 (l13_Light_o2 a0 a1 a2) := by
  obtain ⟨h1, h2, h3, h4⟩ := hp _ (List.mem_cons_self ..)
  exact l13_Light_c a0 a1 a2 (light13_eq a0 a1 a2 h1 h2 h3 h4).1

def l13_Light_t : List A → Nat → Objs → Option CRes
  | [y0, y1, y2], nx, o => match argL .group y0, argL .change y1, argL .rows y2 with
    | some a0, some a1, some a2 => some (1, (l13_Light_r2 a0 a1 a2).pk (shiftR nx), nx + 0, shiftO nx (l13_Light_o2 a0 a1 a2) ++ o, l13_Light_ps2 a0 a1 a2)
    | _, _, _ => none
  | _, _, _ => none

theorem l13_Light_tok : TOk Try.prog 45 l13_Light_t := fun args nx o k x nx' o' ps h => by
  unfold l13_Light_t at h
  split at h <;> first | (cases h; done) | skip
  split at h <;> first | (cases h; done) | skip
  rename_i a0 a1 a2 e0 e1 e2
  cases h
  refine ⟨fun hp => ?_, _, rfl⟩
  refine callOk_args (callOk_shift (l13_Light_c2 a0 a1 a2 hp) (Nat.le_refl _) (freeL_cons rfl (freeL_cons rfl (freeL_cons rfl freeL_nil))) nx o) fun F N R vs hl => ?_
  obtain ⟨v0, w0, rfl, h0, hl⟩ := hl.inv
  obtain ⟨v1, w1, rfl, h1, hl⟩ := hl.inv
  obtain ⟨v2, w2, rfl, h2, hl⟩ := hl.inv
  exact HL.cons (argL_ok e0 h0) (HL.cons (argL_ok e1 h1) (HL.cons (argL_ok e2 h2) (hl)))

noncomputable def Cn_3 := addC 45 l13_Light_t Cn_2

theorem Cn_3_ok : COk Try.prog Cn_3 := addC_ok l13_Light_tok Cn_2_ok

abbrev model_Good_l0_X : Type := (List TGroup) × ByteArray × (List TRow) × Int × Int

def model_Good_l0_T (x : model_Good_l0_X) : St := ⟨38, 0, [(0, .sl .group x.1), (6, .v (.string x.2.1)), (15, .sl .row x.2.2.1), (16, .v (.int .i64 x.2.2.2.1)), (17, .v (.int .i64 x.2.2.2.2))], []⟩

def model_Good_l0_un : St → Option model_Good_l0_X
  | ⟨38, 0, [(0, .sl .group z0), (6, .v (.string z1)), (15, .sl .row z2), (16, .v (.int .i64 z3)), (17, .v (.int .i64 z4))], []⟩ => some (z0, z1, z2, z3, z4)
  | _ => none

theorem model_Good_l0_unok : ∀ s x, model_Good_l0_un s = some x → s = model_Good_l0_T x := fun s x h => by
  unfold model_Good_l0_un at h
  split at h
  · cases h; rfl
  · cases h

def model_Good_l0_S : Shape := ⟨0, 0, [0, 6, 15, 16, 17], [], [], [], [4], []⟩

def model_Good_l0_E : Entry := ⟨[], [], [0, 6, 15, 16, 17], []⟩

def model_Good_l0_f_k1 (a0 : List TGroup) (_a1 : ByteArray) (a2 : List TRow) (_a3 : Int) (a4 : Int) : Bool := goodRow a0 (a2.getD a4.toNat (dflt TC.row)) != (0 : Int)

def model_Good_l0_f_k0 (a0 : List TGroup) (a1 : ByteArray) (a2 : List TRow) (a3 : Int) (a4 : Int) : Bool := !!decide (a4 < a3) && ((model_Good_l0_f_k1 a0 a1 a2 a3 a4) || (bareR (a2.getD a4.toNat (dflt TC.row)) || (Op.bytesLess (a2.getD a4.toNat (dflt TC.row)).1.toList a1.toList || (a2.getD a4.toNat (dflt TC.row)).1.toList == a1.toList)))

def model_Good_l0_f_1 (_a0 : List TGroup) (_a1 : ByteArray) (a2 : List TRow) (_a3 : Int) (a4 : Int) : ByteArray := (a2.getD a4.toNat (dflt TC.row)).1

def model_Good_l0_f_5 (a0 : List TGroup) (a1 : ByteArray) (a2 : List TRow) (a3 : Int) (a4 : Int) : Bool := !!decide (a4 < a3) && !(model_Good_l0_f_k0 a0 a1 a2 a3 a4)

def model_Good_l0_f_10 (a0 : List TGroup) (a1 : ByteArray) (a2 : List TRow) (a3 : Int) (a4 : Int) : Int := bif (model_Good_l0_f_k1 a0 a1 a2 a3 a4) then goodRow a0 (a2.getD a4.toNat (dflt TC.row)) else (100 : Int)

def model_Good_l0_next (x : model_Good_l0_X) : model_Good_l0_X := (x.1, model_Good_l0_f_1 x.1 x.2.1 x.2.2.1 x.2.2.2.1 x.2.2.2.2, x.2.2.1, x.2.2.2.1, IntKind.i64.wrap (x.2.2.2.2 + (1 : Int)))

def model_Good_l0_goes (x : model_Good_l0_X) : Cnd := some (model_Good_l0_f_5 x.1 x.2.1 x.2.2.1 x.2.2.2.1 x.2.2.2.2)

def model_Good_l0_psA (x : model_Good_l0_X) : List Prop := [((!!decide (x.2.2.2.2 < x.2.2.2.1)) = true → (0 : Int) ≤ x.2.2.2.2 ∧ x.2.2.2.2 < (↑x.2.2.1.length : Int)), ((!!decide (x.2.2.2.2 < x.2.2.2.1)) = true → (!(model_Good_l0_f_k1 x.1 x.2.1 x.2.2.1 x.2.2.2.1 x.2.2.2.2)) = true → boundP (x.2.2.1.getD x.2.2.2.2.toNat (dflt TC.row)).2.length)]

def model_Good_l0_ps (x : model_Good_l0_X) : List Prop := [((!!decide (x.2.2.2.2 < x.2.2.2.1)) = true → (0 : Int) ≤ x.2.2.2.2 ∧ x.2.2.2.2 < (↑x.2.2.1.length : Int)), ((!!decide (x.2.2.2.2 < x.2.2.2.1)) = true → (!(model_Good_l0_f_k1 x.1 x.2.1 x.2.2.1 x.2.2.2.1 x.2.2.2.2)) = true → boundP (x.2.2.1.getD x.2.2.2.2.toNat (dflt TC.row)).2.length)]

def model_Good_l0_outs (x : model_Good_l0_X) : Outs := [(some 0, some (!decide (x.2.2.2.2 < x.2.2.2.1)), ⟨38, 0, [(4, .dead)], []⟩), (none, some ((model_Good_l0_f_k0 x.1 x.2.1 x.2.2.1 x.2.2.2.1 x.2.2.2.2)), ⟨38, 1, [(4, .v (.int .i64 (model_Good_l0_f_10 x.1 x.2.1 x.2.2.1 x.2.2.2.1 x.2.2.2.2)))], []⟩)]

def model_Good_l0_fuel (x : model_Good_l0_X) : Nat := (x.2.2.2.1 - x.2.2.2.2).toNat

def model_Good_l0_run (x : model_Good_l0_X) : model_Good_l0_X := iterX model_Good_l0_next model_Good_l0_goes (model_Good_l0_fuel x) x

set_option maxRecDepth 100000 in
theorem model_Good_l0_ev (a0 : List TGroup) (a1 : ByteArray) (a2 : List TRow) (a3 : Int) (a4 : Int) : roundE (envT Cn_3 L0) 9 (loopAt Try.prog 84 0) model_Good_l0_S (model_Good_l0_T (a0, a1, a2, a3, a4)) = some (model_Good_l0_psA (a0, a1, a2, a3, a4), model_Good_l0_outs (a0, a1, a2, a3, a4), model_Good_l0_goes (a0, a1, a2, a3, a4), model_Good_l0_T (model_Good_l0_next (a0, a1, a2, a3, a4))) := by kernel_rfl

set_option maxRecDepth 100000 in
theorem model_Good_l0_hA (a0 : List TGroup) (a1 : ByteArray) (a2 : List TRow) (a3 : Int) (a4 : Int) (hp : ∀ p ∈ model_Good_l0_ps (a0, a1, a2, a3, a4), p) : ∀ p ∈ model_Good_l0_psA (a0, a1, a2, a3, a4), p := by
  have n0 : ((!!decide (a4 < a3)) = true → (0 : Int) ≤ a4 ∧ a4 < (↑a2.length : Int)) := hp _ (List.mem_cons_self ..)
  have n1 : ((!!decide (a4 < a3)) = true → (!(model_Good_l0_f_k1 a0 a1 a2 a3 a4)) = true → boundP (a2.getD a4.toNat (dflt TC.row)).2.length) := hp _ (List.mem_cons_of_mem _ (List.mem_cons_self ..))
  exact (needs_cons n0 (needs_cons n1 needs_nil))

noncomputable def model_Good_l0_row := rowL (envT Cn_3 L0) (loopAt Try.prog 84 0) model_Good_l0_S model_Good_l0_E model_Good_l0_un model_Good_l0_fuel model_Good_l0_next model_Good_l0_goes model_Good_l0_ps model_Good_l0_outs

theorem model_Good_l0_rok : ∀ s b ps outs, model_Good_l0_row s = some (b, ps, outs) → Wf s ⟨ps, outs, none⟩ ∧ LoopOk (envT C0 L0) b s ps outs :=
  rowP_ok (T := model_Good_l0_T) Cn_3_ok L0_ok (u := 9) (by kernel_rfl) (by decide) (fun ⟨a0, a1, a2, a3, a4⟩ => model_Good_l0_ev a0 a1 a2 a3 a4) (fun ⟨a0, a1, a2, a3, a4⟩ => model_Good_l0_hA a0 a1 a2 a3 a4) model_Good_l0_unok (fun _ => okOuts_ok (n := 38) rfl) fun _ _ => rfl

noncomputable def model_Good_l0_L := addLp 0 model_Good_l0_row L0

theorem model_Good_l0_Lok : LpOk model_Good_l0_L := addLp_ok model_Good_l0_rok L0_ok

def model_Good_k5 (a0 : List TGroup) (_a1 : List TRow) : Bool := goodP a0 != (0 : Int)

def model_Good_k4 (a0 : List TGroup) (a1 : List TRow) : List TGroup := (model_Good_l0_run (a0, ByteArray.mk #[], a1, (↑a1.length : Int), (0 : Int))).fst

def model_Good_k3 (a0 : List TGroup) (a1 : List TRow) : ByteArray := (model_Good_l0_run (a0, ByteArray.mk #[], a1, (↑a1.length : Int), (0 : Int))).snd.fst

def model_Good_k2 (a0 : List TGroup) (a1 : List TRow) : List TRow := (model_Good_l0_run (a0, ByteArray.mk #[], a1, (↑a1.length : Int), (0 : Int))).snd.snd.fst

def model_Good_k1 (a0 : List TGroup) (a1 : List TRow) : Int := (model_Good_l0_run (a0, ByteArray.mk #[], a1, (↑a1.length : Int), (0 : Int))).snd.snd.snd.snd

def model_Good_k0 (a0 : List TGroup) (a1 : List TRow) : Int := (model_Good_l0_run (a0, ByteArray.mk #[], a1, (↑a1.length : Int), (0 : Int))).snd.snd.snd.fst

def model_Good_0 (a0 : List TGroup) (a1 : List TRow) : Int := bif (model_Good_k5 a0 a1) then goodP a0 else bif model_Good_l0_f_k0 (model_Good_k4 a0 a1) (model_Good_k3 a0 a1) (model_Good_k2 a0 a1) (model_Good_k0 a0 a1) (model_Good_k1 a0 a1) then model_Good_l0_f_10 (model_Good_k4 a0 a1) (model_Good_k3 a0 a1) (model_Good_k2 a0 a1) (model_Good_k0 a0 a1) (model_Good_k1 a0 a1) else (0 : Int)

def model_Good_r (a0 : List TGroup) (a1 : List TRow) : A := .v (.int .i64 (model_Good_0 a0 a1))

def model_Good_o (_a0 : List TGroup) (_a1 : List TRow) : Objs := []

def model_Good_ps (a0 : List TGroup) (a1 : List TRow) : List Prop := [((!(model_Good_k5 a0 a1)) = true → needX model_Good_l0_next model_Good_l0_goes model_Good_l0_ps (model_Good_l0_fuel (a0, ByteArray.mk #[], a1, (↑a1.length : Int), (0 : Int))) (a0, ByteArray.mk #[], a1, (↑a1.length : Int), (0 : Int)))]

set_option maxRecDepth 100000 in
theorem model_Good_ev (a0 : List TGroup) (a1 : List TRow) : evF (envT Cn_3 model_Good_l0_L) 9 84 [.sl .group a0, valA .rows a1] 0 [] = some (1, model_Good_r a0 a1, 0, model_Good_o a0 a1, [((!(model_Good_k5 a0 a1)) = true → loopAt Try.prog (84 : FuncId) (0 : Nat) = loopAt Try.prog (84 : FuncId) (0 : Nat)), ((!(model_Good_k5 a0 a1)) = true → needX model_Good_l0_next model_Good_l0_goes model_Good_l0_ps (model_Good_l0_fuel (a0, ByteArray.mk #[], a1, (↑a1.length : Int), (0 : Int))) (a0, ByteArray.mk #[], a1, (↑a1.length : Int), (0 : Int)))]) := by kernel_rfl

set_option maxRecDepth 100000 in
theorem model_Good_c (a0 : List TGroup) (a1 : List TRow) (hp : ∀ p ∈ model_Good_ps a0 a1, p) : CallOk Try.prog 84 [.sl .group a0, valA .rows a1] 0 [] 1 (model_Good_r a0 a1) 0 (model_Good_o a0 a1) := by
  have n0 : ((!(model_Good_k5 a0 a1)) = true → loopAt Try.prog (84 : FuncId) (0 : Nat) = loopAt Try.prog (84 : FuncId) (0 : Nat)) := by intros; rfl
  have n1 : ((!(model_Good_k5 a0 a1)) = true → needX model_Good_l0_next model_Good_l0_goes model_Good_l0_ps (model_Good_l0_fuel (a0, ByteArray.mk #[], a1, (↑a1.length : Int), (0 : Int))) (a0, ByteArray.mk #[], a1, (↑a1.length : Int), (0 : Int))) := hp _ (List.mem_cons_self ..)
  exact evF_ok (envP_ok Cn_3_ok model_Good_l0_Lok) (model_Good_ev a0 a1) (needs_cons n0 (needs_cons n1 needs_nil))

def model_Good_r2 (a0 : List TGroup) (a1 : List TRow) : A := .v (.int .i64 (goodM a0 a1))

def model_Good_o2 (_a0 : List TGroup) (_a1 : List TRow) : Objs := []

def model_Good_ps2 (_a0 : List TGroup) (a1 : List TRow) : List Prop := [wideN a1.length]

theorem errM_ne (l : List TGroup) (rows : List TRow) (i : Nat) : (errM l rows i != 0) = (goodRow l (rowN rows i) != 0 || (bareR (rowN rows i) || leS (rowN rows i).key (lastN rows i))) := by
  unfold errM
  cases h : goodRow l (rowN rows i) != 0 with
  | true => rw [cond_true, h, Bool.true_or]
  | false => cases bareR (rowN rows i) || leS (rowN rows i).key (lastN rows i) <;> rfl

theorem model_Good_eq (l : List TGroup) (rows : List TRow) (hb : wideN rows.length) : (∀ p ∈ model_Good_ps l rows, p) ∧ model_Good_0 l rows = goodM l rows := by
  unfold wideN at hb
  have hf : ∀ i : Nat, model_Good_l0_f_k0 l (lastN rows i) rows (rows.length : Int) (i : Int) = (decide (i < rows.length) && errM l rows i != 0) := fun i => by
    rw [errM_ne]
    unfold model_Good_l0_f_k0 model_Good_l0_f_k1 leS ltS
    rw [nn, dlt, Int.toNat_natCast, tlb]
    rfl
  obtain ⟨h1, k, hk, hx, hs, hst, _⟩ := scanB (fun i => ((l, lastN rows i, rows, (rows.length : Int), (i : Int)) : model_Good_l0_X)) rows.length (fun i => errM l rows i != 0) model_Good_l0_next model_Good_l0_goes model_Good_l0_ps (model_Good_l0_fuel (l, ByteArray.mk #[], rows, (rows.length : Int), 0)) (l, ByteArray.mk #[], rows, (rows.length : Int), 0) rfl (by show rows.length ≤ ((rows.length : Int) - 0).toNat; omega)
    (fun i _ _ => by
      show ((!!decide ((i : Int) < (rows.length : Int))) && !model_Good_l0_f_k0 l (lastN rows i) rows (rows.length : Int) (i : Int)) = _
      rw [hf, nn, dlt]
      cases decide (i < rows.length) <;> rfl)
    (fun i hi _ => by
      show (l, (rows.getD ((i : Int)).toNat (dflt TC.row)).1, rows, (rows.length : Int), IntKind.i64.wrap ((i : Int) + 1)) = (l, lastN rows (i + 1), rows, (rows.length : Int), ((i + 1 : Nat) : Int))
      rw [wsucc (by omega), Int.toNat_natCast]
      rfl)
    (fun i hi _ => by
      have hin : (!!decide ((i : Int) < (rows.length : Int))) = true → (i : Int) < (rows.length : Int) := fun h => by rw [nn] at h; exact of_decide_eq_true h
      refine needs_cons (fun h => ⟨by show (0 : Int) ≤ (i : Int); omega, hin h⟩) (needs_cons (fun _ h2 => ?_) needs_nil)
      have h3 : goodRow l (rows.getD ((i : Int)).toNat (dflt TC.row)) = 0 := by
        have h4 : (!(goodRow l (rows.getD ((i : Int)).toNat (dflt TC.row)) != 0)) = true := h2
        simpa using h4
      obtain ⟨g1, g2, _⟩ := goodRow_0 h3
      have := (goodP_0 g1).2
      show boundP (rows.getD ((i : Int)).toNat (dflt TC.row)).cells.length
      unfold boundP
      omega)
  have hr : model_Good_l0_run (l, ByteArray.mk #[], rows, (rows.length : Int), 0) = (l, lastN rows k, rows, (rows.length : Int), (k : Int)) := hx
  refine ⟨needs_cons (fun _ => h1) needs_nil, ?_⟩
  unfold model_Good_0 goodM
  show (bif goodP l != 0 then goodP l else _) = _
  congr 1
  unfold model_Good_k4 model_Good_k3 model_Good_k2 model_Good_k1 model_Good_k0
  rw [hr]
  show (bif model_Good_l0_f_k0 l (lastN rows k) rows (rows.length : Int) (k : Int) then model_Good_l0_f_10 l (lastN rows k) rows (rows.length : Int) (k : Int) else 0) = _
  rw [hf]
  have h0 : goodMN l rows k = 0 := (goodMN_0 l rows k).2 fun i hi => by simpa using hs i hi
  rcases Nat.lt_or_ge k rows.length with h | h
  · have he := hst h
    rw [decide_eq_true h, he]
    have e1 : goodMN l rows (k + 1) = errM l rows k := by
      show (bif goodMN l rows k != 0 then goodMN l rows k else errM l rows k) = _
      rw [h0]; rfl
    have hne : goodMN l rows (k + 1) ≠ 0 := by rw [e1]; simpa using he
    rw [goodMN_stop hne rows.length h, e1]
    show model_Good_l0_f_10 l (lastN rows k) rows (rows.length : Int) (k : Int) = _
    unfold model_Good_l0_f_10 model_Good_l0_f_k1
    rw [Int.toNat_natCast]
    rw [errM_ne] at he
    unfold errM
    show (bif goodRow l (rowN rows k) != 0 then goodRow l (rowN rows k) else 100) = _
    cases hg : goodRow l (rowN rows k) != 0 with
    | true => rfl
    | false =>
      rw [hg, Bool.false_or] at he
      rw [he]
      rfl
  · obtain rfl : k = rows.length := by omega
    rw [decide_eq_false (Nat.lt_irrefl _), h0]
    rfl

theorem model_Good_c2 (a0 : List TGroup) (a1 : List TRow) (hp : ∀ p ∈ model_Good_ps2 a0 a1, p) : CallOk Try.prog 84 [.sl .group a0, valA .rows a1] 0 [] 1 (model_Good_r2 a0 a1) 0 (model_Good_o2 a0 a1) := by
  have hb : wideN a1.length := hp _ (List.mem_cons_self ..)
  have h := model_Good_c a0 a1 (model_Good_eq a0 a1 hb).1
  unfold model_Good_r at h
  rw [(model_Good_eq a0 a1 hb).2] at h
  exact h

def model_Good_t : List A → Nat → Objs → Option CRes
  | [y0, y1], nx, o => match argL .group y0, argU .rows y1 with
    | some a0, some (a1, p1) => some (1, (model_Good_r2 a0 a1).pk (shiftR nx), nx + 0, shiftO nx (model_Good_o2 a0 a1) ++ o, p1 ++ (model_Good_ps2 a0 a1))
    | _, _ => none
  | _, _, _ => none

theorem model_Good_tok : TOk Try.prog 84 model_Good_t := fun args nx o k x nx' o' ps h => by
  unfold model_Good_t at h
  split at h <;> first | (cases h; done) | skip
  split at h <;> first | (cases h; done) | skip
  rename_i a0 a1 p1 e0 e1
  cases h
  refine ⟨fun hp => ?_, _, rfl⟩
  have q1 := fun p hm => hp p (List.mem_append.2 (.inl hm))
  have r1 := fun p hm => hp p (List.mem_append.2 (.inr hm))
  refine callOk_args (callOk_shift (model_Good_c2 a0 a1 r1) (Nat.le_refl _) (freeL_cons rfl (freeL_cons (valA_free _ _) freeL_nil)) nx o) fun F N R vs hl => ?_
  obtain ⟨v0, w0, rfl, h0, hl⟩ := hl.inv
  obtain ⟨v1, w1, rfl, h1, hl⟩ := hl.inv
  exact HL.cons (argL_ok e0 h0) (HL.cons (argU_ok e1 q1 h1) (hl))

noncomputable def Cn_4 := addC 84 model_Good_t Cn_3

theorem Cn_4_ok : COk Try.prog Cn_4 := addC_ok model_Good_tok Cn_3_ok

def frontier_May_0 (a0 : Int) (a1 : TVec) (a2 : TCell) : Bool := bif a2.1.1 == (0 : Int) && a2.1.2 == (0 : Int) && (a2.2.1 == (0 : Int) && a2.2.2 == (0 : Int) && (a2.3 == false && (a2.4.toList == (ByteArray.mk #[]).toList && (a2.5.1 == (0 : Int) && a2.5.2 == (0 : Int))))) || !cell_Good_0 a0 a2 || !vec_Covers_0 a1 (cell_Known_0 a2) then false else !cell_Seen_1 a0 a2

def frontier_May_r (a0 : Int) (a1 : TVec) (a2 : TCell) : A := .v (.bool (frontier_May_0 a0 a1 a2))

def frontier_May_o (_a0 : Int) (_a1 : TVec) (_a2 : TCell) : Objs := []

def frontier_May_ps (_a0 : Int) (_a1 : TVec) (_a2 : TCell) : List Prop := []

set_option maxRecDepth 100000 in
theorem frontier_May_ev (a0 : Int) (a1 : TVec) (a2 : TCell) : evF (envT Cn_4 L0) 9 50 [valA .i64 a0, valA .vec a1, valA .cell a2] 0 [] = some (1, frontier_May_r a0 a1 a2, 0, frontier_May_o a0 a1 a2, []) := by kernel_rfl

set_option maxRecDepth 100000 in
theorem frontier_May_c (a0 : Int) (a1 : TVec) (a2 : TCell) (_hp : ∀ p ∈ frontier_May_ps a0 a1 a2, p) : CallOk Try.prog 50 [valA .i64 a0, valA .vec a1, valA .cell a2] 0 [] 1 (frontier_May_r a0 a1 a2) 0 (frontier_May_o a0 a1 a2) := by
  exact evF_ok (envP_ok Cn_4_ok L0_ok) (frontier_May_ev a0 a1 a2) needs_nil

def frontier_May_r2 (a0 : Int) (a1 : TVec) (a2 : TCell) : A := .v (.bool (mayC a0 a1 a2))

def frontier_May_o2 (_a0 : Int) (_a1 : TVec) (_a2 : TCell) : Objs := []

def frontier_May_ps2 (_a0 : Int) (_a1 : TVec) (_a2 : TCell) : List Prop := []

theorem zero_eq (c : TCell) : (c.1.1 == (0 : Int) && c.1.2 == (0 : Int) && (c.2.1 == (0 : Int) && c.2.2 == (0 : Int) && (c.3 == false && (c.4.toList == (ByteArray.mk #[]).toList && (c.5.1 == (0 : Int) && c.5.2 == (0 : Int)))))) = eqC c zeroC := by
  rw [tlb]
  unfold eqC zeroC
  simp only [Bool.and_assoc]

theorem covers_eq (a b : TVec) : vec_Covers_0 a b = covV a b := by
  have hm : ∀ x y : Int, (min x y == y) = decide (y ≤ x) := fun x y => by
    rw [Bool.eq_iff_iff, beq_iff_eq, decide_eq_true_eq]; omega
  unfold vec_Covers_0 covV
  have h1 : ((vec_Meet_0 a b).1 == b.1) = decide (b.a ≤ a.a) := hm _ _
  have h2 : ((vec_Meet_0 a b).2 == b.2) = decide (b.b ≤ a.b) := hm _ _
  rw [h1, h2]

theorem frontier_May_eq (p : Int) (st : TVec) (c : TCell) : frontier_May_0 p st c = mayC p st c := by
  unfold frontier_May_0 mayC
  rw [zero_eq, cell_Good_eq, covers_eq, (cell_Seen_eq p c).2]
  show (bif eqC c zeroC || !goodC p c || !covV st (knownC c) then false else !seenB p c) = _
  cases eqC c zeroC <;> cases goodC p c <;> cases covV st (knownC c) <;> rfl

theorem frontier_May_c2 (a0 : Int) (a1 : TVec) (a2 : TCell) (_hp : ∀ p ∈ frontier_May_ps2 a0 a1 a2, p) : CallOk Try.prog 50 [valA .i64 a0, valA .vec a1, valA .cell a2] 0 [] 1 (frontier_May_r2 a0 a1 a2) 0 (frontier_May_o2 a0 a1 a2) := by
  have h := frontier_May_c a0 a1 a2 (fun _ h => by cases h)
  unfold frontier_May_r at h
  rw [frontier_May_eq] at h
  exact h

def frontier_May_t : List A → Nat → Objs → Option CRes
  | [y0, y1, y2], nx, o => match argU .i64 y0, argU .vec y1, argU .cell y2 with
    | some (a0, p0), some (a1, p1), some (a2, p2) => some (1, (frontier_May_r2 a0 a1 a2).pk (shiftR nx), nx + 0, shiftO nx (frontier_May_o2 a0 a1 a2) ++ o, p0 ++ (p1 ++ (p2 ++ (frontier_May_ps2 a0 a1 a2))))
    | _, _, _ => none
  | _, _, _ => none

theorem frontier_May_tok : TOk Try.prog 50 frontier_May_t := fun args nx o k x nx' o' ps h => by
  unfold frontier_May_t at h
  split at h <;> first | (cases h; done) | skip
  split at h <;> first | (cases h; done) | skip
  rename_i a0 p0 a1 p1 a2 p2 e0 e1 e2
  cases h
  refine ⟨fun hp => ?_, _, rfl⟩
  have q0 := fun p hm => hp p (List.mem_append.2 (.inl hm))
  have r0 := fun p hm => hp p (List.mem_append.2 (.inr hm))
  have q1 := fun p hm => r0 p (List.mem_append.2 (.inl hm))
  have r1 := fun p hm => r0 p (List.mem_append.2 (.inr hm))
  have q2 := fun p hm => r1 p (List.mem_append.2 (.inl hm))
  have r2 := fun p hm => r1 p (List.mem_append.2 (.inr hm))
  refine callOk_args (callOk_shift (frontier_May_c2 a0 a1 a2 r2) (Nat.le_refl _) (freeL_cons (valA_free _ _) (freeL_cons (valA_free _ _) (freeL_cons (valA_free _ _) freeL_nil))) nx o) fun F N R vs hl => ?_
  obtain ⟨v0, w0, rfl, h0, hl⟩ := hl.inv
  obtain ⟨v1, w1, rfl, h1, hl⟩ := hl.inv
  obtain ⟨v2, w2, rfl, h2, hl⟩ := hl.inv
  exact HL.cons (argU_ok e0 q0 h0) (HL.cons (argU_ok e1 q1 h1) (HL.cons (argU_ok e2 q2 h2) (hl)))

noncomputable def Cn_5 := addC 50 frontier_May_t Cn_4

theorem Cn_5_ok : COk Try.prog Cn_5 := addC_ok frontier_May_tok Cn_4_ok

noncomputable def Cn := Cn_5

theorem Cn_ok : COk Try.prog Cn := Cn_5_ok

end Go.Proofs.Yteebobbhhgmeiaa

namespace Go.Proofs.Yteebobbhhgmeiaa

open Go.RowKit

abbrev frontier_Sweep_l2_X : Type := Int × (List TGroup) × Int × Int × TVec × TVec × (List TCell)

def frontier_Sweep_l2_T (x : frontier_Sweep_l2_X) : St := ⟨79, 8, [(5, .own 0 0), (7, .own 1 0), (12, .sq 7), (13, .v (.int .i64 x.1)), (37, .sl .group x.2.1), (38, .v (.int .i64 x.2.2.1)), (39, .v (.int .i64 x.2.2.2.1))], [(0, some (.box 31 [.v (.int .i64 x.2.2.2.2.1.a), .v (.int .i64 x.2.2.2.2.1.b)])), (1, some (.box 31 [.v (.int .i64 x.2.2.2.2.2.1.a), .v (.int .i64 x.2.2.2.2.2.1.b)])), (7, some (.arr 55 8 (.ty .cell x.2.2.2.2.2.2)))]⟩

def frontier_Sweep_l2_un : St → Option frontier_Sweep_l2_X
  | ⟨79, 8, [(5, .own 0 0), (7, .own 1 0), (12, .sq 7), (13, .v (.int .i64 z0)), (37, .sl .group z1), (38, .v (.int .i64 z2)), (39, .v (.int .i64 z3))], [(0, some (.box 31 [.v (.int .i64 z4), .v (.int .i64 z5)])), (1, some (.box 31 [.v (.int .i64 z6), .v (.int .i64 z7)])), (7, some (.arr 55 8 (.ty .cell z8)))]⟩ => some (z0, z1, z2, z3, ⟨z4, z5⟩, ⟨z6, z7⟩, z8)
  | _ => none

theorem frontier_Sweep_l2_unok : ∀ s x, frontier_Sweep_l2_un s = some x → s = frontier_Sweep_l2_T x := fun s x h => by
  unfold frontier_Sweep_l2_un at h
  split at h
  · cases h; rfl
  · cases h

def frontier_Sweep_l2_S : Shape := ⟨7, 8, [5, 7, 12, 13, 37, 38, 39], [], [(0, 0), (1, 1), (7, 7)], [0, 1, 7], [12, 13], [7, 0, 1]⟩

def frontier_Sweep_l2_E : Entry := ⟨[], [(0, 0), (1, 1), (6, 7)], [5, 7, 12, 13, 37, 38, 39], [0, 1, 6]⟩

def frontier_Sweep_l2_f_0 (a0 : Int) (a1 : List TGroup) (_a2 : Int) (a3 : Int) (a4 : TVec) (_a5 : TVec) (a6 : List TCell) : Int := bif mayC (a1.getD a3.toNat (dflt TC.group)).2 a4 (a6.getD a3.toNat (dflt TC.cell)) then IntKind.i64.wrap (a0 + (1 : Int)) else a0

def frontier_Sweep_l2_f_5 (_a0 : Int) (a1 : List TGroup) (_a2 : Int) (a3 : Int) (a4 : TVec) (a5 : TVec) (a6 : List TCell) : TVec := TVec.mk (bif mayC (a1.getD a3.toNat (dflt TC.group)).2 a4 (a6.getD a3.toNat (dflt TC.cell)) then max (max (0 : Int) a5.1) (cell_Known_0 (a6.getD a3.toNat (dflt TC.cell))).1 else a5.1) (bif mayC (a1.getD a3.toNat (dflt TC.group)).2 a4 (a6.getD a3.toNat (dflt TC.cell)) then max (max (0 : Int) a5.2) (cell_Known_0 (a6.getD a3.toNat (dflt TC.cell))).2 else a5.2)

def frontier_Sweep_l2_f_6 (_a0 : Int) (a1 : List TGroup) (_a2 : Int) (a3 : Int) (a4 : TVec) (_a5 : TVec) (a6 : List TCell) : List TCell := bif mayC (a1.getD a3.toNat (dflt TC.group)).2 a4 (a6.getD a3.toNat (dflt TC.cell)) then a6.set a3.toNat (TCell.mk (TStamp.mk (0 : Int) (0 : Int)) (TVec.mk (0 : Int) (0 : Int)) false (ByteArray.mk #[]) (TVec.mk (0 : Int) (0 : Int))) else a6

def frontier_Sweep_l2_next (x : frontier_Sweep_l2_X) : frontier_Sweep_l2_X := (frontier_Sweep_l2_f_0 x.1 x.2.1 x.2.2.1 x.2.2.2.1 x.2.2.2.2.1 x.2.2.2.2.2.1 x.2.2.2.2.2.2, x.2.1, x.2.2.1, IntKind.i64.wrap (x.2.2.2.1 + (1 : Int)), x.2.2.2.2.1, frontier_Sweep_l2_f_5 x.1 x.2.1 x.2.2.1 x.2.2.2.1 x.2.2.2.2.1 x.2.2.2.2.2.1 x.2.2.2.2.2.2, frontier_Sweep_l2_f_6 x.1 x.2.1 x.2.2.1 x.2.2.2.1 x.2.2.2.2.1 x.2.2.2.2.2.1 x.2.2.2.2.2.2)

def frontier_Sweep_l2_goes (x : frontier_Sweep_l2_X) : Cnd := some (!!decide (x.2.2.2.1 < x.2.2.1))

def frontier_Sweep_l2_psA (x : frontier_Sweep_l2_X) : List Prop := [((!!decide (x.2.2.2.1 < x.2.2.1)) = true → (0 : Int) ≤ x.2.2.2.1 ∧ x.2.2.2.1 < (↑x.2.1.length : Int)), ((!!decide (x.2.2.2.1 < x.2.2.1)) = true → (0 : Int) ≤ x.2.2.2.1 ∧ x.2.2.2.1 < (↑x.2.2.2.2.2.2.length : Int)), ((!!decide (x.2.2.2.1 < x.2.2.1)) = true → x.2.2.2.1.toNat < x.2.2.2.2.2.2.length), ((!!decide (x.2.2.2.1 < x.2.2.1)) = true → mayC (x.2.1.getD x.2.2.2.1.toNat (dflt TC.group)).2 x.2.2.2.2.1 (x.2.2.2.2.2.2.getD x.2.2.2.1.toNat (dflt TC.cell)) = true → (0 : Int) ≤ x.2.2.2.1 ∧ x.2.2.2.1 < (↑x.2.2.2.2.2.2.length : Int)), ((!!decide (x.2.2.2.1 < x.2.2.1)) = true → mayC (x.2.1.getD x.2.2.2.1.toNat (dflt TC.group)).2 x.2.2.2.2.1 (x.2.2.2.2.2.2.getD x.2.2.2.1.toNat (dflt TC.cell)) = true → x.2.2.2.1.toNat < x.2.2.2.2.2.2.length), ((!!decide (x.2.2.2.1 < x.2.2.1)) = true → mayC (x.2.1.getD x.2.2.2.1.toNat (dflt TC.group)).2 x.2.2.2.2.1 (x.2.2.2.2.2.2.getD x.2.2.2.1.toNat (dflt TC.cell)) = true → (0 : Int) ≤ (0 : Int) ∧ (0 : Int) < (↑(2 : Nat) : Int)), ((!!decide (x.2.2.2.1 < x.2.2.1)) = true → mayC (x.2.1.getD x.2.2.2.1.toNat (dflt TC.group)).2 x.2.2.2.2.1 (x.2.2.2.2.2.2.getD x.2.2.2.1.toNat (dflt TC.cell)) = true → (0 : Nat) < (2 : Nat)), ((!!decide (x.2.2.2.1 < x.2.2.1)) = true → mayC (x.2.1.getD x.2.2.2.1.toNat (dflt TC.group)).2 x.2.2.2.2.1 (x.2.2.2.2.2.2.getD x.2.2.2.1.toNat (dflt TC.cell)) = true → (0 : Int) ≤ (0 : Int) ∧ (0 : Int) < (2 : Int)), ((!!decide (x.2.2.2.1 < x.2.2.1)) = true → mayC (x.2.1.getD x.2.2.2.1.toNat (dflt TC.group)).2 x.2.2.2.2.1 (x.2.2.2.2.2.2.getD x.2.2.2.1.toNat (dflt TC.cell)) = true → (0 : Nat) < (2 : Nat)), ((!!decide (x.2.2.2.1 < x.2.2.1)) = true → mayC (x.2.1.getD x.2.2.2.1.toNat (dflt TC.group)).2 x.2.2.2.2.1 (x.2.2.2.2.2.2.getD x.2.2.2.1.toNat (dflt TC.cell)) = true → (0 : Int) ≤ (0 : Int) ∧ (0 : Int) < (2 : Int)), ((!!decide (x.2.2.2.1 < x.2.2.1)) = true → mayC (x.2.1.getD x.2.2.2.1.toNat (dflt TC.group)).2 x.2.2.2.2.1 (x.2.2.2.2.2.2.getD x.2.2.2.1.toNat (dflt TC.cell)) = true → (0 : Nat) < (2 : Nat)), ((!!decide (x.2.2.2.1 < x.2.2.1)) = true → mayC (x.2.1.getD x.2.2.2.1.toNat (dflt TC.group)).2 x.2.2.2.2.1 (x.2.2.2.2.2.2.getD x.2.2.2.1.toNat (dflt TC.cell)) = true → (0 : Int) ≤ (0 : Int) ∧ (0 : Int) < (2 : Int)), ((!!decide (x.2.2.2.1 < x.2.2.1)) = true → mayC (x.2.1.getD x.2.2.2.1.toNat (dflt TC.group)).2 x.2.2.2.2.1 (x.2.2.2.2.2.2.getD x.2.2.2.1.toNat (dflt TC.cell)) = true → (0 : Nat) < (2 : Nat)), ((!!decide (x.2.2.2.1 < x.2.2.1)) = true → mayC (x.2.1.getD x.2.2.2.1.toNat (dflt TC.group)).2 x.2.2.2.2.1 (x.2.2.2.2.2.2.getD x.2.2.2.1.toNat (dflt TC.cell)) = true → (0 : Int) ≤ (1 : Int) ∧ (1 : Int) < (2 : Int)), ((!!decide (x.2.2.2.1 < x.2.2.1)) = true → mayC (x.2.1.getD x.2.2.2.1.toNat (dflt TC.group)).2 x.2.2.2.2.1 (x.2.2.2.2.2.2.getD x.2.2.2.1.toNat (dflt TC.cell)) = true → (1 : Nat) < (2 : Nat)), ((!!decide (x.2.2.2.1 < x.2.2.1)) = true → mayC (x.2.1.getD x.2.2.2.1.toNat (dflt TC.group)).2 x.2.2.2.2.1 (x.2.2.2.2.2.2.getD x.2.2.2.1.toNat (dflt TC.cell)) = true → (0 : Int) ≤ (1 : Int) ∧ (1 : Int) < (2 : Int)), ((!!decide (x.2.2.2.1 < x.2.2.1)) = true → mayC (x.2.1.getD x.2.2.2.1.toNat (dflt TC.group)).2 x.2.2.2.2.1 (x.2.2.2.2.2.2.getD x.2.2.2.1.toNat (dflt TC.cell)) = true → (1 : Nat) < (2 : Nat)), ((!!decide (x.2.2.2.1 < x.2.2.1)) = true → mayC (x.2.1.getD x.2.2.2.1.toNat (dflt TC.group)).2 x.2.2.2.2.1 (x.2.2.2.2.2.2.getD x.2.2.2.1.toNat (dflt TC.cell)) = true → (0 : Int) ≤ (1 : Int) ∧ (1 : Int) < (2 : Int)), ((!!decide (x.2.2.2.1 < x.2.2.1)) = true → mayC (x.2.1.getD x.2.2.2.1.toNat (dflt TC.group)).2 x.2.2.2.2.1 (x.2.2.2.2.2.2.getD x.2.2.2.1.toNat (dflt TC.cell)) = true → (1 : Nat) < (2 : Nat)), ((!!decide (x.2.2.2.1 < x.2.2.1)) = true → mayC (x.2.1.getD x.2.2.2.1.toNat (dflt TC.group)).2 x.2.2.2.2.1 (x.2.2.2.2.2.2.getD x.2.2.2.1.toNat (dflt TC.cell)) = true → (0 : Int) ≤ (1 : Int) ∧ (1 : Int) < (↑(2 : Nat) : Int)), ((!!decide (x.2.2.2.1 < x.2.2.1)) = true → mayC (x.2.1.getD x.2.2.2.1.toNat (dflt TC.group)).2 x.2.2.2.2.1 (x.2.2.2.2.2.2.getD x.2.2.2.1.toNat (dflt TC.cell)) = true → (1 : Nat) < (2 : Nat)), ((!!decide (x.2.2.2.1 < x.2.2.1)) = true → mayC (x.2.1.getD x.2.2.2.1.toNat (dflt TC.group)).2 x.2.2.2.2.1 (x.2.2.2.2.2.2.getD x.2.2.2.1.toNat (dflt TC.cell)) = true → (0 : Int) ≤ (0 : Int) ∧ (0 : Int) < (2 : Int)), ((!!decide (x.2.2.2.1 < x.2.2.1)) = true → mayC (x.2.1.getD x.2.2.2.1.toNat (dflt TC.group)).2 x.2.2.2.2.1 (x.2.2.2.2.2.2.getD x.2.2.2.1.toNat (dflt TC.cell)) = true → (0 : Nat) < (2 : Nat)), ((!!decide (x.2.2.2.1 < x.2.2.1)) = true → mayC (x.2.1.getD x.2.2.2.1.toNat (dflt TC.group)).2 x.2.2.2.2.1 (x.2.2.2.2.2.2.getD x.2.2.2.1.toNat (dflt TC.cell)) = true → (0 : Int) ≤ (0 : Int) ∧ (0 : Int) < (2 : Int)), ((!!decide (x.2.2.2.1 < x.2.2.1)) = true → mayC (x.2.1.getD x.2.2.2.1.toNat (dflt TC.group)).2 x.2.2.2.2.1 (x.2.2.2.2.2.2.getD x.2.2.2.1.toNat (dflt TC.cell)) = true → (0 : Nat) < (2 : Nat)), ((!!decide (x.2.2.2.1 < x.2.2.1)) = true → mayC (x.2.1.getD x.2.2.2.1.toNat (dflt TC.group)).2 x.2.2.2.2.1 (x.2.2.2.2.2.2.getD x.2.2.2.1.toNat (dflt TC.cell)) = true → (0 : Int) ≤ (0 : Int) ∧ (0 : Int) < (2 : Int)), ((!!decide (x.2.2.2.1 < x.2.2.1)) = true → mayC (x.2.1.getD x.2.2.2.1.toNat (dflt TC.group)).2 x.2.2.2.2.1 (x.2.2.2.2.2.2.getD x.2.2.2.1.toNat (dflt TC.cell)) = true → (0 : Nat) < (2 : Nat)), ((!!decide (x.2.2.2.1 < x.2.2.1)) = true → mayC (x.2.1.getD x.2.2.2.1.toNat (dflt TC.group)).2 x.2.2.2.2.1 (x.2.2.2.2.2.2.getD x.2.2.2.1.toNat (dflt TC.cell)) = true → (0 : Int) ≤ (1 : Int) ∧ (1 : Int) < (2 : Int)), ((!!decide (x.2.2.2.1 < x.2.2.1)) = true → mayC (x.2.1.getD x.2.2.2.1.toNat (dflt TC.group)).2 x.2.2.2.2.1 (x.2.2.2.2.2.2.getD x.2.2.2.1.toNat (dflt TC.cell)) = true → (1 : Nat) < (2 : Nat)), ((!!decide (x.2.2.2.1 < x.2.2.1)) = true → mayC (x.2.1.getD x.2.2.2.1.toNat (dflt TC.group)).2 x.2.2.2.2.1 (x.2.2.2.2.2.2.getD x.2.2.2.1.toNat (dflt TC.cell)) = true → (0 : Int) ≤ (1 : Int) ∧ (1 : Int) < (2 : Int)), ((!!decide (x.2.2.2.1 < x.2.2.1)) = true → mayC (x.2.1.getD x.2.2.2.1.toNat (dflt TC.group)).2 x.2.2.2.2.1 (x.2.2.2.2.2.2.getD x.2.2.2.1.toNat (dflt TC.cell)) = true → (1 : Nat) < (2 : Nat)), ((!!decide (x.2.2.2.1 < x.2.2.1)) = true → mayC (x.2.1.getD x.2.2.2.1.toNat (dflt TC.group)).2 x.2.2.2.2.1 (x.2.2.2.2.2.2.getD x.2.2.2.1.toNat (dflt TC.cell)) = true → (0 : Int) ≤ (1 : Int) ∧ (1 : Int) < (2 : Int)), ((!!decide (x.2.2.2.1 < x.2.2.1)) = true → mayC (x.2.1.getD x.2.2.2.1.toNat (dflt TC.group)).2 x.2.2.2.2.1 (x.2.2.2.2.2.2.getD x.2.2.2.1.toNat (dflt TC.cell)) = true → (1 : Nat) < (2 : Nat)), ((!!decide (x.2.2.2.1 < x.2.2.1)) = true → mayC (x.2.1.getD x.2.2.2.1.toNat (dflt TC.group)).2 x.2.2.2.2.1 (x.2.2.2.2.2.2.getD x.2.2.2.1.toNat (dflt TC.cell)) = true → (0 : Int) ≤ x.2.2.2.1 ∧ x.2.2.2.1 < (↑x.2.2.2.2.2.2.length : Int)), ((!!decide (x.2.2.2.1 < x.2.2.1)) = true → mayC (x.2.1.getD x.2.2.2.1.toNat (dflt TC.group)).2 x.2.2.2.2.1 (x.2.2.2.2.2.2.getD x.2.2.2.1.toNat (dflt TC.cell)) = true → x.2.2.2.1.toNat < x.2.2.2.2.2.2.length)]

def frontier_Sweep_l2_ps (x : frontier_Sweep_l2_X) : List Prop := [((!!decide (x.2.2.2.1 < x.2.2.1)) = true → (0 : Int) ≤ x.2.2.2.1 ∧ x.2.2.2.1 < (↑x.2.1.length : Int)), ((!!decide (x.2.2.2.1 < x.2.2.1)) = true → (0 : Int) ≤ x.2.2.2.1 ∧ x.2.2.2.1 < (↑x.2.2.2.2.2.2.length : Int)), ((!!decide (x.2.2.2.1 < x.2.2.1)) = true → mayC (x.2.1.getD x.2.2.2.1.toNat (dflt TC.group)).2 x.2.2.2.2.1 (x.2.2.2.2.2.2.getD x.2.2.2.1.toNat (dflt TC.cell)) = true → (0 : Int) ≤ x.2.2.2.1 ∧ x.2.2.2.1 < (↑x.2.2.2.2.2.2.length : Int))]

def frontier_Sweep_l2_outs (x : frontier_Sweep_l2_X) : Outs := [(some 2, some (!decide (x.2.2.2.1 < x.2.2.1)), ⟨79, 8, [(12, .sq 7), (13, .v (.int .i64 x.1))], [(7, some (.arr 55 8 (.ty .cell x.2.2.2.2.2.2))), (0, some (.box 31 [.v (.int .i64 x.2.2.2.2.1.1), .v (.int .i64 x.2.2.2.2.1.2)])), (1, some (.box 31 [.v (.int .i64 x.2.2.2.2.2.1.1), .v (.int .i64 x.2.2.2.2.2.1.2)]))]⟩)]

def frontier_Sweep_l2_fuel (x : frontier_Sweep_l2_X) : Nat := (x.2.2.1 - x.2.2.2.1).toNat

def frontier_Sweep_l2_run (x : frontier_Sweep_l2_X) : frontier_Sweep_l2_X := iterX frontier_Sweep_l2_next frontier_Sweep_l2_goes (frontier_Sweep_l2_fuel x) x

set_option maxRecDepth 100000 in
theorem frontier_Sweep_l2_ev (a0 : Int) (a1 : List TGroup) (a2 : Int) (a3 : Int) (a4 : TVec) (a5 : TVec) (a6 : List TCell) : roundE (envT Cn L0) 9 (loopAt Try.prog 47 2) frontier_Sweep_l2_S (frontier_Sweep_l2_T (a0, a1, a2, a3, a4, a5, a6)) = some (frontier_Sweep_l2_psA (a0, a1, a2, a3, a4, a5, a6), frontier_Sweep_l2_outs (a0, a1, a2, a3, a4, a5, a6), frontier_Sweep_l2_goes (a0, a1, a2, a3, a4, a5, a6), frontier_Sweep_l2_T (frontier_Sweep_l2_next (a0, a1, a2, a3, a4, a5, a6))) := by kernel_rfl

set_option maxRecDepth 100000 in
theorem frontier_Sweep_l2_hA (a0 : Int) (a1 : List TGroup) (a2 : Int) (a3 : Int) (a4 : TVec) (a5 : TVec) (a6 : List TCell) (hp : ∀ p ∈ frontier_Sweep_l2_ps (a0, a1, a2, a3, a4, a5, a6), p) : ∀ p ∈ frontier_Sweep_l2_psA (a0, a1, a2, a3, a4, a5, a6), p := by
  have n0 : ((!!decide (a3 < a2)) = true → (0 : Int) ≤ a3 ∧ a3 < (↑a1.length : Int)) := hp _ (List.mem_cons_self ..)
  have n1 : ((!!decide (a3 < a2)) = true → (0 : Int) ≤ a3 ∧ a3 < (↑a6.length : Int)) := hp _ (List.mem_cons_of_mem _ (List.mem_cons_self ..))
  have n2 : ((!!decide (a3 < a2)) = true → a3.toNat < a6.length) := by intro h0; have g := n1 h0; omega
  have n3 : ((!!decide (a3 < a2)) = true → mayC (a1.getD a3.toNat (dflt TC.group)).2 a4 (a6.getD a3.toNat (dflt TC.cell)) = true → (0 : Int) ≤ a3 ∧ a3 < (↑a6.length : Int)) := hp _ (List.mem_cons_of_mem _ (List.mem_cons_of_mem _ (List.mem_cons_self ..)))
  have n4 : ((!!decide (a3 < a2)) = true → mayC (a1.getD a3.toNat (dflt TC.group)).2 a4 (a6.getD a3.toNat (dflt TC.cell)) = true → a3.toNat < a6.length) := by intro h0 h1; have g := n3 h0 h1; omega
  have n5 : ((!!decide (a3 < a2)) = true → mayC (a1.getD a3.toNat (dflt TC.group)).2 a4 (a6.getD a3.toNat (dflt TC.cell)) = true → (0 : Int) ≤ (0 : Int) ∧ (0 : Int) < (↑(2 : Nat) : Int)) := by omega
  have n6 : ((!!decide (a3 < a2)) = true → mayC (a1.getD a3.toNat (dflt TC.group)).2 a4 (a6.getD a3.toNat (dflt TC.cell)) = true → (0 : Nat) < (2 : Nat)) := by omega
  have n7 : ((!!decide (a3 < a2)) = true → mayC (a1.getD a3.toNat (dflt TC.group)).2 a4 (a6.getD a3.toNat (dflt TC.cell)) = true → (0 : Int) ≤ (0 : Int) ∧ (0 : Int) < (2 : Int)) := by omega
  have n13 : ((!!decide (a3 < a2)) = true → mayC (a1.getD a3.toNat (dflt TC.group)).2 a4 (a6.getD a3.toNat (dflt TC.cell)) = true → (0 : Int) ≤ (1 : Int) ∧ (1 : Int) < (2 : Int)) := by omega
  have n14 : ((!!decide (a3 < a2)) = true → mayC (a1.getD a3.toNat (dflt TC.group)).2 a4 (a6.getD a3.toNat (dflt TC.cell)) = true → (1 : Nat) < (2 : Nat)) := by omega
  have n19 : ((!!decide (a3 < a2)) = true → mayC (a1.getD a3.toNat (dflt TC.group)).2 a4 (a6.getD a3.toNat (dflt TC.cell)) = true → (0 : Int) ≤ (1 : Int) ∧ (1 : Int) < (↑(2 : Nat) : Int)) := by omega
  exact (needs_cons n0 (needs_cons n1 (needs_cons n2 (needs_cons n3 (needs_cons n4 (needs_cons n5 (needs_cons n6 (needs_cons n7 (needs_cons n6 (needs_cons n7 (needs_cons n6 (needs_cons n7 (needs_cons n6 (needs_cons n13 (needs_cons n14 (needs_cons n13 (needs_cons n14 (needs_cons n13 (needs_cons n14 (needs_cons n19 (needs_cons n14 (needs_cons n7 (needs_cons n6 (needs_cons n7 (needs_cons n6 (needs_cons n7 (needs_cons n6 (needs_cons n13 (needs_cons n14 (needs_cons n13 (needs_cons n14 (needs_cons n13 (needs_cons n14 (needs_cons n3 (needs_cons n4 needs_nil)))))))))))))))))))))))))))))))))))

noncomputable def frontier_Sweep_l2_row := rowL (envT Cn L0) (loopAt Try.prog 47 2) frontier_Sweep_l2_S frontier_Sweep_l2_E frontier_Sweep_l2_un frontier_Sweep_l2_fuel frontier_Sweep_l2_next frontier_Sweep_l2_goes frontier_Sweep_l2_ps frontier_Sweep_l2_outs

theorem frontier_Sweep_l2_rok : ∀ s b ps outs, frontier_Sweep_l2_row s = some (b, ps, outs) → Wf s ⟨ps, outs, none⟩ ∧ LoopOk (envT C0 L0) b s ps outs :=
  rowP_ok (T := frontier_Sweep_l2_T) Cn_ok L0_ok (u := 9) (by kernel_rfl) (by decide) (fun ⟨a0, a1, a2, a3, a4, a5, a6⟩ => frontier_Sweep_l2_ev a0 a1 a2 a3 a4 a5 a6) (fun ⟨a0, a1, a2, a3, a4, a5, a6⟩ => frontier_Sweep_l2_hA a0 a1 a2 a3 a4 a5 a6) frontier_Sweep_l2_unok (fun _ => okOuts_ok (n := 79) rfl) fun _ _ => rfl

noncomputable def frontier_Sweep_l2_L := addLp 2 frontier_Sweep_l2_row L0

theorem frontier_Sweep_l2_Lok : LpOk frontier_Sweep_l2_L := addLp_ok frontier_Sweep_l2_rok L0_ok

abbrev frontier_Sweep_l0_X : Type := (List TGroup) × (List TRow) × Int × Int × TVec × TVec × (List TRow)

def frontier_Sweep_l0_T (x : frontier_Sweep_l0_X) : St := ⟨79, 4, [(0, .sl .group x.1), (5, .own 0 0), (6, .sq 3), (7, .own 1 0), (27, .sl .row x.2.1), (28, .v (.int .i64 x.2.2.1)), (29, .v (.int .i64 x.2.2.2.1))], [(0, some (.box 31 [.v (.int .i64 x.2.2.2.2.1.a), .v (.int .i64 x.2.2.2.2.1.b)])), (1, some (.box 31 [.v (.int .i64 x.2.2.2.2.2.1.a), .v (.int .i64 x.2.2.2.2.2.1.b)])), (3, some (.arr 71 2 (.ty .row x.2.2.2.2.2.2)))]⟩

def frontier_Sweep_l0_un : St → Option frontier_Sweep_l0_X
  | ⟨79, 4, [(0, .sl .group z0), (5, .own 0 0), (6, .sq 3), (7, .own 1 0), (27, .sl .row z1), (28, .v (.int .i64 z2)), (29, .v (.int .i64 z3))], [(0, some (.box 31 [.v (.int .i64 z4), .v (.int .i64 z5)])), (1, some (.box 31 [.v (.int .i64 z6), .v (.int .i64 z7)])), (3, some (.arr 71 2 (.ty .row z8)))]⟩ => some (z0, z1, z2, z3, ⟨z4, z5⟩, ⟨z6, z7⟩, z8)
  | _ => none

theorem frontier_Sweep_l0_unok : ∀ s x, frontier_Sweep_l0_un s = some x → s = frontier_Sweep_l0_T x := fun s x h => by
  unfold frontier_Sweep_l0_un at h
  split at h
  · cases h; rfl
  · cases h

def frontier_Sweep_l0_S : Shape := ⟨3, 4, [0, 5, 6, 7, 27, 28, 29], [], [(0, 0), (1, 1), (10, 3)], [0, 1, 10], [6], [3, 0, 1]⟩

def frontier_Sweep_l0_E : Entry := ⟨[.nil 6 71 .row], [(0, 0), (1, 1), (2, 3)], [0, 5, 6, 7, 27, 28, 29], [0, 1, 2]⟩

def frontier_Sweep_l0_f_k0 (a0 : List TGroup) (a1 : List TRow) (_a2 : Int) (a3 : Int) (a4 : TVec) (a5 : TVec) (_a6 : List TRow) : Bool := (frontier_Sweep_l2_run ((0 : Int), a0, (↑a0.length : Int), (0 : Int), a4, a5, [] ++ (a1.getD a3.toNat (dflt TC.row)).2)).fst == (0 : Int)

def frontier_Sweep_l0_f_4 (a0 : List TGroup) (a1 : List TRow) (a2 : Int) (a3 : Int) (a4 : TVec) (a5 : TVec) (a6 : List TRow) : TVec := TVec.mk (bif (frontier_Sweep_l0_f_k0 a0 a1 a2 a3 a4 a5 a6) then (frontier_Sweep_l2_run ((0 : Int), a0, (↑a0.length : Int), (0 : Int), a4, a5, [] ++ (a1.getD a3.toNat (dflt TC.row)).2)).snd.snd.snd.snd.fst.1 else (frontier_Sweep_l2_run ((0 : Int), a0, (↑a0.length : Int), (0 : Int), a4, a5, [] ++ (a1.getD a3.toNat (dflt TC.row)).2)).snd.snd.snd.snd.fst.1) (bif (frontier_Sweep_l0_f_k0 a0 a1 a2 a3 a4 a5 a6) then (frontier_Sweep_l2_run ((0 : Int), a0, (↑a0.length : Int), (0 : Int), a4, a5, [] ++ (a1.getD a3.toNat (dflt TC.row)).2)).snd.snd.snd.snd.fst.2 else (frontier_Sweep_l2_run ((0 : Int), a0, (↑a0.length : Int), (0 : Int), a4, a5, [] ++ (a1.getD a3.toNat (dflt TC.row)).2)).snd.snd.snd.snd.fst.2)

def frontier_Sweep_l0_f_5 (a0 : List TGroup) (a1 : List TRow) (a2 : Int) (a3 : Int) (a4 : TVec) (a5 : TVec) (a6 : List TRow) : TVec := TVec.mk (bif (frontier_Sweep_l0_f_k0 a0 a1 a2 a3 a4 a5 a6) then (frontier_Sweep_l2_run ((0 : Int), a0, (↑a0.length : Int), (0 : Int), a4, a5, [] ++ (a1.getD a3.toNat (dflt TC.row)).2)).snd.snd.snd.snd.snd.fst.1 else (frontier_Sweep_l2_run ((0 : Int), a0, (↑a0.length : Int), (0 : Int), a4, a5, [] ++ (a1.getD a3.toNat (dflt TC.row)).2)).snd.snd.snd.snd.snd.fst.1) (bif (frontier_Sweep_l0_f_k0 a0 a1 a2 a3 a4 a5 a6) then (frontier_Sweep_l2_run ((0 : Int), a0, (↑a0.length : Int), (0 : Int), a4, a5, [] ++ (a1.getD a3.toNat (dflt TC.row)).2)).snd.snd.snd.snd.snd.fst.2 else (frontier_Sweep_l2_run ((0 : Int), a0, (↑a0.length : Int), (0 : Int), a4, a5, [] ++ (a1.getD a3.toNat (dflt TC.row)).2)).snd.snd.snd.snd.snd.fst.2)

def frontier_Sweep_l0_f_6 (a0 : List TGroup) (a1 : List TRow) (a2 : Int) (a3 : Int) (a4 : TVec) (a5 : TVec) (a6 : List TRow) : List TRow := bif (frontier_Sweep_l0_f_k0 a0 a1 a2 a3 a4 a5 a6) then a6 else a6 ++ [TRow.mk (a1.getD a3.toNat (dflt TC.row)).1 (frontier_Sweep_l2_run ((0 : Int), a0, (↑a0.length : Int), (0 : Int), a4, a5, [] ++ (a1.getD a3.toNat (dflt TC.row)).2)).snd.snd.snd.snd.snd.snd]

def frontier_Sweep_l0_next (x : frontier_Sweep_l0_X) : frontier_Sweep_l0_X := (x.1, x.2.1, x.2.2.1, IntKind.i64.wrap (x.2.2.2.1 + (1 : Int)), frontier_Sweep_l0_f_4 x.1 x.2.1 x.2.2.1 x.2.2.2.1 x.2.2.2.2.1 x.2.2.2.2.2.1 x.2.2.2.2.2.2, frontier_Sweep_l0_f_5 x.1 x.2.1 x.2.2.1 x.2.2.2.1 x.2.2.2.2.1 x.2.2.2.2.2.1 x.2.2.2.2.2.2, frontier_Sweep_l0_f_6 x.1 x.2.1 x.2.2.1 x.2.2.2.1 x.2.2.2.2.1 x.2.2.2.2.2.1 x.2.2.2.2.2.2)

def frontier_Sweep_l0_goes (x : frontier_Sweep_l0_X) : Cnd := some (!!decide (x.2.2.2.1 < x.2.2.1))

def frontier_Sweep_l0_psA (x : frontier_Sweep_l0_X) : List Prop := [((!!decide (x.2.2.2.1 < x.2.2.1)) = true → (0 : Int) ≤ x.2.2.2.1 ∧ x.2.2.2.1 < (↑x.2.1.length : Int)), ((!!decide (x.2.2.2.1 < x.2.2.1)) = true → boundP ((0 : Nat) + (x.2.1.getD x.2.2.2.1.toNat (dflt TC.row)).2.length)), ((!!decide (x.2.2.2.1 < x.2.2.1)) = true → loopAt Try.prog (47 : FuncId) (2 : Nat) = loopAt Try.prog (47 : FuncId) (2 : Nat)), ((!!decide (x.2.2.2.1 < x.2.2.1)) = true → needX frontier_Sweep_l2_next frontier_Sweep_l2_goes frontier_Sweep_l2_ps (frontier_Sweep_l2_fuel ((0 : Int), x.1, (↑x.1.length : Int), (0 : Int), x.2.2.2.2.1, x.2.2.2.2.2.1, [] ++ (x.2.1.getD x.2.2.2.1.toNat (dflt TC.row)).2)) ((0 : Int), x.1, (↑x.1.length : Int), (0 : Int), x.2.2.2.2.1, x.2.2.2.2.2.1, [] ++ (x.2.1.getD x.2.2.2.1.toNat (dflt TC.row)).2)), ((!!decide (x.2.2.2.1 < x.2.2.1)) = true → (!(frontier_Sweep_l0_f_k0 x.1 x.2.1 x.2.2.1 x.2.2.2.1 x.2.2.2.2.1 x.2.2.2.2.2.1 x.2.2.2.2.2.2)) = true → boundP (x.2.2.2.2.2.2.length + (1 : Nat)))]

def frontier_Sweep_l0_ps (x : frontier_Sweep_l0_X) : List Prop := [((!!decide (x.2.2.2.1 < x.2.2.1)) = true → (0 : Int) ≤ x.2.2.2.1 ∧ x.2.2.2.1 < (↑x.2.1.length : Int)), ((!!decide (x.2.2.2.1 < x.2.2.1)) = true → boundP ((0 : Nat) + (x.2.1.getD x.2.2.2.1.toNat (dflt TC.row)).2.length)), ((!!decide (x.2.2.2.1 < x.2.2.1)) = true → needX frontier_Sweep_l2_next frontier_Sweep_l2_goes frontier_Sweep_l2_ps (frontier_Sweep_l2_fuel ((0 : Int), x.1, (↑x.1.length : Int), (0 : Int), x.2.2.2.2.1, x.2.2.2.2.2.1, [] ++ (x.2.1.getD x.2.2.2.1.toNat (dflt TC.row)).2)) ((0 : Int), x.1, (↑x.1.length : Int), (0 : Int), x.2.2.2.2.1, x.2.2.2.2.2.1, [] ++ (x.2.1.getD x.2.2.2.1.toNat (dflt TC.row)).2)), ((!!decide (x.2.2.2.1 < x.2.2.1)) = true → (!(frontier_Sweep_l0_f_k0 x.1 x.2.1 x.2.2.1 x.2.2.2.1 x.2.2.2.2.1 x.2.2.2.2.2.1 x.2.2.2.2.2.2)) = true → boundP (x.2.2.2.2.2.2.length + (1 : Nat)))]

def frontier_Sweep_l0_outs (x : frontier_Sweep_l0_X) : Outs := [(some 0, some (!decide (x.2.2.2.1 < x.2.2.1)), ⟨79, 4, [(6, .sq 3)], [(3, some (.arr 71 2 (.ty .row x.2.2.2.2.2.2))), (0, some (.box 31 [.v (.int .i64 x.2.2.2.2.1.1), .v (.int .i64 x.2.2.2.2.1.2)])), (1, some (.box 31 [.v (.int .i64 x.2.2.2.2.2.1.1), .v (.int .i64 x.2.2.2.2.2.1.2)]))]⟩)]

def frontier_Sweep_l0_fuel (x : frontier_Sweep_l0_X) : Nat := (x.2.2.1 - x.2.2.2.1).toNat

def frontier_Sweep_l0_run (x : frontier_Sweep_l0_X) : frontier_Sweep_l0_X := iterX frontier_Sweep_l0_next frontier_Sweep_l0_goes (frontier_Sweep_l0_fuel x) x

set_option maxRecDepth 100000 in
theorem frontier_Sweep_l0_ev (a0 : List TGroup) (a1 : List TRow) (a2 : Int) (a3 : Int) (a4 : TVec) (a5 : TVec) (a6 : List TRow) : roundE (envT Cn frontier_Sweep_l2_L) 9 (loopAt Try.prog 47 0) frontier_Sweep_l0_S (frontier_Sweep_l0_T (a0, a1, a2, a3, a4, a5, a6)) = some (frontier_Sweep_l0_psA (a0, a1, a2, a3, a4, a5, a6), frontier_Sweep_l0_outs (a0, a1, a2, a3, a4, a5, a6), frontier_Sweep_l0_goes (a0, a1, a2, a3, a4, a5, a6), frontier_Sweep_l0_T (frontier_Sweep_l0_next (a0, a1, a2, a3, a4, a5, a6))) := by kernel_rfl

set_option maxRecDepth 100000 in
theorem frontier_Sweep_l0_hA (a0 : List TGroup) (a1 : List TRow) (a2 : Int) (a3 : Int) (a4 : TVec) (a5 : TVec) (a6 : List TRow) (hp : ∀ p ∈ frontier_Sweep_l0_ps (a0, a1, a2, a3, a4, a5, a6), p) : ∀ p ∈ frontier_Sweep_l0_psA (a0, a1, a2, a3, a4, a5, a6), p := by
  have n0 : ((!!decide (a3 < a2)) = true → (0 : Int) ≤ a3 ∧ a3 < (↑a1.length : Int)) := hp _ (List.mem_cons_self ..)
  have n1 : ((!!decide (a3 < a2)) = true → boundP ((0 : Nat) + (a1.getD a3.toNat (dflt TC.row)).2.length)) := hp _ (List.mem_cons_of_mem _ (List.mem_cons_self ..))
  have n2 : ((!!decide (a3 < a2)) = true → loopAt Try.prog (47 : FuncId) (2 : Nat) = loopAt Try.prog (47 : FuncId) (2 : Nat)) := by intros; rfl
  have n3 : ((!!decide (a3 < a2)) = true → needX frontier_Sweep_l2_next frontier_Sweep_l2_goes frontier_Sweep_l2_ps (frontier_Sweep_l2_fuel ((0 : Int), a0, (↑a0.length : Int), (0 : Int), a4, a5, [] ++ (a1.getD a3.toNat (dflt TC.row)).2)) ((0 : Int), a0, (↑a0.length : Int), (0 : Int), a4, a5, [] ++ (a1.getD a3.toNat (dflt TC.row)).2)) := hp _ (List.mem_cons_of_mem _ (List.mem_cons_of_mem _ (List.mem_cons_self ..)))
  have n4 : ((!!decide (a3 < a2)) = true → (!(frontier_Sweep_l0_f_k0 a0 a1 a2 a3 a4 a5 a6)) = true → boundP (a6.length + (1 : Nat))) := hp _ (List.mem_cons_of_mem _ (List.mem_cons_of_mem _ (List.mem_cons_of_mem _ (List.mem_cons_self ..))))
  exact (needs_cons n0 (needs_cons n1 (needs_cons n2 (needs_cons n3 (needs_cons n4 needs_nil)))))

noncomputable def frontier_Sweep_l0_row := rowL (envT Cn frontier_Sweep_l2_L) (loopAt Try.prog 47 0) frontier_Sweep_l0_S frontier_Sweep_l0_E frontier_Sweep_l0_un frontier_Sweep_l0_fuel frontier_Sweep_l0_next frontier_Sweep_l0_goes frontier_Sweep_l0_ps frontier_Sweep_l0_outs

theorem frontier_Sweep_l0_rok : ∀ s b ps outs, frontier_Sweep_l0_row s = some (b, ps, outs) → Wf s ⟨ps, outs, none⟩ ∧ LoopOk (envT C0 L0) b s ps outs :=
  rowP_ok (T := frontier_Sweep_l0_T) Cn_ok frontier_Sweep_l2_Lok (u := 9) (by kernel_rfl) (by decide) (fun ⟨a0, a1, a2, a3, a4, a5, a6⟩ => frontier_Sweep_l0_ev a0 a1 a2 a3 a4 a5 a6) (fun ⟨a0, a1, a2, a3, a4, a5, a6⟩ => frontier_Sweep_l0_hA a0 a1 a2 a3 a4 a5 a6) frontier_Sweep_l0_unok (fun _ => okOuts_ok (n := 79) rfl) fun _ _ => rfl

noncomputable def frontier_Sweep_l0_L := addLp 0 frontier_Sweep_l0_row frontier_Sweep_l2_L

theorem frontier_Sweep_l0_Lok : LpOk frontier_Sweep_l0_L := addLp_ok frontier_Sweep_l0_rok frontier_Sweep_l2_Lok

def frontier_Sweep_k0 (a0 : List TGroup) (a1 : List TRow) (_a2 : TVec) : Bool := goodM a0 a1 != (0 : Int)

def frontier_Sweep_0 (a0 : List TGroup) (a1 : List TRow) (a2 : TVec) : TVec := TVec.mk (bif (frontier_Sweep_k0 a0 a1 a2) then (0 : Int) else bif !vec_Good_0 a2 then (0 : Int) else (frontier_Sweep_l0_run (a0, a1, (↑a1.length : Int), (0 : Int), a2, TVec.mk (0 : Int) (0 : Int), [])).snd.snd.snd.snd.snd.fst.1) (bif (frontier_Sweep_k0 a0 a1 a2) then (0 : Int) else bif !vec_Good_0 a2 then (0 : Int) else (frontier_Sweep_l0_run (a0, a1, (↑a1.length : Int), (0 : Int), a2, TVec.mk (0 : Int) (0 : Int), [])).snd.snd.snd.snd.snd.fst.2)

def frontier_Sweep_1 (a0 : List TGroup) (a1 : List TRow) (a2 : TVec) : Int := bif (frontier_Sweep_k0 a0 a1 a2) then goodM a0 a1 else bif !vec_Good_0 a2 then (2 : Int) else (0 : Int)

def frontier_Sweep_2 (a0 : List TGroup) (a1 : List TRow) (a2 : TVec) : List TRow := bif (frontier_Sweep_k0 a0 a1 a2) then [] else bif !vec_Good_0 a2 then [] else (frontier_Sweep_l0_run (a0, a1, (↑a1.length : Int), (0 : Int), a2, TVec.mk (0 : Int) (0 : Int), [])).snd.snd.snd.snd.snd.snd

def frontier_Sweep_r (a0 : List TGroup) (a1 : List TRow) (a2 : TVec) : A := .tup [.sq 0, .v (.agg ⟨[.int .i64 ((frontier_Sweep_0 a0 a1 a2).a), .int .i64 ((frontier_Sweep_0 a0 a1 a2).b)]⟩), .v (.int .i64 (frontier_Sweep_1 a0 a1 a2))]

def frontier_Sweep_o (a0 : List TGroup) (a1 : List TRow) (a2 : TVec) : Objs := [(0, some (.arr 71 2 (.ty .row (frontier_Sweep_2 a0 a1 a2))))]

def frontier_Sweep_ps (a0 : List TGroup) (a1 : List TRow) (a2 : TVec) : List Prop := [(wideN a1.length), ((!(frontier_Sweep_k0 a0 a1 a2)) = true → (!!vec_Good_0 a2) = true → needX frontier_Sweep_l0_next frontier_Sweep_l0_goes frontier_Sweep_l0_ps (frontier_Sweep_l0_fuel (a0, a1, (↑a1.length : Int), (0 : Int), a2, TVec.mk (0 : Int) (0 : Int), [])) (a0, a1, (↑a1.length : Int), (0 : Int), a2, TVec.mk (0 : Int) (0 : Int), []))]

set_option maxRecDepth 100000 in
theorem frontier_Sweep_ev (a0 : List TGroup) (a1 : List TRow) (a2 : TVec) : evF (envT Cn frontier_Sweep_l0_L) 9 47 [.sl .group a0, valA .rows a1, valA .vec a2] 0 [] = some (1, frontier_Sweep_r a0 a1 a2, 1, frontier_Sweep_o a0 a1 a2, [(wideN a1.length), ((!(frontier_Sweep_k0 a0 a1 a2)) = true → (!!vec_Good_0 a2) = true → loopAt Try.prog (47 : FuncId) (0 : Nat) = loopAt Try.prog (47 : FuncId) (0 : Nat)), ((!(frontier_Sweep_k0 a0 a1 a2)) = true → (!!vec_Good_0 a2) = true → needX frontier_Sweep_l0_next frontier_Sweep_l0_goes frontier_Sweep_l0_ps (frontier_Sweep_l0_fuel (a0, a1, (↑a1.length : Int), (0 : Int), a2, TVec.mk (0 : Int) (0 : Int), [])) (a0, a1, (↑a1.length : Int), (0 : Int), a2, TVec.mk (0 : Int) (0 : Int), []))]) := by kernel_rfl

set_option maxRecDepth 100000 in
theorem frontier_Sweep_c (a0 : List TGroup) (a1 : List TRow) (a2 : TVec) (hp : ∀ p ∈ frontier_Sweep_ps a0 a1 a2, p) : CallOk Try.prog 47 [.sl .group a0, valA .rows a1, valA .vec a2] 0 [] 1 (frontier_Sweep_r a0 a1 a2) 1 (frontier_Sweep_o a0 a1 a2) := by
  have n0 : (wideN a1.length) := hp _ (List.mem_cons_self ..)
  have n1 : ((!(frontier_Sweep_k0 a0 a1 a2)) = true → (!!vec_Good_0 a2) = true → loopAt Try.prog (47 : FuncId) (0 : Nat) = loopAt Try.prog (47 : FuncId) (0 : Nat)) := by intros; rfl
  have n2 : ((!(frontier_Sweep_k0 a0 a1 a2)) = true → (!!vec_Good_0 a2) = true → needX frontier_Sweep_l0_next frontier_Sweep_l0_goes frontier_Sweep_l0_ps (frontier_Sweep_l0_fuel (a0, a1, (↑a1.length : Int), (0 : Int), a2, TVec.mk (0 : Int) (0 : Int), [])) (a0, a1, (↑a1.length : Int), (0 : Int), a2, TVec.mk (0 : Int) (0 : Int), [])) := hp _ (List.mem_cons_of_mem _ (List.mem_cons_self ..))
  exact evF_ok (envP_ok Cn_ok frontier_Sweep_l0_Lok) (frontier_Sweep_ev a0 a1 a2) (needs_cons n0 (needs_cons n1 (needs_cons n2 needs_nil)))

def frontier_Sweep_r2 (a0 : List TGroup) (a1 : List TRow) (a2 : TVec) : A := .tup [.sq 0, .v (.agg ⟨[.int .i64 (sweepL a0 a1 a2).a, .int .i64 (sweepL a0 a1 a2).b]⟩), .v (.int .i64 (sweepE a0 a1 a2))]

def frontier_Sweep_o2 (a0 : List TGroup) (a1 : List TRow) (a2 : TVec) : Objs := [(0, some (.arr 71 2 (.ty .row (sweepO a0 a1 a2))))]

def frontier_Sweep_ps2 (_a0 : List TGroup) (a1 : List TRow) (_a2 : TVec) : List Prop := [boundP (a1.length + 1)]

theorem sw_inner (l : List TGroup) (st low : TVec) (cs : List TCell) (hl : cs.length = l.length) (h4 : l.length ≤ 4) :
    needX frontier_Sweep_l2_next frontier_Sweep_l2_goes frontier_Sweep_l2_ps (frontier_Sweep_l2_fuel (0, l, (l.length : Int), 0, st, low, cs)) (0, l, (l.length : Int), 0, st, low, cs) ∧
    frontier_Sweep_l2_run (0, l, (l.length : Int), 0, st, low, cs) = ((cntN l st cs l.length : Int), l, (l.length : Int), (l.length : Int), st, lowN l st cs low l.length, swN l st cs l.length) := by
  have hat : ∀ i, i < l.length → mayC (l.getD ((i : Int)).toNat (dflt TC.group)).2 st ((swN l st cs i).getD ((i : Int)).toNat (dflt TC.cell)) = mN l st cs i ∧ (swN l st cs i).getD ((i : Int)).toNat (dflt TC.cell) = cellN cs i := fun i hi => by
    have h1 := swN_at l st cs i (by omega) i
    rw [decide_eq_false (Nat.lt_irrefl _), Bool.false_and, cond_false] at h1
    have h2 : (swN l st cs i).getD ((i : Int)).toNat (dflt TC.cell) = cellN cs i := by rw [Int.toNat_natCast]; exact h1
    rw [h2, Int.toNat_natCast]
    exact ⟨rfl, rfl⟩
  obtain ⟨h1, k, hk, hx, _, hst, _⟩ := scanB (fun i => (((cntN l st cs i : Nat) : Int), l, (l.length : Int), (i : Int), st, lowN l st cs low i, swN l st cs i) : Nat → frontier_Sweep_l2_X) l.length (fun _ => false) frontier_Sweep_l2_next frontier_Sweep_l2_goes frontier_Sweep_l2_ps (frontier_Sweep_l2_fuel (0, l, (l.length : Int), 0, st, low, cs)) (0, l, (l.length : Int), 0, st, low, cs) rfl (by show l.length ≤ ((l.length : Int) - 0).toNat; omega)
    (fun i _ _ => by
      show (!!decide ((i : Int) < (l.length : Int))) = _
      rw [nn, dlt, Bool.not_false, Bool.and_true])
    (fun i hi _ => by
      obtain ⟨q1, q2⟩ := hat i hi
      have hc := cnt_le l st cs i
      show (frontier_Sweep_l2_f_0 (cntN l st cs i : Int) l (l.length : Int) (i : Int) st (lowN l st cs low i) (swN l st cs i), l, (l.length : Int), IntKind.i64.wrap ((i : Int) + 1), st, frontier_Sweep_l2_f_5 (cntN l st cs i : Int) l (l.length : Int) (i : Int) st (lowN l st cs low i) (swN l st cs i), frontier_Sweep_l2_f_6 (cntN l st cs i : Int) l (l.length : Int) (i : Int) st (lowN l st cs low i) (swN l st cs i)) = (((cntN l st cs (i + 1) : Nat) : Int), l, (l.length : Int), ((i + 1 : Nat) : Int), st, lowN l st cs low (i + 1), swN l st cs (i + 1))
      rw [wsucc (by omega)]
      unfold frontier_Sweep_l2_f_0 frontier_Sweep_l2_f_5 frontier_Sweep_l2_f_6
      rw [q1, q2, wsucc (by omega), Int.toNat_natCast]
      show _ = (((bif mN l st cs i then cntN l st cs i + 1 else cntN l st cs i : Nat) : Int), l, (l.length : Int), ((i + 1 : Nat) : Int), st, (bif mN l st cs i then vmax (lowN l st cs low i) (knownC (cellN cs i)) else lowN l st cs low i), (bif mN l st cs i then (swN l st cs i).set i zeroC else swN l st cs i))
      cases mN l st cs i <;> rfl)
    (fun i hi _ => by
      have hin : (!!decide ((i : Int) < (l.length : Int))) = true → (i : Int) < (l.length : Int) := fun h => by rw [nn] at h; exact of_decide_eq_true h
      have hlen := swN_len l st cs i
      exact needs_cons (fun h => ⟨by show (0 : Int) ≤ (i : Int); omega, hin h⟩) (needs_cons (fun h => ⟨by show (0 : Int) ≤ (i : Int); omega, by have := hin h; show (i : Int) < ((swN l st cs i).length : Int); omega⟩) (needs_cons (fun h _ => ⟨by show (0 : Int) ≤ (i : Int); omega, by have := hin h; show (i : Int) < ((swN l st cs i).length : Int); omega⟩) needs_nil)))
  have hkn : k = l.length := by
    rcases Nat.lt_or_ge k l.length with h | h
    · exact absurd (hst h) (by decide)
    · omega
  subst hkn
  exact ⟨h1, hx⟩

theorem sw_outer (l : List TGroup) (st : TVec) (rows : List TRow) (h0 : goodM l rows = 0) (hb : boundP (rows.length + 1)) :
    needX frontier_Sweep_l0_next frontier_Sweep_l0_goes frontier_Sweep_l0_ps (frontier_Sweep_l0_fuel (l, rows, (rows.length : Int), 0, st, ⟨0, 0⟩, [])) (l, rows, (rows.length : Int), 0, st, ⟨0, 0⟩, []) ∧
    frontier_Sweep_l0_run (l, rows, (rows.length : Int), 0, st, ⟨0, 0⟩, []) = (l, rows, (rows.length : Int), (rows.length : Int), st, lowO l st rows rows.length, outN l st rows rows.length) := by
  unfold boundP at hb
  obtain ⟨hp, hg⟩ := goodM_0.1 h0
  have h4 := (goodP_0 hp).2
  have hlen : ∀ i, i < rows.length → (rowN rows i).cells.length = l.length := fun i hi => (goodRow_0 (errM_0.1 (hg i hi)).1).2.1
  obtain ⟨h1, k, hk, hx, _, hst, _⟩ := scanB (fun i => (l, rows, (rows.length : Int), (i : Int), st, lowO l st rows i, outN l st rows i) : Nat → frontier_Sweep_l0_X) rows.length (fun _ => false) frontier_Sweep_l0_next frontier_Sweep_l0_goes frontier_Sweep_l0_ps (frontier_Sweep_l0_fuel (l, rows, (rows.length : Int), 0, st, ⟨0, 0⟩, [])) (l, rows, (rows.length : Int), 0, st, ⟨0, 0⟩, []) rfl (by show rows.length ≤ ((rows.length : Int) - 0).toNat; omega)
    (fun i _ _ => by
      show (!!decide ((i : Int) < (rows.length : Int))) = _
      rw [nn, dlt, Bool.not_false, Bool.and_true])
    (fun i hi _ => by
      have q := (sw_inner l st (lowO l st rows i) (rowN rows i).cells (hlen i hi) h4).2
      have q' : frontier_Sweep_l2_run ((0 : Int), l, (l.length : Int), (0 : Int), st, lowO l st rows i, [] ++ (rows.getD ((i : Int)).toNat (dflt TC.row)).2) = ((cntN l st (rowN rows i).cells l.length : Int), l, (l.length : Int), (l.length : Int), st, lowN l st (rowN rows i).cells (lowO l st rows i) l.length, swN l st (rowN rows i).cells l.length) := by rw [Int.toNat_natCast]; exact q
      show (l, rows, (rows.length : Int), IntKind.i64.wrap ((i : Int) + 1), frontier_Sweep_l0_f_4 l rows (rows.length : Int) (i : Int) st (lowO l st rows i) (outN l st rows i), frontier_Sweep_l0_f_5 l rows (rows.length : Int) (i : Int) st (lowO l st rows i) (outN l st rows i), frontier_Sweep_l0_f_6 l rows (rows.length : Int) (i : Int) st (lowO l st rows i) (outN l st rows i)) = (l, rows, (rows.length : Int), ((i + 1 : Nat) : Int), st, lowO l st rows (i + 1), outN l st rows (i + 1))
      rw [wsucc (by omega)]
      unfold frontier_Sweep_l0_f_4 frontier_Sweep_l0_f_5 frontier_Sweep_l0_f_6 frontier_Sweep_l0_f_k0
      rw [q', Int.toNat_natCast]
      show (l, rows, (rows.length : Int), ((i + 1 : Nat) : Int), TVec.mk (bif (cntN l st (rowN rows i).cells l.length : Int) == 0 then st.1 else st.1) (bif (cntN l st (rowN rows i).cells l.length : Int) == 0 then st.2 else st.2), TVec.mk (bif (cntN l st (rowN rows i).cells l.length : Int) == 0 then (lowO l st rows (i + 1)).1 else (lowO l st rows (i + 1)).1) (bif (cntN l st (rowN rows i).cells l.length : Int) == 0 then (lowO l st rows (i + 1)).2 else (lowO l st rows (i + 1)).2), (bif (cntN l st (rowN rows i).cells l.length : Int) == 0 then outN l st rows i else outN l st rows i ++ [swR l st (rowN rows i)])) = (l, rows, (rows.length : Int), ((i + 1 : Nat) : Int), st, lowO l st rows (i + 1), (bif !(cntN l st (rowN rows i).cells l.length == 0) then outN l st rows i ++ [swR l st (rowN rows i)] else outN l st rows i))
      rw [beq0i]
      cases cntN l st (rowN rows i).cells l.length == 0 <;> rfl)
    (fun i hi _ => by
      have hin : (!!decide ((i : Int) < (rows.length : Int))) = true → i < rows.length := fun h => by rw [nn] at h; have := of_decide_eq_true h; omega
      refine needs_cons (fun h => ⟨by show (0 : Int) ≤ (i : Int); omega, by have := hin h; show (i : Int) < (rows.length : Int); omega⟩) (needs_cons (fun h => ?_) (needs_cons (fun h => ?_) (needs_cons (fun h _ => ?_) needs_nil)))
      · have h9 := hlen i (hin h)
        have h8 : (rows.getD ((i : Int)).toNat (dflt TC.row)).2.length = l.length := by rw [Int.toNat_natCast]; exact h9
        show boundP (0 + (rows.getD ((i : Int)).toNat (dflt TC.row)).2.length)
        unfold boundP
        omega
      · have q := (sw_inner l st (lowO l st rows i) (rowN rows i).cells (hlen i (hin h)) h4).1
        have e : ((i : Int)).toNat = i := Int.toNat_natCast i
        show needX frontier_Sweep_l2_next frontier_Sweep_l2_goes frontier_Sweep_l2_ps (frontier_Sweep_l2_fuel ((0 : Int), l, (l.length : Int), (0 : Int), st, lowO l st rows i, [] ++ (rows.getD ((i : Int)).toNat (dflt TC.row)).2)) ((0 : Int), l, (l.length : Int), (0 : Int), st, lowO l st rows i, [] ++ (rows.getD ((i : Int)).toNat (dflt TC.row)).2)
        rw [e]
        exact q
      · have := out_len l st rows i (by have := hin h; omega)
        have := hin h
        show boundP ((outN l st rows i).length + 1)
        unfold boundP
        omega)
  have hkn : k = rows.length := by
    rcases Nat.lt_or_ge k rows.length with h | h
    · exact absurd (hst h) (by decide)
    · omega
  subst hkn
  exact ⟨h1, hx⟩

theorem frontier_Sweep_c2 (a0 : List TGroup) (a1 : List TRow) (a2 : TVec) (hp : ∀ p ∈ frontier_Sweep_ps2 a0 a1 a2, p) : CallOk Try.prog 47 [.sl .group a0, valA .rows a1, valA .vec a2] 0 [] 1 (frontier_Sweep_r2 a0 a1 a2) 1 (frontier_Sweep_o2 a0 a1 a2) := by
  have hb : boundP (a1.length + 1) := hp _ (List.mem_cons_self ..)
  have hb' := hb
  unfold boundP at hb'
  have h := frontier_Sweep_c a0 a1 a2 (needs_cons (by unfold wideN; omega) (needs_cons (fun h1 _ => by
    have h2 : (!(goodM a0 a1 != 0)) = true := h1
    exact (sw_outer a0 a2 a1 (by simpa using h2) hb).1) needs_nil))
  have e : frontier_Sweep_0 a0 a1 a2 = sweepL a0 a1 a2 ∧ frontier_Sweep_1 a0 a1 a2 = sweepE a0 a1 a2 ∧ frontier_Sweep_2 a0 a1 a2 = sweepO a0 a1 a2 := by
    unfold frontier_Sweep_0 frontier_Sweep_1 frontier_Sweep_2 frontier_Sweep_k0 sweepL sweepO
    rw [vec_Good_eq]
    cases hg : goodM a0 a1 != 0 with
    | true =>
      have he : sweepE a0 a1 a2 = goodM a0 a1 := by unfold sweepE; rw [hg]; rfl
      have hz : (sweepE a0 a1 a2 == 0) = false := by rw [he]; simpa using hg
      rw [hz, he]
      exact ⟨rfl, rfl, rfl⟩
    | false =>
      have h0 : goodM a0 a1 = 0 := by simpa using hg
      have he : sweepE a0 a1 a2 = bif goodV a2 then 0 else 2 := by unfold sweepE; rw [hg]; rfl
      rw [he, (sw_outer a0 a2 a1 h0 hb).2]
      cases goodV a2 <;> exact ⟨rfl, rfl, rfl⟩
  unfold frontier_Sweep_r frontier_Sweep_o at h
  rw [e.1, e.2.1, e.2.2] at h
  exact h

def frontier_Sweep_t : List A → Nat → Objs → Option CRes
  | [y0, y1, y2], nx, o => match argL .group y0, argU .rows y1, argU .vec y2 with
    | some a0, some (a1, p1), some (a2, p2) => some (1, (frontier_Sweep_r2 a0 a1 a2).pk (shiftR nx), nx + 1, shiftO nx (frontier_Sweep_o2 a0 a1 a2) ++ o, p1 ++ (p2 ++ (frontier_Sweep_ps2 a0 a1 a2)))
    | _, _, _ => none
  | _, _, _ => none

theorem frontier_Sweep_tok : TOk Try.prog 47 frontier_Sweep_t := fun args nx o k x nx' o' ps h => by
  unfold frontier_Sweep_t at h
  split at h <;> first | (cases h; done) | skip
  split at h <;> first | (cases h; done) | skip
  rename_i a0 a1 p1 a2 p2 e0 e1 e2
  cases h
  refine ⟨fun hp => ?_, _, rfl⟩
  have q1 := fun p hm => hp p (List.mem_append.2 (.inl hm))
  have r1 := fun p hm => hp p (List.mem_append.2 (.inr hm))
  have q2 := fun p hm => r1 p (List.mem_append.2 (.inl hm))
  have r2 := fun p hm => r1 p (List.mem_append.2 (.inr hm))
  refine callOk_args (callOk_shift (frontier_Sweep_c2 a0 a1 a2 r2) (Nat.le_refl _) (freeL_cons rfl (freeL_cons (valA_free _ _) (freeL_cons (valA_free _ _) freeL_nil))) nx o) fun F N R vs hl => ?_
  obtain ⟨v0, w0, rfl, h0, hl⟩ := hl.inv
  obtain ⟨v1, w1, rfl, h1, hl⟩ := hl.inv
  obtain ⟨v2, w2, rfl, h2, hl⟩ := hl.inv
  exact HL.cons (argL_ok e0 h0) (HL.cons (argU_ok e1 q1 h1) (HL.cons (argU_ok e2 q2 h2) (hl)))

noncomputable def Co_1 := addC 47 frontier_Sweep_t Cn

theorem Co_1_ok : COk Try.prog Co_1 := addC_ok frontier_Sweep_tok Cn_ok

noncomputable def Co := Co_1

theorem Co_ok : COk Try.prog Co := Co_1_ok

end Go.Proofs.Yteebobbhhgmeiaa

namespace Go.Proofs.Yteebobbhhgmeiaa

open Go.RowKit

abbrev l23_FrontierSeen_l0_X : Type := (List TGroup) × Int × (List TRow) × Int × Int × (List TRow)

def l23_FrontierSeen_l0_T (x : l23_FrontierSeen_l0_X) : St := ⟨93, 5, [(0, .sl .group x.1), (7, .sq 4), (10, .v (.int .i64 x.2.1)), (39, .sl .row x.2.2.1), (40, .v (.int .i64 x.2.2.2.1)), (41, .v (.int .i64 x.2.2.2.2.1))], [(4, some (.arr 71 2 (.ty .row x.2.2.2.2.2)))]⟩

def l23_FrontierSeen_l0_un : St → Option l23_FrontierSeen_l0_X
  | ⟨93, 5, [(0, .sl .group z0), (7, .sq 4), (10, .v (.int .i64 z1)), (39, .sl .row z2), (40, .v (.int .i64 z3)), (41, .v (.int .i64 z4))], [(4, some (.arr 71 2 (.ty .row z5)))]⟩ => some (z0, z1, z2, z3, z4, z5)
  | _ => none

theorem l23_FrontierSeen_l0_unok : ∀ s x, l23_FrontierSeen_l0_un s = some x → s = l23_FrontierSeen_l0_T x := fun s x h => by
  unfold l23_FrontierSeen_l0_un at h
  split at h
  · cases h; rfl
  · cases h

def l23_FrontierSeen_l0_S : Shape := ⟨4, 5, [0, 7, 10, 39, 40, 41], [], [(4, 4)], [4], [7, 10, 6], [4]⟩

def l23_FrontierSeen_l0_E : Entry := ⟨[], [(2, 4)], [0, 7, 10, 39, 40, 41], [2]⟩

def l23_FrontierSeen_l0_f_k1 (_a0 : List TGroup) (a1 : Int) (a2 : List TRow) (_a3 : Int) (a4 : Int) (a5 : List TRow) : Bool := decide (a1 ≥ (↑a5.length : Int)) || !(a5.getD a1.toNat (dflt TC.row)).1.toList == (a2.getD a4.toNat (dflt TC.row)).1.toList

def l23_FrontierSeen_l0_f_k0 (a0 : List TGroup) (a1 : Int) (a2 : List TRow) (a3 : Int) (a4 : Int) (a5 : List TRow) : Bool := !!decide (a4 < a3) && (!(l23_FrontierSeen_l0_f_k1 a0 a1 a2 a3 a4 a5) && (!viewB a0 (a2.getD a4.toNat (dflt TC.row)) == viewB a0 (a5.getD a1.toNat (dflt TC.row)) || !eqVw (TView.mk (viewK a0 (a2.getD a4.toNat (dflt TC.row))) (viewF a0 (a2.getD a4.toNat (dflt TC.row)))) (TView.mk (viewK a0 (a5.getD a1.toNat (dflt TC.row))) (viewF a0 (a5.getD a1.toNat (dflt TC.row))))))

def l23_FrontierSeen_l0_f_1 (a0 : List TGroup) (a1 : Int) (a2 : List TRow) (a3 : Int) (a4 : Int) (a5 : List TRow) : Int := bif (l23_FrontierSeen_l0_f_k1 a0 a1 a2 a3 a4 a5) then a1 else IntKind.i64.wrap (a1 + (1 : Int))

def l23_FrontierSeen_l0_f_5 (a0 : List TGroup) (a1 : Int) (a2 : List TRow) (a3 : Int) (a4 : Int) (a5 : List TRow) : List TRow := bif (l23_FrontierSeen_l0_f_k1 a0 a1 a2 a3 a4 a5) then a5 else a5

def l23_FrontierSeen_l0_f_6 (a0 : List TGroup) (a1 : Int) (a2 : List TRow) (a3 : Int) (a4 : Int) (a5 : List TRow) : Bool := !!decide (a4 < a3) && !(l23_FrontierSeen_l0_f_k0 a0 a1 a2 a3 a4 a5)

def l23_FrontierSeen_l0_f_16 (a0 : List TGroup) (a1 : Int) (a2 : List TRow) (a3 : Int) (a4 : Int) (a5 : List TRow) : Bool := (l23_FrontierSeen_l0_f_k0 a0 a1 a2 a3 a4 a5)

def l23_FrontierSeen_l0_next (x : l23_FrontierSeen_l0_X) : l23_FrontierSeen_l0_X := (x.1, l23_FrontierSeen_l0_f_1 x.1 x.2.1 x.2.2.1 x.2.2.2.1 x.2.2.2.2.1 x.2.2.2.2.2, x.2.2.1, x.2.2.2.1, IntKind.i64.wrap (x.2.2.2.2.1 + (1 : Int)), l23_FrontierSeen_l0_f_5 x.1 x.2.1 x.2.2.1 x.2.2.2.1 x.2.2.2.2.1 x.2.2.2.2.2)

def l23_FrontierSeen_l0_goes (x : l23_FrontierSeen_l0_X) : Cnd := some (l23_FrontierSeen_l0_f_6 x.1 x.2.1 x.2.2.1 x.2.2.2.1 x.2.2.2.2.1 x.2.2.2.2.2)

def l23_FrontierSeen_l0_psA (x : l23_FrontierSeen_l0_X) : List Prop := [((!!decide (x.2.2.2.2.1 < x.2.2.2.1)) = true → (0 : Int) ≤ x.2.2.2.2.1 ∧ x.2.2.2.2.1 < (↑x.2.2.1.length : Int)), ((!!decide (x.2.2.2.2.1 < x.2.2.2.1)) = true → decide (x.2.1 ≥ (↑x.2.2.2.2.2.length : Int)) = false → (0 : Int) ≤ x.2.1 ∧ x.2.1 < (↑x.2.2.2.2.2.length : Int)), ((!!decide (x.2.2.2.2.1 < x.2.2.2.1)) = true → decide (x.2.1 ≥ (↑x.2.2.2.2.2.length : Int)) = false → x.2.1.toNat < x.2.2.2.2.2.length), ((!!decide (x.2.2.2.2.1 < x.2.2.2.1)) = true → (!(l23_FrontierSeen_l0_f_k1 x.1 x.2.1 x.2.2.1 x.2.2.2.1 x.2.2.2.2.1 x.2.2.2.2.2)) = true → (0 : Int) ≤ x.2.1 ∧ x.2.1 < (↑x.2.2.2.2.2.length : Int)), ((!!decide (x.2.2.2.2.1 < x.2.2.2.1)) = true → (!(l23_FrontierSeen_l0_f_k1 x.1 x.2.1 x.2.2.1 x.2.2.2.1 x.2.2.2.2.1 x.2.2.2.2.2)) = true → x.2.1.toNat < x.2.2.2.2.2.length), ((!!decide (x.2.2.2.2.1 < x.2.2.2.1)) = true → (!(l23_FrontierSeen_l0_f_k1 x.1 x.2.1 x.2.2.1 x.2.2.2.1 x.2.2.2.2.1 x.2.2.2.2.2)) = true → (!viewB x.1 (x.2.2.1.getD x.2.2.2.2.1.toNat (dflt TC.row)) == viewB x.1 (x.2.2.2.2.2.getD x.2.1.toNat (dflt TC.row))) = false → wideN (viewF x.1 (x.2.2.1.getD x.2.2.2.2.1.toNat (dflt TC.row))).length)]

def l23_FrontierSeen_l0_ps (x : l23_FrontierSeen_l0_X) : List Prop := [((!!decide (x.2.2.2.2.1 < x.2.2.2.1)) = true → (0 : Int) ≤ x.2.2.2.2.1 ∧ x.2.2.2.2.1 < (↑x.2.2.1.length : Int)), ((!!decide (x.2.2.2.2.1 < x.2.2.2.1)) = true → decide (x.2.1 ≥ (↑x.2.2.2.2.2.length : Int)) = false → (0 : Int) ≤ x.2.1 ∧ x.2.1 < (↑x.2.2.2.2.2.length : Int)), ((!!decide (x.2.2.2.2.1 < x.2.2.2.1)) = true → (!(l23_FrontierSeen_l0_f_k1 x.1 x.2.1 x.2.2.1 x.2.2.2.1 x.2.2.2.2.1 x.2.2.2.2.2)) = true → (0 : Int) ≤ x.2.1 ∧ x.2.1 < (↑x.2.2.2.2.2.length : Int)), ((!!decide (x.2.2.2.2.1 < x.2.2.2.1)) = true → (!(l23_FrontierSeen_l0_f_k1 x.1 x.2.1 x.2.2.1 x.2.2.2.1 x.2.2.2.2.1 x.2.2.2.2.2)) = true → (!viewB x.1 (x.2.2.1.getD x.2.2.2.2.1.toNat (dflt TC.row)) == viewB x.1 (x.2.2.2.2.2.getD x.2.1.toNat (dflt TC.row))) = false → wideN (viewF x.1 (x.2.2.1.getD x.2.2.2.2.1.toNat (dflt TC.row))).length)]

def l23_FrontierSeen_l0_outs (x : l23_FrontierSeen_l0_X) : Outs := [(some 0, some (!decide (x.2.2.2.2.1 < x.2.2.2.1)), ⟨93, 5, [(7, .sq 4), (10, .v (.int .i64 x.2.1)), (6, .dead)], [(4, some (.arr 71 2 (.ty .row x.2.2.2.2.2)))]⟩), (none, some (l23_FrontierSeen_l0_f_16 x.1 x.2.1 x.2.2.1 x.2.2.2.1 x.2.2.2.2.1 x.2.2.2.2.2), ⟨93, 10, [(7, .sq 4), (10, .v (.int .i64 x.2.1)), (6, .v (.bool (false)))], [(4, some (.arr 71 2 (.ty .row x.2.2.2.2.2)))]⟩)]

def l23_FrontierSeen_l0_fuel (x : l23_FrontierSeen_l0_X) : Nat := (x.2.2.2.1 - x.2.2.2.2.1).toNat

def l23_FrontierSeen_l0_run (x : l23_FrontierSeen_l0_X) : l23_FrontierSeen_l0_X := iterX l23_FrontierSeen_l0_next l23_FrontierSeen_l0_goes (l23_FrontierSeen_l0_fuel x) x

set_option maxRecDepth 100000 in
theorem l23_FrontierSeen_l0_ev (a0 : List TGroup) (a1 : Int) (a2 : List TRow) (a3 : Int) (a4 : Int) (a5 : List TRow) : roundE (envT Co L0) 9 (loopAt Try.prog 12 0) l23_FrontierSeen_l0_S (l23_FrontierSeen_l0_T (a0, a1, a2, a3, a4, a5)) = some (l23_FrontierSeen_l0_psA (a0, a1, a2, a3, a4, a5), l23_FrontierSeen_l0_outs (a0, a1, a2, a3, a4, a5), l23_FrontierSeen_l0_goes (a0, a1, a2, a3, a4, a5), l23_FrontierSeen_l0_T (l23_FrontierSeen_l0_next (a0, a1, a2, a3, a4, a5))) := by kernel_rfl

set_option maxRecDepth 100000 in
theorem l23_FrontierSeen_l0_hA (a0 : List TGroup) (a1 : Int) (a2 : List TRow) (a3 : Int) (a4 : Int) (a5 : List TRow) (hp : ∀ p ∈ l23_FrontierSeen_l0_ps (a0, a1, a2, a3, a4, a5), p) : ∀ p ∈ l23_FrontierSeen_l0_psA (a0, a1, a2, a3, a4, a5), p := by
  have n0 : ((!!decide (a4 < a3)) = true → (0 : Int) ≤ a4 ∧ a4 < (↑a2.length : Int)) := hp _ (List.mem_cons_self ..)
  have n1 : ((!!decide (a4 < a3)) = true → decide (a1 ≥ (↑a5.length : Int)) = false → (0 : Int) ≤ a1 ∧ a1 < (↑a5.length : Int)) := hp _ (List.mem_cons_of_mem _ (List.mem_cons_self ..))
  have n2 : ((!!decide (a4 < a3)) = true → decide (a1 ≥ (↑a5.length : Int)) = false → a1.toNat < a5.length) := by intro h0 h1; have g := n1 h0 h1; omega
  have n3 : ((!!decide (a4 < a3)) = true → (!(l23_FrontierSeen_l0_f_k1 a0 a1 a2 a3 a4 a5)) = true → (0 : Int) ≤ a1 ∧ a1 < (↑a5.length : Int)) := hp _ (List.mem_cons_of_mem _ (List.mem_cons_of_mem _ (List.mem_cons_self ..)))
  have n4 : ((!!decide (a4 < a3)) = true → (!(l23_FrontierSeen_l0_f_k1 a0 a1 a2 a3 a4 a5)) = true → a1.toNat < a5.length) := by intro h0 h1; have g := n3 h0 h1; omega
  have n5 : ((!!decide (a4 < a3)) = true → (!(l23_FrontierSeen_l0_f_k1 a0 a1 a2 a3 a4 a5)) = true → (!viewB a0 (a2.getD a4.toNat (dflt TC.row)) == viewB a0 (a5.getD a1.toNat (dflt TC.row))) = false → wideN (viewF a0 (a2.getD a4.toNat (dflt TC.row))).length) := hp _ (List.mem_cons_of_mem _ (List.mem_cons_of_mem _ (List.mem_cons_of_mem _ (List.mem_cons_self ..))))
  exact (needs_cons n0 (needs_cons n1 (needs_cons n2 (needs_cons n3 (needs_cons n4 (needs_cons n5 needs_nil))))))

noncomputable def l23_FrontierSeen_l0_row := rowL (envT Co L0) (loopAt Try.prog 12 0) l23_FrontierSeen_l0_S l23_FrontierSeen_l0_E l23_FrontierSeen_l0_un l23_FrontierSeen_l0_fuel l23_FrontierSeen_l0_next l23_FrontierSeen_l0_goes l23_FrontierSeen_l0_ps l23_FrontierSeen_l0_outs

theorem l23_FrontierSeen_l0_rok : ∀ s b ps outs, l23_FrontierSeen_l0_row s = some (b, ps, outs) → Wf s ⟨ps, outs, none⟩ ∧ LoopOk (envT C0 L0) b s ps outs :=
  rowP_ok (T := l23_FrontierSeen_l0_T) Co_ok L0_ok (u := 9) (by kernel_rfl) (by decide) (fun ⟨a0, a1, a2, a3, a4, a5⟩ => l23_FrontierSeen_l0_ev a0 a1 a2 a3 a4 a5) (fun ⟨a0, a1, a2, a3, a4, a5⟩ => l23_FrontierSeen_l0_hA a0 a1 a2 a3 a4 a5) l23_FrontierSeen_l0_unok (fun _ => okOuts_ok (n := 93) rfl) fun _ _ => rfl

noncomputable def l23_FrontierSeen_l0_L := addLp 0 l23_FrontierSeen_l0_row L0

theorem l23_FrontierSeen_l0_Lok : LpOk l23_FrontierSeen_l0_L := addLp_ok l23_FrontierSeen_l0_rok L0_ok

def l23_FrontierSeen_k4 (a0 : List TGroup) (a1 : List TRow) (_a2 : TVec) : Bool := !l13_Light_0 a0 [] [a1]

def l23_FrontierSeen_k3 (a0 : List TGroup) (a1 : List TRow) (a2 : TVec) : Bool := sweepE a0 a1 a2 != (0 : Int)

def l23_FrontierSeen_k2 (a0 : List TGroup) (a1 : List TRow) (a2 : TVec) : l23_FrontierSeen_l0_X := l23_FrontierSeen_l0_run (a0, (0 : Int), a1, (↑a1.length : Int), (0 : Int), sweepO a0 a1 a2)

def l23_FrontierSeen_k1 (a0 : List TGroup) (a1 : List TRow) (a2 : TVec) : Int := (l23_FrontierSeen_k2 a0 a1 a2).snd.fst

def l23_FrontierSeen_k0 (a0 : List TGroup) (a1 : List TRow) (a2 : TVec) : List TRow := (l23_FrontierSeen_k2 a0 a1 a2).snd.snd.snd.snd.snd

def l23_FrontierSeen_0 (a0 : List TGroup) (a1 : List TRow) (a2 : TVec) : Bool := bif (l23_FrontierSeen_k4 a0 a1 a2) then true else bif (l23_FrontierSeen_k3 a0 a1 a2) then (↑(sweepO a0 a1 a2).length : Int) == (0 : Int) && true else bif l23_FrontierSeen_l0_f_16 (l23_FrontierSeen_k2 a0 a1 a2).fst (l23_FrontierSeen_k1 a0 a1 a2) (l23_FrontierSeen_k2 a0 a1 a2).snd.snd.fst (l23_FrontierSeen_k2 a0 a1 a2).snd.snd.snd.fst (l23_FrontierSeen_k2 a0 a1 a2).snd.snd.snd.snd.fst (l23_FrontierSeen_k0 a0 a1 a2) then false else (l23_FrontierSeen_k1 a0 a1 a2) == (↑(l23_FrontierSeen_k0 a0 a1 a2).length : Int) && true

def l23_FrontierSeen_r (a0 : List TGroup) (a1 : List TRow) (a2 : TVec) : A := .v (.bool (l23_FrontierSeen_0 a0 a1 a2))

def l23_FrontierSeen_o (_a0 : List TGroup) (_a1 : List TRow) (_a2 : TVec) : Objs := []

def l23_FrontierSeen_ps (a0 : List TGroup) (a1 : List TRow) (a2 : TVec) : List Prop := [(wideN a0.length ∧ (wideN (0 : Nat) ∧ ∀ (c : TChange), c ∈ [] → wideCh c) ∧ wideN (1 : Nat) ∧ ∀ (x : List TRow), x ∈ [a1] → wideN x.length ∧ ∀ (r : TRow), r ∈ x → wideR r), ((!(l23_FrontierSeen_k4 a0 a1 a2)) = true → boundP (a1.length + (1 : Nat))), ((!(l23_FrontierSeen_k4 a0 a1 a2)) = true → (!(l23_FrontierSeen_k3 a0 a1 a2)) = true → needX l23_FrontierSeen_l0_next l23_FrontierSeen_l0_goes l23_FrontierSeen_l0_ps (l23_FrontierSeen_l0_fuel (a0, (0 : Int), a1, (↑a1.length : Int), (0 : Int), sweepO a0 a1 a2)) (a0, (0 : Int), a1, (↑a1.length : Int), (0 : Int), sweepO a0 a1 a2))]

set_option maxRecDepth 100000 in
theorem l23_FrontierSeen_ev (a0 : List TGroup) (a1 : List TRow) (a2 : TVec) : evF (envT Co l23_FrontierSeen_l0_L) 9 12 [.sl .group a0, valA .rows a1, valA .vec a2] 0 [] = some (1, l23_FrontierSeen_r a0 a1 a2, 0, l23_FrontierSeen_o a0 a1 a2, [(wideN a0.length ∧ (wideN (0 : Nat) ∧ ∀ (c : TChange), c ∈ [] → wideCh c) ∧ wideN (1 : Nat) ∧ ∀ (x : List TRow), x ∈ [a1] → wideN x.length ∧ ∀ (r : TRow), r ∈ x → wideR r), ((!(l23_FrontierSeen_k4 a0 a1 a2)) = true → boundP (a1.length + (1 : Nat))), ((!(l23_FrontierSeen_k4 a0 a1 a2)) = true → (!(l23_FrontierSeen_k3 a0 a1 a2)) = true → loopAt Try.prog (12 : FuncId) (0 : Nat) = loopAt Try.prog (12 : FuncId) (0 : Nat)), ((!(l23_FrontierSeen_k4 a0 a1 a2)) = true → (!(l23_FrontierSeen_k3 a0 a1 a2)) = true → needX l23_FrontierSeen_l0_next l23_FrontierSeen_l0_goes l23_FrontierSeen_l0_ps (l23_FrontierSeen_l0_fuel (a0, (0 : Int), a1, (↑a1.length : Int), (0 : Int), sweepO a0 a1 a2)) (a0, (0 : Int), a1, (↑a1.length : Int), (0 : Int), sweepO a0 a1 a2))]) := by kernel_rfl

set_option maxRecDepth 100000 in
theorem l23_FrontierSeen_c (a0 : List TGroup) (a1 : List TRow) (a2 : TVec) (hp : ∀ p ∈ l23_FrontierSeen_ps a0 a1 a2, p) : CallOk Try.prog 12 [.sl .group a0, valA .rows a1, valA .vec a2] 0 [] 1 (l23_FrontierSeen_r a0 a1 a2) 0 (l23_FrontierSeen_o a0 a1 a2) := by
  have n0 : (wideN a0.length ∧ (wideN (0 : Nat) ∧ ∀ (c : TChange), c ∈ [] → wideCh c) ∧ wideN (1 : Nat) ∧ ∀ (x : List TRow), x ∈ [a1] → wideN x.length ∧ ∀ (r : TRow), r ∈ x → wideR r) := hp _ (List.mem_cons_self ..)
  have n1 : ((!(l23_FrontierSeen_k4 a0 a1 a2)) = true → boundP (a1.length + (1 : Nat))) := hp _ (List.mem_cons_of_mem _ (List.mem_cons_self ..))
  have n2 : ((!(l23_FrontierSeen_k4 a0 a1 a2)) = true → (!(l23_FrontierSeen_k3 a0 a1 a2)) = true → loopAt Try.prog (12 : FuncId) (0 : Nat) = loopAt Try.prog (12 : FuncId) (0 : Nat)) := by intros; rfl
  have n3 : ((!(l23_FrontierSeen_k4 a0 a1 a2)) = true → (!(l23_FrontierSeen_k3 a0 a1 a2)) = true → needX l23_FrontierSeen_l0_next l23_FrontierSeen_l0_goes l23_FrontierSeen_l0_ps (l23_FrontierSeen_l0_fuel (a0, (0 : Int), a1, (↑a1.length : Int), (0 : Int), sweepO a0 a1 a2)) (a0, (0 : Int), a1, (↑a1.length : Int), (0 : Int), sweepO a0 a1 a2)) := hp _ (List.mem_cons_of_mem _ (List.mem_cons_of_mem _ (List.mem_cons_self ..)))
  exact evF_ok (envP_ok Co_ok l23_FrontierSeen_l0_Lok) (l23_FrontierSeen_ev a0 a1 a2) (needs_cons n0 (needs_cons n1 (needs_cons n2 (needs_cons n3 needs_nil))))

end Go.Proofs.Yteebobbhhgmeiaa

namespace Go.Proofs.Yteebobbhhgmeiaa

open Go.RowKit

theorem hit_eq (k n : Nat) (x y : ByteArray) : (decide ((k : Int) ≥ (n : Int)) || !(x.toList == y.toList)) = !(decide (k < n) && (x == y)) := by
  rw [tlb, Bool.not_and]
  congr 1
  rw [← decide_not]
  exact decide_eq_decide.2 (by omega)

theorem fs_loop (l : List TGroup) (st : TVec) (rows : List TRow) (h0 : goodM l rows = 0) (hb : rows.length ≤ 6000) :
    needX l23_FrontierSeen_l0_next l23_FrontierSeen_l0_goes l23_FrontierSeen_l0_ps (l23_FrontierSeen_l0_fuel (l, 0, rows, (rows.length : Int), 0, outN l st rows rows.length)) (l, 0, rows, (rows.length : Int), 0, outN l st rows rows.length) ∧
    l23_FrontierSeen_l0_run (l, 0, rows, (rows.length : Int), 0, outN l st rows rows.length) = (l, ((outN l st rows rows.length).length : Int), rows, (rows.length : Int), (rows.length : Int), outN l st rows rows.length) := by
  obtain ⟨hp, hg⟩ := goodM_0.1 h0
  have h4 := (goodP_0 hp).2
  have hr := rise_of hg
  have hk1 : ∀ i, i < rows.length → l23_FrontierSeen_l0_f_k1 l ((outN l st rows i).length : Int) rows (rows.length : Int) (i : Int) (outN l st rows rows.length) = !someR l st (rowN rows i) := fun i hi => by
    unfold l23_FrontierSeen_l0_f_k1
    rw [hit_eq, Int.toNat_natCast, Int.toNat_natCast]
    exact congrArg _ (out_hit hr hi).1
  have hk0 : ∀ i, i < rows.length → l23_FrontierSeen_l0_f_k0 l ((outN l st rows i).length : Int) rows (rows.length : Int) (i : Int) (outN l st rows rows.length) = false := fun i hi => by
    unfold l23_FrontierSeen_l0_f_k0
    rw [hk1 i hi, Int.toNat_natCast, Int.toNat_natCast]
    cases hs : someR l st (rowN rows i) with
    | false => rw [Bool.not_false, Bool.not_true, Bool.false_and, Bool.and_false]
    | true =>
      have e : (outN l st rows rows.length).getD (outN l st rows i).length (dflt TC.row) = swR l st (rowN rows i) := (out_hit hr hi).2 hs
      obtain ⟨v1, v2, v3⟩ := swR_view (st := st) (errM_0.1 (hg i hi)).1
      rw [e, v1, v2, v3]
      have e1 : (viewB l (rows.getD i (dflt TC.row)) == viewB l (rowN rows i)) = true := beq_self_eq_true _
      have e2 : eqVw (TView.mk (viewK l (rows.getD i (dflt TC.row))) (viewF l (rows.getD i (dflt TC.row)))) (TView.mk (viewK l (rowN rows i)) (viewF l (rowN rows i))) = true := eqVw_iff.2 rfl
      rw [e1, e2, Bool.not_true, Bool.or_false, Bool.and_false, Bool.and_false]
  obtain ⟨h1, k, hk, hx, _, hst, _⟩ := scanB (fun i => (l, ((outN l st rows i).length : Int), rows, (rows.length : Int), (i : Int), outN l st rows rows.length) : Nat → l23_FrontierSeen_l0_X) rows.length (fun _ => false) l23_FrontierSeen_l0_next l23_FrontierSeen_l0_goes l23_FrontierSeen_l0_ps (l23_FrontierSeen_l0_fuel (l, 0, rows, (rows.length : Int), 0, outN l st rows rows.length)) (l, 0, rows, (rows.length : Int), 0, outN l st rows rows.length) rfl (by show rows.length ≤ ((rows.length : Int) - 0).toNat; omega)
    (fun i hi _ => by
      show (!!decide ((i : Int) < (rows.length : Int)) && !l23_FrontierSeen_l0_f_k0 l ((outN l st rows i).length : Int) rows (rows.length : Int) (i : Int) (outN l st rows rows.length)) = _
      rw [nn, dlt]
      rcases Nat.lt_or_ge i rows.length with h | h
      · rw [hk0 i h]
      · rw [decide_eq_false (by omega), Bool.false_and, Bool.false_and])
    (fun i hi _ => by
      have hlen := out_len l st rows i (by omega)
      show (l, l23_FrontierSeen_l0_f_1 l ((outN l st rows i).length : Int) rows (rows.length : Int) (i : Int) (outN l st rows rows.length), rows, (rows.length : Int), IntKind.i64.wrap ((i : Int) + 1), l23_FrontierSeen_l0_f_5 l ((outN l st rows i).length : Int) rows (rows.length : Int) (i : Int) (outN l st rows rows.length)) = (l, ((outN l st rows (i + 1)).length : Int), rows, (rows.length : Int), ((i + 1 : Nat) : Int), outN l st rows rows.length)
      unfold l23_FrontierSeen_l0_f_1 l23_FrontierSeen_l0_f_5
      rw [hk1 i hi, wsucc (by omega), wsucc (by omega)]
      show _ = (l, ((bif someR l st (rowN rows i) then outN l st rows i ++ [swR l st (rowN rows i)] else outN l st rows i).length : Int), rows, (rows.length : Int), ((i + 1 : Nat) : Int), outN l st rows rows.length)
      cases someR l st (rowN rows i) with
      | false => rfl
      | true => rw [cond_true, List.length_append]; rfl)
    (fun i hi _ => by
      have hin : (!!decide ((i : Int) < (rows.length : Int))) = true → i < rows.length := fun h => by rw [nn] at h; have := of_decide_eq_true h; omega
      have hbd : decide (((outN l st rows i).length : Int) ≥ ((outN l st rows rows.length).length : Int)) = false → (0 : Int) ≤ ((outN l st rows i).length : Int) ∧ ((outN l st rows i).length : Int) < ((outN l st rows rows.length).length : Int) := fun h => by
        have := of_decide_eq_false h
        omega
      refine needs_cons (fun h => ⟨by show (0 : Int) ≤ (i : Int); omega, by have := hin h; show (i : Int) < (rows.length : Int); omega⟩) (needs_cons (fun _ h => hbd h) (needs_cons (fun _ h => ?_) (needs_cons (fun _ _ _ => ?_) needs_nil)))
      · have h' : (!(decide (((outN l st rows i).length : Int) ≥ ((outN l st rows rows.length).length : Int)) || !(((outN l st rows rows.length).getD ((outN l st rows i).length : Int).toNat (dflt TC.row)).1.toList == (rows.getD ((i : Int)).toNat (dflt TC.row)).1.toList))) = true := h
        rw [Bool.not_or, Bool.and_eq_true, Bool.not_eq_true'] at h'
        exact hbd h'.1
      · have h3 : (viewF l (rows.getD ((i : Int)).toNat (dflt TC.row))).length ≤ l.length := by
          unfold viewF
          cases viewB l (rows.getD ((i : Int)).toNat (dflt TC.row)) with
          | true => exact fieldsN_len _ _ _
          | false => exact Nat.zero_le _
        show (viewF l (rows.getD ((i : Int)).toNat (dflt TC.row))).length ≤ 9223372036854775807
        omega)
  have hkn : k = rows.length := by
    rcases Nat.lt_or_ge k rows.length with h | h
    · exact absurd (hst h) (by decide)
    · omega
  subst hkn
  exact ⟨h1, hx⟩

theorem wideRs {a1 : List TRow} (w1 : a1.length ≤ maxLen ∧ ∀ y ∈ a1, Wfd .row y) : ∀ x ∈ [a1], wideN x.length ∧ ∀ r ∈ x, wideR r := fun x hx => by
  rw [List.mem_singleton.1 hx]
  exact ⟨w1.1, fun r hr => ⟨(w1.2 r hr).1, (w1.2 r hr).2.1, fun c hc => ((w1.2 r hr).2.2 c hc).2.2.2.1⟩⟩

theorem fs_true (a0 : List TGroup) (a1 : List TRow) (a2 : TVec) (w0 : a0.length ≤ maxLen ∧ ∀ y ∈ a0, Wfd .group y) (w1 : a1.length ≤ maxLen ∧ ∀ y ∈ a1, Wfd .row y) : (∀ p ∈ l23_FrontierSeen_ps a0 a1 a2, p) ∧ l23_FrontierSeen_0 a0 a1 a2 = true := by
  have hw : wideN a0.length ∧ (wideN (0 : Nat) ∧ ∀ c ∈ ([] : List TChange), wideCh c) ∧ wideN (1 : Nat) ∧ ∀ x ∈ [a1], wideN x.length ∧ ∀ r ∈ x, wideR r :=
    ⟨w0.1, ⟨by unfold wideN; omega, fun c hc => by cases hc⟩, by unfold wideN; omega, wideRs w1⟩
  have hlt : (!(l23_FrontierSeen_k4 a0 a1 a2)) = true → a1.length ≤ 6000 := fun h => by
    unfold l23_FrontierSeen_k4 at h
    rw [Bool.not_not] at h
    exact (((light13_eq a0 [] [a1] hw.1 hw.2.1 hw.2.2.1 hw.2.2.2).2 h).2.2 a1 (List.mem_singleton.2 rfl)).1
  have hsw : sweepE a0 a1 a2 = 0 → sweepO a0 a1 a2 = outN a0 a2 a1 a1.length := fun h => by
    unfold sweepO
    rw [h]
    rfl
  have hz : (!(l23_FrontierSeen_k3 a0 a1 a2)) = true → sweepE a0 a1 a2 = 0 := fun h => by
    unfold l23_FrontierSeen_k3 at h
    simpa using h
  refine ⟨needs_cons hw (needs_cons (fun h => by have := hlt h; unfold boundP; omega) (needs_cons (fun h g => ?_) needs_nil)), ?_⟩
  · have e := hz g
    rw [hsw e]
    exact (fs_loop a0 a2 a1 (sweepE_0.1 e).1 (hlt h)).1
  · unfold l23_FrontierSeen_0
    cases h4 : l23_FrontierSeen_k4 a0 a1 a2 with
    | true => rfl
    | false =>
      rw [cond_false]
      cases h3 : l23_FrontierSeen_k3 a0 a1 a2 with
      | true =>
        have he : (sweepE a0 a1 a2 == 0) = false := by
          unfold l23_FrontierSeen_k3 at h3
          simpa using h3
        have : sweepO a0 a1 a2 = [] := by unfold sweepO; rw [he]; rfl
        rw [this]
        rfl
      | false =>
        have e := hz (by rw [h3]; rfl)
        have q := (fs_loop a0 a2 a1 (sweepE_0.1 e).1 (hlt (by rw [h4]; rfl))).2
        have q2 : l23_FrontierSeen_k2 a0 a1 a2 = (a0, ((outN a0 a2 a1 a1.length).length : Int), a1, (a1.length : Int), (a1.length : Int), outN a0 a2 a1 a1.length) := by
          unfold l23_FrontierSeen_k2
          rw [hsw e]
          exact q
        unfold l23_FrontierSeen_k1 l23_FrontierSeen_k0
        rw [q2]
        show (bif l23_FrontierSeen_l0_f_k0 a0 ((outN a0 a2 a1 a1.length).length : Int) a1 (a1.length : Int) (a1.length : Int) (outN a0 a2 a1 a1.length) then false else ((outN a0 a2 a1 a1.length).length : Int) == ((outN a0 a2 a1 a1.length).length : Int) && true) = true
        unfold l23_FrontierSeen_l0_f_k0
        rw [nn, dlt, decide_eq_false (Nat.lt_irrefl _), Bool.false_and, cond_false, Bool.and_true]
        exact beq_self_eq_true _

end Go.Proofs.Yteebobbhhgmeiaa

namespace Go.Proofs.Yteebobbhhgmeiaa

open Go.RowKit

set_option maxRecDepth 100000

theorem op3 : Opn Try.prog .i64 3 := opn_i64 Try.underlying3

theorem op4 : Opn Try.prog .bool 4 := opn_bool Try.underlying4

theorem op9 : Opn Try.prog .str 9 := opn_str Try.underlying9

theorem op31 : Opn Try.prog .vec 31 := fun en w base spare held m cs y h => by
  obtain ⟨xs, n, _, _, hl, hz, hg⟩ := DataW.trod_array Try.underlying31 h
  have hl : cs.length = 2 := hl.trans (by kernel_rfl)
  obtain ⟨x0, w0, g0⟩ := arrO (i := 0) (k := 1) op3 (by kernel_rfl) (by omega) (by omega) hg
  obtain ⟨x1, w1, g1⟩ := arrO (i := 1) (k := 1) op3 (by kernel_rfl) (by omega) (by omega) hg
  exact ⟨⟨x0, x1⟩, ⟨w0, w1⟩, fun F N nx hF => HLd (o := 0) (k := 1) (g0 F N nx hF) (HLd (o := 1) (k := 1) (g1 F N nx hF) (HLe (o := 2) hl))⟩

theorem op51 : Opn Try.prog .stamp 51 := fun en w base spare held m cs y h => by
  obtain ⟨xs, n, _, _, hl, hz, hg⟩ := DataW.trod_struct Try.underlying51 h
  have hz : xs.length = 2 := hz
  have hl : cs.length = 2 := hl.trans (by kernel_rfl)
  obtain ⟨x0, w0, g0⟩ := fldO (i := 0) (o := 0) (k := 1) op3 rfl rfl rfl (by kernel_rfl) (by omega) hg
  obtain ⟨x1, w1, g1⟩ := fldO (i := 1) (o := 1) (k := 1) op3 rfl rfl rfl (by kernel_rfl) (by omega) hg
  exact ⟨⟨x0, x1⟩, ⟨w0, w1⟩, fun F N nx hF => HLd (o := 0) (k := 1) (g0 F N nx hF) (HLd (o := 1) (k := 1) (g1 F N nx hF) (HLe (o := 2) hl))⟩

theorem op55 : Opn Try.prog .cell 55 := fun en w base spare held m cs y h => by
  obtain ⟨xs, n, _, _, hl, hz, hg⟩ := DataW.trod_struct Try.underlying55 h
  have hz : xs.length = 5 := hz
  have hl : cs.length = 8 := hl.trans (by kernel_rfl)
  obtain ⟨x0, w0, g0⟩ := fldO (i := 0) (o := 0) (k := 2) op51 rfl rfl rfl (by kernel_rfl) (by omega) hg
  obtain ⟨x1, w1, g1⟩ := fldO (i := 1) (o := 2) (k := 2) op31 rfl rfl rfl (by kernel_rfl) (by omega) hg
  obtain ⟨x2, w2, g2⟩ := fldO (i := 2) (o := 4) (k := 1) op4 rfl rfl rfl (by kernel_rfl) (by omega) hg
  obtain ⟨x3, w3, g3⟩ := fldO (i := 3) (o := 5) (k := 1) op9 rfl rfl rfl (by kernel_rfl) (by omega) hg
  obtain ⟨x4, w4, g4⟩ := fldO (i := 4) (o := 6) (k := 2) op31 rfl rfl rfl (by kernel_rfl) (by omega) hg
  exact ⟨⟨x0, x1, x2, x3, x4⟩, ⟨w0, w1, w2, w3, w4⟩, fun F N nx hF => HLd (o := 0) (k := 2) (g0 F N nx hF) (HLd (o := 2) (k := 2) (g1 F N nx hF) (HLd (o := 4) (k := 1) (g2 F N nx hF) (HLd (o := 5) (k := 1) (g3 F N nx hF) (HLd (o := 6) (k := 2) (g4 F N nx hF) (HLe (o := 8) hl)))))⟩

theorem op79 : Opn Try.prog .group 79 := fun en w base spare held m cs y h => by
  obtain ⟨xs, n, _, _, hl, hz, hg⟩ := DataW.trod_struct Try.underlying79 h
  have hz : xs.length = 2 := hz
  have hl : cs.length = 2 := hl.trans (by kernel_rfl)
  obtain ⟨x0, w0, g0⟩ := fldO (i := 0) (o := 0) (k := 1) op9 rfl rfl rfl (by kernel_rfl) (by omega) hg
  obtain ⟨x1, w1, g1⟩ := fldO (i := 1) (o := 1) (k := 1) op3 rfl rfl rfl (by kernel_rfl) (by omega) hg
  exact ⟨⟨x0, x1⟩, ⟨w0, w1⟩, fun F N nx hF => HLd (o := 0) (k := 1) (g0 F N nx hF) (HLd (o := 1) (k := 1) (g1 F N nx hF) (HLe (o := 2) hl))⟩

theorem opL66 : OpnLs Try.prog .group 66 := opn_list Try.underlying66 (by kernel_rfl) op79

theorem opL69 : OpnLs Try.prog .cell 69 := opn_list Try.underlying69 (by kernel_rfl) op55

theorem op71 : Opn Try.prog .row 71 := fun en w base spare held m cs y h => by
  obtain ⟨xs, n, _, _, hl, hz, hg⟩ := DataW.trod_struct Try.underlying71 h
  have hz : xs.length = 2 := hz
  have hl : cs.length = 2 := hl.trans (by kernel_rfl)
  obtain ⟨x0, w0, g0⟩ := fldO (i := 0) (o := 0) (k := 1) op9 rfl rfl rfl (by kernel_rfl) (by omega) hg
  obtain ⟨x1, w1, g1⟩ := fldL (i := 1) (o := 1) (k := 1) opL69 rfl rfl rfl (by kernel_rfl) (by omega) hg
  exact ⟨⟨x0, x1⟩, ⟨w0, w1⟩, fun F N nx hF => HLd (o := 0) (k := 1) (g0 F N nx hF) (HLd (o := 1) (k := 1) (g1 F N nx hF) (HLe (o := 2) hl))⟩

theorem opL67 : OpnLs Try.prog .row 67 := opn_list Try.underlying67 (by kernel_rfl) op71

end Go.Proofs.Yteebobbhhgmeiaa

namespace Go.Proofs.Yteebobbhhgmeiaa

open Go.ChangeShapes Go.WideShapes Go.ChangeAt Go.RowKit

theorem own : ownKnob Try.prog.godebug = none := by kernel_rfl

theorem laidOut : laidOutB Try.prog = true := by kernel_rfl

section

variable {P : Program} {H : Type} {enc : TypeId × Value → H} {w : World} {base : Nat} {spare : Nat → Bool} {held : Bool} {v : Value} {d : DataW H} {p : List MemPlace}

theorem agg_of_array {r : Reach} {b0 : Nat} {t e : TypeId} {n : Nat} (hu : P.underlying t = some (.array n e)) (h : Value.okWide P w r b0 t v) : ∃ cs, v = .agg cs ∧ cs.size = P.cellsOf t := by
  unfold Value.okWide at h
  rw [hu] at h
  obtain ⟨cs, h1, h2, _⟩ := h
  exact ⟨cs, h1, h2⟩

end

/-- All arguments read behind the call as they read before it. -/
theorem below_trodAll {H : Type} {enc : TypeId × Value → H} {W W' : World} (hb : Below W.heap.size W W') : ∀ (ts : List TypeId) (vs : List Value) (ds : List (DataW H)) (ps : List MemPlace),
    (∀ t ∈ ts, Try.prog.readableRec t = true ∧ t < Try.prog.types.size) → DataW.TrodAll enc Try.prog W 0 (fun _ => true) true ts vs ds ps → (∀ x ∈ ps, x.block < W.heap.size) →
    DataW.TrodAll enc Try.prog W' 0 (fun b => decide (b < W.heap.size)) true ts vs ds ps
  | [], vs, ds, ps, _, h, _ => by
    obtain ⟨rfl, rfl, rfl⟩ := trodAll_nil h
    exact trodAll_mk0
  | t :: ts, vs, ds, ps, hr, h, hlt => by
    obtain ⟨v, vs', d, ds', p, q, rfl, rfl, rfl, h0, h1⟩ := trodAll_cons h
    exact trodAll_cons_mk (Below.trod laidOut (hr t (by simp)).1 (hr t (by simp)).2 h0 hb fun x hx => hlt x (by simp [hx]))
      (below_trodAll hb ts vs' ds' q (fun t' ht' => hr t' (by simp [ht'])) h1 fun x hx => hlt x (by simp [hx]))

section

variable {H : Type} {enc : TypeId × Value → H} {w : World} {base : Nat} {spare : Nat → Bool} {held : Bool} {v : Value} {d : DataW H} {p : List MemPlace}

end

end Go.Proofs.Yteebobbhhgmeiaa

namespace Go.Proofs.Yteebobbhhgmeiaa

open Go.RowKit Go.WideShapes Go.ChangeShapes

section

variable {H : Type} {en : TypeId × Value → H} {P : Program} {w : World} {base : Nat} {spare : Nat → Bool} {held : Bool} {t e : TypeId} {v : Value} {d : DataW H} {p : List MemPlace} {r : Reach} {b0 : Nat} {c : TC}

theorem arg_list (ht : P.underlying t = some (.slice e)) (ho : OpnLs P c t) (hv : Value.okWide P w r b0 t v) (h : DataW.Trod en P w base spare held t v d p) :
    ∃ l : List (U c), (l.length ≤ maxLen ∧ ∀ x ∈ l, Wfd c x) ∧ ∀ (F : Nat → Prop) (N : Nm) (nx : Nat), FB w F → Hv F N nx w (.sl c l) v := by
  obtain ⟨a, len, cap, rfl⟩ := okWide_slice ht hv
  obtain ⟨fuel, hf⟩ := h
  obtain ⟨l, h1, h2⟩ := ho en w base spare held fuel _ _ hf
  refine ⟨l, h1, fun F N nx hF => ?_⟩
  obtain ⟨y, ys, e, h3, _⟩ := (h2 F N nx hF).inv
  have e' : [Value.slice a len cap] = y :: ys := e
  cases e'
  exact h3

theorem arg_agg {cs : Array Value} (ho : Opn P c t) (ha : c.isAgg = true) (hv : v = .agg cs) (h : DataW.Trod en P w base spare held t v d p) :
    ∃ x : U c, Wfd c x ∧ ∀ (F : Nat → Prop) (N : Nm) (nx : Nat), FB w F → Hv F N nx w (valA c x) v := by
  subst hv
  obtain ⟨fuel, hf⟩ := h
  obtain ⟨x, h2, h3⟩ := ho en w base spare held fuel _ _ hf
  exact ⟨x, h2, fun F N nx hF => hl_agg (h3 F N nx hF) ha⟩

theorem arg_array {n : Nat} (ht : P.underlying t = some (.array n e)) (ho : Opn P c t) (ha : c.isAgg = true) (hv : Value.okWide P w r b0 t v) (h : DataW.Trod en P w base spare held t v d p) :
    ∃ x : U c, Wfd c x ∧ ∀ (F : Nat → Prop) (N : Nm) (nx : Nat), FB w F → Hv F N nx w (valA c x) v := by
  obtain ⟨cs, hcs, _⟩ := agg_of_array ht hv
  exact arg_agg ho ha hcs h

end

/-- A call from outside. -/
theorem call_top {P : Program} {f : FuncId} {args : List A} {nx' : Nat} {o' : Objs} {b : Bool} (h : CallOk P f args 0 [] 1 (.v (.bool b)) nx' o') (W : World) (vs : List Value) (ha : ∀ (F : Nat → Prop) (N : Nm) (nx : Nat), FB W F → HL F N nx W args vs) :
    Calls P f vs.toArray W fun e W' => e = .returned (.bool b) ∧ Below W.heap.size W W' := by
  have hr : HRel (fun b => b < W.heap.size) ⟨fun _ => 0, fun _ => .nilFunc⟩ 0 [] W := ⟨fun g hg => hg, fun i ob hi => (by cases hi), fun i ob g hi => (by cases hi), fun i j x y g hi => (by cases hi)⟩
  refine (h _ _ W vs hr (ha _ _ _ fun b hb => hb)).mono fun e W' ⟨y, F', N', he, _, _, hy, hb⟩ => ?_
  rw [hy.v_inv] at he
  exact ⟨he, hb (Nat.le_refl _)⟩

end Go.Proofs.Yteebobbhhgmeiaa

namespace Go.Proofs.Yteebobbhhgmeiaa.frontierSeen

open Go.ChangeShapes Go.WideShapes Go.ChangeAt Go.RowKit

set_option maxRecDepth 100000 in
theorem lifted (os : Os) (started : os.Started) (H : Type) (enc : TypeId × Value → H) :
    ReturnsInHanded {} Try.checked os 12 .any (Rows.frontierSeenSpec.pre6 enc Try.prog Try.f12 Rows.frontierSeenRow.domain false) (Rows.frontierSeenSpec.post enc Try.prog Try.f12 false true false false) := by
  refine returnsInHanded_of_change (C := Try.checked) own started (by kernel_rfl) Try.func12
    (ChangeSpec.witness6 (enc := enc) (C := Try.checked) false ⟨#[], #[.slice none 0 0, .slice none 0 0, .agg #[.int .i64 0, .int .i64 0]], []⟩ 8 (by kernel_rfl) (by kernel_rfl) (by kernel_rfl) (by kernel_rfl)) ?_
  intro W base args ds gs before hval0 hW hcnd _
  have hval : ∀ (j : Nat) t v, Try.f12.params[j]? = some t → args[j]? = some v → Value.okWide Try.prog W .any base t v := hval0
  have hW' := hW
  have hlt : ∀ x ∈ before, x.block < W.heap.size := fun x hx => hW.lt x hx
  obtain ⟨p, q, hA0, hV, rfl, hfz, hnd⟩ := hW
  have hA : DataW.TrodAll enc Try.prog W 0 (fun _ => true) true Try.f12.params.toList args.toList ds p := hA0
  rw [Try.params12] at hA hval
  have hA' := hA
  obtain ⟨v0, vs0, d0, ds0, p0, q0, hargs, rfl, rfl, h0, r0⟩ := trodAll_cons hA
  obtain ⟨v1, vs1, d1, ds1, p1, q1, rfl, rfl, rfl, h1, r1⟩ := trodAll_cons r0
  obtain ⟨v2, vs2, d2, ds2, p2, q2, rfl, rfl, rfl, h2, r2⟩ := trodAll_cons r1
  obtain ⟨rfl, rfl, rfl⟩ := trodAll_nil r2
  obtain rfl : args = #[v0, v1, v2] := by cases args; simp_all
  obtain ⟨rfl, rfl⟩ := trodVars_none hV
  obtain ⟨a0, w0, g0⟩ := arg_list Try.underlying66 opL66 (hval 0 66 v0 rfl rfl) h0
  obtain ⟨a1, w1, g1⟩ := arg_list Try.underlying67 opL67 (hval 1 67 v1 rfl rfl) h1
  obtain ⟨a2, w2, g2⟩ := arg_array Try.underlying31 op31 rfl (hval 2 31 v2 rfl rfl) h2
  obtain ⟨hn, ht⟩ := fs_true a0 a1 a2 w0 w1
  have hc := l23_FrontierSeen_c a0 a1 a2 hn
  have hr : l23_FrontierSeen_r a0 a1 a2 = .v (.bool true) := by show A.v (.bool (l23_FrontierSeen_0 a0 a1 a2)) = _; rw [ht]
  rw [hr] at hc
  refine (call_top hc W [v0, v1, v2] fun F N nx hF => HL.cons (g0 F N nx hF) (HL.cons (g1 F N nx hF) (HL.cons (g2 F N nx hF) (HL.nil)))).mono fun e W' ⟨he, bel⟩ => ?_
  subst he
  have hread : ∀ t ∈ [66, 67, 31], Try.prog.readableRec t = true ∧ t < Try.prog.types.size := by
    intro t ht
    simp only [List.mem_cons, List.not_mem_nil, or_false] at ht
    rcases ht with rfl | rfl | rfl
    all_goals exact ⟨by kernel_rfl, of_decide_eq_true (by kernel_rfl)⟩
  exact ⟨_, rfl, _, _, _, [], _, [], hW', trodAll_mk1 (shut_bool Try.underlying4 _),
    below_trodAll bel _ _ _ _ hread hA' (fun x hx => hlt x (by simpa using hx)), rfl, bel.frame _, fun h => by cases h⟩

theorem tA : Try.prog.funcNamed Rows.frontierSeenRow.func = some 12 := by kernel_rfl

theorem b0 : (Rows.frontierSeenRow.wf (OpenSpec.ofChange Rows.frontierSeenSpec)) = true := by kernel_rfl

theorem b1 : (laidOutB Try.prog) = true := by kernel_rfl

theorem b2 : (mapsRowed Try.prog) = true := by kernel_rfl

theorem b3 : (Try.f12.params.all (Try.prog.readableRec ·)) = true := by kernel_rfl

theorem b4 : (namedTie Try.prog Rows.frontierSeenRow.named Rows.frontierSeenSpec.vars) = true := by kernel_rfl

theorem b5 : ((Rows.frontierSeenRow.stops == [])) = true := by kernel_rfl

theorem b6 : ((Try.prog.stops == [])) = true := by kernel_rfl

theorem b7 : ((Rows.frontierSeenRow.knobs == [])) = true := by kernel_rfl

theorem b8 : ((Try.prog.stopKnobs == [])) = true := by kernel_rfl

theorem b9 : ((Rows.frontierSeenRow.inPlace == Try.prog.inPlace 12)) = true := by kernel_rfl

theorem b10 : ((Rows.frontierSeenRow.unfollowed == Try.prog.unfollowed 12)) = true := by kernel_rfl

theorem b11 : ((Rows.frontierSeenRow.recurses == Try.prog.recurses 12)) = true := by kernel_rfl

theorem b12 : ((Rows.frontierSeenRow.named == Try.prog.varsNamed 12)) = true := by kernel_rfl

theorem b13 : ((Rows.frontierSeenRow.maps == (Try.f12.params.toList ++ Rows.frontierSeenSpec.plain.varTypes Try.prog).any (Try.prog.mapsRec ·))) = true := by kernel_rfl

theorem b14 : ((Rows.frontierSeenRow.ifaces == (Try.f12.params.toList ++ Rows.frontierSeenSpec.plain.varTypes Try.prog).any (Try.prog.ifacesRec ·))) = true := by kernel_rfl

theorem b15 : ((Rows.frontierSeenRow.mapsOut == Try.prog.mapsAmong Try.f12.resultTypes.toList)) = true := by kernel_rfl

theorem b16 : ((Rows.frontierSeenRow.loops == (Try.f12.params.toList ++ Rows.frontierSeenSpec.plain.varTypes Try.prog).any (Try.prog.loopsFrom ·))) = true := by kernel_rfl

theorem b17 : ((Rows.frontierSeenRow.wideKeys == (Try.f12.params.toList ++ Rows.frontierSeenSpec.plain.varTypes Try.prog ++ Try.f12.resultTypes.toList).any (Try.prog.wideKeysFrom ·))) = true := by kernel_rfl

theorem b18 : (Rows.frontierSeenSpec.vars.all (Try.prog.varReadable ·)) = true := by kernel_rfl

theorem b19 : (Try.f12.resultTypes.all (fun t => Try.prog.readableRec t && decide (t < Try.prog.types.size))) = true := by kernel_rfl

theorem b20 : ((Rows.frontierSeenRow.ifacesOut == Try.f12.resultTypes.toList.any (Try.prog.ifacesRec ·))) = true := by kernel_rfl

theorem b21 : ((Rows.frontierSeenRow.loopsOut == Try.f12.resultTypes.toList.any (Try.prog.loopsFrom ·))) = true := by kernel_rfl

theorem b22 : ((Rows.frontierSeenRow.plainKeys == Try.prog.plainKeys)) = true := by kernel_rfl

theorem b23 : (Rows.frontierSeenRow.shortTexts.isNone) = true := by kernel_rfl

theorem b24 : (Try.prog.stopsHeard) = true := by kernel_rfl

theorem b25 : (Try.prog.mayEnter) = true := by kernel_rfl

theorem b26 : ((Rows.frontierSeenRow.lifted == Try.prog.liftsFinal)) = true := by kernel_rfl

theorem b27 : ((Try.prog.make == some Rows.frontierSeenRow.make)) = true := by kernel_rfl

theorem b28 : ((Rows.frontierSeenRow.kinds == (if Rows.frontierSeenRow.domain.isEmpty then [] else Try.f12.params.toList.map fun t => match Try.prog.underlying t with | some (.int k) => some k | _ => none))) = true := by kernel_rfl

theorem b29 : ((Rows.frontierSeenRow.pinned == Rows.frontierSeenRow.pinnedBy)) = true := by kernel_rfl

theorem b30 : ((Rows.frontierSeenRow.veiled == (Try.f12.params.toList ++ Rows.frontierSeenSpec.plain.varTypes Try.prog ++ Try.f12.resultTypes.toList).any (Try.prog.veiledRec ·))) = true := by kernel_rfl

theorem b31 : (Rows.frontierSeenRow.veiledFits Try.prog Try.f12.params.toList (Try.f12.params.toList ++ Rows.frontierSeenSpec.plain.varTypes Try.prog ++ Try.f12.resultTypes.toList)) = true := by kernel_rfl

theorem andI {a b : Bool} (h : a = true) (g : b = true) : (a && b) = true := by rw [h, g]; rfl

theorem e1 : (Rows.frontierSeenRow.wf (OpenSpec.ofChange Rows.frontierSeenSpec) && laidOutB Try.prog) = true := andI b0 b1

theorem e2 : (Rows.frontierSeenRow.wf (OpenSpec.ofChange Rows.frontierSeenSpec) && laidOutB Try.prog && mapsRowed Try.prog) = true := andI e1 b2

theorem e3 : (Rows.frontierSeenRow.wf (OpenSpec.ofChange Rows.frontierSeenSpec) && laidOutB Try.prog && mapsRowed Try.prog && Try.f12.params.all (Try.prog.readableRec ·)) = true := andI e2 b3

theorem e4 : (Rows.frontierSeenRow.wf (OpenSpec.ofChange Rows.frontierSeenSpec) && laidOutB Try.prog && mapsRowed Try.prog && Try.f12.params.all (Try.prog.readableRec ·) && namedTie Try.prog Rows.frontierSeenRow.named Rows.frontierSeenSpec.vars) = true := andI e3 b4

theorem e5 : (Rows.frontierSeenRow.wf (OpenSpec.ofChange Rows.frontierSeenSpec) && laidOutB Try.prog && mapsRowed Try.prog && Try.f12.params.all (Try.prog.readableRec ·) && namedTie Try.prog Rows.frontierSeenRow.named Rows.frontierSeenSpec.vars && (Rows.frontierSeenRow.stops == [])) = true := andI e4 b5

theorem e6 : (Rows.frontierSeenRow.wf (OpenSpec.ofChange Rows.frontierSeenSpec) && laidOutB Try.prog && mapsRowed Try.prog && Try.f12.params.all (Try.prog.readableRec ·) && namedTie Try.prog Rows.frontierSeenRow.named Rows.frontierSeenSpec.vars && (Rows.frontierSeenRow.stops == []) && (Try.prog.stops == [])) = true := andI e5 b6

theorem e7 : (Rows.frontierSeenRow.wf (OpenSpec.ofChange Rows.frontierSeenSpec) && laidOutB Try.prog && mapsRowed Try.prog && Try.f12.params.all (Try.prog.readableRec ·) && namedTie Try.prog Rows.frontierSeenRow.named Rows.frontierSeenSpec.vars && (Rows.frontierSeenRow.stops == []) && (Try.prog.stops == []) && (Rows.frontierSeenRow.knobs == [])) = true := andI e6 b7

theorem e8 : (Rows.frontierSeenRow.wf (OpenSpec.ofChange Rows.frontierSeenSpec) && laidOutB Try.prog && mapsRowed Try.prog && Try.f12.params.all (Try.prog.readableRec ·) && namedTie Try.prog Rows.frontierSeenRow.named Rows.frontierSeenSpec.vars && (Rows.frontierSeenRow.stops == []) && (Try.prog.stops == []) && (Rows.frontierSeenRow.knobs == []) && (Try.prog.stopKnobs == [])) = true := andI e7 b8

theorem e9 : (Rows.frontierSeenRow.wf (OpenSpec.ofChange Rows.frontierSeenSpec) && laidOutB Try.prog && mapsRowed Try.prog && Try.f12.params.all (Try.prog.readableRec ·) && namedTie Try.prog Rows.frontierSeenRow.named Rows.frontierSeenSpec.vars && (Rows.frontierSeenRow.stops == []) && (Try.prog.stops == []) && (Rows.frontierSeenRow.knobs == []) && (Try.prog.stopKnobs == []) && (Rows.frontierSeenRow.inPlace == Try.prog.inPlace 12)) = true := andI e8 b9

theorem e10 : (Rows.frontierSeenRow.wf (OpenSpec.ofChange Rows.frontierSeenSpec) && laidOutB Try.prog && mapsRowed Try.prog && Try.f12.params.all (Try.prog.readableRec ·) && namedTie Try.prog Rows.frontierSeenRow.named Rows.frontierSeenSpec.vars && (Rows.frontierSeenRow.stops == []) && (Try.prog.stops == []) && (Rows.frontierSeenRow.knobs == []) && (Try.prog.stopKnobs == []) && (Rows.frontierSeenRow.inPlace == Try.prog.inPlace 12) && (Rows.frontierSeenRow.unfollowed == Try.prog.unfollowed 12)) = true := andI e9 b10

theorem e11 : (Rows.frontierSeenRow.wf (OpenSpec.ofChange Rows.frontierSeenSpec) && laidOutB Try.prog && mapsRowed Try.prog && Try.f12.params.all (Try.prog.readableRec ·) && namedTie Try.prog Rows.frontierSeenRow.named Rows.frontierSeenSpec.vars && (Rows.frontierSeenRow.stops == []) && (Try.prog.stops == []) && (Rows.frontierSeenRow.knobs == []) && (Try.prog.stopKnobs == []) && (Rows.frontierSeenRow.inPlace == Try.prog.inPlace 12) && (Rows.frontierSeenRow.unfollowed == Try.prog.unfollowed 12) && (Rows.frontierSeenRow.recurses == Try.prog.recurses 12)) = true := andI e10 b11

theorem e12 : (Rows.frontierSeenRow.wf (OpenSpec.ofChange Rows.frontierSeenSpec) && laidOutB Try.prog && mapsRowed Try.prog && Try.f12.params.all (Try.prog.readableRec ·) && namedTie Try.prog Rows.frontierSeenRow.named Rows.frontierSeenSpec.vars && (Rows.frontierSeenRow.stops == []) && (Try.prog.stops == []) && (Rows.frontierSeenRow.knobs == []) && (Try.prog.stopKnobs == []) && (Rows.frontierSeenRow.inPlace == Try.prog.inPlace 12) && (Rows.frontierSeenRow.unfollowed == Try.prog.unfollowed 12) && (Rows.frontierSeenRow.recurses == Try.prog.recurses 12) && (Rows.frontierSeenRow.named == Try.prog.varsNamed 12)) = true := andI e11 b12

theorem e13 : (Rows.frontierSeenRow.wf (OpenSpec.ofChange Rows.frontierSeenSpec) && laidOutB Try.prog && mapsRowed Try.prog && Try.f12.params.all (Try.prog.readableRec ·) && namedTie Try.prog Rows.frontierSeenRow.named Rows.frontierSeenSpec.vars && (Rows.frontierSeenRow.stops == []) && (Try.prog.stops == []) && (Rows.frontierSeenRow.knobs == []) && (Try.prog.stopKnobs == []) && (Rows.frontierSeenRow.inPlace == Try.prog.inPlace 12) && (Rows.frontierSeenRow.unfollowed == Try.prog.unfollowed 12) && (Rows.frontierSeenRow.recurses == Try.prog.recurses 12) && (Rows.frontierSeenRow.named == Try.prog.varsNamed 12) && (Rows.frontierSeenRow.maps == (Try.f12.params.toList ++ Rows.frontierSeenSpec.plain.varTypes Try.prog).any (Try.prog.mapsRec ·))) = true := andI e12 b13

theorem e14 : (Rows.frontierSeenRow.wf (OpenSpec.ofChange Rows.frontierSeenSpec) && laidOutB Try.prog && mapsRowed Try.prog && Try.f12.params.all (Try.prog.readableRec ·) && namedTie Try.prog Rows.frontierSeenRow.named Rows.frontierSeenSpec.vars && (Rows.frontierSeenRow.stops == []) && (Try.prog.stops == []) && (Rows.frontierSeenRow.knobs == []) && (Try.prog.stopKnobs == []) && (Rows.frontierSeenRow.inPlace == Try.prog.inPlace 12) && (Rows.frontierSeenRow.unfollowed == Try.prog.unfollowed 12) && (Rows.frontierSeenRow.recurses == Try.prog.recurses 12) && (Rows.frontierSeenRow.named == Try.prog.varsNamed 12) && (Rows.frontierSeenRow.maps == (Try.f12.params.toList ++ Rows.frontierSeenSpec.plain.varTypes Try.prog).any (Try.prog.mapsRec ·)) && (Rows.frontierSeenRow.ifaces == (Try.f12.params.toList ++ Rows.frontierSeenSpec.plain.varTypes Try.prog).any (Try.prog.ifacesRec ·))) = true := andI e13 b14

theorem e15 : (Rows.frontierSeenRow.wf (OpenSpec.ofChange Rows.frontierSeenSpec) && laidOutB Try.prog && mapsRowed Try.prog && Try.f12.params.all (Try.prog.readableRec ·) && namedTie Try.prog Rows.frontierSeenRow.named Rows.frontierSeenSpec.vars && (Rows.frontierSeenRow.stops == []) && (Try.prog.stops == []) && (Rows.frontierSeenRow.knobs == []) && (Try.prog.stopKnobs == []) && (Rows.frontierSeenRow.inPlace == Try.prog.inPlace 12) && (Rows.frontierSeenRow.unfollowed == Try.prog.unfollowed 12) && (Rows.frontierSeenRow.recurses == Try.prog.recurses 12) && (Rows.frontierSeenRow.named == Try.prog.varsNamed 12) && (Rows.frontierSeenRow.maps == (Try.f12.params.toList ++ Rows.frontierSeenSpec.plain.varTypes Try.prog).any (Try.prog.mapsRec ·)) && (Rows.frontierSeenRow.ifaces == (Try.f12.params.toList ++ Rows.frontierSeenSpec.plain.varTypes Try.prog).any (Try.prog.ifacesRec ·)) && (Rows.frontierSeenRow.mapsOut == Try.prog.mapsAmong Try.f12.resultTypes.toList)) = true := andI e14 b15

theorem e16 : (Rows.frontierSeenRow.wf (OpenSpec.ofChange Rows.frontierSeenSpec) && laidOutB Try.prog && mapsRowed Try.prog && Try.f12.params.all (Try.prog.readableRec ·) && namedTie Try.prog Rows.frontierSeenRow.named Rows.frontierSeenSpec.vars && (Rows.frontierSeenRow.stops == []) && (Try.prog.stops == []) && (Rows.frontierSeenRow.knobs == []) && (Try.prog.stopKnobs == []) && (Rows.frontierSeenRow.inPlace == Try.prog.inPlace 12) && (Rows.frontierSeenRow.unfollowed == Try.prog.unfollowed 12) && (Rows.frontierSeenRow.recurses == Try.prog.recurses 12) && (Rows.frontierSeenRow.named == Try.prog.varsNamed 12) && (Rows.frontierSeenRow.maps == (Try.f12.params.toList ++ Rows.frontierSeenSpec.plain.varTypes Try.prog).any (Try.prog.mapsRec ·)) && (Rows.frontierSeenRow.ifaces == (Try.f12.params.toList ++ Rows.frontierSeenSpec.plain.varTypes Try.prog).any (Try.prog.ifacesRec ·)) && (Rows.frontierSeenRow.mapsOut == Try.prog.mapsAmong Try.f12.resultTypes.toList) && (Rows.frontierSeenRow.loops == (Try.f12.params.toList ++ Rows.frontierSeenSpec.plain.varTypes Try.prog).any (Try.prog.loopsFrom ·))) = true := andI e15 b16

theorem e17 : (Rows.frontierSeenRow.wf (OpenSpec.ofChange Rows.frontierSeenSpec) && laidOutB Try.prog && mapsRowed Try.prog && Try.f12.params.all (Try.prog.readableRec ·) && namedTie Try.prog Rows.frontierSeenRow.named Rows.frontierSeenSpec.vars && (Rows.frontierSeenRow.stops == []) && (Try.prog.stops == []) && (Rows.frontierSeenRow.knobs == []) && (Try.prog.stopKnobs == []) && (Rows.frontierSeenRow.inPlace == Try.prog.inPlace 12) && (Rows.frontierSeenRow.unfollowed == Try.prog.unfollowed 12) && (Rows.frontierSeenRow.recurses == Try.prog.recurses 12) && (Rows.frontierSeenRow.named == Try.prog.varsNamed 12) && (Rows.frontierSeenRow.maps == (Try.f12.params.toList ++ Rows.frontierSeenSpec.plain.varTypes Try.prog).any (Try.prog.mapsRec ·)) && (Rows.frontierSeenRow.ifaces == (Try.f12.params.toList ++ Rows.frontierSeenSpec.plain.varTypes Try.prog).any (Try.prog.ifacesRec ·)) && (Rows.frontierSeenRow.mapsOut == Try.prog.mapsAmong Try.f12.resultTypes.toList) && (Rows.frontierSeenRow.loops == (Try.f12.params.toList ++ Rows.frontierSeenSpec.plain.varTypes Try.prog).any (Try.prog.loopsFrom ·)) && (Rows.frontierSeenRow.wideKeys == (Try.f12.params.toList ++ Rows.frontierSeenSpec.plain.varTypes Try.prog ++ Try.f12.resultTypes.toList).any (Try.prog.wideKeysFrom ·))) = true := andI e16 b17

theorem e18 : (Rows.frontierSeenRow.wf (OpenSpec.ofChange Rows.frontierSeenSpec) && laidOutB Try.prog && mapsRowed Try.prog && Try.f12.params.all (Try.prog.readableRec ·) && namedTie Try.prog Rows.frontierSeenRow.named Rows.frontierSeenSpec.vars && (Rows.frontierSeenRow.stops == []) && (Try.prog.stops == []) && (Rows.frontierSeenRow.knobs == []) && (Try.prog.stopKnobs == []) && (Rows.frontierSeenRow.inPlace == Try.prog.inPlace 12) && (Rows.frontierSeenRow.unfollowed == Try.prog.unfollowed 12) && (Rows.frontierSeenRow.recurses == Try.prog.recurses 12) && (Rows.frontierSeenRow.named == Try.prog.varsNamed 12) && (Rows.frontierSeenRow.maps == (Try.f12.params.toList ++ Rows.frontierSeenSpec.plain.varTypes Try.prog).any (Try.prog.mapsRec ·)) && (Rows.frontierSeenRow.ifaces == (Try.f12.params.toList ++ Rows.frontierSeenSpec.plain.varTypes Try.prog).any (Try.prog.ifacesRec ·)) && (Rows.frontierSeenRow.mapsOut == Try.prog.mapsAmong Try.f12.resultTypes.toList) && (Rows.frontierSeenRow.loops == (Try.f12.params.toList ++ Rows.frontierSeenSpec.plain.varTypes Try.prog).any (Try.prog.loopsFrom ·)) && (Rows.frontierSeenRow.wideKeys == (Try.f12.params.toList ++ Rows.frontierSeenSpec.plain.varTypes Try.prog ++ Try.f12.resultTypes.toList).any (Try.prog.wideKeysFrom ·)) && Rows.frontierSeenSpec.vars.all (Try.prog.varReadable ·)) = true := andI e17 b18

theorem e19 : (Rows.frontierSeenRow.wf (OpenSpec.ofChange Rows.frontierSeenSpec) && laidOutB Try.prog && mapsRowed Try.prog && Try.f12.params.all (Try.prog.readableRec ·) && namedTie Try.prog Rows.frontierSeenRow.named Rows.frontierSeenSpec.vars && (Rows.frontierSeenRow.stops == []) && (Try.prog.stops == []) && (Rows.frontierSeenRow.knobs == []) && (Try.prog.stopKnobs == []) && (Rows.frontierSeenRow.inPlace == Try.prog.inPlace 12) && (Rows.frontierSeenRow.unfollowed == Try.prog.unfollowed 12) && (Rows.frontierSeenRow.recurses == Try.prog.recurses 12) && (Rows.frontierSeenRow.named == Try.prog.varsNamed 12) && (Rows.frontierSeenRow.maps == (Try.f12.params.toList ++ Rows.frontierSeenSpec.plain.varTypes Try.prog).any (Try.prog.mapsRec ·)) && (Rows.frontierSeenRow.ifaces == (Try.f12.params.toList ++ Rows.frontierSeenSpec.plain.varTypes Try.prog).any (Try.prog.ifacesRec ·)) && (Rows.frontierSeenRow.mapsOut == Try.prog.mapsAmong Try.f12.resultTypes.toList) && (Rows.frontierSeenRow.loops == (Try.f12.params.toList ++ Rows.frontierSeenSpec.plain.varTypes Try.prog).any (Try.prog.loopsFrom ·)) && (Rows.frontierSeenRow.wideKeys == (Try.f12.params.toList ++ Rows.frontierSeenSpec.plain.varTypes Try.prog ++ Try.f12.resultTypes.toList).any (Try.prog.wideKeysFrom ·)) && Rows.frontierSeenSpec.vars.all (Try.prog.varReadable ·) && Try.f12.resultTypes.all (fun t => Try.prog.readableRec t && decide (t < Try.prog.types.size))) = true := andI e18 b19

theorem e20 : (Rows.frontierSeenRow.wf (OpenSpec.ofChange Rows.frontierSeenSpec) && laidOutB Try.prog && mapsRowed Try.prog && Try.f12.params.all (Try.prog.readableRec ·) && namedTie Try.prog Rows.frontierSeenRow.named Rows.frontierSeenSpec.vars && (Rows.frontierSeenRow.stops == []) && (Try.prog.stops == []) && (Rows.frontierSeenRow.knobs == []) && (Try.prog.stopKnobs == []) && (Rows.frontierSeenRow.inPlace == Try.prog.inPlace 12) && (Rows.frontierSeenRow.unfollowed == Try.prog.unfollowed 12) && (Rows.frontierSeenRow.recurses == Try.prog.recurses 12) && (Rows.frontierSeenRow.named == Try.prog.varsNamed 12) && (Rows.frontierSeenRow.maps == (Try.f12.params.toList ++ Rows.frontierSeenSpec.plain.varTypes Try.prog).any (Try.prog.mapsRec ·)) && (Rows.frontierSeenRow.ifaces == (Try.f12.params.toList ++ Rows.frontierSeenSpec.plain.varTypes Try.prog).any (Try.prog.ifacesRec ·)) && (Rows.frontierSeenRow.mapsOut == Try.prog.mapsAmong Try.f12.resultTypes.toList) && (Rows.frontierSeenRow.loops == (Try.f12.params.toList ++ Rows.frontierSeenSpec.plain.varTypes Try.prog).any (Try.prog.loopsFrom ·)) && (Rows.frontierSeenRow.wideKeys == (Try.f12.params.toList ++ Rows.frontierSeenSpec.plain.varTypes Try.prog ++ Try.f12.resultTypes.toList).any (Try.prog.wideKeysFrom ·)) && Rows.frontierSeenSpec.vars.all (Try.prog.varReadable ·) && Try.f12.resultTypes.all (fun t => Try.prog.readableRec t && decide (t < Try.prog.types.size)) && (Rows.frontierSeenRow.ifacesOut == Try.f12.resultTypes.toList.any (Try.prog.ifacesRec ·))) = true := andI e19 b20

theorem e21 : (Rows.frontierSeenRow.wf (OpenSpec.ofChange Rows.frontierSeenSpec) && laidOutB Try.prog && mapsRowed Try.prog && Try.f12.params.all (Try.prog.readableRec ·) && namedTie Try.prog Rows.frontierSeenRow.named Rows.frontierSeenSpec.vars && (Rows.frontierSeenRow.stops == []) && (Try.prog.stops == []) && (Rows.frontierSeenRow.knobs == []) && (Try.prog.stopKnobs == []) && (Rows.frontierSeenRow.inPlace == Try.prog.inPlace 12) && (Rows.frontierSeenRow.unfollowed == Try.prog.unfollowed 12) && (Rows.frontierSeenRow.recurses == Try.prog.recurses 12) && (Rows.frontierSeenRow.named == Try.prog.varsNamed 12) && (Rows.frontierSeenRow.maps == (Try.f12.params.toList ++ Rows.frontierSeenSpec.plain.varTypes Try.prog).any (Try.prog.mapsRec ·)) && (Rows.frontierSeenRow.ifaces == (Try.f12.params.toList ++ Rows.frontierSeenSpec.plain.varTypes Try.prog).any (Try.prog.ifacesRec ·)) && (Rows.frontierSeenRow.mapsOut == Try.prog.mapsAmong Try.f12.resultTypes.toList) && (Rows.frontierSeenRow.loops == (Try.f12.params.toList ++ Rows.frontierSeenSpec.plain.varTypes Try.prog).any (Try.prog.loopsFrom ·)) && (Rows.frontierSeenRow.wideKeys == (Try.f12.params.toList ++ Rows.frontierSeenSpec.plain.varTypes Try.prog ++ Try.f12.resultTypes.toList).any (Try.prog.wideKeysFrom ·)) && Rows.frontierSeenSpec.vars.all (Try.prog.varReadable ·) && Try.f12.resultTypes.all (fun t => Try.prog.readableRec t && decide (t < Try.prog.types.size)) && (Rows.frontierSeenRow.ifacesOut == Try.f12.resultTypes.toList.any (Try.prog.ifacesRec ·)) && (Rows.frontierSeenRow.loopsOut == Try.f12.resultTypes.toList.any (Try.prog.loopsFrom ·))) = true := andI e20 b21

theorem e22 : (Rows.frontierSeenRow.wf (OpenSpec.ofChange Rows.frontierSeenSpec) && laidOutB Try.prog && mapsRowed Try.prog && Try.f12.params.all (Try.prog.readableRec ·) && namedTie Try.prog Rows.frontierSeenRow.named Rows.frontierSeenSpec.vars && (Rows.frontierSeenRow.stops == []) && (Try.prog.stops == []) && (Rows.frontierSeenRow.knobs == []) && (Try.prog.stopKnobs == []) && (Rows.frontierSeenRow.inPlace == Try.prog.inPlace 12) && (Rows.frontierSeenRow.unfollowed == Try.prog.unfollowed 12) && (Rows.frontierSeenRow.recurses == Try.prog.recurses 12) && (Rows.frontierSeenRow.named == Try.prog.varsNamed 12) && (Rows.frontierSeenRow.maps == (Try.f12.params.toList ++ Rows.frontierSeenSpec.plain.varTypes Try.prog).any (Try.prog.mapsRec ·)) && (Rows.frontierSeenRow.ifaces == (Try.f12.params.toList ++ Rows.frontierSeenSpec.plain.varTypes Try.prog).any (Try.prog.ifacesRec ·)) && (Rows.frontierSeenRow.mapsOut == Try.prog.mapsAmong Try.f12.resultTypes.toList) && (Rows.frontierSeenRow.loops == (Try.f12.params.toList ++ Rows.frontierSeenSpec.plain.varTypes Try.prog).any (Try.prog.loopsFrom ·)) && (Rows.frontierSeenRow.wideKeys == (Try.f12.params.toList ++ Rows.frontierSeenSpec.plain.varTypes Try.prog ++ Try.f12.resultTypes.toList).any (Try.prog.wideKeysFrom ·)) && Rows.frontierSeenSpec.vars.all (Try.prog.varReadable ·) && Try.f12.resultTypes.all (fun t => Try.prog.readableRec t && decide (t < Try.prog.types.size)) && (Rows.frontierSeenRow.ifacesOut == Try.f12.resultTypes.toList.any (Try.prog.ifacesRec ·)) && (Rows.frontierSeenRow.loopsOut == Try.f12.resultTypes.toList.any (Try.prog.loopsFrom ·)) && (Rows.frontierSeenRow.plainKeys == Try.prog.plainKeys)) = true := andI e21 b22

theorem e23 : (Rows.frontierSeenRow.wf (OpenSpec.ofChange Rows.frontierSeenSpec) && laidOutB Try.prog && mapsRowed Try.prog && Try.f12.params.all (Try.prog.readableRec ·) && namedTie Try.prog Rows.frontierSeenRow.named Rows.frontierSeenSpec.vars && (Rows.frontierSeenRow.stops == []) && (Try.prog.stops == []) && (Rows.frontierSeenRow.knobs == []) && (Try.prog.stopKnobs == []) && (Rows.frontierSeenRow.inPlace == Try.prog.inPlace 12) && (Rows.frontierSeenRow.unfollowed == Try.prog.unfollowed 12) && (Rows.frontierSeenRow.recurses == Try.prog.recurses 12) && (Rows.frontierSeenRow.named == Try.prog.varsNamed 12) && (Rows.frontierSeenRow.maps == (Try.f12.params.toList ++ Rows.frontierSeenSpec.plain.varTypes Try.prog).any (Try.prog.mapsRec ·)) && (Rows.frontierSeenRow.ifaces == (Try.f12.params.toList ++ Rows.frontierSeenSpec.plain.varTypes Try.prog).any (Try.prog.ifacesRec ·)) && (Rows.frontierSeenRow.mapsOut == Try.prog.mapsAmong Try.f12.resultTypes.toList) && (Rows.frontierSeenRow.loops == (Try.f12.params.toList ++ Rows.frontierSeenSpec.plain.varTypes Try.prog).any (Try.prog.loopsFrom ·)) && (Rows.frontierSeenRow.wideKeys == (Try.f12.params.toList ++ Rows.frontierSeenSpec.plain.varTypes Try.prog ++ Try.f12.resultTypes.toList).any (Try.prog.wideKeysFrom ·)) && Rows.frontierSeenSpec.vars.all (Try.prog.varReadable ·) && Try.f12.resultTypes.all (fun t => Try.prog.readableRec t && decide (t < Try.prog.types.size)) && (Rows.frontierSeenRow.ifacesOut == Try.f12.resultTypes.toList.any (Try.prog.ifacesRec ·)) && (Rows.frontierSeenRow.loopsOut == Try.f12.resultTypes.toList.any (Try.prog.loopsFrom ·)) && (Rows.frontierSeenRow.plainKeys == Try.prog.plainKeys) && Rows.frontierSeenRow.shortTexts.isNone) = true := andI e22 b23

theorem e24 : (Rows.frontierSeenRow.wf (OpenSpec.ofChange Rows.frontierSeenSpec) && laidOutB Try.prog && mapsRowed Try.prog && Try.f12.params.all (Try.prog.readableRec ·) && namedTie Try.prog Rows.frontierSeenRow.named Rows.frontierSeenSpec.vars && (Rows.frontierSeenRow.stops == []) && (Try.prog.stops == []) && (Rows.frontierSeenRow.knobs == []) && (Try.prog.stopKnobs == []) && (Rows.frontierSeenRow.inPlace == Try.prog.inPlace 12) && (Rows.frontierSeenRow.unfollowed == Try.prog.unfollowed 12) && (Rows.frontierSeenRow.recurses == Try.prog.recurses 12) && (Rows.frontierSeenRow.named == Try.prog.varsNamed 12) && (Rows.frontierSeenRow.maps == (Try.f12.params.toList ++ Rows.frontierSeenSpec.plain.varTypes Try.prog).any (Try.prog.mapsRec ·)) && (Rows.frontierSeenRow.ifaces == (Try.f12.params.toList ++ Rows.frontierSeenSpec.plain.varTypes Try.prog).any (Try.prog.ifacesRec ·)) && (Rows.frontierSeenRow.mapsOut == Try.prog.mapsAmong Try.f12.resultTypes.toList) && (Rows.frontierSeenRow.loops == (Try.f12.params.toList ++ Rows.frontierSeenSpec.plain.varTypes Try.prog).any (Try.prog.loopsFrom ·)) && (Rows.frontierSeenRow.wideKeys == (Try.f12.params.toList ++ Rows.frontierSeenSpec.plain.varTypes Try.prog ++ Try.f12.resultTypes.toList).any (Try.prog.wideKeysFrom ·)) && Rows.frontierSeenSpec.vars.all (Try.prog.varReadable ·) && Try.f12.resultTypes.all (fun t => Try.prog.readableRec t && decide (t < Try.prog.types.size)) && (Rows.frontierSeenRow.ifacesOut == Try.f12.resultTypes.toList.any (Try.prog.ifacesRec ·)) && (Rows.frontierSeenRow.loopsOut == Try.f12.resultTypes.toList.any (Try.prog.loopsFrom ·)) && (Rows.frontierSeenRow.plainKeys == Try.prog.plainKeys) && Rows.frontierSeenRow.shortTexts.isNone && Try.prog.stopsHeard) = true := andI e23 b24

theorem e25 : (Rows.frontierSeenRow.wf (OpenSpec.ofChange Rows.frontierSeenSpec) && laidOutB Try.prog && mapsRowed Try.prog && Try.f12.params.all (Try.prog.readableRec ·) && namedTie Try.prog Rows.frontierSeenRow.named Rows.frontierSeenSpec.vars && (Rows.frontierSeenRow.stops == []) && (Try.prog.stops == []) && (Rows.frontierSeenRow.knobs == []) && (Try.prog.stopKnobs == []) && (Rows.frontierSeenRow.inPlace == Try.prog.inPlace 12) && (Rows.frontierSeenRow.unfollowed == Try.prog.unfollowed 12) && (Rows.frontierSeenRow.recurses == Try.prog.recurses 12) && (Rows.frontierSeenRow.named == Try.prog.varsNamed 12) && (Rows.frontierSeenRow.maps == (Try.f12.params.toList ++ Rows.frontierSeenSpec.plain.varTypes Try.prog).any (Try.prog.mapsRec ·)) && (Rows.frontierSeenRow.ifaces == (Try.f12.params.toList ++ Rows.frontierSeenSpec.plain.varTypes Try.prog).any (Try.prog.ifacesRec ·)) && (Rows.frontierSeenRow.mapsOut == Try.prog.mapsAmong Try.f12.resultTypes.toList) && (Rows.frontierSeenRow.loops == (Try.f12.params.toList ++ Rows.frontierSeenSpec.plain.varTypes Try.prog).any (Try.prog.loopsFrom ·)) && (Rows.frontierSeenRow.wideKeys == (Try.f12.params.toList ++ Rows.frontierSeenSpec.plain.varTypes Try.prog ++ Try.f12.resultTypes.toList).any (Try.prog.wideKeysFrom ·)) && Rows.frontierSeenSpec.vars.all (Try.prog.varReadable ·) && Try.f12.resultTypes.all (fun t => Try.prog.readableRec t && decide (t < Try.prog.types.size)) && (Rows.frontierSeenRow.ifacesOut == Try.f12.resultTypes.toList.any (Try.prog.ifacesRec ·)) && (Rows.frontierSeenRow.loopsOut == Try.f12.resultTypes.toList.any (Try.prog.loopsFrom ·)) && (Rows.frontierSeenRow.plainKeys == Try.prog.plainKeys) && Rows.frontierSeenRow.shortTexts.isNone && Try.prog.stopsHeard && Try.prog.mayEnter) = true := andI e24 b25

theorem e26 : (Rows.frontierSeenRow.wf (OpenSpec.ofChange Rows.frontierSeenSpec) && laidOutB Try.prog && mapsRowed Try.prog && Try.f12.params.all (Try.prog.readableRec ·) && namedTie Try.prog Rows.frontierSeenRow.named Rows.frontierSeenSpec.vars && (Rows.frontierSeenRow.stops == []) && (Try.prog.stops == []) && (Rows.frontierSeenRow.knobs == []) && (Try.prog.stopKnobs == []) && (Rows.frontierSeenRow.inPlace == Try.prog.inPlace 12) && (Rows.frontierSeenRow.unfollowed == Try.prog.unfollowed 12) && (Rows.frontierSeenRow.recurses == Try.prog.recurses 12) && (Rows.frontierSeenRow.named == Try.prog.varsNamed 12) && (Rows.frontierSeenRow.maps == (Try.f12.params.toList ++ Rows.frontierSeenSpec.plain.varTypes Try.prog).any (Try.prog.mapsRec ·)) && (Rows.frontierSeenRow.ifaces == (Try.f12.params.toList ++ Rows.frontierSeenSpec.plain.varTypes Try.prog).any (Try.prog.ifacesRec ·)) && (Rows.frontierSeenRow.mapsOut == Try.prog.mapsAmong Try.f12.resultTypes.toList) && (Rows.frontierSeenRow.loops == (Try.f12.params.toList ++ Rows.frontierSeenSpec.plain.varTypes Try.prog).any (Try.prog.loopsFrom ·)) && (Rows.frontierSeenRow.wideKeys == (Try.f12.params.toList ++ Rows.frontierSeenSpec.plain.varTypes Try.prog ++ Try.f12.resultTypes.toList).any (Try.prog.wideKeysFrom ·)) && Rows.frontierSeenSpec.vars.all (Try.prog.varReadable ·) && Try.f12.resultTypes.all (fun t => Try.prog.readableRec t && decide (t < Try.prog.types.size)) && (Rows.frontierSeenRow.ifacesOut == Try.f12.resultTypes.toList.any (Try.prog.ifacesRec ·)) && (Rows.frontierSeenRow.loopsOut == Try.f12.resultTypes.toList.any (Try.prog.loopsFrom ·)) && (Rows.frontierSeenRow.plainKeys == Try.prog.plainKeys) && Rows.frontierSeenRow.shortTexts.isNone && Try.prog.stopsHeard && Try.prog.mayEnter && (Rows.frontierSeenRow.lifted == Try.prog.liftsFinal)) = true := andI e25 b26

theorem e27 : (Rows.frontierSeenRow.wf (OpenSpec.ofChange Rows.frontierSeenSpec) && laidOutB Try.prog && mapsRowed Try.prog && Try.f12.params.all (Try.prog.readableRec ·) && namedTie Try.prog Rows.frontierSeenRow.named Rows.frontierSeenSpec.vars && (Rows.frontierSeenRow.stops == []) && (Try.prog.stops == []) && (Rows.frontierSeenRow.knobs == []) && (Try.prog.stopKnobs == []) && (Rows.frontierSeenRow.inPlace == Try.prog.inPlace 12) && (Rows.frontierSeenRow.unfollowed == Try.prog.unfollowed 12) && (Rows.frontierSeenRow.recurses == Try.prog.recurses 12) && (Rows.frontierSeenRow.named == Try.prog.varsNamed 12) && (Rows.frontierSeenRow.maps == (Try.f12.params.toList ++ Rows.frontierSeenSpec.plain.varTypes Try.prog).any (Try.prog.mapsRec ·)) && (Rows.frontierSeenRow.ifaces == (Try.f12.params.toList ++ Rows.frontierSeenSpec.plain.varTypes Try.prog).any (Try.prog.ifacesRec ·)) && (Rows.frontierSeenRow.mapsOut == Try.prog.mapsAmong Try.f12.resultTypes.toList) && (Rows.frontierSeenRow.loops == (Try.f12.params.toList ++ Rows.frontierSeenSpec.plain.varTypes Try.prog).any (Try.prog.loopsFrom ·)) && (Rows.frontierSeenRow.wideKeys == (Try.f12.params.toList ++ Rows.frontierSeenSpec.plain.varTypes Try.prog ++ Try.f12.resultTypes.toList).any (Try.prog.wideKeysFrom ·)) && Rows.frontierSeenSpec.vars.all (Try.prog.varReadable ·) && Try.f12.resultTypes.all (fun t => Try.prog.readableRec t && decide (t < Try.prog.types.size)) && (Rows.frontierSeenRow.ifacesOut == Try.f12.resultTypes.toList.any (Try.prog.ifacesRec ·)) && (Rows.frontierSeenRow.loopsOut == Try.f12.resultTypes.toList.any (Try.prog.loopsFrom ·)) && (Rows.frontierSeenRow.plainKeys == Try.prog.plainKeys) && Rows.frontierSeenRow.shortTexts.isNone && Try.prog.stopsHeard && Try.prog.mayEnter && (Rows.frontierSeenRow.lifted == Try.prog.liftsFinal) && (Try.prog.make == some Rows.frontierSeenRow.make)) = true := andI e26 b27

theorem e28 : (Rows.frontierSeenRow.wf (OpenSpec.ofChange Rows.frontierSeenSpec) && laidOutB Try.prog && mapsRowed Try.prog && Try.f12.params.all (Try.prog.readableRec ·) && namedTie Try.prog Rows.frontierSeenRow.named Rows.frontierSeenSpec.vars && (Rows.frontierSeenRow.stops == []) && (Try.prog.stops == []) && (Rows.frontierSeenRow.knobs == []) && (Try.prog.stopKnobs == []) && (Rows.frontierSeenRow.inPlace == Try.prog.inPlace 12) && (Rows.frontierSeenRow.unfollowed == Try.prog.unfollowed 12) && (Rows.frontierSeenRow.recurses == Try.prog.recurses 12) && (Rows.frontierSeenRow.named == Try.prog.varsNamed 12) && (Rows.frontierSeenRow.maps == (Try.f12.params.toList ++ Rows.frontierSeenSpec.plain.varTypes Try.prog).any (Try.prog.mapsRec ·)) && (Rows.frontierSeenRow.ifaces == (Try.f12.params.toList ++ Rows.frontierSeenSpec.plain.varTypes Try.prog).any (Try.prog.ifacesRec ·)) && (Rows.frontierSeenRow.mapsOut == Try.prog.mapsAmong Try.f12.resultTypes.toList) && (Rows.frontierSeenRow.loops == (Try.f12.params.toList ++ Rows.frontierSeenSpec.plain.varTypes Try.prog).any (Try.prog.loopsFrom ·)) && (Rows.frontierSeenRow.wideKeys == (Try.f12.params.toList ++ Rows.frontierSeenSpec.plain.varTypes Try.prog ++ Try.f12.resultTypes.toList).any (Try.prog.wideKeysFrom ·)) && Rows.frontierSeenSpec.vars.all (Try.prog.varReadable ·) && Try.f12.resultTypes.all (fun t => Try.prog.readableRec t && decide (t < Try.prog.types.size)) && (Rows.frontierSeenRow.ifacesOut == Try.f12.resultTypes.toList.any (Try.prog.ifacesRec ·)) && (Rows.frontierSeenRow.loopsOut == Try.f12.resultTypes.toList.any (Try.prog.loopsFrom ·)) && (Rows.frontierSeenRow.plainKeys == Try.prog.plainKeys) && Rows.frontierSeenRow.shortTexts.isNone && Try.prog.stopsHeard && Try.prog.mayEnter && (Rows.frontierSeenRow.lifted == Try.prog.liftsFinal) && (Try.prog.make == some Rows.frontierSeenRow.make) && (Rows.frontierSeenRow.kinds == (if Rows.frontierSeenRow.domain.isEmpty then [] else Try.f12.params.toList.map fun t => match Try.prog.underlying t with | some (.int k) => some k | _ => none))) = true := andI e27 b28

theorem e29 : (Rows.frontierSeenRow.wf (OpenSpec.ofChange Rows.frontierSeenSpec) && laidOutB Try.prog && mapsRowed Try.prog && Try.f12.params.all (Try.prog.readableRec ·) && namedTie Try.prog Rows.frontierSeenRow.named Rows.frontierSeenSpec.vars && (Rows.frontierSeenRow.stops == []) && (Try.prog.stops == []) && (Rows.frontierSeenRow.knobs == []) && (Try.prog.stopKnobs == []) && (Rows.frontierSeenRow.inPlace == Try.prog.inPlace 12) && (Rows.frontierSeenRow.unfollowed == Try.prog.unfollowed 12) && (Rows.frontierSeenRow.recurses == Try.prog.recurses 12) && (Rows.frontierSeenRow.named == Try.prog.varsNamed 12) && (Rows.frontierSeenRow.maps == (Try.f12.params.toList ++ Rows.frontierSeenSpec.plain.varTypes Try.prog).any (Try.prog.mapsRec ·)) && (Rows.frontierSeenRow.ifaces == (Try.f12.params.toList ++ Rows.frontierSeenSpec.plain.varTypes Try.prog).any (Try.prog.ifacesRec ·)) && (Rows.frontierSeenRow.mapsOut == Try.prog.mapsAmong Try.f12.resultTypes.toList) && (Rows.frontierSeenRow.loops == (Try.f12.params.toList ++ Rows.frontierSeenSpec.plain.varTypes Try.prog).any (Try.prog.loopsFrom ·)) && (Rows.frontierSeenRow.wideKeys == (Try.f12.params.toList ++ Rows.frontierSeenSpec.plain.varTypes Try.prog ++ Try.f12.resultTypes.toList).any (Try.prog.wideKeysFrom ·)) && Rows.frontierSeenSpec.vars.all (Try.prog.varReadable ·) && Try.f12.resultTypes.all (fun t => Try.prog.readableRec t && decide (t < Try.prog.types.size)) && (Rows.frontierSeenRow.ifacesOut == Try.f12.resultTypes.toList.any (Try.prog.ifacesRec ·)) && (Rows.frontierSeenRow.loopsOut == Try.f12.resultTypes.toList.any (Try.prog.loopsFrom ·)) && (Rows.frontierSeenRow.plainKeys == Try.prog.plainKeys) && Rows.frontierSeenRow.shortTexts.isNone && Try.prog.stopsHeard && Try.prog.mayEnter && (Rows.frontierSeenRow.lifted == Try.prog.liftsFinal) && (Try.prog.make == some Rows.frontierSeenRow.make) && (Rows.frontierSeenRow.kinds == (if Rows.frontierSeenRow.domain.isEmpty then [] else Try.f12.params.toList.map fun t => match Try.prog.underlying t with | some (.int k) => some k | _ => none)) && (Rows.frontierSeenRow.pinned == Rows.frontierSeenRow.pinnedBy)) = true := andI e28 b29

theorem e30 : (Rows.frontierSeenRow.wf (OpenSpec.ofChange Rows.frontierSeenSpec) && laidOutB Try.prog && mapsRowed Try.prog && Try.f12.params.all (Try.prog.readableRec ·) && namedTie Try.prog Rows.frontierSeenRow.named Rows.frontierSeenSpec.vars && (Rows.frontierSeenRow.stops == []) && (Try.prog.stops == []) && (Rows.frontierSeenRow.knobs == []) && (Try.prog.stopKnobs == []) && (Rows.frontierSeenRow.inPlace == Try.prog.inPlace 12) && (Rows.frontierSeenRow.unfollowed == Try.prog.unfollowed 12) && (Rows.frontierSeenRow.recurses == Try.prog.recurses 12) && (Rows.frontierSeenRow.named == Try.prog.varsNamed 12) && (Rows.frontierSeenRow.maps == (Try.f12.params.toList ++ Rows.frontierSeenSpec.plain.varTypes Try.prog).any (Try.prog.mapsRec ·)) && (Rows.frontierSeenRow.ifaces == (Try.f12.params.toList ++ Rows.frontierSeenSpec.plain.varTypes Try.prog).any (Try.prog.ifacesRec ·)) && (Rows.frontierSeenRow.mapsOut == Try.prog.mapsAmong Try.f12.resultTypes.toList) && (Rows.frontierSeenRow.loops == (Try.f12.params.toList ++ Rows.frontierSeenSpec.plain.varTypes Try.prog).any (Try.prog.loopsFrom ·)) && (Rows.frontierSeenRow.wideKeys == (Try.f12.params.toList ++ Rows.frontierSeenSpec.plain.varTypes Try.prog ++ Try.f12.resultTypes.toList).any (Try.prog.wideKeysFrom ·)) && Rows.frontierSeenSpec.vars.all (Try.prog.varReadable ·) && Try.f12.resultTypes.all (fun t => Try.prog.readableRec t && decide (t < Try.prog.types.size)) && (Rows.frontierSeenRow.ifacesOut == Try.f12.resultTypes.toList.any (Try.prog.ifacesRec ·)) && (Rows.frontierSeenRow.loopsOut == Try.f12.resultTypes.toList.any (Try.prog.loopsFrom ·)) && (Rows.frontierSeenRow.plainKeys == Try.prog.plainKeys) && Rows.frontierSeenRow.shortTexts.isNone && Try.prog.stopsHeard && Try.prog.mayEnter && (Rows.frontierSeenRow.lifted == Try.prog.liftsFinal) && (Try.prog.make == some Rows.frontierSeenRow.make) && (Rows.frontierSeenRow.kinds == (if Rows.frontierSeenRow.domain.isEmpty then [] else Try.f12.params.toList.map fun t => match Try.prog.underlying t with | some (.int k) => some k | _ => none)) && (Rows.frontierSeenRow.pinned == Rows.frontierSeenRow.pinnedBy) && (Rows.frontierSeenRow.veiled == (Try.f12.params.toList ++ Rows.frontierSeenSpec.plain.varTypes Try.prog ++ Try.f12.resultTypes.toList).any (Try.prog.veiledRec ·))) = true := andI e29 b30

theorem e31 : (Rows.frontierSeenRow.wf (OpenSpec.ofChange Rows.frontierSeenSpec) && laidOutB Try.prog && mapsRowed Try.prog && Try.f12.params.all (Try.prog.readableRec ·) && namedTie Try.prog Rows.frontierSeenRow.named Rows.frontierSeenSpec.vars && (Rows.frontierSeenRow.stops == []) && (Try.prog.stops == []) && (Rows.frontierSeenRow.knobs == []) && (Try.prog.stopKnobs == []) && (Rows.frontierSeenRow.inPlace == Try.prog.inPlace 12) && (Rows.frontierSeenRow.unfollowed == Try.prog.unfollowed 12) && (Rows.frontierSeenRow.recurses == Try.prog.recurses 12) && (Rows.frontierSeenRow.named == Try.prog.varsNamed 12) && (Rows.frontierSeenRow.maps == (Try.f12.params.toList ++ Rows.frontierSeenSpec.plain.varTypes Try.prog).any (Try.prog.mapsRec ·)) && (Rows.frontierSeenRow.ifaces == (Try.f12.params.toList ++ Rows.frontierSeenSpec.plain.varTypes Try.prog).any (Try.prog.ifacesRec ·)) && (Rows.frontierSeenRow.mapsOut == Try.prog.mapsAmong Try.f12.resultTypes.toList) && (Rows.frontierSeenRow.loops == (Try.f12.params.toList ++ Rows.frontierSeenSpec.plain.varTypes Try.prog).any (Try.prog.loopsFrom ·)) && (Rows.frontierSeenRow.wideKeys == (Try.f12.params.toList ++ Rows.frontierSeenSpec.plain.varTypes Try.prog ++ Try.f12.resultTypes.toList).any (Try.prog.wideKeysFrom ·)) && Rows.frontierSeenSpec.vars.all (Try.prog.varReadable ·) && Try.f12.resultTypes.all (fun t => Try.prog.readableRec t && decide (t < Try.prog.types.size)) && (Rows.frontierSeenRow.ifacesOut == Try.f12.resultTypes.toList.any (Try.prog.ifacesRec ·)) && (Rows.frontierSeenRow.loopsOut == Try.f12.resultTypes.toList.any (Try.prog.loopsFrom ·)) && (Rows.frontierSeenRow.plainKeys == Try.prog.plainKeys) && Rows.frontierSeenRow.shortTexts.isNone && Try.prog.stopsHeard && Try.prog.mayEnter && (Rows.frontierSeenRow.lifted == Try.prog.liftsFinal) && (Try.prog.make == some Rows.frontierSeenRow.make) && (Rows.frontierSeenRow.kinds == (if Rows.frontierSeenRow.domain.isEmpty then [] else Try.f12.params.toList.map fun t => match Try.prog.underlying t with | some (.int k) => some k | _ => none)) && (Rows.frontierSeenRow.pinned == Rows.frontierSeenRow.pinnedBy) && (Rows.frontierSeenRow.veiled == (Try.f12.params.toList ++ Rows.frontierSeenSpec.plain.varTypes Try.prog ++ Try.f12.resultTypes.toList).any (Try.prog.veiledRec ·)) && Rows.frontierSeenRow.veiledFits Try.prog Try.f12.params.toList (Try.f12.params.toList ++ Rows.frontierSeenSpec.plain.varTypes Try.prog ++ Try.f12.resultTypes.toList)) = true := andI e30 b31

set_option maxRecDepth 100000 in
theorem tB : joinedFacts Try.prog 12 Try.f12 Rows.frontierSeenSpec Rows.frontierSeenRow = true := by
  unfold joinedFacts
  exact e31

theorem tC : Try.f12.isInstance Try.prog Rows.frontierSeenRow.origin Rows.frontierSeenRow.targs := of_decide_eq_true (by kernel_rfl)

theorem tD0 : decide (Check.packageOf Try.f12.name = "main") = false := by kernel_rfl

theorem tD : Try.f12.isWrapper Try.prog Rows.frontierSeenRow.wrapper Rows.frontierSeenRow.mainSum := by
  unfold Func.isWrapper
  rw [if_neg (of_decide_eq_false tD0)]
  exact ⟨rfl, rfl⟩

theorem over : Rows.frontierSeenRow.holds Try.pinned (OpenSpec.ofChange Rows.frontierSeenSpec) :=
  OpenClaim.holds_of_wide 12 Try.f12 rfl rfl rfl rfl rfl rfl rfl ⟨rfl, rfl, rfl, rfl, rfl⟩ rfl rfl rfl rfl rfl tA Try.func12 tB tC tD
    (fun os started H enc _ => lifted os started H enc)

theorem proved : Rows.FrontierSeenSaid := over

end Go.Proofs.Yteebobbhhgmeiaa.frontierSeen
