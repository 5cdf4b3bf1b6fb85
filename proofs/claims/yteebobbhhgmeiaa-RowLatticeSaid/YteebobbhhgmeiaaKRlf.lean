/- made by a program (rowgen.py): RowLattice: for every input the law returns true, and each argument reads behind the call as it read before. -/
import Derived.Test.YteebobbhhgmeiaaKRle
import Derived.Test.YteebobbhhgmeiaaRows

namespace Go.Proofs.Yteebobbhhgmeiaa
open Go.RowKit
def l10_RowLattice_k4 (a0 : List TGroup) (a1 : ByteArray) (a2 : TThree) : TRow := TRow.mk (jnK a0 (TRow.mk a1 a2.1) (TRow.mk a1 a2.2)) (jnL a0 (TRow.mk a1 a2.1) (TRow.mk a1 a2.2))
def l10_RowLattice_k3 (a0 : List TGroup) (a1 : ByteArray) (a2 : TThree) : List TCell := jnL a0 (l10_RowLattice_k4 a0 a1 a2) (TRow.mk a1 a2.3)
def l10_RowLattice_k2 (a0 : List TGroup) (a1 : ByteArray) (a2 : TThree) : Bool := !l10_light_0 a0 [TRow.mk a1 a2.1, TRow.mk a1 a2.2, TRow.mk a1 a2.3] || goodRow a0 (TRow.mk a1 a2.1) != (0 : Int) || goodRow a0 (TRow.mk a1 a2.2) != (0 : Int) || goodRow a0 (TRow.mk a1 a2.3) != (0 : Int)
def l10_RowLattice_k1 (a0 : List TGroup) (a1 : ByteArray) (a2 : TThree) : Bool := eqRw (l10_RowLattice_k4 a0 a1 a2) (TRow.mk (jnK a0 (TRow.mk a1 a2.2) (TRow.mk a1 a2.1)) (jnL a0 (TRow.mk a1 a2.2) (TRow.mk a1 a2.1))) && eqRw (TRow.mk (jnK a0 (l10_RowLattice_k4 a0 a1 a2) (TRow.mk a1 a2.3)) (l10_RowLattice_k3 a0 a1 a2)) (TRow.mk (jnK a0 (TRow.mk a1 a2.1) (TRow.mk (jnK a0 (TRow.mk a1 a2.2) (TRow.mk a1 a2.3)) (jnL a0 (TRow.mk a1 a2.2) (TRow.mk a1 a2.3)))) (jnL a0 (TRow.mk a1 a2.1) (TRow.mk (jnK a0 (TRow.mk a1 a2.2) (TRow.mk a1 a2.3)) (jnL a0 (TRow.mk a1 a2.2) (TRow.mk a1 a2.3)))))
def l10_RowLattice_k0 (a0 : List TGroup) (a1 : ByteArray) (a2 : TThree) : Bool := jnE a0 (TRow.mk a1 a2.1) (TRow.mk a1 a2.2) != (0 : Int) || jnE a0 (TRow.mk a1 a2.2) (TRow.mk a1 a2.1) != (0 : Int) || jnE a0 (TRow.mk a1 a2.2) (TRow.mk a1 a2.3) != (0 : Int) || jnE a0 (l10_RowLattice_k4 a0 a1 a2) (TRow.mk a1 a2.3) != (0 : Int) || jnE a0 (TRow.mk a1 a2.1) (TRow.mk (jnK a0 (TRow.mk a1 a2.2) (TRow.mk a1 a2.3)) (jnL a0 (TRow.mk a1 a2.2) (TRow.mk a1 a2.3))) != (0 : Int) || jnE a0 (TRow.mk a1 a2.1) (TRow.mk a1 a2.1) != (0 : Int)
def l10_RowLattice_0 (a0 : List TGroup) (a1 : ByteArray) (a2 : TThree) : Bool := bif (l10_RowLattice_k2 a0 a1 a2) then true else bif (l10_RowLattice_k0 a0 a1 a2) then false else (l10_RowLattice_k1 a0 a1 a2) && eqRw (TRow.mk (jnK a0 (TRow.mk a1 a2.1) (TRow.mk a1 a2.1)) (jnL a0 (TRow.mk a1 a2.1) (TRow.mk a1 a2.1))) (TRow.mk a1 a2.1) && goodRow a0 (TRow.mk (jnK a0 (l10_RowLattice_k4 a0 a1 a2) (TRow.mk a1 a2.3)) (l10_RowLattice_k3 a0 a1 a2)) == (0 : Int) && true
def l10_RowLattice_r (a0 : List TGroup) (a1 : ByteArray) (a2 : TThree) : A := .v (.bool (l10_RowLattice_0 a0 a1 a2))
def l10_RowLattice_o (_a0 : List TGroup) (_a1 : ByteArray) (_a2 : TThree) : Objs := []
def l10_RowLattice_ps (a0 : List TGroup) (a1 : ByteArray) (a2 : TThree) : List Prop := [(wideN a0.length ∧ wideN (3 : Nat) ∧ ∀ (r : TRow), r ∈ [TRow.mk a1 a2.1, TRow.mk a1 a2.2, TRow.mk a1 a2.3] → wideN r.1.size ∧ wideN r.2.length ∧ ∀ (c : TCell), c ∈ r.2 → wideN c.4.size), ((!(l10_RowLattice_k2 a0 a1 a2)) = true → (!(l10_RowLattice_k0 a0 a1 a2)) = true → boundP (jnL a0 (TRow.mk a1 a2.1) (TRow.mk a1 a2.2)).length), ((!(l10_RowLattice_k2 a0 a1 a2)) = true → (!(l10_RowLattice_k0 a0 a1 a2)) = true → eqRw (l10_RowLattice_k4 a0 a1 a2) (TRow.mk (jnK a0 (TRow.mk a1 a2.2) (TRow.mk a1 a2.1)) (jnL a0 (TRow.mk a1 a2.2) (TRow.mk a1 a2.1))) = true → boundP (l10_RowLattice_k3 a0 a1 a2).length), ((!(l10_RowLattice_k2 a0 a1 a2)) = true → (!(l10_RowLattice_k0 a0 a1 a2)) = true → (l10_RowLattice_k1 a0 a1 a2) = true → boundP (jnL a0 (TRow.mk a1 a2.1) (TRow.mk a1 a2.1)).length)]
set_option maxRecDepth 100000 in
theorem l10_RowLattice_ev (a0 : List TGroup) (a1 : ByteArray) (a2 : TThree) : evF (envT Cs L0) 9 14 [.sl .group a0, valA .str a1, valA .three a2] 0 [] = some (1, l10_RowLattice_r a0 a1 a2, 0, l10_RowLattice_o a0 a1 a2, [(wideN a0.length ∧ wideN (3 : Nat) ∧ ∀ (r : TRow), r ∈ [TRow.mk a1 a2.1, TRow.mk a1 a2.2, TRow.mk a1 a2.3] → wideN r.1.size ∧ wideN r.2.length ∧ ∀ (c : TCell), c ∈ r.2 → wideN c.4.size), ((!(l10_RowLattice_k2 a0 a1 a2)) = true → (!(l10_RowLattice_k0 a0 a1 a2)) = true → boundP (jnL a0 (TRow.mk a1 a2.1) (TRow.mk a1 a2.2)).length), ((!(l10_RowLattice_k2 a0 a1 a2)) = true → (!(l10_RowLattice_k0 a0 a1 a2)) = true → eqRw (l10_RowLattice_k4 a0 a1 a2) (TRow.mk (jnK a0 (TRow.mk a1 a2.2) (TRow.mk a1 a2.1)) (jnL a0 (TRow.mk a1 a2.2) (TRow.mk a1 a2.1))) = true → boundP (l10_RowLattice_k3 a0 a1 a2).length), ((!(l10_RowLattice_k2 a0 a1 a2)) = true → (!(l10_RowLattice_k0 a0 a1 a2)) = true → (l10_RowLattice_k1 a0 a1 a2) = true → boundP (jnL a0 (TRow.mk a1 a2.1) (TRow.mk a1 a2.1)).length)]) := by kernel_rfl
set_option maxRecDepth 100000 in
theorem l10_RowLattice_c (a0 : List TGroup) (a1 : ByteArray) (a2 : TThree) (hp : ∀ p ∈ l10_RowLattice_ps a0 a1 a2, p) : CallOk Try.prog 14 [.sl .group a0, valA .str a1, valA .three a2] 0 [] 1 (l10_RowLattice_r a0 a1 a2) 0 (l10_RowLattice_o a0 a1 a2) := by
 have n0 : (wideN a0.length ∧ wideN (3 : Nat) ∧ ∀ (r : TRow), r ∈ [TRow.mk a1 a2.1, TRow.mk a1 a2.2, TRow.mk a1 a2.3] → wideN r.1.size ∧ wideN r.2.length ∧ ∀ (c : TCell), c ∈ r.2 → wideN c.4.size) := hp _ (List.mem_cons_self ..)
 have n1 : ((!(l10_RowLattice_k2 a0 a1 a2)) = true → (!(l10_RowLattice_k0 a0 a1 a2)) = true → boundP (jnL a0 (TRow.mk a1 a2.1) (TRow.mk a1 a2.2)).length) := hp _ (List.mem_cons_of_mem _ (List.mem_cons_self ..))
 have n2 : ((!(l10_RowLattice_k2 a0 a1 a2)) = true → (!(l10_RowLattice_k0 a0 a1 a2)) = true → eqRw (l10_RowLattice_k4 a0 a1 a2) (TRow.mk (jnK a0 (TRow.mk a1 a2.2) (TRow.mk a1 a2.1)) (jnL a0 (TRow.mk a1 a2.2) (TRow.mk a1 a2.1))) = true → boundP (l10_RowLattice_k3 a0 a1 a2).length) := hp _ (List.mem_cons_of_mem _ (List.mem_cons_of_mem _ (List.mem_cons_self ..)))
 have n3 : ((!(l10_RowLattice_k2 a0 a1 a2)) = true → (!(l10_RowLattice_k0 a0 a1 a2)) = true → (l10_RowLattice_k1 a0 a1 a2) = true → boundP (jnL a0 (TRow.mk a1 a2.1) (TRow.mk a1 a2.1)).length) := hp _ (List.mem_cons_of_mem _ (List.mem_cons_of_mem _ (List.mem_cons_of_mem _ (List.mem_cons_self ..))))
 exact evF_ok (envP_ok Cs_ok L0_ok) (l10_RowLattice_ev a0 a1 a2) (needs_cons n0 (needs_cons n1 (needs_cons n2 (needs_cons n3 needs_nil))))
end Go.Proofs.Yteebobbhhgmeiaa
namespace Go.Proofs.Yteebobbhhgmeiaa
open Go.RowKit
theorem jn_mk {l : List TGroup} {a b : TRow} (h : jnE l a b = 0) : TRow.mk (jnK l a b) (jnL l a b) = jnR a b := by
 unfold jnK jnL
 rw [h]
 rfl
theorem rl_true (a0 : List TGroup) (a1 : ByteArray) (a2 : TThree) (w0 : a0.length ≤ maxLen ∧ ∀ y ∈ a0, Wfd .group y) (w1 : a1.size ≤ maxLen)
  (w2 : (a2.a.length ≤ maxLen ∧ ∀ y ∈ a2.a, Wfd .cell y) ∧ (a2.b.length ≤ maxLen ∧ ∀ y ∈ a2.b, Wfd .cell y) ∧ (a2.c.length ≤ maxLen ∧ ∀ y ∈ a2.c, Wfd .cell y)) : (∀ p ∈ l10_RowLattice_ps a0 a1 a2, p) ∧ l10_RowLattice_0 a0 a1 a2 = true := by
 have hc : ∀ x : List TCell, (x.length ≤ maxLen ∧ ∀ y ∈ x, Wfd .cell y) → wideN x.length ∧ ∀ c ∈ x, wideN c.4.size := fun x hx => ⟨hx.1, fun c hcx => (hx.2 c hcx).2.2.2.1⟩
 have hw : wideN a0.length ∧ wideN (3 : Nat) ∧ ∀ r ∈ [TRow.mk a1 a2.1, TRow.mk a1 a2.2, TRow.mk a1 a2.3], wideN r.1.size ∧ wideN r.2.length ∧ ∀ c ∈ r.2, wideN c.4.size := ⟨w0.1, by unfold wideN; omega, fun r hr => by
  rcases List.mem_cons.1 hr with rfl | hr
  ·exact ⟨w1, hc _ w2.1⟩
  ·rcases List.mem_cons.1 hr with rfl | hr
   ·exact ⟨w1, hc _ w2.2.1⟩
   ·rw [List.mem_singleton.1 hr]
    exact ⟨w1, hc _ w2.2.2⟩⟩
 have main : (!(l10_RowLattice_k2 a0 a1 a2)) = true → goodRow a0 (TRow.mk a1 a2.1) = 0 ∧ goodRow a0 (TRow.mk a1 a2.2) = 0 ∧ goodRow a0 (TRow.mk a1 a2.3) = 0 := fun h => by
  unfold l10_RowLattice_k2 at h
  simp only [Bool.not_or, Bool.and_eq_true, Bool.not_not] at h
  obtain ⟨⟨⟨_, h1⟩, h2⟩, h3⟩ := h
  exact ⟨by simpa using h1, by simpa using h2, by simpa using h3⟩
 have len4 : ∀ {r : TRow}, goodRow a0 r = 0 → r.cells.length ≤ 4 := fun {r} h => by
  have h1 := (goodRow_0 h).2.1
  have h2 := (goodP_0 (goodRow_0 h).1).2
  omega
 have all : (!(l10_RowLattice_k2 a0 a1 a2)) = true → jnE a0 (TRow.mk a1 a2.1) (TRow.mk a1 a2.2) = 0 ∧ jnE a0 (TRow.mk a1 a2.2) (TRow.mk a1 a2.1) = 0 ∧ jnE a0 (TRow.mk a1 a2.2) (TRow.mk a1 a2.3) = 0 ∧ jnE a0 (TRow.mk a1 a2.1) (TRow.mk a1 a2.1) = 0 ∧
   jnE a0 (jnR (TRow.mk a1 a2.1) (TRow.mk a1 a2.2)) (TRow.mk a1 a2.3) = 0 ∧ jnE a0 (TRow.mk a1 a2.1) (jnR (TRow.mk a1 a2.2) (TRow.mk a1 a2.3)) = 0 := fun h => by
  obtain ⟨g1, g2, g3⟩ := main h
  exact ⟨jnE_0.2 ⟨g1, g2, rfl⟩, jnE_0.2 ⟨g2, g1, rfl⟩, jnE_0.2 ⟨g2, g3, rfl⟩, jnE_0.2 ⟨g1, g1, rfl⟩, jnE_0.2 ⟨jnR_good g1 g2, g3, rfl⟩, jnE_0.2 ⟨g1, jnR_good g2 g3, rfl⟩⟩
 have k4 : (!(l10_RowLattice_k2 a0 a1 a2)) = true → l10_RowLattice_k4 a0 a1 a2 = jnR (TRow.mk a1 a2.1) (TRow.mk a1 a2.2) := fun h => jn_mk (all h).1
 have k3 : (!(l10_RowLattice_k2 a0 a1 a2)) = true → TRow.mk (jnK a0 (l10_RowLattice_k4 a0 a1 a2) (TRow.mk a1 a2.3)) (l10_RowLattice_k3 a0 a1 a2) = jnR (jnR (TRow.mk a1 a2.1) (TRow.mk a1 a2.2)) (TRow.mk a1 a2.3) := fun h => by
  unfold l10_RowLattice_k3
  rw [k4 h]
  exact jn_mk (all h).2.2.2.2.1
 refine ⟨needs_cons hw (needs_cons (fun h _ => ?_) (needs_cons (fun h _ _ => ?_) (needs_cons (fun h _ _ => ?_) needs_nil))), ?_⟩
 ·obtain ⟨g1, g2, g3⟩ := main h
  have e := congrArg TRow.cells (jn_mk (all h).1)
  have := len4 (jnR_good g1 g2)
  rw [← e] at this
  exact Nat.le_trans this (by decide)
 ·obtain ⟨g1, g2, g3⟩ := main h
  have e := congrArg TRow.cells (k3 h)
  have := len4 (jnR_good (jnR_good g1 g2) g3)
  rw [← e] at this
  exact Nat.le_trans this (by decide)
 ·obtain ⟨g1, g2, g3⟩ := main h
  have e := congrArg TRow.cells (jn_mk (all h).2.2.2.1)
  have := len4 (jnR_good g1 g1)
  rw [← e] at this
  exact Nat.le_trans this (by decide)
 ·unfold l10_RowLattice_0
  cases hk : l10_RowLattice_k2 a0 a1 a2 with
  | true => rfl
  | false =>
   have h : (!(l10_RowLattice_k2 a0 a1 a2)) = true := by rw [hk]; rfl
   obtain ⟨g1, g2, g3⟩ := main h
   obtain ⟨q1, q2, q3, q4, q5, q6⟩ := all h
   have k0 : l10_RowLattice_k0 a0 a1 a2 = false := by
    unfold l10_RowLattice_k0
    rw [k4 h, jn_mk q3, q1, q2, q3, q4, q5, q6]
    rfl
   have k1 : l10_RowLattice_k1 a0 a1 a2 = true := by
    unfold l10_RowLattice_k1
    rw [k3 h, k4 h, jn_mk q2, jn_mk q3, jn_mk q6, Bool.and_eq_true, eqRw_iff, eqRw_iff]
    exact ⟨jn_comm g1 g2 rfl, jn_assoc g1 g2 g3⟩
   rw [k0, k1, k3 h, jn_mk q4, jnR_good (jnR_good g1 g2) g3, jn_self g1, eqRw_iff.2 rfl]
   rfl
end Go.Proofs.Yteebobbhhgmeiaa
namespace Go.Proofs.Yteebobbhhgmeiaa
open Go.RowKit
set_option maxRecDepth 100000
theorem op3 : Opn Try.prog .i64 3 := opn_i64 Try.underlying3
theorem op4 : Opn Try.prog .bool 4 := opn_bool Try.underlying4
theorem op9 : Opn Try.prog .str 9 := opn_str Try.underlying9
theorem op31 : Opn Try.prog .vec 31 := fun en w base spare held m cs y h => by
 obtain ⟨xs, n, _, _, hl, hz, hg⟩ := DataW.trod_array Try.underlying31 h
 have hl : cs.length = 2 := hl.trans (by kernel_rfl)
 obtain ⟨x0, w0, g0⟩ := arrO (i := 0) (k := 1) op3 (by kernel_rfl) (by omega) (by omega) hg
 obtain ⟨x1, w1, g1⟩ := arrO (i := 1) (k := 1) op3 (by kernel_rfl) (by omega) (by omega) hg
 exact ⟨⟨x0, x1⟩, ⟨w0, w1⟩, fun F N nx hF => HLd (o := 0) (k := 1) (g0 F N nx hF) (HLd (o := 1) (k := 1) (g1 F N nx hF) (HLe (o := 2) hl))⟩
theorem op51 : Opn Try.prog .stamp 51 := fun en w base spare held m cs y h => by
 obtain ⟨xs, n, _, _, hl, hz, hg⟩ := DataW.trod_struct Try.underlying51 h
 have hz : xs.length = 2 := hz
 have hl : cs.length = 2 := hl.trans (by kernel_rfl)
 obtain ⟨x0, w0, g0⟩ := fldO (i := 0) (o := 0) (k := 1) op3 rfl rfl rfl (by kernel_rfl) (by omega) hg
 obtain ⟨x1, w1, g1⟩ := fldO (i := 1) (o := 1) (k := 1) op3 rfl rfl rfl (by kernel_rfl) (by omega) hg
 exact ⟨⟨x0, x1⟩, ⟨w0, w1⟩, fun F N nx hF => HLd (o := 0) (k := 1) (g0 F N nx hF) (HLd (o := 1) (k := 1) (g1 F N nx hF) (HLe (o := 2) hl))⟩
theorem op55 : Opn Try.prog .cell 55 := fun en w base spare held m cs y h => by
 obtain ⟨xs, n, _, _, hl, hz, hg⟩ := DataW.trod_struct Try.underlying55 h
 have hz : xs.length = 5 := hz
 have hl : cs.length = 8 := hl.trans (by kernel_rfl)
 obtain ⟨x0, w0, g0⟩ := fldO (i := 0) (o := 0) (k := 2) op51 rfl rfl rfl (by kernel_rfl) (by omega) hg
 obtain ⟨x1, w1, g1⟩ := fldO (i := 1) (o := 2) (k := 2) op31 rfl rfl rfl (by kernel_rfl) (by omega) hg
 obtain ⟨x2, w2, g2⟩ := fldO (i := 2) (o := 4) (k := 1) op4 rfl rfl rfl (by kernel_rfl) (by omega) hg
 obtain ⟨x3, w3, g3⟩ := fldO (i := 3) (o := 5) (k := 1) op9 rfl rfl rfl (by kernel_rfl) (by omega) hg
 obtain ⟨x4, w4, g4⟩ := fldO (i := 4) (o := 6) (k := 2) op31 rfl rfl rfl (by kernel_rfl) (by omega) hg
 exact ⟨⟨x0, x1, x2, x3, x4⟩, ⟨w0, w1, w2, w3, w4⟩, fun F N nx hF => HLd (o := 0) (k := 2) (g0 F N nx hF) (HLd (o := 2) (k := 2) (g1 F N nx hF) (HLd (o := 4) (k := 1) (g2 F N nx hF) (HLd (o := 5) (k := 1) (g3 F N nx hF) (HLd (o := 6) (k := 2) (g4 F N nx hF) (HLe (o := 8) hl)))))⟩
theorem op79 : Opn Try.prog .group 79 := fun en w base spare held m cs y h => by
 obtain ⟨xs, n, _, _, hl, hz, hg⟩ := DataW.trod_struct Try.underlying79 h
 have hz : xs.length = 2 := hz
 have hl : cs.length = 2 := hl.trans (by kernel_rfl)
 obtain ⟨x0, w0, g0⟩ := fldO (i := 0) (o := 0) (k := 1) op9 rfl rfl rfl (by kernel_rfl) (by omega) hg
 obtain ⟨x1, w1, g1⟩ := fldO (i := 1) (o := 1) (k := 1) op3 rfl rfl rfl (by kernel_rfl) (by omega) hg
 exact ⟨⟨x0, x1⟩, ⟨w0, w1⟩, fun F N nx hF => HLd (o := 0) (k := 1) (g0 F N nx hF) (HLd (o := 1) (k := 1) (g1 F N nx hF) (HLe (o := 2) hl))⟩
theorem opL66 : OpnLs Try.prog .group 66 := opn_list Try.underlying66 (by kernel_rfl) op79
theorem opL69 : OpnLs Try.prog .cell 69 := opn_list Try.underlying69 (by kernel_rfl) op55
theorem op69 : Opn Try.prog .cells 69 := fun en w base spare held m cs y h => by
 obtain ⟨l, h1, h2⟩ := opL69 en w base spare held m cs y h
 exact ⟨l, h1, h2⟩
theorem op108 : Opn Try.prog .three 108 := fun en w base spare held m cs y h => by
 obtain ⟨xs, n, _, _, hl, hz, hg⟩ := DataW.trod_array Try.underlying108 h
 have hl : cs.length = 3 := hl.trans (by kernel_rfl)
 obtain ⟨x0, w0, g0⟩ := arrO (i := 0) (k := 1) op69 (by kernel_rfl) (by omega) (by omega) hg
 obtain ⟨x1, w1, g1⟩ := arrO (i := 1) (k := 1) op69 (by kernel_rfl) (by omega) (by omega) hg
 obtain ⟨x2, w2, g2⟩ := arrO (i := 2) (k := 1) op69 (by kernel_rfl) (by omega) (by omega) hg
 exact ⟨⟨x0, x1, x2⟩, ⟨w0, w1, w2⟩, fun F N nx hF => HLd (o := 0) (k := 1) (g0 F N nx hF) (HLd (o := 1) (k := 1) (g1 F N nx hF) (HLd (o := 2) (k := 1) (g2 F N nx hF) (HLe (o := 3) hl)))⟩
end Go.Proofs.Yteebobbhhgmeiaa
namespace Go.Proofs.Yteebobbhhgmeiaa
open Go.ChangeShapes Go.WideShapes Go.ChangeAt Go.RowKit
theorem own : ownKnob Try.prog.godebug = none := by kernel_rfl
theorem laidOut : laidOutB Try.prog = true := by kernel_rfl
section
variable {P : Program} {H : Type} {enc : TypeId × Value → H} {w : World} {base : Nat} {spare : Nat → Bool} {held : Bool} {v : Value} {d : DataW H} {p : List MemPlace}
theorem agg_of_array {r : Reach} {b0 : Nat} {t e : TypeId} {n : Nat} (hu : P.underlying t = some (.array n e)) (h : Value.okWide P w r b0 t v) : ∃ cs, v = .agg cs ∧ cs.size = P.cellsOf t := by
 unfold Value.okWide at h
 rw [hu] at h
 obtain ⟨cs, h1, h2, _⟩ := h
 exact ⟨cs, h1, h2⟩
end
theorem below_trodAll {H : Type} {enc : TypeId × Value → H} {W W' : World} (hb : Below W.heap.size W W') : ∀ (ts : List TypeId) (vs : List Value) (ds : List (DataW H)) (ps : List MemPlace),
  (∀ t ∈ ts, Try.prog.readableRec t = true ∧ t < Try.prog.types.size) → DataW.TrodAll enc Try.prog W 0 (fun _ => true) true ts vs ds ps → (∀ x ∈ ps, x.block < W.heap.size) →
  DataW.TrodAll enc Try.prog W' 0 (fun b => decide (b < W.heap.size)) true ts vs ds ps
 | [], vs, ds, ps, _, h, _ => by
  obtain ⟨rfl, rfl, rfl⟩ := trodAll_nil h
  exact trodAll_mk0
 | t :: ts, vs, ds, ps, hr, h, hlt => by
  obtain ⟨v, vs', d, ds', p, q, rfl, rfl, rfl, h0, h1⟩ := trodAll_cons h
  exact trodAll_cons_mk (Below.trod laidOut (hr t (by simp)).1 (hr t (by simp)).2 h0 hb fun x hx => hlt x (by simp [hx]))
   (below_trodAll hb ts vs' ds' q (fun t' ht' => hr t' (by simp [ht'])) h1 fun x hx => hlt x (by simp [hx]))
section
variable {H : Type} {enc : TypeId × Value → H} {w : World} {base : Nat} {spare : Nat → Bool} {held : Bool} {v : Value} {d : DataW H} {p : List MemPlace}
end
end Go.Proofs.Yteebobbhhgmeiaa
namespace Go.Proofs.Yteebobbhhgmeiaa
open Go.RowKit Go.WideShapes Go.ChangeShapes
section
variable {H : Type} {en : TypeId × Value → H} {P : Program} {w : World} {base : Nat} {spare : Nat → Bool} {held : Bool} {t e : TypeId} {v : Value} {d : DataW H} {p : List MemPlace} {r : Reach} {b0 : Nat} {c : TC}
theorem arg_list (ht : P.underlying t = some (.slice e)) (ho : OpnLs P c t) (hv : Value.okWide P w r b0 t v) (h : DataW.Trod en P w base spare held t v d p) :
  ∃ l : List (U c), (l.length ≤ maxLen ∧ ∀ x ∈ l, Wfd c x) ∧ ∀ (F : Nat → Prop) (N : Nm) (nx : Nat), FB w F → Hv F N nx w (.sl c l) v := by
 obtain ⟨a, len, cap, rfl⟩ := okWide_slice ht hv
 obtain ⟨fuel, hf⟩ := h
 obtain ⟨l, h1, h2⟩ := ho en w base spare held fuel _ _ hf
 refine ⟨l, h1, fun F N nx hF => ?_⟩
 obtain ⟨y, ys, e, h3, _⟩ := (h2 F N nx hF).inv
 have e' : [Value.slice a len cap] = y :: ys := e
 cases e'
 exact h3
theorem arg_one (ho : Opn P c t) (ha : c.isAgg = false) (h1 : v.cells.toList = [v]) (h : DataW.Trod en P w base spare held t v d p) :
  ∃ x : U c, Wfd c x ∧ ∀ (F : Nat → Prop) (N : Nm) (nx : Nat), FB w F → Hv F N nx w (valA c x) v := by
 obtain ⟨fuel, hf⟩ := h
 rw [h1] at hf
 obtain ⟨x, h2, h3⟩ := ho en w base spare held fuel _ _ hf
 exact ⟨x, h2, fun F N nx hF => hl_one (h3 F N nx hF) ha rfl⟩
theorem arg_str (ht : P.underlying t = some .string) (ho : Opn P c t) (ha : c.isAgg = false) (hv : Value.okWide P w r b0 t v) (h : DataW.Trod en P w base spare held t v d p) :
  ∃ x : U c, Wfd c x ∧ ∀ (F : Nat → Prop) (N : Nm) (nx : Nat), FB w F → Hv F N nx w (valA c x) v := by
 obtain ⟨n, rfl⟩ := okWide_string ht hv
 exact arg_one ho ha rfl h
theorem arg_agg {cs : Array Value} (ho : Opn P c t) (ha : c.isAgg = true) (hv : v = .agg cs) (h : DataW.Trod en P w base spare held t v d p) :
  ∃ x : U c, Wfd c x ∧ ∀ (F : Nat → Prop) (N : Nm) (nx : Nat), FB w F → Hv F N nx w (valA c x) v := by
 subst hv
 obtain ⟨fuel, hf⟩ := h
 obtain ⟨x, h2, h3⟩ := ho en w base spare held fuel _ _ hf
 exact ⟨x, h2, fun F N nx hF => hl_agg (h3 F N nx hF) ha⟩
theorem arg_array {n : Nat} (ht : P.underlying t = some (.array n e)) (ho : Opn P c t) (ha : c.isAgg = true) (hv : Value.okWide P w r b0 t v) (h : DataW.Trod en P w base spare held t v d p) :
  ∃ x : U c, Wfd c x ∧ ∀ (F : Nat → Prop) (N : Nm) (nx : Nat), FB w F → Hv F N nx w (valA c x) v := by
 obtain ⟨cs, hcs, _⟩ := agg_of_array ht hv
 exact arg_agg ho ha hcs h
end
theorem call_top {P : Program} {f : FuncId} {args : List A} {nx' : Nat} {o' : Objs} {b : Bool} (h : CallOk P f args 0 [] 1 (.v (.bool b)) nx' o') (W : World) (vs : List Value) (ha : ∀ (F : Nat → Prop) (N : Nm) (nx : Nat), FB W F → HL F N nx W args vs) :
  Calls P f vs.toArray W fun e W' => e = .returned (.bool b) ∧ Below W.heap.size W W' := by
 have hr : HRel (fun b => b < W.heap.size) ⟨fun _ => 0, fun _ => .nilFunc⟩ 0 [] W := ⟨fun g hg => hg, fun i ob hi => (by cases hi), fun i ob g hi => (by cases hi), fun i j x y g hi => (by cases hi)⟩
 refine (h _ _ W vs hr (ha _ _ _ fun b hb => hb)).mono fun e W' ⟨y, F', N', he, _, _, hy, hb⟩ => ?_
 rw [hy.v_inv] at he
 exact ⟨he, hb (Nat.le_refl _)⟩
end Go.Proofs.Yteebobbhhgmeiaa
namespace Go.Proofs.Yteebobbhhgmeiaa.rowLattice
open Go.ChangeShapes Go.WideShapes Go.ChangeAt Go.RowKit
set_option maxRecDepth 100000 in
theorem lifted (os : Os) (started : os.Started) (H : Type) (enc : TypeId × Value → H) :
  ReturnsInHanded {} Try.checked os 14 .any (Rows.rowLatticeSpec.pre6 enc Try.prog Try.f14 Rows.rowLatticeRow.domain false) (Rows.rowLatticeSpec.post enc Try.prog Try.f14 false true false false) := by
 refine returnsInHanded_of_change (C := Try.checked) own started (by kernel_rfl) Try.func14
  (ChangeSpec.witness6 (enc := enc) (C := Try.checked) false ⟨#[], #[.slice none 0 0, .string ⟨#[]⟩, .agg #[.slice none 0 0, .slice none 0 0, .slice none 0 0]], []⟩ 8 (by kernel_rfl) (by kernel_rfl) (by kernel_rfl) (by kernel_rfl)) ?_
 intro W base args ds gs before hval0 hW hcnd _
 have hval : ∀ (j : Nat) t v, Try.f14.params[j]? = some t → args[j]? = some v → Value.okWide Try.prog W .any base t v := hval0
 have hW' := hW
 have hlt : ∀ x ∈ before, x.block < W.heap.size := fun x hx => hW.lt x hx
 obtain ⟨p, q, hA0, hV, rfl, hfz, hnd⟩ := hW
 have hA : DataW.TrodAll enc Try.prog W 0 (fun _ => true) true Try.f14.params.toList args.toList ds p := hA0
 rw [Try.params14] at hA hval
 have hA' := hA
 obtain ⟨v0, vs0, d0, ds0, p0, q0, hargs, rfl, rfl, h0, r0⟩ := trodAll_cons hA
 obtain ⟨v1, vs1, d1, ds1, p1, q1, rfl, rfl, rfl, h1, r1⟩ := trodAll_cons r0
 obtain ⟨v2, vs2, d2, ds2, p2, q2, rfl, rfl, rfl, h2, r2⟩ := trodAll_cons r1
 obtain ⟨rfl, rfl, rfl⟩ := trodAll_nil r2
 obtain rfl : args = #[v0, v1, v2] := by cases args; simp_all
 obtain ⟨rfl, rfl⟩ := trodVars_none hV
 obtain ⟨a0, w0, g0⟩ := arg_list Try.underlying66 opL66 (hval 0 66 v0 rfl rfl) h0
 obtain ⟨a1, w1, g1⟩ := arg_str Try.underlying9 op9 rfl (hval 1 9 v1 rfl rfl) h1
 obtain ⟨a2, w2, g2⟩ := arg_array Try.underlying108 op108 rfl (hval 2 108 v2 rfl rfl) h2
 obtain ⟨hn, ht⟩ := rl_true a0 a1 a2 w0 w1 w2
 have hc := l10_RowLattice_c a0 a1 a2 hn
 have hr : l10_RowLattice_r a0 a1 a2 = .v (.bool true) := by show A.v (.bool (l10_RowLattice_0 a0 a1 a2)) = _; rw [ht]
 rw [hr] at hc
 refine (call_top hc W [v0, v1, v2] fun F N nx hF => HL.cons (g0 F N nx hF) (HL.cons (g1 F N nx hF) (HL.cons (g2 F N nx hF) (HL.nil)))).mono fun e W' ⟨he, bel⟩ => ?_
 subst he
 have hread : ∀ t ∈ [66, 9, 108], Try.prog.readableRec t = true ∧ t < Try.prog.types.size := by
  intro t ht
  simp only [List.mem_cons, List.not_mem_nil, or_false] at ht
  rcases ht with rfl | rfl | rfl
  all_goals exact ⟨by kernel_rfl, of_decide_eq_true (by kernel_rfl)⟩
 exact ⟨_, rfl, _, _, _, [], _, [], hW', trodAll_mk1 (shut_bool Try.underlying4 _),
  below_trodAll bel _ _ _ _ hread hA' (fun x hx => hlt x (by simpa using hx)), rfl, bel.frame _, fun h => by cases h⟩
theorem tA : Try.prog.funcNamed Rows.rowLatticeRow.func = some 14 := by kernel_rfl
theorem b0 : (Rows.rowLatticeRow.wf (OpenSpec.ofChange Rows.rowLatticeSpec)) = true := by kernel_rfl
theorem b1 : (laidOutB Try.prog) = true := by kernel_rfl
theorem b2 : (mapsRowed Try.prog) = true := by kernel_rfl
theorem b3 : (Try.f14.params.all (Try.prog.readableRec ·)) = true := by kernel_rfl
theorem b4 : (namedTie Try.prog Rows.rowLatticeRow.named Rows.rowLatticeSpec.vars) = true := by kernel_rfl
theorem b5 : ((Rows.rowLatticeRow.stops == [])) = true := by kernel_rfl
theorem b6 : ((Try.prog.stops == [])) = true := by kernel_rfl
theorem b7 : ((Rows.rowLatticeRow.knobs == [])) = true := by kernel_rfl
theorem b8 : ((Try.prog.stopKnobs == [])) = true := by kernel_rfl
theorem b9 : ((Rows.rowLatticeRow.inPlace == Try.prog.inPlace 14)) = true := by kernel_rfl
theorem b10 : ((Rows.rowLatticeRow.unfollowed == Try.prog.unfollowed 14)) = true := by kernel_rfl
theorem b11 : ((Rows.rowLatticeRow.recurses == Try.prog.recurses 14)) = true := by kernel_rfl
theorem b12 : ((Rows.rowLatticeRow.named == Try.prog.varsNamed 14)) = true := by kernel_rfl
theorem b13 : ((Rows.rowLatticeRow.maps == (Try.f14.params.toList ++ Rows.rowLatticeSpec.plain.varTypes Try.prog).any (Try.prog.mapsRec ·))) = true := by kernel_rfl
theorem b14 : ((Rows.rowLatticeRow.ifaces == (Try.f14.params.toList ++ Rows.rowLatticeSpec.plain.varTypes Try.prog).any (Try.prog.ifacesRec ·))) = true := by kernel_rfl
theorem b15 : ((Rows.rowLatticeRow.mapsOut == Try.prog.mapsAmong Try.f14.resultTypes.toList)) = true := by kernel_rfl
theorem b16 : ((Rows.rowLatticeRow.loops == (Try.f14.params.toList ++ Rows.rowLatticeSpec.plain.varTypes Try.prog).any (Try.prog.loopsFrom ·))) = true := by kernel_rfl
theorem b17 : ((Rows.rowLatticeRow.wideKeys == (Try.f14.params.toList ++ Rows.rowLatticeSpec.plain.varTypes Try.prog ++ Try.f14.resultTypes.toList).any (Try.prog.wideKeysFrom ·))) = true := by kernel_rfl
theorem b18 : (Rows.rowLatticeSpec.vars.all (Try.prog.varReadable ·)) = true := by kernel_rfl
theorem b19 : (Try.f14.resultTypes.all (fun t => Try.prog.readableRec t && decide (t < Try.prog.types.size))) = true := by kernel_rfl
theorem b20 : ((Rows.rowLatticeRow.ifacesOut == Try.f14.resultTypes.toList.any (Try.prog.ifacesRec ·))) = true := by kernel_rfl
theorem b21 : ((Rows.rowLatticeRow.loopsOut == Try.f14.resultTypes.toList.any (Try.prog.loopsFrom ·))) = true := by kernel_rfl
theorem b22 : ((Rows.rowLatticeRow.plainKeys == Try.prog.plainKeys)) = true := by kernel_rfl
theorem b23 : (Rows.rowLatticeRow.shortTexts.isNone) = true := by kernel_rfl
theorem b24 : (Try.prog.stopsHeard) = true := by kernel_rfl
theorem b25 : (Try.prog.mayEnter) = true := by kernel_rfl
theorem b26 : ((Rows.rowLatticeRow.lifted == Try.prog.liftsFinal)) = true := by kernel_rfl
theorem b27 : ((Try.prog.make == some Rows.rowLatticeRow.make)) = true := by kernel_rfl
theorem b28 : ((Rows.rowLatticeRow.kinds == (if Rows.rowLatticeRow.domain.isEmpty then [] else Try.f14.params.toList.map fun t => match Try.prog.underlying t with | some (.int k) => some k | _ => none))) = true := by kernel_rfl
theorem b29 : ((Rows.rowLatticeRow.pinned == Rows.rowLatticeRow.pinnedBy)) = true := by kernel_rfl
theorem b30 : ((Rows.rowLatticeRow.veiled == (Try.f14.params.toList ++ Rows.rowLatticeSpec.plain.varTypes Try.prog ++ Try.f14.resultTypes.toList).any (Try.prog.veiledRec ·))) = true := by kernel_rfl
theorem b31 : (Rows.rowLatticeRow.veiledFits Try.prog Try.f14.params.toList (Try.f14.params.toList ++ Rows.rowLatticeSpec.plain.varTypes Try.prog ++ Try.f14.resultTypes.toList)) = true := by kernel_rfl
theorem andI {a b : Bool} (h : a = true) (g : b = true) : (a && b) = true := by rw [h, g]; rfl
theorem e1 : (Rows.rowLatticeRow.wf (OpenSpec.ofChange Rows.rowLatticeSpec) && laidOutB Try.prog) = true := andI b0 b1
theorem e2 : (Rows.rowLatticeRow.wf (OpenSpec.ofChange Rows.rowLatticeSpec) && laidOutB Try.prog && mapsRowed Try.prog) = true := andI e1 b2
theorem e3 : (Rows.rowLatticeRow.wf (OpenSpec.ofChange Rows.rowLatticeSpec) && laidOutB Try.prog && mapsRowed Try.prog && Try.f14.params.all (Try.prog.readableRec ·)) = true := andI e2 b3
theorem e4 : (Rows.rowLatticeRow.wf (OpenSpec.ofChange Rows.rowLatticeSpec) && laidOutB Try.prog && mapsRowed Try.prog && Try.f14.params.all (Try.prog.readableRec ·) && namedTie Try.prog Rows.rowLatticeRow.named Rows.rowLatticeSpec.vars) = true := andI e3 b4
theorem e5 : (Rows.rowLatticeRow.wf (OpenSpec.ofChange Rows.rowLatticeSpec) && laidOutB Try.prog && mapsRowed Try.prog && Try.f14.params.all (Try.prog.readableRec ·) && namedTie Try.prog Rows.rowLatticeRow.named Rows.rowLatticeSpec.vars && (Rows.rowLatticeRow.stops == [])) = true := andI e4 b5
theorem e6 : (Rows.rowLatticeRow.wf (OpenSpec.ofChange Rows.rowLatticeSpec) && laidOutB Try.prog && mapsRowed Try.prog && Try.f14.params.all (Try.prog.readableRec ·) && namedTie Try.prog Rows.rowLatticeRow.named Rows.rowLatticeSpec.vars && (Rows.rowLatticeRow.stops == []) && (Try.prog.stops == [])) = true := andI e5 b6
theorem e7 : (Rows.rowLatticeRow.wf (OpenSpec.ofChange Rows.rowLatticeSpec) && laidOutB Try.prog && mapsRowed Try.prog && Try.f14.params.all (Try.prog.readableRec ·) && namedTie Try.prog Rows.rowLatticeRow.named Rows.rowLatticeSpec.vars && (Rows.rowLatticeRow.stops == []) && (Try.prog.stops == []) && (Rows.rowLatticeRow.knobs == [])) = true := andI e6 b7
theorem e8 : (Rows.rowLatticeRow.wf (OpenSpec.ofChange Rows.rowLatticeSpec) && laidOutB Try.prog && mapsRowed Try.prog && Try.f14.params.all (Try.prog.readableRec ·) && namedTie Try.prog Rows.rowLatticeRow.named Rows.rowLatticeSpec.vars && (Rows.rowLatticeRow.stops == []) && (Try.prog.stops == []) && (Rows.rowLatticeRow.knobs == []) && (Try.prog.stopKnobs == [])) = true := andI e7 b8
theorem e9 : (Rows.rowLatticeRow.wf (OpenSpec.ofChange Rows.rowLatticeSpec) && laidOutB Try.prog && mapsRowed Try.prog && Try.f14.params.all (Try.prog.readableRec ·) && namedTie Try.prog Rows.rowLatticeRow.named Rows.rowLatticeSpec.vars && (Rows.rowLatticeRow.stops == []) && (Try.prog.stops == []) && (Rows.rowLatticeRow.knobs == []) && (Try.prog.stopKnobs == []) && (Rows.rowLatticeRow.inPlace == Try.prog.inPlace 14)) = true := andI e8 b9
theorem e10 : (Rows.rowLatticeRow.wf (OpenSpec.ofChange Rows.rowLatticeSpec) && laidOutB Try.prog && mapsRowed Try.prog && Try.f14.params.all (Try.prog.readableRec ·) && namedTie Try.prog Rows.rowLatticeRow.named Rows.rowLatticeSpec.vars && (Rows.rowLatticeRow.stops == []) && (Try.prog.stops == []) && (Rows.rowLatticeRow.knobs == []) && (Try.prog.stopKnobs == []) && (Rows.rowLatticeRow.inPlace == Try.prog.inPlace 14) && (Rows.rowLatticeRow.unfollowed == Try.prog.unfollowed 14)) = true := andI e9 b10
theorem e11 : (Rows.rowLatticeRow.wf (OpenSpec.ofChange Rows.rowLatticeSpec) && laidOutB Try.prog && mapsRowed Try.prog && Try.f14.params.all (Try.prog.readableRec ·) && namedTie Try.prog Rows.rowLatticeRow.named Rows.rowLatticeSpec.vars && (Rows.rowLatticeRow.stops == []) && (Try.prog.stops == []) && (Rows.rowLatticeRow.knobs == []) && (Try.prog.stopKnobs == []) && (Rows.rowLatticeRow.inPlace == Try.prog.inPlace 14) && (Rows.rowLatticeRow.unfollowed == Try.prog.unfollowed 14) && (Rows.rowLatticeRow.recurses == Try.prog.recurses 14)) = true := andI e10 b11
theorem e12 : (Rows.rowLatticeRow.wf (OpenSpec.ofChange Rows.rowLatticeSpec) && laidOutB Try.prog && mapsRowed Try.prog && Try.f14.params.all (Try.prog.readableRec ·) && namedTie Try.prog Rows.rowLatticeRow.named Rows.rowLatticeSpec.vars && (Rows.rowLatticeRow.stops == []) && (Try.prog.stops == []) && (Rows.rowLatticeRow.knobs == []) && (Try.prog.stopKnobs == []) && (Rows.rowLatticeRow.inPlace == Try.prog.inPlace 14) && (Rows.rowLatticeRow.unfollowed == Try.prog.unfollowed 14) && (Rows.rowLatticeRow.recurses == Try.prog.recurses 14) && (Rows.rowLatticeRow.named == Try.prog.varsNamed 14)) = true := andI e11 b12
theorem e13 : (Rows.rowLatticeRow.wf (OpenSpec.ofChange Rows.rowLatticeSpec) && laidOutB Try.prog && mapsRowed Try.prog && Try.f14.params.all (Try.prog.readableRec ·) && namedTie Try.prog Rows.rowLatticeRow.named Rows.rowLatticeSpec.vars && (Rows.rowLatticeRow.stops == []) && (Try.prog.stops == []) && (Rows.rowLatticeRow.knobs == []) && (Try.prog.stopKnobs == []) && (Rows.rowLatticeRow.inPlace == Try.prog.inPlace 14) && (Rows.rowLatticeRow.unfollowed == Try.prog.unfollowed 14) && (Rows.rowLatticeRow.recurses == Try.prog.recurses 14) && (Rows.rowLatticeRow.named == Try.prog.varsNamed 14) && (Rows.rowLatticeRow.maps == (Try.f14.params.toList ++ Rows.rowLatticeSpec.plain.varTypes Try.prog).any (Try.prog.mapsRec ·))) = true := andI e12 b13
theorem e14 : (Rows.rowLatticeRow.wf (OpenSpec.ofChange Rows.rowLatticeSpec) && laidOutB Try.prog && mapsRowed Try.prog && Try.f14.params.all (Try.prog.readableRec ·) && namedTie Try.prog Rows.rowLatticeRow.named Rows.rowLatticeSpec.vars && (Rows.rowLatticeRow.stops == []) && (Try.prog.stops == []) && (Rows.rowLatticeRow.knobs == []) && (Try.prog.stopKnobs == []) && (Rows.rowLatticeRow.inPlace == Try.prog.inPlace 14) && (Rows.rowLatticeRow.unfollowed == Try.prog.unfollowed 14) && (Rows.rowLatticeRow.recurses == Try.prog.recurses 14) && (Rows.rowLatticeRow.named == Try.prog.varsNamed 14) && (Rows.rowLatticeRow.maps == (Try.f14.params.toList ++ Rows.rowLatticeSpec.plain.varTypes Try.prog).any (Try.prog.mapsRec ·)) && (Rows.rowLatticeRow.ifaces == (Try.f14.params.toList ++ Rows.rowLatticeSpec.plain.varTypes Try.prog).any (Try.prog.ifacesRec ·))) = true := andI e13 b14
theorem e15 : (Rows.rowLatticeRow.wf (OpenSpec.ofChange Rows.rowLatticeSpec) && laidOutB Try.prog && mapsRowed Try.prog && Try.f14.params.all (Try.prog.readableRec ·) && namedTie Try.prog Rows.rowLatticeRow.named Rows.rowLatticeSpec.vars && (Rows.rowLatticeRow.stops == []) && (Try.prog.stops == []) && (Rows.rowLatticeRow.knobs == []) && (Try.prog.stopKnobs == []) && (Rows.rowLatticeRow.inPlace == Try.prog.inPlace 14) && (Rows.rowLatticeRow.unfollowed == Try.prog.unfollowed 14) && (Rows.rowLatticeRow.recurses == Try.prog.recurses 14) && (Rows.rowLatticeRow.named == Try.prog.varsNamed 14) && (Rows.rowLatticeRow.maps == (Try.f14.params.toList ++ Rows.rowLatticeSpec.plain.varTypes Try.prog).any (Try.prog.mapsRec ·)) && (Rows.rowLatticeRow.ifaces == (Try.f14.params.toList ++ Rows.rowLatticeSpec.plain.varTypes Try.prog).any (Try.prog.ifacesRec ·)) && (Rows.rowLatticeRow.mapsOut == Try.prog.mapsAmong Try.f14.resultTypes.toList)) = true := andI e14 b15
theorem e16 : (Rows.rowLatticeRow.wf (OpenSpec.ofChange Rows.rowLatticeSpec) && laidOutB Try.prog && mapsRowed Try.prog && Try.f14.params.all (Try.prog.readableRec ·) && namedTie Try.prog Rows.rowLatticeRow.named Rows.rowLatticeSpec.vars && (Rows.rowLatticeRow.stops == []) && (Try.prog.stops == []) && (Rows.rowLatticeRow.knobs == []) && (Try.prog.stopKnobs == []) && (Rows.rowLatticeRow.inPlace == Try.prog.inPlace 14) && (Rows.rowLatticeRow.unfollowed == Try.prog.unfollowed 14) && (Rows.rowLatticeRow.recurses == Try.prog.recurses 14) && (Rows.rowLatticeRow.named == Try.prog.varsNamed 14) && (Rows.rowLatticeRow.maps == (Try.f14.params.toList ++ Rows.rowLatticeSpec.plain.varTypes Try.prog).any (Try.prog.mapsRec ·)) && (Rows.rowLatticeRow.ifaces == (Try.f14.params.toList ++ Rows.rowLatticeSpec.plain.varTypes Try.prog).any (Try.prog.ifacesRec ·)) && (Rows.rowLatticeRow.mapsOut == Try.prog.mapsAmong Try.f14.resultTypes.toList) && (Rows.rowLatticeRow.loops == (Try.f14.params.toList ++ Rows.rowLatticeSpec.plain.varTypes Try.prog).any (Try.prog.loopsFrom ·))) = true := andI e15 b16
theorem e17 : (Rows.rowLatticeRow.wf (OpenSpec.ofChange Rows.rowLatticeSpec) && laidOutB Try.prog && mapsRowed Try.prog && Try.f14.params.all (Try.prog.readableRec ·) && namedTie Try.prog Rows.rowLatticeRow.named Rows.rowLatticeSpec.vars && (Rows.rowLatticeRow.stops == []) && (Try.prog.stops == []) && (Rows.rowLatticeRow.knobs == []) && (Try.prog.stopKnobs == []) && (Rows.rowLatticeRow.inPlace == Try.prog.inPlace 14) && (Rows.rowLatticeRow.unfollowed == Try.prog.unfollowed 14) && (Rows.rowLatticeRow.recurses == Try.prog.recurses 14) && (Rows.rowLatticeRow.named == Try.prog.varsNamed 14) && (Rows.rowLatticeRow.maps == (Try.f14.params.toList ++ Rows.rowLatticeSpec.plain.varTypes Try.prog).any (Try.prog.mapsRec ·)) && (Rows.rowLatticeRow.ifaces == (Try.f14.params.toList ++ Rows.rowLatticeSpec.plain.varTypes Try.prog).any (Try.prog.ifacesRec ·)) && (Rows.rowLatticeRow.mapsOut == Try.prog.mapsAmong Try.f14.resultTypes.toList) && (Rows.rowLatticeRow.loops == (Try.f14.params.toList ++ Rows.rowLatticeSpec.plain.varTypes Try.prog).any (Try.prog.loopsFrom ·)) && (Rows.rowLatticeRow.wideKeys == (Try.f14.params.toList ++ Rows.rowLatticeSpec.plain.varTypes Try.prog ++ Try.f14.resultTypes.toList).any (Try.prog.wideKeysFrom ·))) = true := andI e16 b17
theorem e18 : (Rows.rowLatticeRow.wf (OpenSpec.ofChange Rows.rowLatticeSpec) && laidOutB Try.prog && mapsRowed Try.prog && Try.f14.params.all (Try.prog.readableRec ·) && namedTie Try.prog Rows.rowLatticeRow.named Rows.rowLatticeSpec.vars && (Rows.rowLatticeRow.stops == []) && (Try.prog.stops == []) && (Rows.rowLatticeRow.knobs == []) && (Try.prog.stopKnobs == []) && (Rows.rowLatticeRow.inPlace == Try.prog.inPlace 14) && (Rows.rowLatticeRow.unfollowed == Try.prog.unfollowed 14) && (Rows.rowLatticeRow.recurses == Try.prog.recurses 14) && (Rows.rowLatticeRow.named == Try.prog.varsNamed 14) && (Rows.rowLatticeRow.maps == (Try.f14.params.toList ++ Rows.rowLatticeSpec.plain.varTypes Try.prog).any (Try.prog.mapsRec ·)) && (Rows.rowLatticeRow.ifaces == (Try.f14.params.toList ++ Rows.rowLatticeSpec.plain.varTypes Try.prog).any (Try.prog.ifacesRec ·)) && (Rows.rowLatticeRow.mapsOut == Try.prog.mapsAmong Try.f14.resultTypes.toList) && (Rows.rowLatticeRow.loops == (Try.f14.params.toList ++ Rows.rowLatticeSpec.plain.varTypes Try.prog).any (Try.prog.loopsFrom ·)) && (Rows.rowLatticeRow.wideKeys == (Try.f14.params.toList ++ Rows.rowLatticeSpec.plain.varTypes Try.prog ++ Try.f14.resultTypes.toList).any (Try.prog.wideKeysFrom ·)) && Rows.rowLatticeSpec.vars.all (Try.prog.varReadable ·)) = true := andI e17 b18
theorem e19 : (Rows.rowLatticeRow.wf (OpenSpec.ofChange Rows.rowLatticeSpec) && laidOutB Try.prog && mapsRowed Try.prog && Try.f14.params.all (Try.prog.readableRec ·) && namedTie Try.prog Rows.rowLatticeRow.named Rows.rowLatticeSpec.vars && (Rows.rowLatticeRow.stops == []) && (Try.prog.stops == []) && (Rows.rowLatticeRow.knobs == []) && (Try.prog.stopKnobs == []) && (Rows.rowLatticeRow.inPlace == Try.prog.inPlace 14) && (Rows.rowLatticeRow.unfollowed == Try.prog.unfollowed 14) && (Rows.rowLatticeRow.recurses == Try.prog.recurses 14) && (Rows.rowLatticeRow.named == Try.prog.varsNamed 14) && (Rows.rowLatticeRow.maps == (Try.f14.params.toList ++ Rows.rowLatticeSpec.plain.varTypes Try.prog).any (Try.prog.mapsRec ·)) && (Rows.rowLatticeRow.ifaces == (Try.f14.params.toList ++ Rows.rowLatticeSpec.plain.varTypes Try.prog).any (Try.prog.ifacesRec ·)) && (Rows.rowLatticeRow.mapsOut == Try.prog.mapsAmong Try.f14.resultTypes.toList) && (Rows.rowLatticeRow.loops == (Try.f14.params.toList ++ Rows.rowLatticeSpec.plain.varTypes Try.prog).any (Try.prog.loopsFrom ·)) && (Rows.rowLatticeRow.wideKeys == (Try.f14.params.toList ++ Rows.rowLatticeSpec.plain.varTypes Try.prog ++ Try.f14.resultTypes.toList).any (Try.prog.wideKeysFrom ·)) && Rows.rowLatticeSpec.vars.all (Try.prog.varReadable ·) && Try.f14.resultTypes.all (fun t => Try.prog.readableRec t && decide (t < Try.prog.types.size))) = true := andI e18 b19
theorem e20 : (Rows.rowLatticeRow.wf (OpenSpec.ofChange Rows.rowLatticeSpec) && laidOutB Try.prog && mapsRowed Try.prog && Try.f14.params.all (Try.prog.readableRec ·) && namedTie Try.prog Rows.rowLatticeRow.named Rows.rowLatticeSpec.vars && (Rows.rowLatticeRow.stops == []) && (Try.prog.stops == []) && (Rows.rowLatticeRow.knobs == []) && (Try.prog.stopKnobs == []) && (Rows.rowLatticeRow.inPlace == Try.prog.inPlace 14) && (Rows.rowLatticeRow.unfollowed == Try.prog.unfollowed 14) && (Rows.rowLatticeRow.recurses == Try.prog.recurses 14) && (Rows.rowLatticeRow.named == Try.prog.varsNamed 14) && (Rows.rowLatticeRow.maps == (Try.f14.params.toList ++ Rows.rowLatticeSpec.plain.varTypes Try.prog).any (Try.prog.mapsRec ·)) && (Rows.rowLatticeRow.ifaces == (Try.f14.params.toList ++ Rows.rowLatticeSpec.plain.varTypes Try.prog).any (Try.prog.ifacesRec ·)) && (Rows.rowLatticeRow.mapsOut == Try.prog.mapsAmong Try.f14.resultTypes.toList) && (Rows.rowLatticeRow.loops == (Try.f14.params.toList ++ Rows.rowLatticeSpec.plain.varTypes Try.prog).any (Try.prog.loopsFrom ·)) && (Rows.rowLatticeRow.wideKeys == (Try.f14.params.toList ++ Rows.rowLatticeSpec.plain.varTypes Try.prog ++ Try.f14.resultTypes.toList).any (Try.prog.wideKeysFrom ·)) && Rows.rowLatticeSpec.vars.all (Try.prog.varReadable ·) && Try.f14.resultTypes.all (fun t => Try.prog.readableRec t && decide (t < Try.prog.types.size)) && (Rows.rowLatticeRow.ifacesOut == Try.f14.resultTypes.toList.any (Try.prog.ifacesRec ·))) = true := andI e19 b20
theorem e21 : (Rows.rowLatticeRow.wf (OpenSpec.ofChange Rows.rowLatticeSpec) && laidOutB Try.prog && mapsRowed Try.prog && Try.f14.params.all (Try.prog.readableRec ·) && namedTie Try.prog Rows.rowLatticeRow.named Rows.rowLatticeSpec.vars && (Rows.rowLatticeRow.stops == []) && (Try.prog.stops == []) && (Rows.rowLatticeRow.knobs == []) && (Try.prog.stopKnobs == []) && (Rows.rowLatticeRow.inPlace == Try.prog.inPlace 14) && (Rows.rowLatticeRow.unfollowed == Try.prog.unfollowed 14) && (Rows.rowLatticeRow.recurses == Try.prog.recurses 14) && (Rows.rowLatticeRow.named == Try.prog.varsNamed 14) && (Rows.rowLatticeRow.maps == (Try.f14.params.toList ++ Rows.rowLatticeSpec.plain.varTypes Try.prog).any (Try.prog.mapsRec ·)) && (Rows.rowLatticeRow.ifaces == (Try.f14.params.toList ++ Rows.rowLatticeSpec.plain.varTypes Try.prog).any (Try.prog.ifacesRec ·)) && (Rows.rowLatticeRow.mapsOut == Try.prog.mapsAmong Try.f14.resultTypes.toList) && (Rows.rowLatticeRow.loops == (Try.f14.params.toList ++ Rows.rowLatticeSpec.plain.varTypes Try.prog).any (Try.prog.loopsFrom ·)) && (Rows.rowLatticeRow.wideKeys == (Try.f14.params.toList ++ Rows.rowLatticeSpec.plain.varTypes Try.prog ++ Try.f14.resultTypes.toList).any (Try.prog.wideKeysFrom ·)) && Rows.rowLatticeSpec.vars.all (Try.prog.varReadable ·) && Try.f14.resultTypes.all (fun t => Try.prog.readableRec t && decide (t < Try.prog.types.size)) && (Rows.rowLatticeRow.ifacesOut == Try.f14.resultTypes.toList.any (Try.prog.ifacesRec ·)) && (Rows.rowLatticeRow.loopsOut == Try.f14.resultTypes.toList.any (Try.prog.loopsFrom ·))) = true := andI e20 b21
theorem e22 : (Rows.rowLatticeRow.wf (OpenSpec.ofChange Rows.rowLatticeSpec) && laidOutB Try.prog && mapsRowed Try.prog && Try.f14.params.all (Try.prog.readableRec ·) && namedTie Try.prog Rows.rowLatticeRow.named Rows.rowLatticeSpec.vars && (Rows.rowLatticeRow.stops == []) && (Try.prog.stops == []) && (Rows.rowLatticeRow.knobs == []) && (Try.prog.stopKnobs == []) && (Rows.rowLatticeRow.inPlace == Try.prog.inPlace 14) && (Rows.rowLatticeRow.unfollowed == Try.prog.unfollowed 14) && (Rows.rowLatticeRow.recurses == Try.prog.recurses 14) && (Rows.rowLatticeRow.named == Try.prog.varsNamed 14) && (Rows.rowLatticeRow.maps == (Try.f14.params.toList ++ Rows.rowLatticeSpec.plain.varTypes Try.prog).any (Try.prog.mapsRec ·)) && (Rows.rowLatticeRow.ifaces == (Try.f14.params.toList ++ Rows.rowLatticeSpec.plain.varTypes Try.prog).any (Try.prog.ifacesRec ·)) && (Rows.rowLatticeRow.mapsOut == Try.prog.mapsAmong Try.f14.resultTypes.toList) && (Rows.rowLatticeRow.loops == (Try.f14.params.toList ++ Rows.rowLatticeSpec.plain.varTypes Try.prog).any (Try.prog.loopsFrom ·)) && (Rows.rowLatticeRow.wideKeys == (Try.f14.params.toList ++ Rows.rowLatticeSpec.plain.varTypes Try.prog ++ Try.f14.resultTypes.toList).any (Try.prog.wideKeysFrom ·)) && Rows.rowLatticeSpec.vars.all (Try.prog.varReadable ·) && Try.f14.resultTypes.all (fun t => Try.prog.readableRec t && decide (t < Try.prog.types.size)) && (Rows.rowLatticeRow.ifacesOut == Try.f14.resultTypes.toList.any (Try.prog.ifacesRec ·)) && (Rows.rowLatticeRow.loopsOut == Try.f14.resultTypes.toList.any (Try.prog.loopsFrom ·)) && (Rows.rowLatticeRow.plainKeys == Try.prog.plainKeys)) = true := andI e21 b22
theorem e23 : (Rows.rowLatticeRow.wf (OpenSpec.ofChange Rows.rowLatticeSpec) && laidOutB Try.prog && mapsRowed Try.prog && Try.f14.params.all (Try.prog.readableRec ·) && namedTie Try.prog Rows.rowLatticeRow.named Rows.rowLatticeSpec.vars && (Rows.rowLatticeRow.stops == []) && (Try.prog.stops == []) && (Rows.rowLatticeRow.knobs == []) && (Try.prog.stopKnobs == []) && (Rows.rowLatticeRow.inPlace == Try.prog.inPlace 14) && (Rows.rowLatticeRow.unfollowed == Try.prog.unfollowed 14) && (Rows.rowLatticeRow.recurses == Try.prog.recurses 14) && (Rows.rowLatticeRow.named == Try.prog.varsNamed 14) && (Rows.rowLatticeRow.maps == (Try.f14.params.toList ++ Rows.rowLatticeSpec.plain.varTypes Try.prog).any (Try.prog.mapsRec ·)) && (Rows.rowLatticeRow.ifaces == (Try.f14.params.toList ++ Rows.rowLatticeSpec.plain.varTypes Try.prog).any (Try.prog.ifacesRec ·)) && (Rows.rowLatticeRow.mapsOut == Try.prog.mapsAmong Try.f14.resultTypes.toList) && (Rows.rowLatticeRow.loops == (Try.f14.params.toList ++ Rows.rowLatticeSpec.plain.varTypes Try.prog).any (Try.prog.loopsFrom ·)) && (Rows.rowLatticeRow.wideKeys == (Try.f14.params.toList ++ Rows.rowLatticeSpec.plain.varTypes Try.prog ++ Try.f14.resultTypes.toList).any (Try.prog.wideKeysFrom ·)) && Rows.rowLatticeSpec.vars.all (Try.prog.varReadable ·) && Try.f14.resultTypes.all (fun t => Try.prog.readableRec t && decide (t < Try.prog.types.size)) && (Rows.rowLatticeRow.ifacesOut == Try.f14.resultTypes.toList.any (Try.prog.ifacesRec ·)) && (Rows.rowLatticeRow.loopsOut == Try.f14.resultTypes.toList.any (Try.prog.loopsFrom ·)) && (Rows.rowLatticeRow.plainKeys == Try.prog.plainKeys) && Rows.rowLatticeRow.shortTexts.isNone) = true := andI e22 b23
theorem e24 : (Rows.rowLatticeRow.wf (OpenSpec.ofChange Rows.rowLatticeSpec) && laidOutB Try.prog && mapsRowed Try.prog && Try.f14.params.all (Try.prog.readableRec ·) && namedTie Try.prog Rows.rowLatticeRow.named Rows.rowLatticeSpec.vars && (Rows.rowLatticeRow.stops == []) && (Try.prog.stops == []) && (Rows.rowLatticeRow.knobs == []) && (Try.prog.stopKnobs == []) && (Rows.rowLatticeRow.inPlace == Try.prog.inPlace 14) && (Rows.rowLatticeRow.unfollowed == Try.prog.unfollowed 14) && (Rows.rowLatticeRow.recurses == Try.prog.recurses 14) && (Rows.rowLatticeRow.named == Try.prog.varsNamed 14) && (Rows.rowLatticeRow.maps == (Try.f14.params.toList ++ Rows.rowLatticeSpec.plain.varTypes Try.prog).any (Try.prog.mapsRec ·)) && (Rows.rowLatticeRow.ifaces == (Try.f14.params.toList ++ Rows.rowLatticeSpec.plain.varTypes Try.prog).any (Try.prog.ifacesRec ·)) && (Rows.rowLatticeRow.mapsOut == Try.prog.mapsAmong Try.f14.resultTypes.toList) && (Rows.rowLatticeRow.loops == (Try.f14.params.toList ++ Rows.rowLatticeSpec.plain.varTypes Try.prog).any (Try.prog.loopsFrom ·)) && (Rows.rowLatticeRow.wideKeys == (Try.f14.params.toList ++ Rows.rowLatticeSpec.plain.varTypes Try.prog ++ Try.f14.resultTypes.toList).any (Try.prog.wideKeysFrom ·)) && Rows.rowLatticeSpec.vars.all (Try.prog.varReadable ·) && Try.f14.resultTypes.all (fun t => Try.prog.readableRec t && decide (t < Try.prog.types.size)) && (Rows.rowLatticeRow.ifacesOut == Try.f14.resultTypes.toList.any (Try.prog.ifacesRec ·)) && (Rows.rowLatticeRow.loopsOut == Try.f14.resultTypes.toList.any (Try.prog.loopsFrom ·)) && (Rows.rowLatticeRow.plainKeys == Try.prog.plainKeys) && Rows.rowLatticeRow.shortTexts.isNone && Try.prog.stopsHeard) = true := andI e23 b24
theorem e25 : (Rows.rowLatticeRow.wf (OpenSpec.ofChange Rows.rowLatticeSpec) && laidOutB Try.prog && mapsRowed Try.prog && Try.f14.params.all (Try.prog.readableRec ·) && namedTie Try.prog Rows.rowLatticeRow.named Rows.rowLatticeSpec.vars && (Rows.rowLatticeRow.stops == []) && (Try.prog.stops == []) && (Rows.rowLatticeRow.knobs == []) && (Try.prog.stopKnobs == []) && (Rows.rowLatticeRow.inPlace == Try.prog.inPlace 14) && (Rows.rowLatticeRow.unfollowed == Try.prog.unfollowed 14) && (Rows.rowLatticeRow.recurses == Try.prog.recurses 14) && (Rows.rowLatticeRow.named == Try.prog.varsNamed 14) && (Rows.rowLatticeRow.maps == (Try.f14.params.toList ++ Rows.rowLatticeSpec.plain.varTypes Try.prog).any (Try.prog.mapsRec ·)) && (Rows.rowLatticeRow.ifaces == (Try.f14.params.toList ++ Rows.rowLatticeSpec.plain.varTypes Try.prog).any (Try.prog.ifacesRec ·)) && (Rows.rowLatticeRow.mapsOut == Try.prog.mapsAmong Try.f14.resultTypes.toList) && (Rows.rowLatticeRow.loops == (Try.f14.params.toList ++ Rows.rowLatticeSpec.plain.varTypes Try.prog).any (Try.prog.loopsFrom ·)) && (Rows.rowLatticeRow.wideKeys == (Try.f14.params.toList ++ Rows.rowLatticeSpec.plain.varTypes Try.prog ++ Try.f14.resultTypes.toList).any (Try.prog.wideKeysFrom ·)) && Rows.rowLatticeSpec.vars.all (Try.prog.varReadable ·) && Try.f14.resultTypes.all (fun t => Try.prog.readableRec t && decide (t < Try.prog.types.size)) && (Rows.rowLatticeRow.ifacesOut == Try.f14.resultTypes.toList.any (Try.prog.ifacesRec ·)) && (Rows.rowLatticeRow.loopsOut == Try.f14.resultTypes.toList.any (Try.prog.loopsFrom ·)) && (Rows.rowLatticeRow.plainKeys == Try.prog.plainKeys) && Rows.rowLatticeRow.shortTexts.isNone && Try.prog.stopsHeard && Try.prog.mayEnter) = true := andI e24 b25
theorem e26 : (Rows.rowLatticeRow.wf (OpenSpec.ofChange Rows.rowLatticeSpec) && laidOutB Try.prog && mapsRowed Try.prog && Try.f14.params.all (Try.prog.readableRec ·) && namedTie Try.prog Rows.rowLatticeRow.named Rows.rowLatticeSpec.vars && (Rows.rowLatticeRow.stops == []) && (Try.prog.stops == []) && (Rows.rowLatticeRow.knobs == []) && (Try.prog.stopKnobs == []) && (Rows.rowLatticeRow.inPlace == Try.prog.inPlace 14) && (Rows.rowLatticeRow.unfollowed == Try.prog.unfollowed 14) && (Rows.rowLatticeRow.recurses == Try.prog.recurses 14) && (Rows.rowLatticeRow.named == Try.prog.varsNamed 14) && (Rows.rowLatticeRow.maps == (Try.f14.params.toList ++ Rows.rowLatticeSpec.plain.varTypes Try.prog).any (Try.prog.mapsRec ·)) && (Rows.rowLatticeRow.ifaces == (Try.f14.params.toList ++ Rows.rowLatticeSpec.plain.varTypes Try.prog).any (Try.prog.ifacesRec ·)) && (Rows.rowLatticeRow.mapsOut == Try.prog.mapsAmong Try.f14.resultTypes.toList) && (Rows.rowLatticeRow.loops == (Try.f14.params.toList ++ Rows.rowLatticeSpec.plain.varTypes Try.prog).any (Try.prog.loopsFrom ·)) && (Rows.rowLatticeRow.wideKeys == (Try.f14.params.toList ++ Rows.rowLatticeSpec.plain.varTypes Try.prog ++ Try.f14.resultTypes.toList).any (Try.prog.wideKeysFrom ·)) && Rows.rowLatticeSpec.vars.all (Try.prog.varReadable ·) && Try.f14.resultTypes.all (fun t => Try.prog.readableRec t && decide (t < Try.prog.types.size)) && (Rows.rowLatticeRow.ifacesOut == Try.f14.resultTypes.toList.any (Try.prog.ifacesRec ·)) && (Rows.rowLatticeRow.loopsOut == Try.f14.resultTypes.toList.any (Try.prog.loopsFrom ·)) && (Rows.rowLatticeRow.plainKeys == Try.prog.plainKeys) && Rows.rowLatticeRow.shortTexts.isNone && Try.prog.stopsHeard && Try.prog.mayEnter && (Rows.rowLatticeRow.lifted == Try.prog.liftsFinal)) = true := andI e25 b26
theorem e27 : (Rows.rowLatticeRow.wf (OpenSpec.ofChange Rows.rowLatticeSpec) && laidOutB Try.prog && mapsRowed Try.prog && Try.f14.params.all (Try.prog.readableRec ·) && namedTie Try.prog Rows.rowLatticeRow.named Rows.rowLatticeSpec.vars && (Rows.rowLatticeRow.stops == []) && (Try.prog.stops == []) && (Rows.rowLatticeRow.knobs == []) && (Try.prog.stopKnobs == []) && (Rows.rowLatticeRow.inPlace == Try.prog.inPlace 14) && (Rows.rowLatticeRow.unfollowed == Try.prog.unfollowed 14) && (Rows.rowLatticeRow.recurses == Try.prog.recurses 14) && (Rows.rowLatticeRow.named == Try.prog.varsNamed 14) && (Rows.rowLatticeRow.maps == (Try.f14.params.toList ++ Rows.rowLatticeSpec.plain.varTypes Try.prog).any (Try.prog.mapsRec ·)) && (Rows.rowLatticeRow.ifaces == (Try.f14.params.toList ++ Rows.rowLatticeSpec.plain.varTypes Try.prog).any (Try.prog.ifacesRec ·)) && (Rows.rowLatticeRow.mapsOut == Try.prog.mapsAmong Try.f14.resultTypes.toList) && (Rows.rowLatticeRow.loops == (Try.f14.params.toList ++ Rows.rowLatticeSpec.plain.varTypes Try.prog).any (Try.prog.loopsFrom ·)) && (Rows.rowLatticeRow.wideKeys == (Try.f14.params.toList ++ Rows.rowLatticeSpec.plain.varTypes Try.prog ++ Try.f14.resultTypes.toList).any (Try.prog.wideKeysFrom ·)) && Rows.rowLatticeSpec.vars.all (Try.prog.varReadable ·) && Try.f14.resultTypes.all (fun t => Try.prog.readableRec t && decide (t < Try.prog.types.size)) && (Rows.rowLatticeRow.ifacesOut == Try.f14.resultTypes.toList.any (Try.prog.ifacesRec ·)) && (Rows.rowLatticeRow.loopsOut == Try.f14.resultTypes.toList.any (Try.prog.loopsFrom ·)) && (Rows.rowLatticeRow.plainKeys == Try.prog.plainKeys) && Rows.rowLatticeRow.shortTexts.isNone && Try.prog.stopsHeard && Try.prog.mayEnter && (Rows.rowLatticeRow.lifted == Try.prog.liftsFinal) && (Try.prog.make == some Rows.rowLatticeRow.make)) = true := andI e26 b27
theorem e28 : (Rows.rowLatticeRow.wf (OpenSpec.ofChange Rows.rowLatticeSpec) && laidOutB Try.prog && mapsRowed Try.prog && Try.f14.params.all (Try.prog.readableRec ·) && namedTie Try.prog Rows.rowLatticeRow.named Rows.rowLatticeSpec.vars && (Rows.rowLatticeRow.stops == []) && (Try.prog.stops == []) && (Rows.rowLatticeRow.knobs == []) && (Try.prog.stopKnobs == []) && (Rows.rowLatticeRow.inPlace == Try.prog.inPlace 14) && (Rows.rowLatticeRow.unfollowed == Try.prog.unfollowed 14) && (Rows.rowLatticeRow.recurses == Try.prog.recurses 14) && (Rows.rowLatticeRow.named == Try.prog.varsNamed 14) && (Rows.rowLatticeRow.maps == (Try.f14.params.toList ++ Rows.rowLatticeSpec.plain.varTypes Try.prog).any (Try.prog.mapsRec ·)) && (Rows.rowLatticeRow.ifaces == (Try.f14.params.toList ++ Rows.rowLatticeSpec.plain.varTypes Try.prog).any (Try.prog.ifacesRec ·)) && (Rows.rowLatticeRow.mapsOut == Try.prog.mapsAmong Try.f14.resultTypes.toList) && (Rows.rowLatticeRow.loops == (Try.f14.params.toList ++ Rows.rowLatticeSpec.plain.varTypes Try.prog).any (Try.prog.loopsFrom ·)) && (Rows.rowLatticeRow.wideKeys == (Try.f14.params.toList ++ Rows.rowLatticeSpec.plain.varTypes Try.prog ++ Try.f14.resultTypes.toList).any (Try.prog.wideKeysFrom ·)) && Rows.rowLatticeSpec.vars.all (Try.prog.varReadable ·) && Try.f14.resultTypes.all (fun t => Try.prog.readableRec t && decide (t < Try.prog.types.size)) && (Rows.rowLatticeRow.ifacesOut == Try.f14.resultTypes.toList.any (Try.prog.ifacesRec ·)) && (Rows.rowLatticeRow.loopsOut == Try.f14.resultTypes.toList.any (Try.prog.loopsFrom ·)) && (Rows.rowLatticeRow.plainKeys == Try.prog.plainKeys) && Rows.rowLatticeRow.shortTexts.isNone && Try.prog.stopsHeard && Try.prog.mayEnter && (Rows.rowLatticeRow.lifted == Try.prog.liftsFinal) && (Try.prog.make == some Rows.rowLatticeRow.make) && (Rows.rowLatticeRow.kinds == (if Rows.rowLatticeRow.domain.isEmpty then [] else Try.f14.params.toList.map fun t => match Try.prog.underlying t with | some (.int k) => some k | _ => none))) = true := andI e27 b28
theorem e29 : (Rows.rowLatticeRow.wf (OpenSpec.ofChange Rows.rowLatticeSpec) && laidOutB Try.prog && mapsRowed Try.prog && Try.f14.params.all (Try.prog.readableRec ·) && namedTie Try.prog Rows.rowLatticeRow.named Rows.rowLatticeSpec.vars && (Rows.rowLatticeRow.stops == []) && (Try.prog.stops == []) && (Rows.rowLatticeRow.knobs == []) && (Try.prog.stopKnobs == []) && (Rows.rowLatticeRow.inPlace == Try.prog.inPlace 14) && (Rows.rowLatticeRow.unfollowed == Try.prog.unfollowed 14) && (Rows.rowLatticeRow.recurses == Try.prog.recurses 14) && (Rows.rowLatticeRow.named == Try.prog.varsNamed 14) && (Rows.rowLatticeRow.maps == (Try.f14.params.toList ++ Rows.rowLatticeSpec.plain.varTypes Try.prog).any (Try.prog.mapsRec ·)) && (Rows.rowLatticeRow.ifaces == (Try.f14.params.toList ++ Rows.rowLatticeSpec.plain.varTypes Try.prog).any (Try.prog.ifacesRec ·)) && (Rows.rowLatticeRow.mapsOut == Try.prog.mapsAmong Try.f14.resultTypes.toList) && (Rows.rowLatticeRow.loops == (Try.f14.params.toList ++ Rows.rowLatticeSpec.plain.varTypes Try.prog).any (Try.prog.loopsFrom ·)) && (Rows.rowLatticeRow.wideKeys == (Try.f14.params.toList ++ Rows.rowLatticeSpec.plain.varTypes Try.prog ++ Try.f14.resultTypes.toList).any (Try.prog.wideKeysFrom ·)) && Rows.rowLatticeSpec.vars.all (Try.prog.varReadable ·) && Try.f14.resultTypes.all (fun t => Try.prog.readableRec t && decide (t < Try.prog.types.size)) && (Rows.rowLatticeRow.ifacesOut == Try.f14.resultTypes.toList.any (Try.prog.ifacesRec ·)) && (Rows.rowLatticeRow.loopsOut == Try.f14.resultTypes.toList.any (Try.prog.loopsFrom ·)) && (Rows.rowLatticeRow.plainKeys == Try.prog.plainKeys) && Rows.rowLatticeRow.shortTexts.isNone && Try.prog.stopsHeard && Try.prog.mayEnter && (Rows.rowLatticeRow.lifted == Try.prog.liftsFinal) && (Try.prog.make == some Rows.rowLatticeRow.make) && (Rows.rowLatticeRow.kinds == (if Rows.rowLatticeRow.domain.isEmpty then [] else Try.f14.params.toList.map fun t => match Try.prog.underlying t with | some (.int k) => some k | _ => none)) && (Rows.rowLatticeRow.pinned == Rows.rowLatticeRow.pinnedBy)) = true := andI e28 b29
theorem e30 : (Rows.rowLatticeRow.wf (OpenSpec.ofChange Rows.rowLatticeSpec) && laidOutB Try.prog && mapsRowed Try.prog && Try.f14.params.all (Try.prog.readableRec ·) && namedTie Try.prog Rows.rowLatticeRow.named Rows.rowLatticeSpec.vars && (Rows.rowLatticeRow.stops == []) && (Try.prog.stops == []) && (Rows.rowLatticeRow.knobs == []) && (Try.prog.stopKnobs == []) && (Rows.rowLatticeRow.inPlace == Try.prog.inPlace 14) && (Rows.rowLatticeRow.unfollowed == Try.prog.unfollowed 14) && (Rows.rowLatticeRow.recurses == Try.prog.recurses 14) && (Rows.rowLatticeRow.named == Try.prog.varsNamed 14) && (Rows.rowLatticeRow.maps == (Try.f14.params.toList ++ Rows.rowLatticeSpec.plain.varTypes Try.prog).any (Try.prog.mapsRec ·)) && (Rows.rowLatticeRow.ifaces == (Try.f14.params.toList ++ Rows.rowLatticeSpec.plain.varTypes Try.prog).any (Try.prog.ifacesRec ·)) && (Rows.rowLatticeRow.mapsOut == Try.prog.mapsAmong Try.f14.resultTypes.toList) && (Rows.rowLatticeRow.loops == (Try.f14.params.toList ++ Rows.rowLatticeSpec.plain.varTypes Try.prog).any (Try.prog.loopsFrom ·)) && (Rows.rowLatticeRow.wideKeys == (Try.f14.params.toList ++ Rows.rowLatticeSpec.plain.varTypes Try.prog ++ Try.f14.resultTypes.toList).any (Try.prog.wideKeysFrom ·)) && Rows.rowLatticeSpec.vars.all (Try.prog.varReadable ·) && Try.f14.resultTypes.all (fun t => Try.prog.readableRec t && decide (t < Try.prog.types.size)) && (Rows.rowLatticeRow.ifacesOut == Try.f14.resultTypes.toList.any (Try.prog.ifacesRec ·)) && (Rows.rowLatticeRow.loopsOut == Try.f14.resultTypes.toList.any (Try.prog.loopsFrom ·)) && (Rows.rowLatticeRow.plainKeys == Try.prog.plainKeys) && Rows.rowLatticeRow.shortTexts.isNone && Try.prog.stopsHeard && Try.prog.mayEnter && (Rows.rowLatticeRow.lifted == Try.prog.liftsFinal) && (Try.prog.make == some Rows.rowLatticeRow.make) && (Rows.rowLatticeRow.kinds == (if Rows.rowLatticeRow.domain.isEmpty then [] else Try.f14.params.toList.map fun t => match Try.prog.underlying t with | some (.int k) => some k | _ => none)) && (Rows.rowLatticeRow.pinned == Rows.rowLatticeRow.pinnedBy) && (Rows.rowLatticeRow.veiled == (Try.f14.params.toList ++ Rows.rowLatticeSpec.plain.varTypes Try.prog ++ Try.f14.resultTypes.toList).any (Try.prog.veiledRec ·))) = true := andI e29 b30
theorem e31 : (Rows.rowLatticeRow.wf (OpenSpec.ofChange Rows.rowLatticeSpec) && laidOutB Try.prog && mapsRowed Try.prog && Try.f14.params.all (Try.prog.readableRec ·) && namedTie Try.prog Rows.rowLatticeRow.named Rows.rowLatticeSpec.vars && (Rows.rowLatticeRow.stops == []) && (Try.prog.stops == []) && (Rows.rowLatticeRow.knobs == []) && (Try.prog.stopKnobs == []) && (Rows.rowLatticeRow.inPlace == Try.prog.inPlace 14) && (Rows.rowLatticeRow.unfollowed == Try.prog.unfollowed 14) && (Rows.rowLatticeRow.recurses == Try.prog.recurses 14) && (Rows.rowLatticeRow.named == Try.prog.varsNamed 14) && (Rows.rowLatticeRow.maps == (Try.f14.params.toList ++ Rows.rowLatticeSpec.plain.varTypes Try.prog).any (Try.prog.mapsRec ·)) && (Rows.rowLatticeRow.ifaces == (Try.f14.params.toList ++ Rows.rowLatticeSpec.plain.varTypes Try.prog).any (Try.prog.ifacesRec ·)) && (Rows.rowLatticeRow.mapsOut == Try.prog.mapsAmong Try.f14.resultTypes.toList) && (Rows.rowLatticeRow.loops == (Try.f14.params.toList ++ Rows.rowLatticeSpec.plain.varTypes Try.prog).any (Try.prog.loopsFrom ·)) && (Rows.rowLatticeRow.wideKeys == (Try.f14.params.toList ++ Rows.rowLatticeSpec.plain.varTypes Try.prog ++ Try.f14.resultTypes.toList).any (Try.prog.wideKeysFrom ·)) && Rows.rowLatticeSpec.vars.all (Try.prog.varReadable ·) && Try.f14.resultTypes.all (fun t => Try.prog.readableRec t && decide (t < Try.prog.types.size)) && (Rows.rowLatticeRow.ifacesOut == Try.f14.resultTypes.toList.any (Try.prog.ifacesRec ·)) && (Rows.rowLatticeRow.loopsOut == Try.f14.resultTypes.toList.any (Try.prog.loopsFrom ·)) && (Rows.rowLatticeRow.plainKeys == Try.prog.plainKeys) && Rows.rowLatticeRow.shortTexts.isNone && Try.prog.stopsHeard && Try.prog.mayEnter && (Rows.rowLatticeRow.lifted == Try.prog.liftsFinal) && (Try.prog.make == some Rows.rowLatticeRow.make) && (Rows.rowLatticeRow.kinds == (if Rows.rowLatticeRow.domain.isEmpty then [] else Try.f14.params.toList.map fun t => match Try.prog.underlying t with | some (.int k) => some k | _ => none)) && (Rows.rowLatticeRow.pinned == Rows.rowLatticeRow.pinnedBy) && (Rows.rowLatticeRow.veiled == (Try.f14.params.toList ++ Rows.rowLatticeSpec.plain.varTypes Try.prog ++ Try.f14.resultTypes.toList).any (Try.prog.veiledRec ·)) && Rows.rowLatticeRow.veiledFits Try.prog Try.f14.params.toList (Try.f14.params.toList ++ Rows.rowLatticeSpec.plain.varTypes Try.prog ++ Try.f14.resultTypes.toList)) = true := andI e30 b31
set_option maxRecDepth 100000 in
theorem tB : joinedFacts Try.prog 14 Try.f14 Rows.rowLatticeSpec Rows.rowLatticeRow = true := by
 unfold joinedFacts
 exact e31
theorem tC : Try.f14.isInstance Try.prog Rows.rowLatticeRow.origin Rows.rowLatticeRow.targs := of_decide_eq_true (by kernel_rfl)
theorem tD0 : decide (Check.packageOf Try.f14.name = "main") = false := by kernel_rfl
theorem tD : Try.f14.isWrapper Try.prog Rows.rowLatticeRow.wrapper Rows.rowLatticeRow.mainSum := by
 unfold Func.isWrapper
 rw [if_neg (of_decide_eq_false tD0)]
 exact ⟨rfl, rfl⟩
theorem over : Rows.rowLatticeRow.holds Try.pinned (OpenSpec.ofChange Rows.rowLatticeSpec) :=
 OpenClaim.holds_of_wide 14 Try.f14 rfl rfl rfl rfl rfl rfl rfl ⟨rfl, rfl, rfl, rfl, rfl⟩ rfl rfl rfl rfl rfl tA Try.func14 tB tC tD
  (fun os started H enc _ => lifted os started H enc)
theorem proved : Rows.RowLatticeSaid := over
end Go.Proofs.Yteebobbhhgmeiaa.rowLattice
