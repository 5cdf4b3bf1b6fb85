/- CellSeen, the plain law. -/
import Derived.Test.YteebobbhhgmeiaaSe
import Derived.Test.YteebobbhhgmeiaaCwA
namespace Go.Proofs.Yteebobbhhgmeiaa
open Go.RowKit

theorem vecC (a b c d : Int) : vec_Covers a b c d = (decide (a ≥ c) && decide (b ≥ d)) := by
  rw [Bool.eq_iff_iff]
  simp [vec_Covers, vec_Meet_0, vec_Meet_1, each_meet_0, each_meet_1, vec_Meet_f1]
  omega
theorem seen_law (a b0 b1 c0 c1 : Int) (d : Bool) (e : ByteArray) (x y : Int) : l08_CellSeen a b0 b1 c0 c1 d e x y = true := by
  have h2 := k2_eq a b0 b1 c0 c1 d e
  unfold l08_CellSeen l08_CellSeen_k0
  unfold cell_Of_0 cell_Of_1 cell_Of_2 cell_Of_3 cell_Of_4 cell_Of_5 cell_Of_6 cell_Of_7 cell_Of_8 cell_Of_k1 cell_Of_k0
  rw [h2]
  cases hk : r08_Of_k0 a b0 b1 c0 c1 d e with
  | true => simp
  | false =>
    cases hl : cell_Of_k3 a b0 b1 c0 c1 d e with
    | true => simp
    | false =>
      unfold r08_Of_k0 at hk
      simp only [Bool.or_eq_false_iff, Bool.and_eq_false_iff, bne_eq_false_iff_eq, Bool.not_eq_false', beq_eq_false_iff_ne] at hk
      obtain ⟨⟨⟨⟨k1, k2⟩, k3⟩, k4⟩, k5⟩ := hk
      have hb : b0 > 0 := by
        rcases g05 k2 with ⟨h, _⟩ | h
        · exact absurd h k3
        · exact h
      have hs : ((↑e.size : Int) ≤ (64 : Int)) := by
        unfold cell_Of_k3 at hl
        simp at hl
        exact hl
      have hc : 0 ≤ c0 ∧ 0 ≤ c1 := by
        unfold r06_Good at k4
        simp at k4
        exact ⟨k4.1.1.1, k4.1.2⟩
      cases had : (d && a == (2 : Int)) with
      | true =>
        simp only [Bool.and_eq_true, beq_iff_eq] at had
        obtain ⟨rfl, rfl⟩ := had
        simp [cell_Seen_1, cell_Seen_k0, cell_written]
      | false =>
        have hd5 : (d && !e.toList == (ByteArray.mk #[]).toList) = false := by
          rcases k5 with h | h
          · rw [h]; rfl
          · rw [h]; simp
        have hw : ∀ p q, cell_written b0 b1 c0 c1 d e p q = true := fun p q => by
          unfold cell_written
          have : (b0 == (0 : Int)) = false := by simpa using k3
          rw [this]
          rfl
        have hgood : cell_Good a b0 b1 c0 c1 d e 0 0 = true := by
          unfold cell_Good
          rw [vecG, vecG, stG, k2, k4, hd5]
          rcases k1 with rfl | rfl
          · simp [hb, hs]
          · have hdf : d = false := by simpa using had
            subst hdf
            simp [hb, hs, r06_Good]
        have hcov : vec_Covers c0 c1 0 0 = true := by rw [vecC]; simp [hc.1, hc.2]
        simp only [Bool.or_false, cond_false, cell_Seen_1, cell_Seen_0, cell_Seen_k0, hgood, hw, hcov]
        cases d with
        | true =>
          have ha : a = 1 := by
            rcases k1 with h | h
            · exact h
            · rw [h] at had; cases had
          subst ha
          simp
        | false =>
          by_cases hx : a = 2 ∧ 0 ≤ x ∧ 0 ≤ y ∧ x ≤ 1099511627776 ∧ y ≤ 1099511627776
          · obtain ⟨rfl, x0, y0, x1, y1⟩ := hx
            have hg2 : cell_Good 2 b0 b1 c0 c1 false e x y = true := by
              unfold cell_Good
              rw [vecG, vecG, stG, k2, k4, hd5]
              have : r06_Good x y = true := by unfold r06_Good; simp [x0, y0, x1, y1]
              rw [this]
              simp [hb, hs]
            rw [hg2, vecC]
            simp
            try intros
            try by_cases h1 : x ≤ c0 <;> by_cases h2 : y ≤ c1 <;> simp_all
          · have : (a == (2 : Int) && decide (x ≥ (0 : Int)) && decide (y ≥ (0 : Int)) && decide (x ≤ (1099511627776 : Int)) && decide (y ≤ (1099511627776 : Int))) = false := by
              rw [Bool.eq_false_iff]
              intro hh
              simp at hh
              exact hx ⟨hh.1.1.1.1, hh.1.1.1.2, hh.1.1.2, hh.1.2, hh.2⟩
            rw [this]
            simp
end Go.Proofs.Yteebobbhhgmeiaa
