/- CellWrites, the plain law. -/
import Derived.Test.YteebobbhhgmeiaaSd
namespace Go.Proofs.Yteebobbhhgmeiaa
open Go.RowKit

theorem vecG (a b : Int) : vec_Good a b = r06_Good a b := by
  rw [Bool.eq_iff_iff]
  simp [vec_Good, each_good_0, each_good_1, vec_Good_f1, r06_Good]
  omega
theorem stG (a b : Int) : stamp_Good a b = r05_Good a b := by
  rw [Bool.eq_iff_iff]
  unfold stamp_Good r05_Good stamp_known
  by_cases h : a = 0 ∧ b = 0
  · obtain ⟨rfl, rfl⟩ := h
    simp
  · have h' : (a == (0 : Int) && b == (0 : Int)) = false := by simpa using h
    rw [h']
    simp
    omega
theorem g05 {a b : Int} (h : r05_Good a b = true) : a = 0 ∧ b = 0 ∨ a > 0 := by
  unfold r05_Good at h
  by_cases h' : a = 0 ∧ b = 0
  · exact .inl h'
  · right
    have h2 : (a == (0 : Int) && b == (0 : Int)) = false := by simpa using h'
    rw [h2] at h
    simp at h
    omega
theorem k2_eq (a b0 b1 c0 c1 : Int) (d : Bool) (e : ByteArray) : cell_Of_k2 a b0 b1 c0 c1 d e = r08_Of_k0 a b0 b1 c0 c1 d e := by
  unfold cell_Of_k2 r08_Of_k0
  rw [vecG, stG]
  have hz : (b0 == (0 : Int) && b1 == (0 : Int)) = true → (b0 == (0 : Int)) = true := fun h => by
    simp at h
    simp [h.1]
  have hg : r05_Good b0 b1 = true → (b0 == (0 : Int)) = true → (b0 == (0 : Int) && b1 == (0 : Int)) = true := fun h h' => by
    rcases g05 h with ⟨rfl, rfl⟩ | h2
    · rfl
    · simp at h'
      omega
  generalize (b0 == (0 : Int) && b1 == (0 : Int)) = q1 at *
  generalize (b0 == (0 : Int)) = q2 at *
  generalize r05_Good b0 b1 = q3 at *
  generalize r06_Good c0 c1 = q4
  generalize (a != (1 : Int)) = q5
  generalize (a != (2 : Int)) = q6
  generalize (e.toList == (ByteArray.mk #[]).toList) = q7
  cases q1 <;> cases q2 <;> cases q3 <;> cases q4 <;> cases q5 <;> cases q6 <;> cases q7 <;> cases d <;> first | rfl | (cases hz rfl; done) | (cases hg rfl rfl; done)

theorem writes_law (a b0 b1 c0 c1 : Int) (d : Bool) (e : ByteArray) : l08_CellWrites a b0 b1 c0 c1 d e = true := by
  have h2 := k2_eq a b0 b1 c0 c1 d e
  have e0 : cell_Of_0 a b0 b1 c0 c1 d e = r08_Of_0 a b0 b1 c0 c1 d e := by
    unfold cell_Of_0 r08_Of_0 cell_Of_k1 cell_Of_k0 cell_Of_k3 r08_Of_k1
    rw [h2]
    generalize r08_Of_k0 a b0 b1 c0 c1 d e = q1
    generalize decide ((↑e.size : Int) > (64 : Int)) = q2
    generalize (a == (2 : Int)) = q3
    cases q1 <;> cases q2 <;> cases q3 <;> cases d <;> rfl
  have e1 : cell_Of_1 a b0 b1 c0 c1 d e = r08_Of_1 a b0 b1 c0 c1 d e := by
    unfold cell_Of_1 r08_Of_1 cell_Of_k1 cell_Of_k0 cell_Of_k3 r08_Of_k1
    rw [h2]
    generalize r08_Of_k0 a b0 b1 c0 c1 d e = q1
    generalize decide ((↑e.size : Int) > (64 : Int)) = q2
    generalize (a == (2 : Int)) = q3
    cases q1 <;> cases q2 <;> cases q3 <;> cases d <;> rfl
  have e2 : cell_Of_2 a b0 b1 c0 c1 d e = r08_Of_2 a b0 b1 c0 c1 d e := by
    unfold cell_Of_2 r08_Of_2 cell_Of_k1 cell_Of_k0 cell_Of_k3 r08_Of_k1
    rw [h2]
    generalize r08_Of_k0 a b0 b1 c0 c1 d e = q1
    generalize decide ((↑e.size : Int) > (64 : Int)) = q2
    generalize (a == (2 : Int)) = q3
    cases q1 <;> cases q2 <;> cases q3 <;> cases d <;> rfl
  have e3 : cell_Of_3 a b0 b1 c0 c1 d e = r08_Of_3 a b0 b1 c0 c1 d e := by
    unfold cell_Of_3 r08_Of_3 cell_Of_k1 cell_Of_k0 cell_Of_k3 r08_Of_k1
    rw [h2]
    generalize r08_Of_k0 a b0 b1 c0 c1 d e = q1
    generalize decide ((↑e.size : Int) > (64 : Int)) = q2
    generalize (a == (2 : Int)) = q3
    cases q1 <;> cases q2 <;> cases q3 <;> cases d <;> rfl
  have e4 : cell_Of_4 a b0 b1 c0 c1 d e = r08_Of_4 a b0 b1 c0 c1 d e := by
    unfold cell_Of_4 r08_Of_4 cell_Of_k1 cell_Of_k3 r08_Of_k1
    rw [h2]
    generalize r08_Of_k0 a b0 b1 c0 c1 d e = q1
    generalize decide ((↑e.size : Int) > (64 : Int)) = q2
    generalize (a == (2 : Int)) = q3
    cases q1 <;> cases q2 <;> cases q3 <;> cases d <;> rfl
  have e5 : cell_Of_5 a b0 b1 c0 c1 d e = r08_Of_5 a b0 b1 c0 c1 d e := by
    unfold cell_Of_5 r08_Of_5 cell_Of_k1 cell_Of_k3 r08_Of_k1
    rw [h2]
    generalize r08_Of_k0 a b0 b1 c0 c1 d e = q1
    generalize decide ((↑e.size : Int) > (64 : Int)) = q2
    generalize (a == (2 : Int)) = q3
    cases q1 <;> cases q2 <;> cases q3 <;> cases d <;> rfl
  have e6 : cell_Of_6 a b0 b1 c0 c1 d e = r08_Of_6 a b0 b1 c0 c1 d e := by
    unfold cell_Of_6 r08_Of_6 cell_Of_k1 cell_Of_k3 r08_Of_k1
    rw [h2]
    generalize r08_Of_k0 a b0 b1 c0 c1 d e = q1
    generalize decide ((↑e.size : Int) > (64 : Int)) = q2
    generalize (a == (2 : Int)) = q3
    cases q1 <;> cases q2 <;> cases q3 <;> cases d <;> rfl
  have e7 : cell_Of_7 a b0 b1 c0 c1 d e = r08_Of_7 a b0 b1 c0 c1 d e := by
    unfold cell_Of_7 r08_Of_7 cell_Of_k1 cell_Of_k3 r08_Of_k1
    rw [h2]
    generalize r08_Of_k0 a b0 b1 c0 c1 d e = q1
    generalize decide ((↑e.size : Int) > (64 : Int)) = q2
    generalize (a == (2 : Int)) = q3
    cases q1 <;> cases q2 <;> cases q3 <;> cases d <;> rfl
  have e8 : cell_Of_8 a b0 b1 c0 c1 d e = r08_Of_8 a b0 b1 c0 c1 d e := by
    unfold cell_Of_8 r08_Of_8 cell_Of_k1 cell_Of_k3 r08_Of_k1
    rw [h2]
    generalize r08_Of_k0 a b0 b1 c0 c1 d e = q1
    generalize decide ((↑e.size : Int) > (64 : Int)) = q2
    generalize (a == (2 : Int)) = q3
    cases q1 <;> cases q2 <;> cases q3 <;> cases d <;> rfl
  have good : (cell_Of_8 a b0 b1 c0 c1 d e != (0 : Int) || cell_Good a (cell_Of_0 a b0 b1 c0 c1 d e) (cell_Of_1 a b0 b1 c0 c1 d e) (cell_Of_2 a b0 b1 c0 c1 d e) (cell_Of_3 a b0 b1 c0 c1 d e) (cell_Of_4 a b0 b1 c0 c1 d e) (cell_Of_5 a b0 b1 c0 c1 d e) (cell_Of_6 a b0 b1 c0 c1 d e) (cell_Of_7 a b0 b1 c0 c1 d e)) = true := by
    rw [e0, e1, e2, e3, e4, e5, e6, e7, e8]
    unfold r08_Of_0 r08_Of_1 r08_Of_2 r08_Of_3 r08_Of_4 r08_Of_5 r08_Of_6 r08_Of_7 r08_Of_8
    cases hk : r08_Of_k0 a b0 b1 c0 c1 d e with
    | true => rfl
    | false =>
      cases hl : r08_Of_k1 a b0 b1 c0 c1 d e with
      | true => rfl
      | false =>
        unfold r08_Of_k0 at hk
        simp only [Bool.or_eq_false_iff, Bool.and_eq_false_iff, bne_eq_false_iff_eq, Bool.not_eq_false', beq_eq_false_iff_ne] at hk
        obtain ⟨⟨⟨⟨k1, k2⟩, k3⟩, k4⟩, k5⟩ := hk
        have hb : b0 > 0 := by
          rcases g05 k2 with ⟨h, _⟩ | h
          · exact absurd h k3
          · exact h
        have hs : ((↑e.size : Int) ≤ (64 : Int)) := by
          unfold r08_Of_k1 at hl
          simp at hl
          exact hl
        cases had : (a == (2 : Int) && d) with
        | true =>
          simp only [Bool.and_eq_true, beq_iff_eq] at had
          obtain ⟨rfl, rfl⟩ := had
          simp [cell_Good, vecG, k4, cell_written]
        | false =>
          have hd5 : (d && !e.toList == (ByteArray.mk #[]).toList) = false := by
            rcases k5 with h | h
            · rw [h]; rfl
            · rw [h]; simp
          simp only [cond_false, bne_self_eq_false, Bool.false_or]
          unfold cell_Good
          rw [vecG, vecG, stG, k2, k4, hd5]
          rcases k1 with rfl | rfl
          · simp [hb, hs]
          · have hdf : d = false := by simpa using had
            subst hdf
            simp [hb, hs, r06_Good]
  unfold l08_CellWrites
  rw [good, e0, e1, e2, e3, e4, e5, e6, e7, e8]
  simp
end Go.Proofs.Yteebobbhhgmeiaa
