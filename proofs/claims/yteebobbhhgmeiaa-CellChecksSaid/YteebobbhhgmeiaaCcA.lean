/- CellChecks, the plain law. -/
import Derived.Test.YteebobbhhgmeiaaSf
import Derived.Test.YteebobbhhgmeiaaCsA
namespace Go.Proofs.Yteebobbhhgmeiaa
open Go.RowKit

theorem writ (b0 b1 c0 c1 : Int) (d : Bool) (e : ByteArray) (x y : Int) : cell_written b0 b1 c0 c1 d e x y = r08_Written b0 b1 c0 c1 d e x y := by
  unfold cell_written r08_Written
  generalize e.toList = l
  generalize (ByteArray.mk #[]).toList = m
  rw [Bool.eq_iff_iff]
  simp
  grind
theorem goodC (a b0 b1 c0 c1 : Int) (d : Bool) (e : ByteArray) (x y : Int) : cell_Good a b0 b1 c0 c1 d e x y = r08_Good a b0 b1 c0 c1 d e x y := by
  unfold cell_Good r08_Good
  rw [writ, stG, vecG, vecG]
  unfold r08_Zero
  generalize r08_Written b0 b1 c0 c1 d e x y = q1
  generalize r05_Good b0 b1 = q2
  generalize r06_Good c0 c1 = q3
  generalize r06_Good x y = q4
  generalize (e.toList == (ByteArray.mk #[]).toList) = q5
  generalize (decide (b0 > (0 : Int))) = q6
  generalize (decide ((↑e.size : Int) ≤ (64 : Int))) = q7
  generalize (x == (0 : Int) && y == (0 : Int)) = q8
  by_cases h1 : a = 1
  · subst h1
    cases q1 <;> cases q2 <;> cases q3 <;> cases q4 <;> cases q5 <;> cases q6 <;> cases q7 <;> cases q8 <;> cases d <;> rfl
  · by_cases h2 : a = 2
    · subst h2
      cases q1 <;> cases q2 <;> cases q3 <;> cases q4 <;> cases q5 <;> cases q6 <;> cases q7 <;> cases q8 <;> cases d <;> rfl
    · have e1 : (a == (1 : Int)) = false := by simpa using h1
      have e2 : (a == (2 : Int)) = false := by simpa using h2
      simp [e1, e2, bne]
theorem checks_law (a b0 b1 b2 b3 : Int) (b4 : Bool) (b5 : ByteArray) (b6 b7 : Int) : l08_CellChecks a b0 b1 b2 b3 b4 b5 b6 b7 = true := by
  have hc : ∀ p q r s : Int, vec_Covers p q r s = r06_Covers p q r s := fun p q r s => by
    rw [vecC]; unfold r06_Covers; rfl
  have hk : cell_Seen_k0 a b0 b1 b2 b3 b4 b5 b6 b7 = r08_Seen_k0 a b0 b1 b2 b3 b4 b5 b6 b7 := by
    unfold cell_Seen_k0 r08_Seen_k0
    rw [goodC, writ, hc]
  unfold l08_CellChecks cell_Seen_0 cell_Seen_1 r08_Seen_0 r08_Seen_1 cell_Known_0 cell_Known_1 r08_Known_0 r08_Known_1 each_join_0 each_join_1 vec_Join_f1
  rw [goodC, hk]
  simp
end Go.Proofs.Yteebobbhhgmeiaa
