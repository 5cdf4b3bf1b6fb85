/- gemelref23: Good -/
import Derived.Test.YteebobbhhgmeiaaFrC
import Derived.Test.YteebobbhhgmeiaaMax
namespace Go.Proofs.Yteebobbhhgmeiaa
open Go.RowKit Go.BigFrame

set_option maxHeartbeats 1000000 in
theorem rfgood_any (s a t u v : Int) (w : World) :
    Calls Try.prog 35 #[.agg #[.int .i64 s, .int .i64 a, .int .i64 t, .int .i64 u, .int .i64 v]] w fun e w' => e = .returned (.bool (goodF s a t u v)) ∧ Below w.heap.size w w' := by
  obtain ⟨n, hn⟩ : ∃ n, w.heap.size = n := ⟨_, rfl⟩
  rw [hn]
  go_enter Try.func35, Try.ntmps35
  go_wp2_with (go_at_call 101; refine (seq_any _ _).mono ?_; rintro e w' ⟨rfl, rfl⟩)
  all_goals
    go_tidy
    go_ret
    refine ⟨ret_bool ?_, ?_⟩
    · unfold goodF
      rw [Bool.eq_iff_iff, decide_eq_true_eq]
      unfold GoodF
      try simp only [Bool.not_eq_true', Bool.not_eq_false', decide_eq_true_eq, decide_eq_false_iff_not] at *
      first
        | (simp; done)
        | (simp; omega)
    · rw [← hn]
      exact (Below.refl _ _).alloc (Nat.le_refl _) _
end Go.Proofs.Yteebobbhhgmeiaa
