/- frontier.Learn where it is refused -/
import Derived.Test.YteebobbhhgmeiaaFrD
namespace Go.Proofs.Yteebobbhhgmeiaa
open Go.RowKit Go.BigFrame

set_option maxHeartbeats 400000 in
theorem learn_f {s a t u v x y ack own : Int} (w : World) (h : bothG s a t u v x y = false) :
    Calls Try.prog 26 #[.agg #[.int .i64 s, .int .i64 a, .int .i64 t, .int .i64 u, .int .i64 v], .agg #[.int .i64 x, .int .i64 y], .int .i64 ack, .int .i64 own] w fun e w' => e = .returned (.tuple #[.agg #[.int .i64 0, .int .i64 0, .int .i64 0, .int .i64 0, .int .i64 0], .int .i64 2]) ∧ Below w.heap.size w w' := by
  have H := Lib.hid h
  clear h
  obtain ⟨n, hn⟩ : ∃ n, w.heap.size = n := ⟨_, rfl⟩
  rw [hn]
  go_enter Try.func26, Try.ntmps26
  go_wp2_with fail
  refine cl_boxes3 hn (fun W hb hz b0 b1 b2 => ?_)
  refine (fault_f _ H.out).mono ?_
  rintro e w1 ⟨rfl, hb1⟩
  have k2 := cb5 (blk_next b2 hb1)
  have f2 := fb5 (blk_next b2 hb1)
  go_wp2
  go_tidy
  refine bodyPost_ret (v := .tuple #[.agg #[.int .i64 0, .int .i64 0, .int .i64 0, .int .i64 0, .int .i64 0], .int .i64 2]) ?_ rfl ⟨rfl, ?_⟩
  · simp [results, Try.results26, go_sem, k2]
  · repeat (with_reducible refine below_set ?_ (by omega) _)
    exact below_next hb (by omega) hb1

set_option maxHeartbeats 1000000 in
theorem learn_b {s a t u v x y ack own : Int} (w : World) (h : bothG s a t u v x y = true) (hl : ¬ LearnOk s x y ack own) :
    Calls Try.prog 26 #[.agg #[.int .i64 s, .int .i64 a, .int .i64 t, .int .i64 u, .int .i64 v], .agg #[.int .i64 x, .int .i64 y], .int .i64 ack, .int .i64 own] w fun e w' => e = .returned (.tuple #[.agg #[.int .i64 0, .int .i64 0, .int .i64 0, .int .i64 0, .int .i64 0], .int .i64 2]) ∧ Below w.heap.size w w' := by
  have hs := bothG_site h
  have H := Lib.hid h
  clear h
  obtain ⟨n, hn⟩ : ∃ n, w.heap.size = n := ⟨_, rfl⟩
  rw [hn]
  go_enter Try.func26, Try.ntmps26
  go_wp2_with fail
  refine cl_boxes3 hn (fun W hb hz b0 b1 b2 => ?_)
  refine (fault_t _ H.out).mono ?_
  rintro e w1 ⟨rfl, hb1⟩
  have k0 := cb5 (blk_next b0 hb1)
  have k1 := cb2 (blk_next b1 hb1)
  have k2 := cb5 (blk_next b2 hb1)
  have f2 := fb5 (blk_next b2 hb1)
  have hbel := below_next hb (by omega) hb1
  have hcond : s = 1 ∧ (ack < 0 ∨ x < ack ∨ own < 0 ∨ 1099511627776 < own) ∨ s = 2 ∧ (ack < 0 ∨ y < ack ∨ own < 0 ∨ 1099511627776 < own) := by
    unfold LearnOk mineF at hl
    rcases hs with rfl | rfl
    · refine .inl ⟨rfl, ?_⟩
      rw [if_pos rfl] at hl
      omega
    · refine .inr ⟨rfl, ?_⟩
      rw [if_neg (by decide)] at hl
      omega
  clear hl hs b0 b1 b2 hb1 hb hz H
  rcases hcond with ⟨rfl, hno⟩ | ⟨rfl, hno⟩
  all_goals
    go_wp2_with fail
    all_goals
      first
        | (exfalso; omega)
        | (go_tidy
           refine bodyPost_ret (v := .tuple #[.agg #[.int .i64 0, .int .i64 0, .int .i64 0, .int .i64 0, .int .i64 0], .int .i64 2]) ?_ rfl ⟨rfl, ?_⟩
           · simp [results, Try.results26, go_sem, k2]
           · repeat (with_reducible refine below_set ?_ (by omega) _)
             exact hbel)
        | skip
end Go.Proofs.Yteebobbhhgmeiaa
