/- gemelref23.Learn where it is refused -/
import Derived.Test.YteebobbhhgmeiaaRfB
import Derived.Test.YteebobbhhgmeiaaFrD
namespace Go.Proofs.Yteebobbhhgmeiaa
open Go.RowKit Go.BigFrame

set_option maxHeartbeats 400000 in
theorem rlearn_f {s a t u v x y ack own : Int} (w : World) (h : bothG s a t u v x y = false) :
    Calls Try.prog 28 #[.agg #[.int .i64 s, .int .i64 a, .int .i64 t, .int .i64 u, .int .i64 v], .agg #[.int .i64 x, .int .i64 y], .int .i64 ack, .int .i64 own] w fun e w' => e = .returned (.tuple #[.agg #[.int .i64 0, .int .i64 0, .int .i64 0, .int .i64 0, .int .i64 0], .int .i64 2]) ∧ Below w.heap.size w w' := by
  cases hg : goodF s a t u v with
  | true =>
    have H := Lib.hid (And.intro hg (show goodV x y = false by unfold bothG at h; simpa [hg] using h))
    clear h hg
    obtain ⟨n, hn⟩ : ∃ n, w.heap.size = n := ⟨_, rfl⟩
    rw [hn]
    go_enter Try.func28, Try.ntmps28
    go_wp2_with fail
    refine cl_boxes3 hn (fun W hb hz b0 b1 b2 => ?_)
    refine (rfgood_t _ H.out.1).mono ?_
    rintro e w1 ⟨rfl, hb1⟩
    have k1 := cb2 (blk_next b1 hb1)
    go_wp2_with fail
    refine (rgood_f _ H.out.2).mono ?_
    rintro e w2 ⟨rfl, hb2⟩
    have k2 := cb5 (blk_next (blk_next b2 hb1) hb2)
    have f2 := fb5 (blk_next (blk_next b2 hb1) hb2)
    go_wp2_with fail
    go_tidy
    refine bodyPost_ret (v := .tuple #[.agg #[.int .i64 0, .int .i64 0, .int .i64 0, .int .i64 0, .int .i64 0], .int .i64 2]) ?_ rfl ⟨rfl, ?_⟩
    · simp [results, Try.results28, go_sem, k2]
    · repeat (with_reducible refine below_set ?_ (by omega) _)
      exact below_next (below_next hb (by omega) hb1) (size_next (by omega) hb1) hb2
  | false =>
    have H := Lib.hid hg
    clear h hg
    obtain ⟨n, hn⟩ : ∃ n, w.heap.size = n := ⟨_, rfl⟩
    rw [hn]
    go_enter Try.func28, Try.ntmps28
    go_wp2_with fail
    refine cl_boxes3 hn (fun W hb hz b0 b1 b2 => ?_)
    refine (rfgood_f _ H.out).mono ?_
    rintro e w1 ⟨rfl, hb1⟩
    have k2 := cb5 (blk_next b2 hb1)
    have f2 := fb5 (blk_next b2 hb1)
    go_wp2_with fail
    go_tidy
    refine bodyPost_ret (v := .tuple #[.agg #[.int .i64 0, .int .i64 0, .int .i64 0, .int .i64 0, .int .i64 0], .int .i64 2]) ?_ rfl ⟨rfl, ?_⟩
    · simp [results, Try.results28, go_sem, k2]
    · repeat (with_reducible refine below_set ?_ (by omega) _)
      exact below_next hb (by omega) hb1

set_option maxHeartbeats 1000000 in
theorem rlearn_b {s a t u v x y ack own : Int} (w : World) (h : bothG s a t u v x y = true) (hl : ¬ LearnOk s x y ack own) :
    Calls Try.prog 28 #[.agg #[.int .i64 s, .int .i64 a, .int .i64 t, .int .i64 u, .int .i64 v], .agg #[.int .i64 x, .int .i64 y], .int .i64 ack, .int .i64 own] w fun e w' => e = .returned (.tuple #[.agg #[.int .i64 0, .int .i64 0, .int .i64 0, .int .i64 0, .int .i64 0], .int .i64 2]) ∧ Below w.heap.size w w' := by
  have hs := bothG_site h
  have H := Lib.hid (bothG_and h)
  clear h
  have hcond : s = 1 ∧ (ack < 0 ∨ x < ack ∨ own < 0 ∨ 1099511627776 < own) ∨ s = 2 ∧ (ack < 0 ∨ y < ack ∨ own < 0 ∨ 1099511627776 < own) := by
    unfold LearnOk mineF at hl
    rcases hs with rfl | rfl
    · refine .inl ⟨rfl, ?_⟩
      rw [if_pos rfl] at hl
      omega
    · refine .inr ⟨rfl, ?_⟩
      rw [if_neg (by decide)] at hl
      omega
  clear hl hs
  obtain ⟨n, hn⟩ : ∃ n, w.heap.size = n := ⟨_, rfl⟩
  rw [hn]
  go_enter Try.func28, Try.ntmps28
  go_wp2_with fail
  refine cl_boxes3 hn (fun W hb hz b0 b1 b2 => ?_)
  refine (rfgood_t _ H.out.1).mono ?_
  rintro e w1 ⟨rfl, hb1⟩
  have k1 := cb2 (blk_next b1 hb1)
  go_wp2_with fail
  refine (rgood_t _ H.out.2).mono ?_
  rintro e w2 ⟨rfl, hb2⟩
  clear k1
  have k0 := cb5 (blk_next (blk_next b0 hb1) hb2)
  have k1 := cb2 (blk_next (blk_next b1 hb1) hb2)
  have k2 := cb5 (blk_next (blk_next b2 hb1) hb2)
  have f2 := fb5 (blk_next (blk_next b2 hb1) hb2)
  have hbel := below_next (below_next hb (by omega) hb1) (size_next (by omega) hb1) hb2
  clear b0 b1 b2 hb1 hb2 hb hz H
  rcases hcond with ⟨rfl, hno⟩ | ⟨rfl, hno⟩
  all_goals
    by_cases hq : 0 ≤ own ∧ own ≤ 1099511627776
    · have hq' : decide (0 ≤ own ∧ own ≤ 1099511627776) = true := decide_eq_true hq
      go_wp2_with (go_at_call 101; refine (seq_any _ _).mono ?_; rintro e w' ⟨rfl, rfl⟩; rw [hq'])
      all_goals
        first
          | (exfalso; omega)
          | (go_tidy
             refine bodyPost_ret (v := .tuple #[.agg #[.int .i64 0, .int .i64 0, .int .i64 0, .int .i64 0, .int .i64 0], .int .i64 2]) ?_ rfl ⟨rfl, ?_⟩
             · simp [results, Try.results28, go_sem, k2]
             · repeat (with_reducible refine below_set ?_ (by omega) _)
               exact hbel)
    · have hq' : decide (0 ≤ own ∧ own ≤ 1099511627776) = false := decide_eq_false hq
      clear hno
      go_wp2_with (go_at_call 101; refine (seq_any _ _).mono ?_; rintro e w' ⟨rfl, rfl⟩; rw [hq'])
      all_goals
        first
          | (go_tidy
             refine bodyPost_ret (v := .tuple #[.agg #[.int .i64 0, .int .i64 0, .int .i64 0, .int .i64 0, .int .i64 0], .int .i64 2]) ?_ rfl ⟨rfl, ?_⟩
             · simp [results, Try.results28, go_sem, k2]
             · repeat (with_reducible refine below_set ?_ (by omega) _)
               exact hbel)
end Go.Proofs.Yteebobbhhgmeiaa
