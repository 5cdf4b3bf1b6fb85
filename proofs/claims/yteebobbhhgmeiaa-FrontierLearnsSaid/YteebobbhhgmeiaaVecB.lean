/- vec.Good, vec.Meet, vec.Covers; gemelref06.Good, gemelref06.Covers -/
import Derived.Test.YteebobbhhgmeiaaVecA
import Derived.Test.YteebobbhhgmeiaaEq
namespace Go.Proofs.Yteebobbhhgmeiaa
open Go.RowKit Go.BigFrame

def goodV (a b : Int) : Bool := decide (0 ≤ a) && decide (a ≤ 1099511627776) && decide (0 ≤ b) && decide (b ≤ 1099511627776)
def covV (a b x y : Int) : Bool := decide (x ≤ a) && decide (y ≤ b)

set_option maxHeartbeats 400000 in
theorem vgood_any (a b : Int) (w : World) :
    Calls Try.prog 103 #[.agg #[.int .i64 a, .int .i64 b]] w fun e w' => e = .returned (.bool (goodV a b)) ∧ Below w.heap.size w w' := by
  obtain ⟨n, hn⟩ : ∃ n, w.heap.size = n := ⟨_, rfl⟩
  rw [hn]
  go_enter Try.func103, Try.ntmps103
  go_wp2
  refine wp_boxes1 hn (fun W hb hz b0 => ?_)
  have x0 := xb2 b0
  refine wp_region_ext (by kernel_rfl) (by kernel_rfl) ?_
  repeat (first | go_big_quiet_skip | (go_big_quiet_want; go_big_quiet_op; first | go_big_quiet_on | (apply Exists.intro; refine ⟨fun _ => ?_, ?_⟩; ((go_at_call 152; exact qcall (each_good _ _ _ _ _))); go_big_quiet_on)))
  refine wpQuiet_nil ?_
  intro _ hw'
  obtain ⟨xq, hw''⟩ := hw'
  subst hw''
  go_wp2
  go_tidy
  go_ret
  refine ⟨ret_bool ?_, below_grow hb (by omega) xq⟩
  unfold goodV gGood
  rw [Bool.eq_iff_iff]
  simp
  omega

set_option maxHeartbeats 400000 in
theorem vmeet_any (a b x y : Int) (w : World) :
    Calls Try.prog 112 #[.agg #[.int .i64 a, .int .i64 b], .agg #[.int .i64 x, .int .i64 y]] w fun e w' => e = .returned (.agg #[.int .i64 (gMin a x), .int .i64 (gMin b y)]) ∧ Below w.heap.size w w' := by
  obtain ⟨n, hn⟩ : ∃ n, w.heap.size = n := ⟨_, rfl⟩
  rw [hn]
  go_enter Try.func112, Try.ntmps112
  go_wp2_with fail
  refine cl_boxes3 hn (fun W hb hz b0 b1 b2 => ?_)
  refine (each_meet _ _ _ _ _).mono ?_
  rintro e w1 ⟨rfl, hb1⟩
  have k2 := cb2 (blk_next b2 hb1)
  have f2 := fb2 (blk_next b2 hb1)
  go_wp2
  go_tidy
  refine bodyPost_ret (v := .agg #[.int .i64 (gMin a x), .int .i64 (gMin b y)]) ?_ rfl ⟨rfl, ?_⟩
  · simp [results, Try.results112, go_sem, k2]
  · repeat (with_reducible refine below_set ?_ (by omega) _)
    exact below_next hb (by omega) hb1

set_option maxHeartbeats 400000 in
theorem vcov_any (a b x y : Int) (w : World) :
    Calls Try.prog 53 #[.agg #[.int .i64 a, .int .i64 b], .agg #[.int .i64 x, .int .i64 y]] w fun e w' => e = .returned (.bool (covV a b x y)) ∧ Below w.heap.size w w' := by
  obtain ⟨n, hn⟩ : ∃ n, w.heap.size = n := ⟨_, rfl⟩
  rw [hn]
  go_enter Try.func53, Try.ntmps53
  go_wp2
  refine wp_boxes2 hn (fun W hb hz b0 b1 => ?_)
  have x0 := xb2 b0
  have x1 := xb2 b1
  refine wp_region_ext (by kernel_rfl) (by kernel_rfl) ?_
  repeat (first | go_big_quiet_skip | (go_big_quiet_want; go_big_quiet_op; first | go_big_quiet_on | (apply Exists.intro; refine ⟨fun _ => ?_, ?_⟩; ((go_at_call 112; exact qcall (vmeet_any _ _ _ _ _))); go_big_quiet_on)))
  refine wpQuiet_nil ?_
  intro _ hw'
  obtain ⟨xq, hw''⟩ := hw'
  subst hw''
  go_wp2
  go_tidy
  go_ret
  refine ⟨ret_bool ?_, below_grow hb (by omega) xq⟩
  unfold covV gMin
  rw [Bool.eq_iff_iff]
  simp
  omega

set_option maxHeartbeats 400000 in
theorem rcov_any (a b x y : Int) (w : World) :
    Calls Try.prog 107 #[.agg #[.int .i64 a, .int .i64 b], .agg #[.int .i64 x, .int .i64 y]] w fun e w' => e = .returned (.bool (covV a b x y)) ∧ Below w.heap.size w w' := by
  obtain ⟨n, hn⟩ : ∃ n, w.heap.size = n := ⟨_, rfl⟩
  rw [hn]
  go_enter Try.func107, Try.ntmps107
  go_wp2
  all_goals
    go_tidy
    go_ret
    refine ⟨ret_bool (by unfold covV; rw [Bool.eq_iff_iff]; simp; omega), ?_⟩
    rw [← hn]
    exact ((Below.refl _ _).alloc (Nat.le_refl _) _).alloc (by simp) _

set_option maxHeartbeats 400000 in
theorem rgood_any (a b : Int) (w : World) :
    Calls Try.prog 100 #[.agg #[.int .i64 a, .int .i64 b]] w fun e w' => e = .returned (.bool (goodV a b)) ∧ Below w.heap.size w w' := by
  obtain ⟨n, hn⟩ : ∃ n, w.heap.size = n := ⟨_, rfl⟩
  rw [hn]
  go_enter Try.func100, Try.ntmps100
  go_wp2
  all_goals
    go_tidy
    go_ret
    refine ⟨ret_bool (by unfold goodV; rw [Bool.eq_iff_iff]; simp; omega), ?_⟩
    rw [← hn]
    exact (Below.refl _ _).alloc (Nat.le_refl _) _
end Go.Proofs.Yteebobbhhgmeiaa
