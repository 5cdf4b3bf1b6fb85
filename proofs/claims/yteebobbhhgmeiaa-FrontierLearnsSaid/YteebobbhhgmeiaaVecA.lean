/- vec, gemelref06: the walks -/
import Derived.Test.YteebobbhhgmeiaaProg
import Derived.Test.YteebobbhhgmeiaaParC
namespace Go.Proofs.Yteebobbhhgmeiaa
open Go.RowKit Go.BigFrame

structure V2 where
  a : Int
  b : Int
  deriving DecidableEq
def V2.val (v : V2) : Value := .agg #[.int .i64 v.a, .int .i64 v.b]

def gGood (x _ : Int) : Int := min (max x 0) 1099511627776
def gMax (x y : Int) : Int := max x y
def gMin (x y : Int) : Int := min x y

set_option maxHeartbeats 400000 in
theorem good1 (x y : Int) (w : World) :
    Calls Try.prog 153 #[.int .i64 x, .int .i64 y] w fun e w' => e = .returned (.int .i64 (gGood x y)) ∧ w = w' := by
  go_enter Try.func153, Try.ntmps153
  go_wp2
  all_goals
    go_ret
    exact ⟨ret_int (by unfold gGood; omega), rfl⟩
set_option maxHeartbeats 400000 in
theorem join1 (x y : Int) (w : World) :
    Calls Try.prog 154 #[.int .i64 x, .int .i64 y] w fun e w' => e = .returned (.int .i64 (gMax x y)) ∧ w = w' := by
  go_enter Try.func154, Try.ntmps154
  go_wp2
  all_goals
    go_ret
    exact ⟨ret_int (by unfold gMax; omega), rfl⟩
set_option maxHeartbeats 400000 in
theorem meet1 (x y : Int) (w : World) :
    Calls Try.prog 156 #[.int .i64 x, .int .i64 y] w fun e w' => e = .returned (.int .i64 (gMin x y)) ∧ w = w' := by
  go_enter Try.func156, Try.ntmps156
  go_wp2
  all_goals
    go_ret
    exact ⟨ret_int (by unfold gMin; omega), rfl⟩

set_option maxHeartbeats 400000 in
theorem each_good (a b x y : Int) (w : World) :
    Calls Try.prog 152 #[.agg #[.int .i64 a, .int .i64 b], .agg #[.int .i64 x, .int .i64 y], .func (.func 153) #[] #[]] w
      fun e w' => e = .returned (.agg #[.int .i64 (gGood a x), .int .i64 (gGood b y)]) ∧ Below w.heap.size w w' := by
  obtain ⟨n, hn⟩ : ∃ n, w.heap.size = n := ⟨_, rfl⟩
  rw [hn]
  go_enter Try.func152, Try.ntmps152
  go_wp2
  refine wp_boxes3 hn (fun W hb hz b0 b1 b2 => ?_)
  refine wp_loop_rounds 3 ?_
  rw [rounds_succ]
  have x0 := xb2 b0
  have x1 := xb2 b1
  go_wp2
  refine wp_par0 10 (by kernel_rfl) (by kernel_rfl) ?_
  apply Exists.intro
  refine ⟨fun M hM => ?_, fun W2 hW2 => ?_⟩
  · simp only [List.take_succ_cons, List.take_zero]
    repeat (first | (refine ps_skip ?_ ?_; (focus rfl)) | (refine ps_no ?_ ?_ ?_; (focus rfl); (focus rfl)) | (refine ps_want ?_ ?_ ?_; (focus rfl); (focus rfl); intro K hK; go_big_quiet_op; first | go_big_quiet_on | (apply Exists.intro; refine ⟨?_, ?_⟩; (focus (intros; first | with_reducible rfl | (exact qcallS ‹_› (good1 _ _ _)))); go_big_quiet_on)))
    exact ps_nil rfl
  simp only [List.drop_succ_cons, List.drop_zero]
  have f2 := fb2 (blk_next b2 hW2)
  have k2 := cb2 (blk_next b2 hW2)
  go_wp2
  rw [rounds_succ]
  have c0 := set_far (p := ⟨n + 1 + 1, 0, none⟩) (blk_next b0 hW2) (show n ≠ n + 1 + 1 by omega) (.int .i64 (gGood a x))
  have c1 := set_far (p := ⟨n + 1 + 1, 0, none⟩) (blk_next b1 hW2) (show n + 1 ≠ n + 1 + 1 by omega) (.int .i64 (gGood a x))
  have c2 := set_same (i := 0) (blk_next b2 hW2) (.int .i64 (gGood a x))
  have hb2 := below_set (i := 0) (below_next hb (by omega) hW2) (show n ≤ n + 1 + 1 by omega) (.int .i64 (gGood a x))
  have hz2 : n + 1 + 1 + 1 ≤ (W2.setCell ⟨n + 1 + 1, 0, none⟩ (.int .i64 (gGood a x))).heap.size := by
    rw [set_size]
    have := hW2.size
    omega
  generalize W2.setCell ⟨n + 1 + 1, 0, none⟩ (.int .i64 (gGood a x)) = W3 at *
  clear f2 k2 x0 x1 b0 b1 b2 hb hz hW2 W2
  have x0 := xb2 c0
  have x1 := xb2 c1
  go_wp2
  refine wp_par0 10 (by kernel_rfl) (by kernel_rfl) ?_
  apply Exists.intro
  refine ⟨fun M hM => ?_, fun W2 hW2 => ?_⟩
  · simp only [List.take_succ_cons, List.take_zero]
    repeat (first | (refine ps_skip ?_ ?_; (focus rfl)) | (refine ps_no ?_ ?_ ?_; (focus rfl); (focus rfl)) | (refine ps_want ?_ ?_ ?_; (focus rfl); (focus rfl); intro K hK; go_big_quiet_op; first | go_big_quiet_on | (apply Exists.intro; refine ⟨?_, ?_⟩; (focus (intros; first | with_reducible rfl | (exact qcallS ‹_› (good1 _ _ _)))); go_big_quiet_on)))
    exact ps_nil rfl
  simp only [List.drop_succ_cons, List.drop_zero]
  have f2 := fb2 (blk_next c2 hW2)
  have k2 := cb2 (blk_next c2 hW2)
  go_wp2
  rw [rounds_succ]
  go_wp2
  go_tidy
  refine bodyPost_ret (v := .agg #[.int .i64 (gGood a x), .int .i64 (gGood b y)]) ?_ rfl ⟨rfl, ?_⟩
  · simp [results, Try.results152, go_sem, k2]
  · repeat (with_reducible refine below_set ?_ (by omega) _)
    exact below_next hb2 (by omega) hW2
set_option maxHeartbeats 400000 in
theorem each_join (a b x y : Int) (w : World) :
    Calls Try.prog 152 #[.agg #[.int .i64 a, .int .i64 b], .agg #[.int .i64 x, .int .i64 y], .func (.func 154) #[] #[]] w
      fun e w' => e = .returned (.agg #[.int .i64 (gMax a x), .int .i64 (gMax b y)]) ∧ Below w.heap.size w w' := by
  obtain ⟨n, hn⟩ : ∃ n, w.heap.size = n := ⟨_, rfl⟩
  rw [hn]
  go_enter Try.func152, Try.ntmps152
  go_wp2
  refine wp_boxes3 hn (fun W hb hz b0 b1 b2 => ?_)
  refine wp_loop_rounds 3 ?_
  rw [rounds_succ]
  have x0 := xb2 b0
  have x1 := xb2 b1
  go_wp2
  refine wp_par0 10 (by kernel_rfl) (by kernel_rfl) ?_
  apply Exists.intro
  refine ⟨fun M hM => ?_, fun W2 hW2 => ?_⟩
  · simp only [List.take_succ_cons, List.take_zero]
    repeat (first | (refine ps_skip ?_ ?_; (focus rfl)) | (refine ps_no ?_ ?_ ?_; (focus rfl); (focus rfl)) | (refine ps_want ?_ ?_ ?_; (focus rfl); (focus rfl); intro K hK; go_big_quiet_op; first | go_big_quiet_on | (apply Exists.intro; refine ⟨?_, ?_⟩; (focus (intros; first | with_reducible rfl | (exact qcallS ‹_› (join1 _ _ _)))); go_big_quiet_on)))
    exact ps_nil rfl
  simp only [List.drop_succ_cons, List.drop_zero]
  have f2 := fb2 (blk_next b2 hW2)
  have k2 := cb2 (blk_next b2 hW2)
  go_wp2
  rw [rounds_succ]
  have c0 := set_far (p := ⟨n + 1 + 1, 0, none⟩) (blk_next b0 hW2) (show n ≠ n + 1 + 1 by omega) (.int .i64 (gMax a x))
  have c1 := set_far (p := ⟨n + 1 + 1, 0, none⟩) (blk_next b1 hW2) (show n + 1 ≠ n + 1 + 1 by omega) (.int .i64 (gMax a x))
  have c2 := set_same (i := 0) (blk_next b2 hW2) (.int .i64 (gMax a x))
  have hb2 := below_set (i := 0) (below_next hb (by omega) hW2) (show n ≤ n + 1 + 1 by omega) (.int .i64 (gMax a x))
  have hz2 : n + 1 + 1 + 1 ≤ (W2.setCell ⟨n + 1 + 1, 0, none⟩ (.int .i64 (gMax a x))).heap.size := by
    rw [set_size]
    have := hW2.size
    omega
  generalize W2.setCell ⟨n + 1 + 1, 0, none⟩ (.int .i64 (gMax a x)) = W3 at *
  clear f2 k2 x0 x1 b0 b1 b2 hb hz hW2 W2
  have x0 := xb2 c0
  have x1 := xb2 c1
  go_wp2
  refine wp_par0 10 (by kernel_rfl) (by kernel_rfl) ?_
  apply Exists.intro
  refine ⟨fun M hM => ?_, fun W2 hW2 => ?_⟩
  · simp only [List.take_succ_cons, List.take_zero]
    repeat (first | (refine ps_skip ?_ ?_; (focus rfl)) | (refine ps_no ?_ ?_ ?_; (focus rfl); (focus rfl)) | (refine ps_want ?_ ?_ ?_; (focus rfl); (focus rfl); intro K hK; go_big_quiet_op; first | go_big_quiet_on | (apply Exists.intro; refine ⟨?_, ?_⟩; (focus (intros; first | with_reducible rfl | (exact qcallS ‹_› (join1 _ _ _)))); go_big_quiet_on)))
    exact ps_nil rfl
  simp only [List.drop_succ_cons, List.drop_zero]
  have f2 := fb2 (blk_next c2 hW2)
  have k2 := cb2 (blk_next c2 hW2)
  go_wp2
  rw [rounds_succ]
  go_wp2
  go_tidy
  refine bodyPost_ret (v := .agg #[.int .i64 (gMax a x), .int .i64 (gMax b y)]) ?_ rfl ⟨rfl, ?_⟩
  · simp [results, Try.results152, go_sem, k2]
  · repeat (with_reducible refine below_set ?_ (by omega) _)
    exact below_next hb2 (by omega) hW2
set_option maxHeartbeats 400000 in
theorem each_meet (a b x y : Int) (w : World) :
    Calls Try.prog 152 #[.agg #[.int .i64 a, .int .i64 b], .agg #[.int .i64 x, .int .i64 y], .func (.func 156) #[] #[]] w
      fun e w' => e = .returned (.agg #[.int .i64 (gMin a x), .int .i64 (gMin b y)]) ∧ Below w.heap.size w w' := by
  obtain ⟨n, hn⟩ : ∃ n, w.heap.size = n := ⟨_, rfl⟩
  rw [hn]
  go_enter Try.func152, Try.ntmps152
  go_wp2
  refine wp_boxes3 hn (fun W hb hz b0 b1 b2 => ?_)
  refine wp_loop_rounds 3 ?_
  rw [rounds_succ]
  have x0 := xb2 b0
  have x1 := xb2 b1
  go_wp2
  refine wp_par0 10 (by kernel_rfl) (by kernel_rfl) ?_
  apply Exists.intro
  refine ⟨fun M hM => ?_, fun W2 hW2 => ?_⟩
  · simp only [List.take_succ_cons, List.take_zero]
    repeat (first | (refine ps_skip ?_ ?_; (focus rfl)) | (refine ps_no ?_ ?_ ?_; (focus rfl); (focus rfl)) | (refine ps_want ?_ ?_ ?_; (focus rfl); (focus rfl); intro K hK; go_big_quiet_op; first | go_big_quiet_on | (apply Exists.intro; refine ⟨?_, ?_⟩; (focus (intros; first | with_reducible rfl | (exact qcallS ‹_› (meet1 _ _ _)))); go_big_quiet_on)))
    exact ps_nil rfl
  simp only [List.drop_succ_cons, List.drop_zero]
  have f2 := fb2 (blk_next b2 hW2)
  have k2 := cb2 (blk_next b2 hW2)
  go_wp2
  rw [rounds_succ]
  have c0 := set_far (p := ⟨n + 1 + 1, 0, none⟩) (blk_next b0 hW2) (show n ≠ n + 1 + 1 by omega) (.int .i64 (gMin a x))
  have c1 := set_far (p := ⟨n + 1 + 1, 0, none⟩) (blk_next b1 hW2) (show n + 1 ≠ n + 1 + 1 by omega) (.int .i64 (gMin a x))
  have c2 := set_same (i := 0) (blk_next b2 hW2) (.int .i64 (gMin a x))
  have hb2 := below_set (i := 0) (below_next hb (by omega) hW2) (show n ≤ n + 1 + 1 by omega) (.int .i64 (gMin a x))
  have hz2 : n + 1 + 1 + 1 ≤ (W2.setCell ⟨n + 1 + 1, 0, none⟩ (.int .i64 (gMin a x))).heap.size := by
    rw [set_size]
    have := hW2.size
    omega
  generalize W2.setCell ⟨n + 1 + 1, 0, none⟩ (.int .i64 (gMin a x)) = W3 at *
  clear f2 k2 x0 x1 b0 b1 b2 hb hz hW2 W2
  have x0 := xb2 c0
  have x1 := xb2 c1
  go_wp2
  refine wp_par0 10 (by kernel_rfl) (by kernel_rfl) ?_
  apply Exists.intro
  refine ⟨fun M hM => ?_, fun W2 hW2 => ?_⟩
  · simp only [List.take_succ_cons, List.take_zero]
    repeat (first | (refine ps_skip ?_ ?_; (focus rfl)) | (refine ps_no ?_ ?_ ?_; (focus rfl); (focus rfl)) | (refine ps_want ?_ ?_ ?_; (focus rfl); (focus rfl); intro K hK; go_big_quiet_op; first | go_big_quiet_on | (apply Exists.intro; refine ⟨?_, ?_⟩; (focus (intros; first | with_reducible rfl | (exact qcallS ‹_› (meet1 _ _ _)))); go_big_quiet_on)))
    exact ps_nil rfl
  simp only [List.drop_succ_cons, List.drop_zero]
  have f2 := fb2 (blk_next c2 hW2)
  have k2 := cb2 (blk_next c2 hW2)
  go_wp2
  rw [rounds_succ]
  go_wp2
  go_tidy
  refine bodyPost_ret (v := .agg #[.int .i64 (gMin a x), .int .i64 (gMin b y)]) ?_ rfl ⟨rfl, ?_⟩
  · simp [results, Try.results152, go_sem, k2]
  · repeat (with_reducible refine below_set ?_ (by omega) _)
    exact below_next hb2 (by omega) hW2

end Go.Proofs.Yteebobbhhgmeiaa
