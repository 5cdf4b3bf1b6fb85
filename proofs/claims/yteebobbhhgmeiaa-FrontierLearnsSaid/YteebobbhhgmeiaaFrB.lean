/- frontier, gemelref23: fault, settled, Settle, Stable, New -/
import Derived.Test.YteebobbhhgmeiaaFrA
namespace Go.Proofs.Yteebobbhhgmeiaa
open Go.RowKit Go.BigFrame


theorem fgood_t {s a t u v : Int} (w : World) (h : goodF s a t u v = true) :
    Calls Try.prog 34 #[.agg #[.int .i64 s, .int .i64 a, .int .i64 t, .int .i64 u, .int .i64 v]] w fun e w' => e = .returned (.bool true) ∧ Below w.heap.size w w' := by
  rw [← h]; exact fgood_any s a t u v w
theorem fgood_f {s a t u v : Int} (w : World) (h : goodF s a t u v = false) :
    Calls Try.prog 34 #[.agg #[.int .i64 s, .int .i64 a, .int .i64 t, .int .i64 u, .int .i64 v]] w fun e w' => e = .returned (.bool false) ∧ Below w.heap.size w w' := by
  rw [← h]; exact fgood_any s a t u v w
theorem vgood_t {a b : Int} (w : World) (h : goodV a b = true) :
    Calls Try.prog 103 #[.agg #[.int .i64 a, .int .i64 b]] w fun e w' => e = .returned (.bool true) ∧ Below w.heap.size w w' := by
  rw [← h]; exact vgood_any a b w
theorem vgood_f {a b : Int} (w : World) (h : goodV a b = false) :
    Calls Try.prog 103 #[.agg #[.int .i64 a, .int .i64 b]] w fun e w' => e = .returned (.bool false) ∧ Below w.heap.size w w' := by
  rw [← h]; exact vgood_any a b w
theorem rgood_t {a b : Int} (w : World) (h : goodV a b = true) :
    Calls Try.prog 100 #[.agg #[.int .i64 a, .int .i64 b]] w fun e w' => e = .returned (.bool true) ∧ Below w.heap.size w w' := by
  rw [← h]; exact rgood_any a b w
theorem rgood_f {a b : Int} (w : World) (h : goodV a b = false) :
    Calls Try.prog 100 #[.agg #[.int .i64 a, .int .i64 b]] w fun e w' => e = .returned (.bool false) ∧ Below w.heap.size w w' := by
  rw [← h]; exact rgood_any a b w

def bothG (s a t u v x y : Int) : Bool := goodF s a t u v && goodV x y

set_option maxHeartbeats 400000 in
theorem fault_t {s a t u v x y : Int} (w : World) (h : bothG s a t u v x y = true) :
    Calls Try.prog 97 #[.agg #[.int .i64 s, .int .i64 a, .int .i64 t, .int .i64 u, .int .i64 v], .agg #[.int .i64 x, .int .i64 y]] w fun e w' => e = .returned (.int .i64 0) ∧ Below w.heap.size w w' := by
  unfold bothG at h
  rw [Bool.and_eq_true] at h
  have H := Lib.hid h
  clear h
  obtain ⟨n, hn⟩ : ∃ n, w.heap.size = n := ⟨_, rfl⟩
  rw [hn]
  go_enter Try.func97, Try.ntmps97
  go_wp2_with fail
  refine cl_boxes2 hn (fun W hb hz b0 b1 => ?_)
  refine (fgood_t _ H.out.1).mono ?_
  rintro e w1 ⟨rfl, hb1⟩
  have k1 := cb2 (blk_next b1 hb1)
  go_wp2_with fail
  refine (vgood_t _ H.out.2).mono ?_
  rintro e w2 ⟨rfl, hb2⟩
  go_wp2_with fail
  go_ret
  exact ⟨rfl, below_next (below_next hb (by omega) hb1) (size_next (by omega) hb1) hb2⟩

set_option maxHeartbeats 400000 in
theorem fault_f {s a t u v x y : Int} (w : World) (h : bothG s a t u v x y = false) :
    Calls Try.prog 97 #[.agg #[.int .i64 s, .int .i64 a, .int .i64 t, .int .i64 u, .int .i64 v], .agg #[.int .i64 x, .int .i64 y]] w fun e w' => e = .returned (.int .i64 2) ∧ Below w.heap.size w w' := by
  unfold bothG at h
  cases hg : goodF s a t u v with
  | true =>
    have H := Lib.hid (And.intro hg (show goodV x y = false by simpa [hg] using h))
    clear h hg
    obtain ⟨n, hn⟩ : ∃ n, w.heap.size = n := ⟨_, rfl⟩
    rw [hn]
    go_enter Try.func97, Try.ntmps97
    go_wp2_with fail
    refine cl_boxes2 hn (fun W hb hz b0 b1 => ?_)
    refine (fgood_t _ H.out.1).mono ?_
    rintro e w1 ⟨rfl, hb1⟩
    have k1 := cb2 (blk_next b1 hb1)
    go_wp2_with fail
    refine (vgood_f _ H.out.2).mono ?_
    rintro e w2 ⟨rfl, hb2⟩
    go_wp2_with fail
    go_ret
    exact ⟨rfl, below_next (below_next hb (by omega) hb1) (size_next (by omega) hb1) hb2⟩
  | false =>
    have H := Lib.hid hg
    clear h hg
    obtain ⟨n, hn⟩ : ∃ n, w.heap.size = n := ⟨_, rfl⟩
    rw [hn]
    go_enter Try.func97, Try.ntmps97
    go_wp2_with fail
    refine cl_boxes2 hn (fun W hb hz b0 b1 => ?_)
    refine (fgood_f _ H.out).mono ?_
    rintro e w1 ⟨rfl, hb1⟩
    go_wp2_with fail
    go_ret
    exact ⟨rfl, below_next hb (by omega) hb1⟩

def setC (s v x y : Int) : Prop := 0 < v ∧ v ≤ cameF s x y
instance (s v x y : Int) : Decidable (setC s v x y) := by unfold setC; infer_instance

set_option maxHeartbeats 400000 in
theorem settled_yes (a b c d e x y : Int) (w : World) (hs : a = 1 ∨ a = 2) (h1 : 0 < e) (h2 : e ≤ cameF a x y) :
    Calls Try.prog 99 #[.agg #[.int .i64 a, .int .i64 b, .int .i64 c, .int .i64 d, .int .i64 e], .agg #[.int .i64 x, .int .i64 y]] w
     fun e' w' => e' = .returned (.agg #[.int .i64 a, .int .i64 b, .int .i64 (max c d), .int .i64 0, .int .i64 0]) ∧ Below w.heap.size w w' := by
  obtain ⟨n, hn⟩ : ∃ n, w.heap.size = n := ⟨_, rfl⟩
  rw [hn]
  go_enter Try.func99, Try.ntmps99
  go_wp2
  refine wp_boxes3 hn (fun W hb hz b0 b1 b2 => ?_)
  have x0 := xb5 b0
  have x1 := xb2 b1
  refine wp_region_ext (by kernel_rfl) (by kernel_rfl) ?_
  repeat (first | go_big_quiet_skip | (go_big_quiet_want; go_big_quiet_op; first | go_big_quiet_on | (apply Exists.intro; refine ⟨fun _ => ?_, ?_⟩; ((go_at_call 98; exact qcall (came_any _ _ _ _ _ _ _ _ hs))); go_big_quiet_on)))
  refine wpQuiet_nil ?_
  intro _ hw'
  obtain ⟨xq, hw''⟩ := hw'
  subst hw''
  clear x0 x1
  have k0 := cb5 (ext_blk b0 xq)
  have k2 := cb5 (ext_blk b2 xq)
  have f0 := fb5 (ext_blk b0 xq)
  have f2 := fb5 (ext_blk b2 xq)
  go_wp2
  all_goals
    go_tidy
    refine bodyPost_ret (v := .agg #[.int .i64 a, .int .i64 b, .int .i64 (max c d), .int .i64 0, .int .i64 0]) ?_ rfl ⟨rfl, ?_⟩
    · simp [results, Try.results99, go_sem, k2]
      omega
    · repeat (with_reducible refine below_set ?_ (by omega) _)
      exact below_grow hb (by omega) xq

set_option maxHeartbeats 400000 in
theorem settled_no (a b c d e x y : Int) (w : World) (hs : a = 1 ∨ a = 2) (h : ¬ setC a e x y) :
    Calls Try.prog 99 #[.agg #[.int .i64 a, .int .i64 b, .int .i64 c, .int .i64 d, .int .i64 e], .agg #[.int .i64 x, .int .i64 y]] w
     fun e' w' => e' = .returned (.agg #[.int .i64 a, .int .i64 b, .int .i64 c, .int .i64 d, .int .i64 e]) ∧ Below w.heap.size w w' := by
  by_cases h1 : 0 < e
  · have h2 : ¬ e ≤ cameF a x y := fun h2 => h ⟨h1, h2⟩
    clear h
    obtain ⟨n, hn⟩ : ∃ n, w.heap.size = n := ⟨_, rfl⟩
    rw [hn]
    go_enter Try.func99, Try.ntmps99
    go_wp2
    refine wp_boxes3 hn (fun W hb hz b0 b1 b2 => ?_)
    have x0 := xb5 b0
    have x1 := xb2 b1
    refine wp_region_ext (by kernel_rfl) (by kernel_rfl) ?_
    repeat (first | go_big_quiet_skip | (go_big_quiet_want; go_big_quiet_op; first | go_big_quiet_on | (apply Exists.intro; refine ⟨fun _ => ?_, ?_⟩; ((go_at_call 98; exact qcall (came_any _ _ _ _ _ _ _ _ hs))); go_big_quiet_on)))
    refine wpQuiet_nil ?_
    intro _ hw'
    obtain ⟨xq, hw''⟩ := hw'
    subst hw''
    clear x0 x1
    have k0 := cb5 (ext_blk b0 xq)
    have k2 := cb5 (ext_blk b2 xq)
    have f2 := fb5 (ext_blk b2 xq)
    go_wp2
    go_tidy
    refine bodyPost_ret (v := .agg #[.int .i64 a, .int .i64 b, .int .i64 c, .int .i64 d, .int .i64 e]) ?_ rfl ⟨rfl, ?_⟩
    · simp [results, Try.results99, go_sem, k2]
    · repeat (with_reducible refine below_set ?_ (by omega) _)
      exact below_grow hb (by omega) xq
  · clear h
    have hd : decide (0 < e) = false := decide_eq_false h1
    obtain ⟨n, hn⟩ : ∃ n, w.heap.size = n := ⟨_, rfl⟩
    rw [hn]
    go_enter Try.func99, Try.ntmps99
    go_wp2
    refine wp_boxes3 hn (fun W hb hz b0 b1 b2 => ?_)
    have x0 := xb5 b0
    have x1 := xb2 b1
    refine wp_region_ext (by kernel_rfl) (by kernel_rfl) ?_
    repeat (first | go_big_quiet_skip | (go_big_quiet_want; go_big_quiet_op; first | go_big_quiet_on | (apply Exists.intro; refine ⟨fun _ => ?_, ?_⟩; (fail); go_big_quiet_on)))
    refine wpQuiet_nil ?_
    intro _ hw'
    obtain ⟨xq, hw''⟩ := hw'
    subst hw''
    clear x0 x1
    have k0 := cb5 (ext_blk b0 xq)
    have k2 := cb5 (ext_blk b2 xq)
    have f2 := fb5 (ext_blk b2 xq)
    go_wp2
    go_tidy
    refine bodyPost_ret (v := .agg #[.int .i64 a, .int .i64 b, .int .i64 c, .int .i64 d, .int .i64 e]) ?_ rfl ⟨rfl, ?_⟩
    · simp [results, Try.results99, go_sem, k2]
    · repeat (with_reducible refine below_set ?_ (by omega) _)
      exact below_grow hb (by omega) xq
end Go.Proofs.Yteebobbhhgmeiaa
