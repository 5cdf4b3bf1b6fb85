/- gemelref23: Settle, Stable, New -/
import Derived.Test.YteebobbhhgmeiaaRfA
namespace Go.Proofs.Yteebobbhhgmeiaa
open Go.RowKit Go.BigFrame

theorem rfgood_t {s a t u v : Int} (w : World) (h : goodF s a t u v = true) :
    Calls Try.prog 35 #[.agg #[.int .i64 s, .int .i64 a, .int .i64 t, .int .i64 u, .int .i64 v]] w fun e w' => e = .returned (.bool true) ∧ Below w.heap.size w w' := by
  rw [← h]; exact rfgood_any s a t u v w
theorem rfgood_f {s a t u v : Int} (w : World) (h : goodF s a t u v = false) :
    Calls Try.prog 35 #[.agg #[.int .i64 s, .int .i64 a, .int .i64 t, .int .i64 u, .int .i64 v]] w fun e w' => e = .returned (.bool false) ∧ Below w.heap.size w w' := by
  rw [← h]; exact rfgood_any s a t u v w

theorem bothG_and {s a t u v x y : Int} (h : bothG s a t u v x y = true) : goodF s a t u v = true ∧ goodV x y = true := by
  unfold bothG at h
  rwa [Bool.and_eq_true] at h


set_option maxHeartbeats 400000 in
theorem rstable_f {s a t u v x y : Int} (w : World) (h : bothG s a t u v x y = false) :
    Calls Try.prog 32 #[.agg #[.int .i64 s, .int .i64 a, .int .i64 t, .int .i64 u, .int .i64 v], .agg #[.int .i64 x, .int .i64 y]] w fun e w' => e = .returned (.tuple #[.agg #[.int .i64 0, .int .i64 0], .int .i64 2]) ∧ Below w.heap.size w w' := by
  cases hg : goodF s a t u v with
  | true =>
    have H := Lib.hid (And.intro hg (show goodV x y = false by unfold bothG at h; simpa [hg] using h))
    clear h hg
    obtain ⟨n, hn⟩ : ∃ n, w.heap.size = n := ⟨_, rfl⟩
    rw [hn]
    go_enter Try.func32, Try.ntmps32
    go_wp2_with fail
    refine cl_boxes3 hn (fun W hb hz b0 b1 b2 => ?_)
    refine (rfgood_t _ H.out.1).mono ?_
    rintro e w1 ⟨rfl, hb1⟩
    have k1 := cb2 (blk_next b1 hb1)
    go_wp2_with fail
    refine (rgood_f _ H.out.2).mono ?_
    rintro e w2 ⟨rfl, hb2⟩
    have k2 := cb2 (blk_next (blk_next b2 hb1) hb2)
    have f2 := fb2 (blk_next (blk_next b2 hb1) hb2)
    go_wp2_with fail
    go_tidy
    refine bodyPost_ret (v := .tuple #[.agg #[.int .i64 0, .int .i64 0], .int .i64 2]) ?_ rfl ⟨rfl, ?_⟩
    · simp [results, Try.results32, go_sem, k2]
    · repeat (with_reducible refine below_set ?_ (by omega) _)
      exact below_next (below_next hb (by omega) hb1) (size_next (by omega) hb1) hb2
  | false =>
    have H := Lib.hid hg
    clear h hg
    obtain ⟨n, hn⟩ : ∃ n, w.heap.size = n := ⟨_, rfl⟩
    rw [hn]
    go_enter Try.func32, Try.ntmps32
    go_wp2_with fail
    refine cl_boxes3 hn (fun W hb hz b0 b1 b2 => ?_)
    refine (rfgood_f _ H.out).mono ?_
    rintro e w1 ⟨rfl, hb1⟩
    have k2 := cb2 (blk_next b2 hb1)
    have f2 := fb2 (blk_next b2 hb1)
    go_wp2_with fail
    go_tidy
    refine bodyPost_ret (v := .tuple #[.agg #[.int .i64 0, .int .i64 0], .int .i64 2]) ?_ rfl ⟨rfl, ?_⟩
    · simp [results, Try.results32, go_sem, k2]
    · repeat (with_reducible refine below_set ?_ (by omega) _)
      exact below_next hb (by omega) hb1

set_option maxHeartbeats 400000 in
theorem rsettle_f {s a t u v x y : Int} (w : World) (h : bothG s a t u v x y = false) :
    Calls Try.prog 30 #[.agg #[.int .i64 s, .int .i64 a, .int .i64 t, .int .i64 u, .int .i64 v], .agg #[.int .i64 x, .int .i64 y]] w fun e w' => e = .returned (.tuple #[.agg #[.int .i64 0, .int .i64 0, .int .i64 0, .int .i64 0, .int .i64 0], .int .i64 2]) ∧ Below w.heap.size w w' := by
  cases hg : goodF s a t u v with
  | true =>
    have H := Lib.hid (And.intro hg (show goodV x y = false by unfold bothG at h; simpa [hg] using h))
    clear h hg
    obtain ⟨n, hn⟩ : ∃ n, w.heap.size = n := ⟨_, rfl⟩
    rw [hn]
    go_enter Try.func30, Try.ntmps30
    go_wp2_with fail
    refine cl_boxes3 hn (fun W hb hz b0 b1 b2 => ?_)
    refine (rfgood_t _ H.out.1).mono ?_
    rintro e w1 ⟨rfl, hb1⟩
    have k1 := cb2 (blk_next b1 hb1)
    go_wp2_with fail
    refine (rgood_f _ H.out.2).mono ?_
    rintro e w2 ⟨rfl, hb2⟩
    have k2 := cb5 (blk_next (blk_next b2 hb1) hb2)
    have f2 := fb5 (blk_next (blk_next b2 hb1) hb2)
    go_wp2_with fail
    go_tidy
    refine bodyPost_ret (v := .tuple #[.agg #[.int .i64 0, .int .i64 0, .int .i64 0, .int .i64 0, .int .i64 0], .int .i64 2]) ?_ rfl ⟨rfl, ?_⟩
    · simp [results, Try.results30, go_sem, k2]
    · repeat (with_reducible refine below_set ?_ (by omega) _)
      exact below_next (below_next hb (by omega) hb1) (size_next (by omega) hb1) hb2
  | false =>
    have H := Lib.hid hg
    clear h hg
    obtain ⟨n, hn⟩ : ∃ n, w.heap.size = n := ⟨_, rfl⟩
    rw [hn]
    go_enter Try.func30, Try.ntmps30
    go_wp2_with fail
    refine cl_boxes3 hn (fun W hb hz b0 b1 b2 => ?_)
    refine (rfgood_f _ H.out).mono ?_
    rintro e w1 ⟨rfl, hb1⟩
    have k2 := cb5 (blk_next b2 hb1)
    have f2 := fb5 (blk_next b2 hb1)
    go_wp2_with fail
    go_tidy
    refine bodyPost_ret (v := .tuple #[.agg #[.int .i64 0, .int .i64 0, .int .i64 0, .int .i64 0, .int .i64 0], .int .i64 2]) ?_ rfl ⟨rfl, ?_⟩
    · simp [results, Try.results30, go_sem, k2]
    · repeat (with_reducible refine below_set ?_ (by omega) _)
      exact below_next hb (by omega) hb1

set_option maxHeartbeats 400000 in
theorem rstable_t {s a t u v x y : Int} (w : World) (h : bothG s a t u v x y = true) :
    Calls Try.prog 32 #[.agg #[.int .i64 s, .int .i64 a, .int .i64 t, .int .i64 u, .int .i64 v], .agg #[.int .i64 x, .int .i64 y]] w fun e w' => e = .returned (.tuple #[.agg #[.int .i64 (if s = 1 then t else x), .int .i64 (if s = 1 then y else t)], .int .i64 0]) ∧ Below w.heap.size w w' := by
  have hs := bothG_site h
  have H := Lib.hid (bothG_and h)
  clear h
  obtain ⟨n, hn⟩ : ∃ n, w.heap.size = n := ⟨_, rfl⟩
  rw [hn]
  go_enter Try.func32, Try.ntmps32
  go_wp2_with fail
  refine cl_boxes3 hn (fun W hb hz b0 b1 b2 => ?_)
  refine (rfgood_t _ H.out.1).mono ?_
  rintro e w1 ⟨rfl, hb1⟩
  have k1 := cb2 (blk_next b1 hb1)
  go_wp2_with fail
  refine (rgood_t _ H.out.2).mono ?_
  rintro e w2 ⟨rfl, hb2⟩
  clear k1
  have q0 := blk_next (blk_next b0 hb1) hb2
  have q1 := blk_next (blk_next b1 hb1) hb2
  have q2 := blk_next (blk_next b2 hb1) hb2
  have hbel := below_next (below_next hb (by omega) hb1) (size_next (by omega) hb1) hb2
  have hz2 : n + 1 + 1 + 1 ≤ w2.heap.size := by
    have := hb1.size
    have := hb2.size
    omega
  clear b0 b1 b2 hb1 hb2 hb hz H
  have k0 := cb5 q0
  have k1 := cb2 q1
  have k2 := cb2 q2
  have f1 := fb2 q1
  have f2 := fb2 q2
  rcases hs with rfl | rfl
  · go_wp2
    go_tidy
    refine bodyPost_ret (v := .tuple #[.agg #[.int .i64 t, .int .i64 y], .int .i64 0]) ?_ rfl ⟨rfl, ?_⟩
    · simp [results, Try.results32, go_sem, k2]
    · repeat (with_reducible refine below_set ?_ (by omega) _)
      exact hbel
  · go_wp2
    go_tidy
    refine bodyPost_ret (v := .tuple #[.agg #[.int .i64 x, .int .i64 t], .int .i64 0]) ?_ rfl ⟨rfl, ?_⟩
    · simp [results, Try.results32, go_sem, k2]
    · repeat (with_reducible refine below_set ?_ (by omega) _)
      exact hbel

set_option maxHeartbeats 400000 in
theorem rnew_any (s : Int) (w : World) :
    Calls Try.prog 33 #[.int .i64 s] w fun e w' => e = .returned (.tuple #[.agg #[.int .i64 (if s = 1 ∨ s = 2 then s else 0), .int .i64 0, .int .i64 0, .int .i64 0, .int .i64 0], .int .i64 (if s = 1 ∨ s = 2 then 0 else 2)]) ∧ Below w.heap.size w w' := by
  by_cases hs : s = 1 ∨ s = 2
  · rw [if_pos hs, if_pos hs]
    rcases hs with rfl | rfl
    · obtain ⟨n, hn⟩ : ∃ n, w.heap.size = n := ⟨_, rfl⟩
      rw [hn]
      go_enter Try.func33, Try.ntmps33
      go_wp2
      go_tidy
      refine bodyPost_ret (v := .tuple #[.agg #[.int .i64 1, .int .i64 0, .int .i64 0, .int .i64 0, .int .i64 0], .int .i64 0]) ?_ rfl ⟨rfl, ?_⟩
      · simp [results, Try.results33, go_sem, hn]
      · rw [← hn]
        exact (Below.refl _ _).alloc (Nat.le_refl _) _
    · obtain ⟨n, hn⟩ : ∃ n, w.heap.size = n := ⟨_, rfl⟩
      rw [hn]
      go_enter Try.func33, Try.ntmps33
      go_wp2
      go_tidy
      refine bodyPost_ret (v := .tuple #[.agg #[.int .i64 2, .int .i64 0, .int .i64 0, .int .i64 0, .int .i64 0], .int .i64 0]) ?_ rfl ⟨rfl, ?_⟩
      · simp [results, Try.results33, go_sem, hn]
      · rw [← hn]
        exact (Below.refl _ _).alloc (Nat.le_refl _) _
  · rw [if_neg hs, if_neg hs]
    have h1 : (s != 1) = true := bne_iff_ne.2 fun h => hs (.inl h)
    have h2 : (s != 2) = true := bne_iff_ne.2 fun h => hs (.inr h)
    clear hs
    obtain ⟨n, hn⟩ : ∃ n, w.heap.size = n := ⟨_, rfl⟩
    rw [hn]
    go_enter Try.func33, Try.ntmps33
    go_wp2
    go_tidy
    refine bodyPost_ret (v := .tuple #[.agg #[.int .i64 0, .int .i64 0, .int .i64 0, .int .i64 0, .int .i64 0], .int .i64 2]) ?_ rfl ⟨rfl, ?_⟩
    · simp [results, Try.results33, go_sem, hn]
    · rw [← hn]
      exact (Below.refl _ _).alloc (Nat.le_refl _) _

set_option maxHeartbeats 600000 in
theorem rsettle_t {s a t u v x y : Int} (w : World) (h : bothG s a t u v x y = true) :
    Calls Try.prog 30 #[.agg #[.int .i64 s, .int .i64 a, .int .i64 t, .int .i64 u, .int .i64 v], .agg #[.int .i64 x, .int .i64 y]] w fun e w' => e = .returned (.tuple #[.agg #[.int .i64 s, .int .i64 a, .int .i64 (stT s t u v x y), .int .i64 (stU s u v x y), .int .i64 (stV s v x y)], .int .i64 0]) ∧ Below w.heap.size w w' := by
  have hs := bothG_site h
  have H := Lib.hid (bothG_and h)
  clear h
  obtain ⟨n, hn⟩ : ∃ n, w.heap.size = n := ⟨_, rfl⟩
  rw [hn]
  go_enter Try.func30, Try.ntmps30
  go_wp2_with fail
  refine cl_boxes3 hn (fun W hb hz b0 b1 b2 => ?_)
  refine (rfgood_t _ H.out.1).mono ?_
  rintro e w1 ⟨rfl, hb1⟩
  have k1 := cb2 (blk_next b1 hb1)
  go_wp2_with fail
  refine (rgood_t _ H.out.2).mono ?_
  rintro e w2 ⟨rfl, hb2⟩
  clear k1
  have q0 := blk_next (blk_next b0 hb1) hb2
  have q1 := blk_next (blk_next b1 hb1) hb2
  have q2 := blk_next (blk_next b2 hb1) hb2
  have hbel := below_next (below_next hb (by omega) hb1) (size_next (by omega) hb1) hb2
  have hz2 : n + 1 + 1 + 1 ≤ w2.heap.size := by
    have := hb1.size
    have := hb2.size
    omega
  clear b0 b1 b2 hb1 hb2 hb hz H
  have x0 := xb5 q0
  have x1 := xb2 q1
  by_cases hv : 0 < v
  · rcases hs with rfl | rfl
    all_goals
      go_wp2_with fail
      refine wp_region_ext (by kernel_rfl) (by kernel_rfl) ?_
      repeat (first | go_big_quiet_skip | (go_big_quiet_want; go_big_quiet_op; first | go_big_quiet_on | (apply Exists.intro; refine ⟨fun _ => ?_, ?_⟩; (fail); go_big_quiet_on)))
      refine wpQuiet_nil ?_
      intro _ hw'
      obtain ⟨xq, hw''⟩ := hw'
      subst hw''
      clear x0 x1
      have k0 := cb5 (ext_blk q0 xq)
      have k2 := cb5 (ext_blk q2 xq)
      have f0 := fb5 (ext_blk q0 xq)
      have f2 := fb5 (ext_blk q2 xq)
      have hz3 := size_grow (Nat.le_trans (show n ≤ n + 1 + 1 + 1 by omega) hz2) xq
      have hbel3 := below_grow hbel (by omega) xq
      go_wp2
      all_goals
        go_tidy
        refine bodyPost_ret (v := .tuple #[.agg #[.int .i64 _, .int .i64 a, .int .i64 (stT _ t u v x y), .int .i64 (stU _ u v x y), .int .i64 (stV _ v x y)], .int .i64 0]) ?_ rfl ⟨rfl, ?_⟩
        · simp [results, Try.results30, go_sem, k2]
          unfold stT stU stV cameF
          simp
          omega
        · repeat (with_reducible refine below_set ?_ (by omega) _)
          exact hbel3
  · have hd : decide (0 < v) = false := decide_eq_false hv
    have hu : stT s t u v x y = t ∧ stU s u v x y = u ∧ stV s v x y = v := by
      unfold stT stU stV
      omega
    have HU := Lib.hid hu
    clear hu hs hv
    go_wp2_with fail
    refine wp_region_ext (by kernel_rfl) (by kernel_rfl) ?_
    repeat (first | go_big_quiet_skip | (go_big_quiet_want; go_big_quiet_op; first | go_big_quiet_on | (apply Exists.intro; refine ⟨fun _ => ?_, ?_⟩; (fail); go_big_quiet_on)))
    refine wpQuiet_nil ?_
    intro _ hw'
    obtain ⟨xq, hw''⟩ := hw'
    subst hw''
    clear x0 x1
    have k0 := cb5 (ext_blk q0 xq)
    have k2 := cb5 (ext_blk q2 xq)
    have f2 := fb5 (ext_blk q2 xq)
    have hbel3 := below_grow hbel (by omega) xq
    go_wp2
    go_tidy
    refine bodyPost_ret (v := .tuple #[.agg #[.int .i64 s, .int .i64 a, .int .i64 (stT s t u v x y), .int .i64 (stU s u v x y), .int .i64 (stV s v x y)], .int .i64 0]) ?_ rfl ⟨rfl, ?_⟩
    · simp [results, Try.results30, go_sem, k2]
      have := HU.out
      omega
    · repeat (with_reducible refine below_set ?_ (by omega) _)
      exact hbel3
end Go.Proofs.Yteebobbhhgmeiaa
