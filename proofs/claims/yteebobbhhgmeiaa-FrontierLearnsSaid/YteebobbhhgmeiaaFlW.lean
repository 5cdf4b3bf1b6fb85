/- FrontierLearns: the walk -/
import Derived.Test.YteebobbhhgmeiaaFl
import Derived.Test.YteebobbhhgmeiaaHas
namespace Go.Proofs.Yteebobbhhgmeiaa
open Go.RowKit Go.BigFrame

set_option maxRecDepth 100000 in
set_option maxHeartbeats 2000000 in
theorem learns_walk (s a t u v x y p q : Int) (w : World) :
    Calls Try.prog 4 #[.agg #[.int .i64 s, .int .i64 a, .int .i64 t, .int .i64 u, .int .i64 v], .agg #[.int .i64 x, .int .i64 y], .agg #[.int .i64 p, .int .i64 q]] w fun e w' => e = .returned (.bool true) ∧ Below w.heap.size w w' := by
  obtain ⟨r0, r1, r2, r3, r4, rc, l1, l2⟩ := learn_both s a t u v x y p q
  obtain ⟨s0, s1, s2, s3, s4, sc, m1, m2⟩ := settle_both s a t u v x y
  obtain ⟨t0, t1, tc, n1, n2⟩ := stable_both s a t u v x y
  have L1 := Lib.hid l1
  have L2 := Lib.hid l2
  have M1 := Lib.hid m1
  have M2 := Lib.hid m2
  have N1 := Lib.hid n1
  have N2 := Lib.hid n2
  clear l1 l2 m1 m2 n1 n2
  obtain ⟨n, hn⟩ : ∃ n, w.heap.size = n := ⟨_, rfl⟩
  rw [hn]
  go_enter Try.func4, Try.ntmps4
  go_wp2_with fail
  refine cl_boxes3 hn (fun W hb hz b0 b1 b2 => ?_)
  have S := Sx.of3 hb hz b0 b1 b2
  clear hb hz b0 b1 b2
  refine (L1.out _).mono ?_
  rintro e w1 ⟨rfl, hb1⟩
  replace S := S.call hb1
  clear hb1
  obtain ⟨p1, hp1⟩ : ∃ m, w1.heap.size = m := ⟨_, rfl⟩
  go_wp2_with fail
  refine wp_boxes1 hp1 (fun W1 hW1 hZ1 d1 => ?_)
  replace S := S.push hp1 hW1 d1
  clear hW1 hZ1 d1 hp1
  have x0 := xb5 (S.get 1 rfl)
  have x1 := xb2 (S.get 2 rfl)
  have x2 := xb2 (S.get 3 rfl)
  refine wp_par1 14 11 12 _ _ 37 37 9 (.tmp 42) #[.int .i64 0, .int .i64 0, .int .i64 0, .int .i64 0, .int .i64 0] (.agg #[.int .i64 r0, .int .i64 r1, .int .i64 r2, .int .i64 r3, .int .i64 r4]) (by kernel_rfl) (by kernel_rfl) rfl rfl rfl rfl (by simp) ?_ rfl (by kernel_rfl) (by simp [Value.cells, Value.oneCell']) ?_
  · intro ρ w'
    simp [go_sem, ptrTo]
  apply Exists.intro
  refine ⟨fun M hM => ?_, ?_, fun b1 W2 hW2 hge hblk => ?_⟩
  · simp only [List.take_succ_cons, List.take_zero]
    repeat (first | (refine ps_skip ?_ ?_; (focus rfl)) | (refine ps_no ?_ ?_ ?_; (focus rfl); (focus rfl)) | (refine ps_want ?_ ?_ ?_; (focus rfl); (focus rfl); intro K hK; go_big_quiet_op; first | go_big_quiet_on | (apply Exists.intro; refine ⟨?_, ?_⟩; (focus (intros; first | with_reducible rfl | (first | (go_at_call 29; exact qcallM hM ‹_› (of_any _ _ _ _ _ _)) | (go_at_call 28; exact qcallM hM ‹_› (L2.out _))))); go_big_quiet_on)))
    exact ps_nil rfl
  · rfl
  simp only [List.drop_succ_cons, List.drop_zero, Act.put, ptrTo, List.setIfInBounds_toArray, List.set_cons_succ, List.set_cons_zero]
  replace S := S.new hW2 hblk
  clear hW2 hge hblk x0 x1 x2
  have k0 := cb5 (S.get 2 rfl)
  have k1 := cb2 (S.get 3 rfl)
  go_wp2_with fail
  refine (M1.out _).mono ?_
  rintro e w3 ⟨rfl, hb3⟩
  replace S := S.call hb3
  clear hb3 k0 k1
  obtain ⟨p3, hp3⟩ : ∃ m, w3.heap.size = m := ⟨_, rfl⟩
  go_wp2_with fail
  refine wp_boxes1 hp3 (fun W3 hW3 hZ3 d3 => ?_)
  replace S := S.push hp3 hW3 d3
  clear hW3 hZ3 d3 hp3
  have x0 := xb5 (S.get 3 rfl)
  have x1 := xb2 (S.get 4 rfl)
  refine wp_par1 10 7 8 _ _ 37 37 13 (.tmp 55) #[.int .i64 0, .int .i64 0, .int .i64 0, .int .i64 0, .int .i64 0] (.agg #[.int .i64 s0, .int .i64 s1, .int .i64 s2, .int .i64 s3, .int .i64 s4]) (by kernel_rfl) (by kernel_rfl) rfl rfl rfl rfl (by simp) ?_ rfl (by kernel_rfl) (by simp [Value.cells, Value.oneCell']) ?_
  · intro ρ w'
    simp [go_sem, ptrTo]
  apply Exists.intro
  refine ⟨fun M hM => ?_, ?_, fun b1 W2 hW2 hge hblk => ?_⟩
  · simp only [List.take_succ_cons, List.take_zero]
    repeat (first | (refine ps_skip ?_ ?_; (focus rfl)) | (refine ps_no ?_ ?_ ?_; (focus rfl); (focus rfl)) | (refine ps_want ?_ ?_ ?_; (focus rfl); (focus rfl); intro K hK; go_big_quiet_op; first | go_big_quiet_on | (apply Exists.intro; refine ⟨?_, ?_⟩; (focus (intros; first | with_reducible rfl | (first | (go_at_call 29; exact qcallM hM ‹_› (of_any _ _ _ _ _ _)) | (go_at_call 30; exact qcallM hM ‹_› (M2.out _))))); go_big_quiet_on)))
    exact ps_nil rfl
  · rfl
  simp only [List.drop_succ_cons, List.drop_zero, Act.put, ptrTo, List.setIfInBounds_toArray, List.set_cons_succ, List.set_cons_zero]
  replace S := S.new hW2 hblk
  clear hW2 hge hblk x0 x1
  have k0 := cb5 (S.get 4 rfl)
  have k1 := cb2 (S.get 5 rfl)
  go_wp2_with fail
  refine (N1.out _).mono ?_
  rintro e w5 ⟨rfl, hb5⟩
  replace S := S.call hb5
  clear hb5 k0 k1
  obtain ⟨p5, hp5⟩ : ∃ m, w5.heap.size = m := ⟨_, rfl⟩
  go_wp2_with fail
  refine wp_boxes1 hp5 (fun W5 hW5 hZ5 d5 => ?_)
  replace S := S.push hp5 hW5 d5
  clear hW5 hZ5 d5 hp5
  have x0 := xb5 (S.get 5 rfl)
  have x1 := xb2 (S.get 6 rfl)
  refine wp_par1 10 7 8 _ _ 31 31 17 (.tmp 68) #[.int .i64 0, .int .i64 0] (.agg #[.int .i64 t0, .int .i64 t1]) (by kernel_rfl) (by kernel_rfl) rfl rfl rfl rfl (by simp) ?_ rfl (by kernel_rfl) (by simp [Value.cells, Value.oneCell']) ?_
  · intro ρ w'
    simp [go_sem, ptrTo]
  apply Exists.intro
  refine ⟨fun M hM => ?_, ?_, fun b1 W2 hW2 hge hblk => ?_⟩
  · simp only [List.take_succ_cons, List.take_zero]
    repeat (first | (refine ps_skip ?_ ?_; (focus rfl)) | (refine ps_no ?_ ?_ ?_; (focus rfl); (focus rfl)) | (refine ps_want ?_ ?_ ?_; (focus rfl); (focus rfl); intro K hK; go_big_quiet_op; first | go_big_quiet_on | (apply Exists.intro; refine ⟨?_, ?_⟩; (focus (intros; first | with_reducible rfl | (first | (go_at_call 29; exact qcallM hM ‹_› (of_any _ _ _ _ _ _)) | (go_at_call 32; exact qcallM hM ‹_› (N2.out _))))); go_big_quiet_on)))
    exact ps_nil rfl
  · rfl
  simp only [List.drop_succ_cons, List.drop_zero, Act.put, ptrTo, List.setIfInBounds_toArray, List.set_cons_succ, List.set_cons_zero]
  replace S := S.new hW2 hblk
  clear hW2 hge hblk x0 x1
  have k0 := cb5 (S.get 6 rfl)
  go_wp2_with fail
  refine (new_any _ _).mono ?_
  rintro e w7 ⟨rfl, hb7⟩
  generalize hnv : (if s = 1 ∨ s = 2 then s else 0) = nv
  generalize hnc : (if s = 1 ∨ s = 2 then (0 : Int) else 2) = nc
  have HN := Lib.hid (And.intro hnv hnc)
  clear hnv hnc
  replace S := S.call hb7
  clear hb7 k0
  obtain ⟨p7, hp7⟩ : ∃ m, w7.heap.size = m := ⟨_, rfl⟩
  have hlt : n < p7 := hp7 ▸ S.lt 6 rfl
  have k0 := cb5 (S.get 6 rfl)
  go_wp2_with fail
  refine cl_boxes1 hp7 (fun W7 hW7 hZ7 d7 => ?_)
  clear hlt k0
  replace S := S.push hp7 hW7 d7
  clear hW7 hZ7 d7 hp7
  refine (rnew_any _ _).mono ?_
  rintro e w8 ⟨rfl, hb8⟩
  rw [HN.out.1, HN.out.2]
  replace S := S.call hb8
  clear hb8
  obtain ⟨p8, hp8⟩ : ∃ m, w8.heap.size = m := ⟨_, rfl⟩
  go_wp2_with fail
  refine wp_boxes1 hp8 (fun W8 hW8 hZ8 d8 => ?_)
  replace S := S.push hp8 hW8 d8
  clear hW8 hZ8 d8 hp8
  have y0 := xb5 (S.get 0 rfl)
  have y1 := xb5 (S.get 1 rfl)
  have y2 := xb2 (S.get 2 rfl)
  have y3 := xb2 (S.get 3 rfl)
  have y4 := xb5 (S.get 4 rfl)
  have y5 := xb5 (S.get 5 rfl)
  have y6 := xb5 (S.get 6 rfl)
  have y7 := xb5 (S.get 7 rfl)
  have y8 := xb5 (S.get 8 rfl)
  refine wp_region_ext (by kernel_rfl) (by kernel_rfl) ?_
  repeat (first | go_big_quiet_skip | (go_big_quiet_want; go_big_quiet_op; first | go_big_quiet_on | (apply Exists.intro; refine ⟨fun _ => ?_, ?_⟩; ((first | (go_at_call 29; exact qcall (of_any _ _ _ _ _ _)) | (go_at_call 34; exact qcall (fgood_any _ _ _ _ _ _)) | (go_at_call 35; exact qcall (rfgood_any _ _ _ _ _ _)) | (go_at_call 25; exact qcall (lives_any _)))); go_big_quiet_on)))
  refine wpQuiet_nil ?_
  intro _ hw'
  obtain ⟨xq, hw''⟩ := hw'
  subst hw''
  replace S := S.grow xq
  clear y0 y1 y2 y3 y4 y5 y6 y7 y8
  go_wp2
  go_ret
  exact ⟨rfl, S.bel⟩
end Go.Proofs.Yteebobbhhgmeiaa
