/- frontier and gemelref23 answer alike; gemellaw23.lives -/
import Derived.Test.YteebobbhhgmeiaaFrE
import Derived.Test.YteebobbhhgmeiaaRfC
import Derived.Test.YteebobbhhgmeiaaRfD
namespace Go.Proofs.Yteebobbhhgmeiaa
open Go.RowKit Go.BigFrame

theorem learn_both (s a t u v x y ack own : Int) : ∃ r0 r1 r2 r3 r4 c : Int,
    (∀ w, Calls Try.prog 26 #[.agg #[.int .i64 s, .int .i64 a, .int .i64 t, .int .i64 u, .int .i64 v], .agg #[.int .i64 x, .int .i64 y], .int .i64 ack, .int .i64 own] w fun e w' => e = .returned (.tuple #[.agg #[.int .i64 r0, .int .i64 r1, .int .i64 r2, .int .i64 r3, .int .i64 r4], .int .i64 c]) ∧ Below w.heap.size w w') ∧
    (∀ w, Calls Try.prog 28 #[.agg #[.int .i64 s, .int .i64 a, .int .i64 t, .int .i64 u, .int .i64 v], .agg #[.int .i64 x, .int .i64 y], .int .i64 ack, .int .i64 own] w fun e w' => e = .returned (.tuple #[.agg #[.int .i64 r0, .int .i64 r1, .int .i64 r2, .int .i64 r3, .int .i64 r4], .int .i64 c]) ∧ Below w.heap.size w w') := by
  cases h : bothG s a t u v x y with
  | false => exact ⟨0, 0, 0, 0, 0, 2, fun w => learn_f w h, fun w => rlearn_f w h⟩
  | true =>
    by_cases hl : LearnOk s x y ack own
    · exact ⟨_, _, _, _, _, 0, fun w => learn_t w h hl, fun w => rlearn_t w h hl⟩
    · exact ⟨0, 0, 0, 0, 0, 2, fun w => learn_b w h hl, fun w => rlearn_b w h hl⟩

theorem settle_both (s a t u v x y : Int) : ∃ r0 r1 r2 r3 r4 c : Int,
    (∀ w, Calls Try.prog 27 #[.agg #[.int .i64 s, .int .i64 a, .int .i64 t, .int .i64 u, .int .i64 v], .agg #[.int .i64 x, .int .i64 y]] w fun e w' => e = .returned (.tuple #[.agg #[.int .i64 r0, .int .i64 r1, .int .i64 r2, .int .i64 r3, .int .i64 r4], .int .i64 c]) ∧ Below w.heap.size w w') ∧
    (∀ w, Calls Try.prog 30 #[.agg #[.int .i64 s, .int .i64 a, .int .i64 t, .int .i64 u, .int .i64 v], .agg #[.int .i64 x, .int .i64 y]] w fun e w' => e = .returned (.tuple #[.agg #[.int .i64 r0, .int .i64 r1, .int .i64 r2, .int .i64 r3, .int .i64 r4], .int .i64 c]) ∧ Below w.heap.size w w') := by
  cases h : bothG s a t u v x y with
  | false => exact ⟨0, 0, 0, 0, 0, 2, fun w => settle_f w h, fun w => rsettle_f w h⟩
  | true => exact ⟨_, _, _, _, _, 0, fun w => settle_t w h, fun w => rsettle_t w h⟩

theorem stable_both (s a t u v x y : Int) : ∃ r0 r1 c : Int,
    (∀ w, Calls Try.prog 31 #[.agg #[.int .i64 s, .int .i64 a, .int .i64 t, .int .i64 u, .int .i64 v], .agg #[.int .i64 x, .int .i64 y]] w fun e w' => e = .returned (.tuple #[.agg #[.int .i64 r0, .int .i64 r1], .int .i64 c]) ∧ Below w.heap.size w w') ∧
    (∀ w, Calls Try.prog 32 #[.agg #[.int .i64 s, .int .i64 a, .int .i64 t, .int .i64 u, .int .i64 v], .agg #[.int .i64 x, .int .i64 y]] w fun e w' => e = .returned (.tuple #[.agg #[.int .i64 r0, .int .i64 r1], .int .i64 c]) ∧ Below w.heap.size w w') := by
  cases h : bothG s a t u v x y with
  | false => exact ⟨0, 0, 2, fun w => stable_f w h, fun w => rstable_f w h⟩
  | true => exact ⟨_, _, 0, fun w => stable_t w h, fun w => rstable_t w h⟩

theorem new_1 (w : World) : Calls Try.prog 24 #[.int .i64 1] w fun e w' => e = .returned (.tuple #[.agg #[.int .i64 1, .int .i64 0, .int .i64 0, .int .i64 0, .int .i64 0], .int .i64 0]) ∧ Below w.heap.size w w' := by
  have h := new_any 1 w
  exact h
theorem learn_1 (w : World) : Calls Try.prog 26 #[.agg #[.int .i64 1, .int .i64 0, .int .i64 0, .int .i64 0, .int .i64 0], .agg #[.int .i64 3, .int .i64 1], .int .i64 2, .int .i64 2] w fun e w' =>
    e = .returned (.tuple #[.agg #[.int .i64 1, .int .i64 2, .int .i64 0, .int .i64 2, .int .i64 2], .int .i64 0]) ∧ Below w.heap.size w w' := by
  have h := learn_t (s := 1) (a := 0) (t := 0) (u := 0) (v := 0) (x := 3) (y := 1) (ack := 2) (own := 2) w (by decide) (by decide)
  have e1 : max (0 : Int) 2 = 2 := by decide
  have e2 : leT 1 0 0 0 2 2 3 1 = 0 := by decide
  have e3 : leU 1 0 0 0 2 2 3 1 = 2 := by decide
  have e4 : leV 1 0 0 2 2 3 1 = 2 := by decide
  rw [e1, e2, e3, e4] at h
  exact h
theorem settle_1 (w : World) : Calls Try.prog 27 #[.agg #[.int .i64 1, .int .i64 2, .int .i64 0, .int .i64 2, .int .i64 2], .agg #[.int .i64 3, .int .i64 2]] w fun e w' =>
    e = .returned (.tuple #[.agg #[.int .i64 1, .int .i64 2, .int .i64 2, .int .i64 0, .int .i64 0], .int .i64 0]) ∧ Below w.heap.size w w' := by
  have h := settle_t (s := 1) (a := 2) (t := 0) (u := 2) (v := 2) (x := 3) (y := 2) w (by decide)
  have e2 : stT 1 0 2 2 3 2 = 2 := by decide
  have e3 : stU 1 2 2 3 2 = 0 := by decide
  have e4 : stV 1 2 3 2 = 0 := by decide
  rw [e2, e3, e4] at h
  exact h

set_option maxHeartbeats 400000 in
theorem lives_any (w : World) : Calls Try.prog 25 #[] w fun e w' => e = .returned (.bool true) ∧ Below w.heap.size w w' := by
  obtain ⟨n, hn⟩ : ∃ n, w.heap.size = n := ⟨_, rfl⟩
  rw [hn]
  go_enter Try.func25, Try.ntmps25
  go_wp2_with fail
  refine (new_1 _).mono ?_
  rintro e w1 ⟨rfl, hb1⟩
  rw [hn] at hb1
  have hz1 : n ≤ w1.heap.size := by have := hb1.size; omega
  obtain ⟨m1, hm1⟩ : ∃ m, w1.heap.size = m := ⟨_, rfl⟩
  go_wp2_with fail
  refine cl_boxes1 hm1 (fun W1 hW1 hZ1 c1 => ?_)
  refine (learn_1 _).mono ?_
  rintro e w2 ⟨rfl, hb2⟩
  have d1 := blk_next c1 hb2
  have hB2 := (hb1.trans (hW1.mono (by omega))).trans (hb2.mono (by omega))
  have hz2 : m1 + 1 ≤ w2.heap.size := by have := hb2.size; omega
  clear hb2 hW1 hZ1 c1
  obtain ⟨m2, hm2⟩ : ∃ m, w2.heap.size = m := ⟨_, rfl⟩
  go_wp2_with fail
  refine cl_boxes1 hm2 (fun W2 hW2 hZ2 c2 => ?_)
  refine (settle_1 _).mono ?_
  rintro e w3 ⟨rfl, hb3⟩
  have hB3 := (hB2.trans (hW2.mono (by omega))).trans (hb3.mono (by omega))
  have k2 := cb5 (blk_next c2 hb3)
  have hz3 : m2 + 1 ≤ w3.heap.size := by have := hb3.size; omega
  have k1 := cb5 (blk_next (blk_below d1 hW2 (by omega)) hb3)
  clear hb3 hW2 hZ2 c2 d1 hB2 hz2
  have hlt : m2 < w3.heap.size := by omega
  go_wp2
  go_ret
  exact ⟨rfl, hB3.alloc (by have := hB3.size; omega) _⟩
end Go.Proofs.Yteebobbhhgmeiaa
