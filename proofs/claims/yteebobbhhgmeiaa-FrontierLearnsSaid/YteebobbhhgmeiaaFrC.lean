/- frontier: Settle, Stable, Learn, New -/
import Derived.Test.YteebobbhhgmeiaaFrB
namespace Go.Proofs.Yteebobbhhgmeiaa
open Go.RowKit Go.BigFrame

def stT (s t u v x y : Int) : Int := if 0 < v ∧ v ≤ cameF s x y then max t u else t
def stU (s u v x y : Int) : Int := if 0 < v ∧ v ≤ cameF s x y then 0 else u
def stV (s v x y : Int) : Int := if 0 < v ∧ v ≤ cameF s x y then 0 else v
def mineF (s x y : Int) : Int := if s = 1 then x else y

theorem settled_any (s a t u v x y : Int) (w : World) (hs : s = 1 ∨ s = 2) :
    Calls Try.prog 99 #[.agg #[.int .i64 s, .int .i64 a, .int .i64 t, .int .i64 u, .int .i64 v], .agg #[.int .i64 x, .int .i64 y]] w
     fun e w' => e = .returned (.agg #[.int .i64 s, .int .i64 a, .int .i64 (stT s t u v x y), .int .i64 (stU s u v x y), .int .i64 (stV s v x y)]) ∧ Below w.heap.size w w' := by
  by_cases h : setC s v x y
  · have h' : 0 < v ∧ v ≤ cameF s x y := h
    unfold stT stU stV
    rw [if_pos h', if_pos h', if_pos h']
    exact settled_yes s a t u v x y w hs h.1 h.2
  · have h' : ¬ (0 < v ∧ v ≤ cameF s x y) := h
    unfold stT stU stV
    rw [if_neg h', if_neg h', if_neg h']
    exact settled_no s a t u v x y w hs h

theorem goodF_site {s a t u v : Int} (h : goodF s a t u v = true) : s = 1 ∨ s = 2 := (of_decide_eq_true h).1
theorem bothG_site {s a t u v x y : Int} (h : bothG s a t u v x y = true) : s = 1 ∨ s = 2 := by
  unfold bothG at h
  rw [Bool.and_eq_true] at h
  exact goodF_site h.1

set_option maxHeartbeats 400000 in
theorem settle_t {s a t u v x y : Int} (w : World) (h : bothG s a t u v x y = true) :
    Calls Try.prog 27 #[.agg #[.int .i64 s, .int .i64 a, .int .i64 t, .int .i64 u, .int .i64 v], .agg #[.int .i64 x, .int .i64 y]] w fun e w' => e = .returned (.tuple #[.agg #[.int .i64 s, .int .i64 a, .int .i64 (stT s t u v x y), .int .i64 (stU s u v x y), .int .i64 (stV s v x y)], .int .i64 0]) ∧ Below w.heap.size w w' := by
  have hs := bothG_site h
  have H := Lib.hid h
  clear h
  obtain ⟨n, hn⟩ : ∃ n, w.heap.size = n := ⟨_, rfl⟩
  rw [hn]
  go_enter Try.func27, Try.ntmps27
  go_wp2_with fail
  refine cl_boxes3 hn (fun W hb hz b0 b1 b2 => ?_)
  refine (fault_t _ H.out).mono ?_
  rintro e w1 ⟨rfl, hb1⟩
  have k0 := cb5 (blk_next b0 hb1)
  have k1 := cb2 (blk_next b1 hb1)
  go_wp2_with fail
  refine (settled_any _ _ _ _ _ _ _ _ hs).mono ?_
  rintro e w2 ⟨rfl, hb2⟩
  have k2 := cb5 (blk_next (blk_next b2 hb1) hb2)
  have f2 := fb5 (blk_next (blk_next b2 hb1) hb2)
  clear k0 k1
  go_wp2
  go_tidy
  refine bodyPost_ret (v := .tuple #[.agg #[.int .i64 s, .int .i64 a, .int .i64 (stT s t u v x y), .int .i64 (stU s u v x y), .int .i64 (stV s v x y)], .int .i64 0]) ?_ rfl ⟨rfl, ?_⟩
  · simp [results, Try.results27, go_sem, k2]
  · repeat (with_reducible refine below_set ?_ (by omega) _)
    exact below_next (below_next hb (by omega) hb1) (size_next (by omega) hb1) hb2

set_option maxHeartbeats 400000 in
theorem settle_f {s a t u v x y : Int} (w : World) (h : bothG s a t u v x y = false) :
    Calls Try.prog 27 #[.agg #[.int .i64 s, .int .i64 a, .int .i64 t, .int .i64 u, .int .i64 v], .agg #[.int .i64 x, .int .i64 y]] w fun e w' => e = .returned (.tuple #[.agg #[.int .i64 0, .int .i64 0, .int .i64 0, .int .i64 0, .int .i64 0], .int .i64 2]) ∧ Below w.heap.size w w' := by
  have H := Lib.hid h
  clear h
  obtain ⟨n, hn⟩ : ∃ n, w.heap.size = n := ⟨_, rfl⟩
  rw [hn]
  go_enter Try.func27, Try.ntmps27
  go_wp2_with fail
  refine cl_boxes3 hn (fun W hb hz b0 b1 b2 => ?_)
  refine (fault_f _ H.out).mono ?_
  rintro e w1 ⟨rfl, hb1⟩
  have k2 := cb5 (blk_next b2 hb1)
  have f2 := fb5 (blk_next b2 hb1)
  go_wp2
  go_tidy
  refine bodyPost_ret (v := .tuple #[.agg #[.int .i64 0, .int .i64 0, .int .i64 0, .int .i64 0, .int .i64 0], .int .i64 2]) ?_ rfl ⟨rfl, ?_⟩
  · simp [results, Try.results27, go_sem, k2]
  · repeat (with_reducible refine below_set ?_ (by omega) _)
    exact below_next hb (by omega) hb1

set_option maxHeartbeats 400000 in
theorem stable_t {s a t u v x y : Int} (w : World) (h : bothG s a t u v x y = true) :
    Calls Try.prog 31 #[.agg #[.int .i64 s, .int .i64 a, .int .i64 t, .int .i64 u, .int .i64 v], .agg #[.int .i64 x, .int .i64 y]] w fun e w' => e = .returned (.tuple #[.agg #[.int .i64 (if s = 1 then t else x), .int .i64 (if s = 1 then y else t)], .int .i64 0]) ∧ Below w.heap.size w w' := by
  have hs := bothG_site h
  have H := Lib.hid h
  clear h
  obtain ⟨n, hn⟩ : ∃ n, w.heap.size = n := ⟨_, rfl⟩
  rw [hn]
  go_enter Try.func31, Try.ntmps31
  go_wp2_with fail
  refine cl_boxes3 hn (fun W hb hz b0 b1 b2 => ?_)
  refine (fault_t _ H.out).mono ?_
  rintro e w1 ⟨rfl, hb1⟩
  have k0 := cb5 (blk_next b0 hb1)
  have k1 := cb2 (blk_next b1 hb1)
  have k2 := cb2 (blk_next b2 hb1)
  have f1 := fb2 (blk_next b1 hb1)
  have f2 := fb2 (blk_next b2 hb1)
  clear H
  rcases hs with rfl | rfl
  · go_wp2
    go_tidy
    refine bodyPost_ret (v := .tuple #[.agg #[.int .i64 t, .int .i64 y], .int .i64 0]) ?_ rfl ⟨rfl, ?_⟩
    · simp [results, Try.results31, go_sem, k2]
    · repeat (with_reducible refine below_set ?_ (by omega) _)
      exact below_next hb (by omega) hb1
  · go_wp2
    go_tidy
    refine bodyPost_ret (v := .tuple #[.agg #[.int .i64 x, .int .i64 t], .int .i64 0]) ?_ rfl ⟨rfl, ?_⟩
    · simp [results, Try.results31, go_sem, k2]
    · repeat (with_reducible refine below_set ?_ (by omega) _)
      exact below_next hb (by omega) hb1

set_option maxHeartbeats 400000 in
theorem stable_f {s a t u v x y : Int} (w : World) (h : bothG s a t u v x y = false) :
    Calls Try.prog 31 #[.agg #[.int .i64 s, .int .i64 a, .int .i64 t, .int .i64 u, .int .i64 v], .agg #[.int .i64 x, .int .i64 y]] w fun e w' => e = .returned (.tuple #[.agg #[.int .i64 0, .int .i64 0], .int .i64 2]) ∧ Below w.heap.size w w' := by
  have H := Lib.hid h
  clear h
  obtain ⟨n, hn⟩ : ∃ n, w.heap.size = n := ⟨_, rfl⟩
  rw [hn]
  go_enter Try.func31, Try.ntmps31
  go_wp2_with fail
  refine cl_boxes3 hn (fun W hb hz b0 b1 b2 => ?_)
  refine (fault_f _ H.out).mono ?_
  rintro e w1 ⟨rfl, hb1⟩
  have k2 := cb2 (blk_next b2 hb1)
  have f2 := fb2 (blk_next b2 hb1)
  go_wp2
  go_tidy
  refine bodyPost_ret (v := .tuple #[.agg #[.int .i64 0, .int .i64 0], .int .i64 2]) ?_ rfl ⟨rfl, ?_⟩
  · simp [results, Try.results31, go_sem, k2]
  · repeat (with_reducible refine below_set ?_ (by omega) _)
    exact below_next hb (by omega) hb1

set_option maxHeartbeats 400000 in
theorem new_any (s : Int) (w : World) :
    Calls Try.prog 24 #[.int .i64 s] w fun e w' => e = .returned (.tuple #[.agg #[.int .i64 (if s = 1 ∨ s = 2 then s else 0), .int .i64 0, .int .i64 0, .int .i64 0, .int .i64 0], .int .i64 (if s = 1 ∨ s = 2 then 0 else 2)]) ∧ Below w.heap.size w w' := by
  by_cases hs : s = 1 ∨ s = 2
  · rw [if_pos hs, if_pos hs]
    have hb : (s == 1 || s == 2) = true := by rcases hs with rfl | rfl <;> rfl
    obtain ⟨n, hn⟩ : ∃ n, w.heap.size = n := ⟨_, rfl⟩
    rw [hn]
    go_enter Try.func24, Try.ntmps24
    go_wp2_with fail
    refine (known_any _ _).mono ?_
    rintro e w1 ⟨rfl, rfl⟩
    rw [hb]
    clear hb hs
    go_wp2
    go_tidy
    refine bodyPost_ret (v := .tuple #[.agg #[.int .i64 s, .int .i64 0, .int .i64 0, .int .i64 0, .int .i64 0], .int .i64 0]) ?_ rfl ⟨rfl, ?_⟩
    · simp [results, Try.results24, go_sem, hn]
    · rw [← hn]
      exact (Below.refl _ _).alloc (Nat.le_refl _) _
  · rw [if_neg hs, if_neg hs]
    have hb : (s == 1 || s == 2) = false := by simpa [not_or] using hs
    obtain ⟨n, hn⟩ : ∃ n, w.heap.size = n := ⟨_, rfl⟩
    rw [hn]
    go_enter Try.func24, Try.ntmps24
    go_wp2_with fail
    refine (known_any _ _).mono ?_
    rintro e w1 ⟨rfl, rfl⟩
    rw [hb]
    clear hb hs
    go_wp2
    go_tidy
    refine bodyPost_ret (v := .tuple #[.agg #[.int .i64 0, .int .i64 0, .int .i64 0, .int .i64 0, .int .i64 0], .int .i64 2]) ?_ rfl ⟨rfl, ?_⟩
    · simp [results, Try.results24, go_sem, hn]
    · rw [← hn]
      exact (Below.refl _ _).alloc (Nat.le_refl _) _
end Go.Proofs.Yteebobbhhgmeiaa
