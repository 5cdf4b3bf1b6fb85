/- frontier.Learn -/
import Derived.Test.YteebobbhhgmeiaaFrC
import Derived.Test.YteebobbhhgmeiaaMax
namespace Go.Proofs.Yteebobbhhgmeiaa
open Go.RowKit Go.BigFrame

/-- What is told may be. -/
def LearnOk (s x y ack own : Int) : Prop := 0 ≤ ack ∧ ack ≤ mineF s x y ∧ 0 ≤ own ∧ own ≤ 1099511627776
instance (s x y ack own : Int) : Decidable (LearnOk s x y ack own) := by unfold LearnOk; infer_instance
def lT (s t ack own x y : Int) : Int := if own ≤ cameF s x y then max t ack else t
def lU (s t u v ack own x y : Int) : Int := if own ≤ cameF s x y then u else if v = 0 ∧ t < ack then ack else u
def lV (s t v ack own x y : Int) : Int := if own ≤ cameF s x y then v else if v = 0 ∧ t < ack then own else v
def leT (s t u v ack own x y : Int) : Int := stT s (lT s t ack own x y) (lU s t u v ack own x y) (lV s t v ack own x y) x y
def leU (s t u v ack own x y : Int) : Int := stU s (lU s t u v ack own x y) (lV s t v ack own x y) x y
def leV (s t v ack own x y : Int) : Int := stV s (lV s t v ack own x y) x y

set_option maxHeartbeats 1000000 in
theorem learn_t {s a t u v x y ack own : Int} (w : World) (h : bothG s a t u v x y = true) (hl : LearnOk s x y ack own) :
    Calls Try.prog 26 #[.agg #[.int .i64 s, .int .i64 a, .int .i64 t, .int .i64 u, .int .i64 v], .agg #[.int .i64 x, .int .i64 y], .int .i64 ack, .int .i64 own] w fun e w' =>
      e = .returned (.tuple #[.agg #[.int .i64 s, .int .i64 (max a ack), .int .i64 (leT s t u v ack own x y), .int .i64 (leU s t u v ack own x y), .int .i64 (leV s t v ack own x y)], .int .i64 0]) ∧ Below w.heap.size w w' := by
  have hs := bothG_site h
  have H := Lib.hid h
  clear h
  obtain ⟨l1, l2, l3, l4⟩ := hl
  obtain ⟨n, hn⟩ : ∃ n, w.heap.size = n := ⟨_, rfl⟩
  rw [hn]
  go_enter Try.func26, Try.ntmps26
  go_wp2_with fail
  refine cl_boxes3 hn (fun W hb hz b0 b1 b2 => ?_)
  refine (fault_t _ H.out).mono ?_
  rintro e w1 ⟨rfl, hb1⟩
  have k0 := cb5 (blk_next b0 hb1)
  have k1 := cb2 (blk_next b1 hb1)
  have f0 := fb5 (blk_next b0 hb1)
  have f2 := fb5 (blk_next b2 hb1)
  have hz1 : n + 3 ≤ w1.heap.size := by
    have := hb1.size
    omega
  have hbel := below_next hb (by omega) hb1
  have q0 := blk_next b0 hb1
  have q1 := blk_next b1 hb1
  have q2 := blk_next b2 hb1
  clear b0 b1 b2 hb1 hb hz H
  have hm : ack ≤ mineF s x y := l2
  clear l2
  have hcond : s = 1 ∧ ack ≤ x ∨ s = 2 ∧ ack ≤ y := by
    unfold mineF at hm
    rcases hs with rfl | rfl
    · exact .inl ⟨rfl, by simpa using hm⟩
    · exact .inr ⟨rfl, by simpa using hm⟩
  clear hm hs
  rcases hcond with ⟨rfl, l2⟩ | ⟨rfl, l2⟩
  all_goals
    go_wp2_with fail
    have hsz := set_size w1 ⟨n, 1, none⟩ (.int .i64 (max a ack))
    have c0 := set_same (i := 1) q0 (.int .i64 (max a ack))
    have c1 := set_far (p := ⟨n, 1, none⟩) q1 (show n + 1 ≠ n by omega) (.int .i64 (max a ack))
    have c2 := set_far (p := ⟨n, 1, none⟩) q2 (show n + 1 + 1 ≠ n by omega) (.int .i64 (max a ack))
    have hbel2 := below_set (i := 1) hbel (Nat.le_refl n) (.int .i64 (max a ack))
    clear k0 k1 f0 f2
    refine (came_any _ _ _ _ _ _ _ _ (by omega)).mono ?_
    rintro e w2 ⟨rfl, hb2⟩
    have d0 := blk_next c0 hb2
    have d1 := blk_next c1 hb2
    have d2 := blk_next c2 hb2
    have hbel3 := below_next hbel2 (by omega) hb2
    have hz2 := hb2.size
    have hz3 : n ≤ w2.heap.size := by omega
    clear hb2 c0 c1 c2 hz2 hsz hz1 hbel2 q0 q1 q2 hbel
    have k0 := cb5 d0
    have k1 := cb2 d1
    have f0 := fb5 d0
    go_wp2_with fail
    all_goals
      clear k0 k1 f0
      refine (settled_any _ _ _ _ _ _ _ _ (by omega)).mono ?_
      rintro e w3 ⟨rfl, hb3⟩
      have e2 : w3.heap[n + 1 + 1]? = some (.cells #[.int .i64 0, .int .i64 0, .int .i64 0, .int .i64 0, .int .i64 0] 25) := by
        first
          | exact blk_next d2 hb3
          | exact blk_next (set_far d2 (show n + 1 + 1 ≠ n by omega) _) hb3
          | exact blk_next (set_far (set_far d2 (show n + 1 + 1 ≠ n by omega) _) (show n + 1 + 1 ≠ n by omega) _) hb3
      have hbel4 : Below n w w3 := by
        first
          | exact below_next hbel3 hz3 hb3
          | exact below_next (below_set hbel3 (Nat.le_refl n) _) (by rw [set_size]; exact hz3) hb3
          | exact below_next (below_set (below_set hbel3 (Nat.le_refl n) _) (Nat.le_refl n) _) (by rw [set_size, set_size]; exact hz3) hb3
      have k2 := cb5 e2
      have f2 := fb5 e2
      clear hb3 d0 d1 d2 e2
      go_wp2
      go_tidy
      refine bodyPost_ret (v := .tuple #[.agg #[.int .i64 _, .int .i64 (max a ack), .int .i64 (leT _ t u _ ack own x y), .int .i64 (leU _ t u _ ack own x y), .int .i64 (leV _ t _ ack own x y)], .int .i64 0]) ?_ rfl ⟨rfl, ?_⟩
      · simp [results, Try.results26, go_sem, k2]
        unfold leT leU leV lT lU lV stT stU stV
        omega
      · repeat (with_reducible refine below_set ?_ (by omega) _)
        exact hbel4
end Go.Proofs.Yteebobbhhgmeiaa
