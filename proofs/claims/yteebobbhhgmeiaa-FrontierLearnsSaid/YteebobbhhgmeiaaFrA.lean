/- frontier, gemelref23: the small walks -/
import Derived.Test.YteebobbhhgmeiaaVecB
namespace Go.Proofs.Yteebobbhhgmeiaa
open Go.RowKit Go.BigFrame

def cameF (s x y : Int) : Int := if s = 2 then x else y
def GoodF (s a t u v : Int) : Prop := (s = 1 ∨ s = 2) ∧ (0 ≤ a ∧ a ≤ 1099511627776) ∧ (0 ≤ t ∧ t ≤ 1099511627776) ∧ (0 ≤ u ∧ u ≤ 1099511627776) ∧ (0 ≤ v ∧ v ≤ 1099511627776) ∧ t ≤ a ∧ u ≤ a ∧ (v = 0 → u ≤ 0)
instance (s a t u v : Int) : Decidable (GoodF s a t u v) := by unfold GoodF; infer_instance
def goodF (s a t u v : Int) : Bool := decide (GoodF s a t u v)
theorem goodF_no {s a t u v : Int} (h : ¬ GoodF s a t u v) : false = goodF s a t u v := (decide_eq_false h).symm
theorem goodF_yes {s a t u v : Int} (h : GoodF s a t u v) : true = goodF s a t u v := (decide_eq_true h).symm

set_option maxHeartbeats 400000 in
theorem known_any (s : Int) (w : World) :
    Calls Try.prog 96 #[.int .i64 s] w fun e w' => e = .returned (.bool (s == 1 || s == 2)) ∧ w = w' := by
  go_enter Try.func96, Try.ntmps96
  go_wp2
  · rename_i h
    subst h
    go_ret
    exact ⟨rfl, rfl⟩
  · go_ret
    exact ⟨rfl, rfl⟩

set_option maxHeartbeats 400000 in
theorem came_any (a b c d e x y : Int) (w : World) (hs : a = 1 ∨ a = 2) :
    Calls Try.prog 98 #[.agg #[.int .i64 a, .int .i64 b, .int .i64 c, .int .i64 d, .int .i64 e], .agg #[.int .i64 x, .int .i64 y]] w
     fun e w' => e = .returned (.int .i64 (cameF a x y)) ∧ Below w.heap.size w w' := by
  go_enter Try.func98, Try.ntmps98
  rcases hs with rfl | rfl
  all_goals
    go_wp2
    go_ret
    exact ⟨by simp [cameF], ((Below.refl _ _).alloc (Nat.le_refl _) _).alloc (by simp) _⟩

set_option maxHeartbeats 400000 in
theorem seq_any (n : Int) (w : World) :
    Calls Try.prog 101 #[.int .i64 n] w fun e w' => e = .returned (.bool (decide (0 ≤ n ∧ n ≤ 1099511627776))) ∧ w = w' := by
  go_enter Try.func101, Try.ntmps101
  go_wp2
  all_goals
    go_tidy
    go_ret
    exact ⟨ret_bool (by rw [Bool.eq_iff_iff]; simp; omega), rfl⟩

set_option maxHeartbeats 400000 in
theorem of_any (a b c d e : Int) (w : World) :
    Calls Try.prog 29 #[.agg #[.int .i64 a, .int .i64 b, .int .i64 c, .int .i64 d, .int .i64 e]] w
     fun r w' => r = .returned (.agg #[.int .i64 a, .int .i64 b, .int .i64 c, .int .i64 d, .int .i64 e]) ∧ Below w.heap.size w w' := by
  go_enter Try.func29, Try.ntmps29
  go_wp2
  refine bodyPost_ret (v := .agg #[.int .i64 a, .int .i64 b, .int .i64 c, .int .i64 d, .int .i64 e]) ?_ rfl ⟨rfl, ((Below.refl _ _).alloc (Nat.le_refl _) _).alloc (by simp) _⟩
  simp [results, Try.results29, go_sem]

set_option maxHeartbeats 800000 in
theorem fgood_any (s a t u v : Int) (w : World) :
    Calls Try.prog 34 #[.agg #[.int .i64 s, .int .i64 a, .int .i64 t, .int .i64 u, .int .i64 v]] w fun e w' => e = .returned (.bool (goodF s a t u v)) ∧ Below w.heap.size w w' := by
  have i0 : ∀ w, (Instr.index 161 (.agg #[.int .i64 a, .int .i64 t, .int .i64 u, .int .i64 v]) (.int .i64 0)).run Try.prog w = .ok (.int .i64 a) w := fun _ => by kernel_rfl
  have i1 : ∀ w, (Instr.index 161 (.agg #[.int .i64 a, .int .i64 t, .int .i64 u, .int .i64 v]) (.int .i64 1)).run Try.prog w = .ok (.int .i64 t) w := fun _ => by kernel_rfl
  have i2 : ∀ w, (Instr.index 161 (.agg #[.int .i64 a, .int .i64 t, .int .i64 u, .int .i64 v]) (.int .i64 2)).run Try.prog w = .ok (.int .i64 u) w := fun _ => by kernel_rfl
  have i3 : ∀ w, (Instr.index 161 (.agg #[.int .i64 a, .int .i64 t, .int .i64 u, .int .i64 v]) (.int .i64 3)).run Try.prog w = .ok (.int .i64 v) w := fun _ => by kernel_rfl
  go_enter Try.func34, Try.ntmps34
  go_wp2
  refine wp_loop_rounds 5 ?_
  rw [rounds_succ]
  go_wp2
  all_goals (first | (go_ret; exact ⟨ret_bool (goodF_no (by unfold GoodF; omega)), (Below.refl _ _).alloc (Nat.le_refl _) _⟩) | skip)
  rw [rounds_succ]
  go_wp2
  all_goals (first | (go_ret; exact ⟨ret_bool (goodF_no (by unfold GoodF; omega)), (Below.refl _ _).alloc (Nat.le_refl _) _⟩) | skip)
  rw [rounds_succ]
  go_wp2
  all_goals (first | (go_ret; exact ⟨ret_bool (goodF_no (by unfold GoodF; omega)), (Below.refl _ _).alloc (Nat.le_refl _) _⟩) | skip)
  rw [rounds_succ]
  go_wp2
  all_goals (first | (go_ret; exact ⟨ret_bool (goodF_no (by unfold GoodF; omega)), (Below.refl _ _).alloc (Nat.le_refl _) _⟩) | skip)
  rw [rounds_succ]
  go_wp2
  all_goals
    go_tidy
    go_ret
    refine ⟨ret_bool ?_, (Below.refl _ _).alloc (Nat.le_refl _) _⟩
    unfold goodF
    rw [Bool.eq_iff_iff, decide_eq_true_eq]
    unfold GoodF
    simp
    omega
end Go.Proofs.Yteebobbhhgmeiaa
