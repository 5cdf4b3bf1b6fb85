/- gemelref23.Learn -/
import Derived.Test.YteebobbhhgmeiaaRfB
import Derived.Test.YteebobbhhgmeiaaFrD
namespace Go.Proofs.Yteebobbhhgmeiaa
open Go.RowKit Go.BigFrame

theorem goodV_spec {x y : Int} (h : goodV x y = true) : (0 ≤ x ∧ x ≤ 1099511627776) ∧ 0 ≤ y ∧ y ≤ 1099511627776 := by
  unfold goodV at h
  simp at h
  omega
theorem goodV_mk {x y : Int} (h : (0 ≤ x ∧ x ≤ 1099511627776) ∧ 0 ≤ y ∧ y ≤ 1099511627776) : goodV x y = true := by
  unfold goodV
  simp
  omega

theorem heap_setCell_ne {w : World} {k g i : Nat} {v : Value} (h : k ≠ g) : (w.setCell ⟨g, i, none⟩ v).heap[k]? = w.heap[k]? := Below.heap_setCell w ⟨g, i, none⟩ v k h

theorem bothG_mk {s a t u v x y : Int} (hg : GoodF s a t u v) (hv : goodV x y = true) : bothG s a t u v x y = true := by
  unfold bothG
  rw [hv, Bool.and_true]
  exact (goodF_yes hg).symm



set_option maxHeartbeats 1000000 in
theorem rlearn_t {s a t u v x y ack own : Int} (w : World) (h : bothG s a t u v x y = true) (hl : LearnOk s x y ack own) :
    Calls Try.prog 28 #[.agg #[.int .i64 s, .int .i64 a, .int .i64 t, .int .i64 u, .int .i64 v], .agg #[.int .i64 x, .int .i64 y], .int .i64 ack, .int .i64 own] w fun e w' =>
      e = .returned (.tuple #[.agg #[.int .i64 s, .int .i64 (max a ack), .int .i64 (leT s t u v ack own x y), .int .i64 (leU s t u v ack own x y), .int .i64 (leV s t v ack own x y)], .int .i64 0]) ∧ Below w.heap.size w w' := by
  have hs := bothG_site h
  have HL := Lib.hid (bothG_and h)
  have H := Lib.hid (bothG_and h)
  clear h
  have hcond : s = 1 ∧ ack ≤ x ∨ s = 2 ∧ ack ≤ y := by
    unfold LearnOk mineF at hl
    rcases hs with rfl | rfl
    · exact .inl ⟨rfl, by simpa using hl.2.1⟩
    · exact .inr ⟨rfl, by simpa using hl.2.1⟩
  obtain ⟨l1, _, l3, l4⟩ := hl
  clear hs
  obtain ⟨n, hn⟩ : ∃ n, w.heap.size = n := ⟨_, rfl⟩
  rw [hn]
  go_enter Try.func28, Try.ntmps28
  go_wp2_with fail
  refine cl_boxes3 hn (fun W hb hz b0 b1 b2 => ?_)
  refine (rfgood_t _ H.out.1).mono ?_
  rintro e w1 ⟨rfl, hb1⟩
  have k1 := cb2 (blk_next b1 hb1)
  go_wp2_with fail
  refine (rgood_t _ H.out.2).mono ?_
  rintro e w2 ⟨rfl, hb2⟩
  clear k1
  have q0 := blk_next (blk_next b0 hb1) hb2
  have q1 := blk_next (blk_next b1 hb1) hb2
  have q2 := blk_next (blk_next b2 hb1) hb2
  have hbel := below_next (below_next hb (by omega) hb1) (size_next (by omega) hb1) hb2
  have hz2 : n + 1 + 1 + 1 ≤ w2.heap.size := by
    have := hb1.size
    have := hb2.size
    omega
  clear b0 b1 b2 hb1 hb2 hb hz H
  have k0 := cb5 q0
  have k1 := cb2 q1
  have f0 := fb5 q0
  rcases hcond with ⟨rfl, l2⟩ | ⟨rfl, l2⟩
  · go_wp2_with (go_at_call 101; refine (seq_any _ _).mono ?_; rintro e w' ⟨rfl, rfl⟩; rw [decide_eq_true (And.intro l3 l4)])
    all_goals
      clear k0 k1 f0
      have hB : ∀ t' u' v' : Int, t' ≤ max a ack → 0 ≤ t' → u' ≤ max a ack → 0 ≤ u' → 0 ≤ v' → v' ≤ 1099511627776 → (v' = 0 → u' ≤ 0) → bothG 1 (max a ack) t' u' v' x y = true := fun t' u' v' p1 p2 p3 p4 p5 p6 p7 => bothG_mk (by
        have g1 : GoodF 1 a t u v := of_decide_eq_true HL.out.1
        have g2 := goodV_spec HL.out.2
        unfold GoodF at g1 ⊢
        omega) HL.out.2
      have g1 : GoodF 1 a t u v := of_decide_eq_true HL.out.1
      unfold GoodF at g1
      have g2 := goodV_spec HL.out.2
      refine (rsettle_t _ (hB _ _ _ (by omega) (by omega) (by omega) (by omega) (by omega) (by omega) (by omega))).mono ?_
      clear hB g1 g2
      rintro e w3 ⟨rfl, hb3⟩
      have e2 := hb3.block (n + 1 + 1) (by simp only [set_size]; omega)
      simp only [heap_setCell_ne (show n + 1 + 1 ≠ n by omega), q2] at e2
      have hbel4 := below_next (n := n) (w := w) (by (repeat (with_reducible refine below_set ?_ (Nat.le_refl n) _)); exact hbel) (by simp only [set_size]; omega) hb3
      have k2 := cb5 e2
      have f2 := fb5 e2
      clear hb3 q0 q1 q2 e2
      go_wp2
      go_tidy
      refine bodyPost_ret (v := .tuple #[.agg #[.int .i64 1, .int .i64 (max a ack), .int .i64 (leT 1 t u _ ack own x y), .int .i64 (leU 1 t u _ ack own x y), .int .i64 (leV 1 t _ ack own x y)], .int .i64 0]) ?_ rfl ⟨rfl, ?_⟩
      · simp [results, Try.results28, go_sem, k2]
        unfold leT leU leV lT lU lV stT stU stV cameF
        simp
        omega
      · repeat (with_reducible refine below_set ?_ (by omega) _)
        exact hbel4
  · go_wp2_with (go_at_call 101; refine (seq_any _ _).mono ?_; rintro e w' ⟨rfl, rfl⟩; rw [decide_eq_true (And.intro l3 l4)])
    all_goals
      clear k0 k1 f0
      have hB : ∀ t' u' v' : Int, t' ≤ max a ack → 0 ≤ t' → u' ≤ max a ack → 0 ≤ u' → 0 ≤ v' → v' ≤ 1099511627776 → (v' = 0 → u' ≤ 0) → bothG 2 (max a ack) t' u' v' x y = true := fun t' u' v' p1 p2 p3 p4 p5 p6 p7 => bothG_mk (by
        have g1 : GoodF 2 a t u v := of_decide_eq_true HL.out.1
        have g2 := goodV_spec HL.out.2
        unfold GoodF at g1 ⊢
        omega) HL.out.2
      have g1 : GoodF 2 a t u v := of_decide_eq_true HL.out.1
      unfold GoodF at g1
      have g2 := goodV_spec HL.out.2
      refine (rsettle_t _ (hB _ _ _ (by omega) (by omega) (by omega) (by omega) (by omega) (by omega) (by omega))).mono ?_
      clear hB g1 g2
      rintro e w3 ⟨rfl, hb3⟩
      have e2 := hb3.block (n + 1 + 1) (by simp only [set_size]; omega)
      simp only [heap_setCell_ne (show n + 1 + 1 ≠ n by omega), q2] at e2
      have hbel4 := below_next (n := n) (w := w) (by (repeat (with_reducible refine below_set ?_ (Nat.le_refl n) _)); exact hbel) (by simp only [set_size]; omega) hb3
      have k2 := cb5 e2
      have f2 := fb5 e2
      clear hb3 q0 q1 q2 e2
      go_wp2
      go_tidy
      refine bodyPost_ret (v := .tuple #[.agg #[.int .i64 2, .int .i64 (max a ack), .int .i64 (leT 2 t u _ ack own x y), .int .i64 (leU 2 t u _ ack own x y), .int .i64 (leV 2 t _ ack own x y)], .int .i64 0]) ?_ rfl ⟨rfl, ?_⟩
      · simp [results, Try.results28, go_sem, k2]
        unfold leT leU leV lT lU lV stT stU stV cameF
        simp
        omega
      · repeat (with_reducible refine below_set ?_ (by omega) _)
        exact hbel4
end Go.Proofs.Yteebobbhhgmeiaa
