/- FrontierGrows: the front's steps as typed data; the plain law of a step. -/
import Derived.Test.YteebobbhhgmeiaaTb
import Derived.Test.YteebobbhhgmeiaaTW
namespace Go.Proofs.Yteebobbhhgmeiaa
open Go.RowKit

def camS (s : Int) (v : TVec) : Int := if s = 2 then v.a else v.b
def minS (s : Int) (v : TVec) : Int := if s = 1 then v.a else v.b
structure GoodT (f : TFront) : Prop where
  s : f.site = 1 ∨ f.site = 2
  a : 0 ≤ f.acked ∧ f.acked ≤ 1099511627776
  t : 0 ≤ f.stable ∧ f.stable ≤ 1099511627776
  u : 0 ≤ f.wait ∧ f.wait ≤ 1099511627776
  v : 0 ≤ f.til ∧ f.til ≤ 1099511627776
  m : f.stable ≤ f.acked ∧ f.wait ≤ f.acked
  w : f.til = 0 → f.wait ≤ 0
theorem good_t {f : TFront} (h : GoodT f) : frontier_Good_0 f = true := by
  obtain ⟨h1, h2, h3, h4, h5, h6, h7⟩ := h
  have k0 : frontier_Good_k0 f = false := by
    show (decide (f.acked < 0) || decide (f.acked > 1099511627776)) = false
    simp; omega
  have k1 : frontier_Good_k1 f = false := by
    show (decide (f.wait < 0) || decide (f.wait > 1099511627776)) = false
    simp; omega
  have k2 : frontier_Good_k2 f = false := by
    show (decide (f.stable < 0) || decide (f.stable > 1099511627776)) = false
    simp; omega
  have k3 : (decide (f.til < (0 : Int)) || decide (f.til > (1099511627776 : Int))) = false := by simp; omega
  show (bif frontier_Good_k0 f || (frontier_Good_k2 f || (frontier_Good_k1 f || (decide (f.til < (0 : Int)) || decide (f.til > (1099511627776 : Int))))) then _ else
    ((f.site == (1 : Int) || f.site == (2 : Int)) && decide (max f.stable f.wait ≤ f.acked) && !(f.til == (0 : Int) && decide (f.wait > (0 : Int))))) = true
  rw [k0, k1, k2, k3]
  show ((f.site == (1 : Int) || f.site == (2 : Int)) && decide (max f.stable f.wait ≤ f.acked) && !(f.til == (0 : Int) && decide (f.wait > (0 : Int)))) = true
  have e1 : (f.site == (1 : Int) || f.site == (2 : Int)) = true := by simpa using h1
  have e2 : decide (max f.stable f.wait ≤ f.acked) = true := decide_eq_true (by omega)
  have e3 : (f.til == (0 : Int) && decide (f.wait > (0 : Int))) = false := by
    by_cases hz : f.til = 0
    · have := h7 hz
      simp; omega
    · simp [hz]
  rw [e1, e2, e3]; rfl
theorem vgood_t' {v : TVec} (ha : 0 ≤ v.a ∧ v.a ≤ 1099511627776) (hb : 0 ≤ v.b ∧ v.b ≤ 1099511627776) : vec_Good_0 v = true := by
  show ((min (max v.a 0) 1099511627776 == v.a) && (min (max v.b 0) 1099511627776 == v.b)) = true
  have e1 : min (max v.a 0) 1099511627776 = v.a := by omega
  have e2 : min (max v.b 0) 1099511627776 = v.b := by omega
  rw [e1, e2]; simp
theorem fault_0 {f : TFront} {v : TVec} (h : GoodT f) (ha : 0 ≤ v.a ∧ v.a ≤ 1099511627776) (hb : 0 ≤ v.b ∧ v.b ≤ 1099511627776) : frontier_fault_0 f v = 0 := by
  show (bif !frontier_Good_0 f || !vec_Good_0 v then (2 : Int) else 0) = 0
  rw [good_t h, vgood_t' ha hb]; rfl
theorem came_s {f : TFront} {v : TVec} (h : f.site = 1 ∨ f.site = 2) : frontier_Front_came_0 f v = camS f.site v := by
  show (bif (IntKind.i64.wrap (2 - f.site)).toNat.beq 0 then v.a else v.b) = _
  unfold camS
  rcases h with h | h <;> rw [h] <;> rfl
def stlS (f : TFront) (v : TVec) : TFront := if 0 < f.til ∧ f.til ≤ camS f.site v then ⟨f.site, f.acked, max f.stable f.wait, 0, 0⟩ else f
theorem settled_s {f : TFront} {v : TVec} (h : f.site = 1 ∨ f.site = 2) : frontier_Front_settled_0 f v = stlS f v := by
  have hk : frontier_Front_settled_k0 f v = decide (0 < f.til ∧ f.til ≤ camS f.site v) := by
    show (decide (f.til > 0) && decide (frontier_Front_came_0 f v ≥ f.til)) = _
    rw [came_s h]
    simp
  show TFront.mk (bif frontier_Front_settled_k0 f v then f.site else f.site) (bif frontier_Front_settled_k0 f v then f.acked else f.acked) (bif frontier_Front_settled_k0 f v then max f.stable f.wait else f.stable) (bif frontier_Front_settled_k0 f v then 0 else f.wait) (bif frontier_Front_settled_k0 f v then 0 else f.til) = _
  rw [hk]
  unfold stlS
  by_cases hc : 0 < f.til ∧ f.til ≤ camS f.site v
  · rw [if_pos hc, decide_eq_true hc]; rfl
  · rw [if_neg hc, decide_eq_false hc]; rfl
def lrnS (f : TFront) (v : TVec) (a e : Int) : TFront :=
  if camS f.site v ≥ e then ⟨f.site, max f.acked a, max f.stable a, f.wait, f.til⟩ else if f.til = 0 ∧ a > f.stable then ⟨f.site, max f.acked a, f.stable, a, e⟩ else ⟨f.site, max f.acked a, f.stable, f.wait, f.til⟩
theorem lrnS_site (f : TFront) (v : TVec) (a e : Int) : (lrnS f v a e).site = f.site := by unfold lrnS; split <;> first | rfl | (split <;> rfl)
def LOk (f : TFront) (v : TVec) (a e : Int) : Prop := 0 ≤ a ∧ a ≤ minS f.site v ∧ 0 ≤ e ∧ e ≤ 1099511627776
theorem learn_k1 {f : TFront} {v : TVec} {a e : Int} (h : f.site = 1 ∨ f.site = 2) : frontier_Learn_k1 f v a e = true ↔ ¬ LOk f v a e := by
  have hm : (bif (IntKind.i64.wrap (f.site - 1)).toNat.beq 0 then v.a else v.b) = minS f.site v := by
    unfold minS
    rcases h with h | h <;> rw [h] <;> rfl
  show (decide (a < 0) || decide (a > (bif (IntKind.i64.wrap (f.site - 1)).toNat.beq 0 then v.a else v.b)) || decide (e < 0) || decide (e > 1099511627776)) = true ↔ _
  rw [hm]
  unfold LOk
  simp only [Bool.or_eq_true, decide_eq_true_eq]
  omega
theorem learn_1 {f : TFront} {v : TVec} {a e : Int} (hf : frontier_fault_0 f v = 0) (h : f.site = 1 ∨ f.site = 2) : frontier_Learn_1 f v a e = 0 ↔ LOk f v a e := by
  show (bif frontier_fault_0 f v != 0 then frontier_fault_0 f v else bif frontier_Learn_k1 f v a e then 2 else 0) = 0 ↔ _
  rw [hf]
  show (bif frontier_Learn_k1 f v a e then (2 : Int) else 0) = 0 ↔ _
  cases hk : frontier_Learn_k1 f v a e with
  | true =>
    have := (learn_k1 h).1 hk
    constructor
    · intro h; cases h
    · intro h; exact absurd h this
  | false =>
    have : LOk f v a e := by
      apply Classical.byContradiction
      intro hn
      rw [(learn_k1 h).2 hn] at hk
      cases hk
    exact ⟨fun _ => this, fun _ => rfl⟩
theorem learn_0 {f : TFront} {v : TVec} {a e : Int} (hf : frontier_fault_0 f v = 0) (h : f.site = 1 ∨ f.site = 2) (hl : LOk f v a e) : frontier_Learn_0 f v a e = stlS (lrnS f v a e) v := by
  have hk : frontier_Learn_k1 f v a e = false := by
    cases hk : frontier_Learn_k1 f v a e with
    | false => rfl
    | true => exact absurd hl ((learn_k1 h).1 hk)
  have h5 : frontier_Learn_k5 f v a e = false := by
    show (frontier_fault_0 f v != 0) = false
    rw [hf]; rfl
  have hc : frontier_Front_came_0 (TFront.mk f.1 (max f.2 a) f.3 f.4 f.5) v = camS f.site v := came_s (f := ⟨f.1, max f.2 a, f.3, f.4, f.5⟩) h
  have hin : ∀ g : TFront, g.site = f.site → frontier_Front_settled_0 g v = stlS g v := fun g hg => settled_s (by rw [hg]; exact h)
  unfold frontier_Learn_0
  rw [hk, h5, hc]
  simp only [cond_false]
  have key : (TFront.mk (bif decide (camS f.site v ≥ e) then f.1 else bif f.5 == (0 : Int) && decide (a > f.3) then f.1 else f.1) (bif decide (camS f.site v ≥ e) then max f.2 a else bif f.5 == (0 : Int) && decide (a > f.3) then max f.2 a else max f.2 a) (bif decide (camS f.site v ≥ e) then max f.3 a else bif f.5 == (0 : Int) && decide (a > f.3) then f.3 else f.3) (bif decide (camS f.site v ≥ e) then f.4 else bif f.5 == (0 : Int) && decide (a > f.3) then a else f.4) (bif decide (camS f.site v ≥ e) then f.5 else bif f.5 == (0 : Int) && decide (a > f.3) then e else f.5)) = lrnS f v a e := by
    unfold lrnS
    by_cases h1 : camS f.site v ≥ e
    · rw [if_pos h1, decide_eq_true h1]; rfl
    · rw [if_neg h1, decide_eq_false h1]
      by_cases h2 : f.til = 0 ∧ a > f.stable
      · rw [if_pos h2]
        have : (f.5 == (0 : Int) && decide (a > f.3)) = true := by simpa using h2
        rw [this]; rfl
      · rw [if_neg h2]
        have : (f.5 == (0 : Int) && decide (a > f.3)) = false := by
          rw [Bool.eq_false_iff]
          intro hh
          exact h2 (by simpa using hh)
        rw [this]; rfl
  rw [key, hin _ (lrnS_site f v a e)]
theorem settle_0 {f : TFront} {v : TVec} (hf : frontier_fault_0 f v = 0) (h : f.site = 1 ∨ f.site = 2) : frontier_Settle_0 f v = stlS f v := by
  have h5 : frontier_Settle_k0 f v = false := by
    show (frontier_fault_0 f v != 0) = false
    rw [hf]; rfl
  unfold frontier_Settle_0
  rw [h5, settled_s h]
  rfl
theorem settle_1 {f : TFront} {v : TVec} (hf : frontier_fault_0 f v = 0) : frontier_Settle_1 f v = 0 := by
  show (bif frontier_fault_0 f v != 0 then frontier_fault_0 f v else 0) = 0
  rw [hf]; rfl

/-! ### the plain law -/
/-- What holds of a front behind i things told; c: how far our own count has come. -/
def FgI (l : List TTold) (f : TFront) (c : Int) : Prop :=
  (0 ≤ c ∧ c ≤ 1000) ∧ (0 ≤ f.stable ∧ f.stable ≤ f.acked) ∧ (0 ≤ f.wait ∧ f.wait ≤ f.acked) ∧ f.acked ≤ 1000 ∧ (0 ≤ f.til ∧ f.til ≤ 1099511627776) ∧ (f.til = 0 → f.wait = 0) ∧ (0 < f.wait → ∃ x ∈ l, x.ack = f.wait ∧ x.own = f.til)
/-- What a step must show. -/
def FgS (l : List TTold) (t c : Int) (f : TFront) : Prop :=
  FgI l f c ∧ t ≤ f.stable ∧ (t < f.stable → ∃ x ∈ l, x.ack = f.stable ∧ 0 ≤ x.own ∧ x.own ≤ c)
theorem fgI_good {l : List TTold} {f : TFront} {c : Int} (h : FgI l f c) (hs : f.site = 1 ∨ f.site = 2) : GoodT f := by
  obtain ⟨h1, h2, h3, h4, h5, h6, h7⟩ := h
  exact ⟨hs, by omega, by omega, by omega, h5, by omega, fun h => by have := h6 h; omega⟩
theorem fgS_settle {l l' : List TTold} {f : TFront} {c c' : Int} {v : TVec} (hl : ∀ x ∈ l, x ∈ l') (h : FgI l f c) (hc : c ≤ c') (hc1 : c' ≤ 1000) (hx : camS f.site v = c') : FgS l' f.stable c' (stlS f v) := by
  obtain ⟨h1, h2, h3, h4, h5, h6, h7⟩ := h
  unfold stlS
  rw [hx]
  by_cases hs : 0 < f.til ∧ f.til ≤ c'
  · rw [if_pos hs]
    refine ⟨⟨by omega, ?_, ?_, h4, ?_, fun _ => rfl, fun hu => by cases hu⟩, ?_, fun hg => ?_⟩ <;> dsimp only at * <;> first | omega | skip
    obtain ⟨x, hm, ha, ho⟩ := h7 (by omega)
    exact ⟨x, hl x hm, by omega, by omega, by omega⟩
  · rw [if_neg hs]
    refine ⟨⟨by omega, h2, h3, h4, h5, h6, fun hu => ?_⟩, Int.le_refl _, fun hg => by omega⟩
    obtain ⟨x, hm, ha, ho⟩ := h7 hu
    exact ⟨x, hl x hm, ha, ho⟩
theorem fgS_learn {l l' : List TTold} {f : TFront} {c c' : Int} {v : TVec} {x : TTold} (hl : ∀ y ∈ l, y ∈ l') (hx0 : x ∈ l') (h : FgI l f c) (hc : c ≤ c') (hc1 : c' ≤ 1000) (hx : camS f.site v = c') (hm : minS f.site v = 1000) (ho : LOk f v x.ack x.own) :
    FgS l' f.stable c' (stlS (lrnS f v x.ack x.own) v) ∧ (stlS (lrnS f v x.ack x.own) v).acked = max f.acked x.ack := by
  obtain ⟨l1, l2, l3, l4⟩ := ho
  rw [hm] at l2
  obtain ⟨h1, h2, h3, h4, h5, h6, h7⟩ := h
  unfold stlS
  rw [lrnS_site, hx]
  unfold lrnS
  rw [hx]
  by_cases ho : x.own ≤ c'
  · rw [if_pos ho]
    dsimp only
    by_cases hs : 0 < f.til ∧ f.til ≤ c'
    · rw [if_pos hs]
      refine ⟨⟨⟨by omega, ?_, ?_, ?_, ?_, fun _ => rfl, fun hu => by cases hu⟩, ?_, fun hg => ?_⟩, rfl⟩ <;> dsimp only at * <;> first | omega | skip
      by_cases hb : max f.stable x.ack < f.wait
      · obtain ⟨y, hy, ha, hw⟩ := h7 (by omega)
        exact ⟨y, hl y hy, by omega, by omega, by omega⟩
      · exact ⟨x, hx0, by omega, by omega, by omega⟩
    · rw [if_neg hs]
      refine ⟨⟨⟨by omega, ?_, ?_, ?_, h5, h6, fun hu => ?_⟩, ?_, fun hg => ⟨x, hx0, ?_, ?_, ?_⟩⟩, rfl⟩ <;> dsimp only at * <;> first | omega | skip
      obtain ⟨y, hy, ha, hw⟩ := h7 hu
      exact ⟨y, hl y hy, ha, hw⟩
  · rw [if_neg ho]
    by_cases hw : f.til = 0 ∧ x.ack > f.stable
    · rw [if_pos hw]
      dsimp only
      have hs : ¬ (0 < x.own ∧ x.own ≤ c') := by omega
      rw [if_neg hs]
      refine ⟨⟨⟨by omega, ?_, ?_, ?_, ?_, fun h0 => ?_, fun hu => ⟨x, hx0, rfl, rfl⟩⟩, ?_, fun hg => ?_⟩, rfl⟩ <;> dsimp only at * <;> omega
    · rw [if_neg hw]
      dsimp only
      by_cases hs : 0 < f.til ∧ f.til ≤ c'
      · rw [if_pos hs]
        refine ⟨⟨⟨by omega, ?_, ?_, ?_, ?_, fun _ => rfl, fun hu => by cases hu⟩, ?_, fun hg => ?_⟩, rfl⟩ <;> dsimp only at * <;> first | omega | skip
        obtain ⟨y, hy, ha, hw'⟩ := h7 (by omega)
        exact ⟨y, hl y hy, by omega, by omega, by omega⟩
      · rw [if_neg hs]
        refine ⟨⟨⟨by omega, ?_, ?_, ?_, h5, h6, fun hu => ?_⟩, ?_, fun hg => ?_⟩, rfl⟩ <;> dsimp only at * <;> first | omega | skip
        obtain ⟨y, hy, ha, hw'⟩ := h7 hu
        exact ⟨y, hl y hy, ha, hw'⟩
end Go.Proofs.Yteebobbhhgmeiaa
