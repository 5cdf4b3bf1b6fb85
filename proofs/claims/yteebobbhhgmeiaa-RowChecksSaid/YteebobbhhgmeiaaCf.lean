/- The bytes of cells: the plain law, both ways. -/
import Derived.Test.YteebobbhhgmeiaaCe
import Derived.ChangeKeysEq
namespace Go.Proofs.Yteebobbhhgmeiaa
open Go.RowKit

theorem eqB_iff {x y : ByteArray} : (x.toList == y.toList) = true ↔ x = y := by
  rw [beq_iff_eq, ByteArray.toList_eq, ByteArray.toList_eq]
  constructor
  · intro h
    cases x; cases y
    simpa using h
  · rintro rfl; rfl
theorem noB_iff {x : ByteArray} : (x.toList == (ByteArray.mk #[]).toList) = true ↔ x.size = 0 := by
  rw [eqB_iff]
  constructor
  · rintro rfl; rfl
  · intro h
    cases x with | mk d =>
    have : d.size = 0 := h
    rw [Array.eq_empty_of_size_eq_zero this]
theorem noB_eq (x : ByteArray) : (x.toList == (ByteArray.mk #[]).toList) = (x.size == 0) := by
  rw [Bool.eq_iff_iff, noB_iff, beq_iff_eq]
theorem size0 {x : ByteArray} (h : x.size = 0) : x = ByteArray.mk #[] := eqB_iff.1 (noB_iff.2 h)

def written (c : TCell) : Bool := !(c.stamp.n == 0 && c.stamp.site == 0 && (c.vec.a == 0 && c.vec.b == 0) && (!c.gone && c.value.size == 0))
def goodC (p : Int) (c : TCell) : Bool :=
  bif p == 1 && !zeroV c.dead || (p == 2 && (c.gone || !goodV c.dead) || !(p == 1 || p == 2)) then false else
  bif !written c then true else goodS c.stamp && decide (0 < c.stamp.n) && goodV c.vec && decide ((c.value.size : Int) ≤ 64) && !(c.gone && !(c.value.size == 0))
def flagsC (c : TCell) : Int := (bif written c then 1 else 0) + (bif c.gone then 2 else 0) + (bif zeroV c.dead then 0 else 4)
def bodyC (c : TCell) : List UInt8 := (bif written c then putS c.stamp ++ putV c.vec ++ (bif c.gone then [] else putT c.value) else []) ++ (bif zeroV c.dead then [] else putV c.dead)
def putC (p : Int) (c : TCell) : List UInt8 := bif goodC p c then putN (flagsC c) ++ bodyC c else []
def zeroC : TCell := ⟨⟨0, 0⟩, ⟨0, 0⟩, false, ByteArray.mk #[], ⟨0, 0⟩⟩

theorem zeroV_iff {v : TVec} : zeroV v = true ↔ v = ⟨0, 0⟩ := by
  unfold zeroV
  simp only [Bool.and_eq_true, beq_iff_eq]
  constructor
  · intro h; exact vec_ext h.1 h.2
  · rintro rfl; exact ⟨rfl, rfl⟩
theorem goodV_zero : goodV ⟨0, 0⟩ = true := rfl
theorem not_written {c : TCell} (h : written c = false) : c.stamp = ⟨0, 0⟩ ∧ c.vec = ⟨0, 0⟩ ∧ c.gone = false ∧ c.value = ByteArray.mk #[] := by
  unfold written at h
  simp only [Bool.not_eq_false', Bool.and_eq_true, beq_iff_eq, Bool.not_eq_true'] at h
  obtain ⟨⟨⟨h1, h2⟩, h3, h4⟩, h5, h6⟩ := h
  exact ⟨stamp_ext h1 h2, vec_ext h3 h4, h5, size0 h6⟩
/-- What a good cell is. -/
structure GoodC (p : Int) (c : TCell) : Prop where
  pol : p = 1 ∨ p = 2
  dead : goodV c.dead = true
  last : p = 1 → zeroV c.dead = true
  del : p = 2 → c.gone = false
  st : written c = true → goodS c.stamp = true ∧ 0 < c.stamp.n ∧ goodV c.vec = true ∧ (c.value.size : Int) ≤ 64 ∧ (c.gone = true → c.value.size = 0)
theorem goodC_iff {p : Int} {c : TCell} : goodC p c = true ↔ GoodC p c := by
  unfold goodC
  rw [Bool.cond_eq_ite]
  split
  · rename_i h
    refine ⟨fun h => (by cases h), fun g => ?_⟩
    exfalso
    simp only [Bool.or_eq_true, Bool.and_eq_true, beq_iff_eq, Bool.not_eq_true'] at h
    rcases h with ⟨h1, h2⟩ | ⟨h1, h2⟩ | h1
    · rw [g.last h1] at h2; cases h2
    · rcases h2 with h2 | h2
      · rw [g.del h1] at h2; cases h2
      · rw [g.dead] at h2; cases h2
    · rcases g.pol with h | h
      · rw [h] at h1; cases h1
      · rw [h] at h1; cases h1
  · rename_i h
    have hh := Bool.eq_false_iff.2 h
    simp only [Bool.or_eq_false_iff] at hh
    obtain ⟨h1, h2, h3⟩ := hh
    have hp : p = 1 ∨ p = 2 := by
      have : (p == 1 || p == 2) = true := by
        cases hq : (p == 1 || p == 2) with
        | true => rfl
        | false => rw [hq] at h3; cases h3
      simpa using this
    have base : goodV c.dead = true ∧ (p = 1 → zeroV c.dead = true) ∧ (p = 2 → c.gone = false) := by
      rcases hp with rfl | rfl
      · have hz : zeroV c.dead = true := by
          cases hz : zeroV c.dead with
          | true => rfl
          | false => rw [hz] at h1; cases h1
        refine ⟨by rw [zeroV_iff.1 hz]; rfl, fun _ => hz, fun h => by cases h⟩
      · have : c.gone = false ∧ goodV c.dead = true := by
          cases hg : c.gone with
          | true => rw [hg] at h2; cases h2
          | false =>
            cases hv : goodV c.dead with
            | true => exact ⟨rfl, rfl⟩
            | false => rw [hg, hv] at h2; cases h2
        exact ⟨this.2, fun h => (by cases h), fun _ => this.1⟩
    cases hw : written c with
    | false => exact ⟨fun _ => ⟨hp, base.1, base.2.1, base.2.2, fun h => by rw [hw] at h; cases h⟩, fun _ => rfl⟩
    | true =>
      rw [Bool.not_true, cond_false]
      simp only [Bool.and_eq_true, decide_eq_true_eq, Bool.not_eq_true', Bool.and_eq_false_iff, Bool.not_eq_false', beq_iff_eq]
      constructor
      · rintro ⟨⟨⟨⟨g1, g2⟩, g3⟩, g4⟩, g5⟩
        refine ⟨hp, base.1, base.2.1, base.2.2, fun _ => ⟨g1, g2, g3, g4, fun hg => ?_⟩⟩
        rcases g5 with g5 | g5
        · rw [g5] at hg; cases hg
        · exact g5
      · intro g
        obtain ⟨g1, g2, g3, g4, g5⟩ := g.st hw
        refine ⟨⟨⟨⟨g1, g2⟩, g3⟩, g4⟩, ?_⟩
        cases hg : c.gone with
        | false => exact .inl rfl
        | true => exact .inr (g5 hg)
theorem putC_eq {p : Int} {c : TCell} (h : goodC p c = true) : putC p c = putN (flagsC c) ++ bodyC c := by unfold putC; rw [h]; rfl
theorem flags_ok (c : TCell) : okN (flagsC c) ∧ flagsC c ≤ 7 ∧ ((flagsC c).toNat / 2 ^ 0 % 2 == 1) = written c ∧ ((flagsC c).toNat / 2 ^ 1 % 2 == 1) = c.gone ∧ ((flagsC c).toNat / 2 ^ 2 % 2 == 1) = !zeroV c.dead := by
  unfold flagsC okN
  cases written c <;> cases c.gone <;> cases zeroV c.dead <;> decide
theorem flags_of {n : Int} {c : TCell} (h0 : 0 ≤ n) (h7 : n ≤ 7) (h1 : (n.toNat / 2 ^ 0 % 2 == 1) = written c) (h2 : (n.toNat / 2 ^ 1 % 2 == 1) = c.gone) (h3 : (n.toNat / 2 ^ 2 % 2 == 1) = !zeroV c.dead) : n = flagsC c := by
  unfold flagsC
  rw [← h1, ← h2]
  have h3' : zeroV c.dead = !(n.toNat / 2 ^ 2 % 2 == 1) := by rw [h3, Bool.not_not]
  rw [h3']
  obtain ⟨m, rfl⟩ : ∃ m : Nat, n = (m : Int) := ⟨n.toNat, (Int.toNat_of_nonneg h0).symm⟩
  rw [Int.toNat_natCast]
  have : m ≤ 7 := by omega
  match m, this with
  | 0, _ => rfl
  | 1, _ => rfl
  | 2, _ => rfl
  | 3, _ => rfl
  | 4, _ => rfl
  | 5, _ => rfl
  | 6, _ => rfl
  | 7, _ => rfl
  | m + 8, h => omega

/-! ### what the code of Get comes to -/
def bitN (n : Int) (k : Nat) : Bool := n.toNat / 2 ^ k % 2 == 1
/-- What was read of a write: is all well; the cell without its Dead; how far. -/
def stA (b : List UInt8) : Bool × TCell × Int :=
  bif (getN b).2.2 == 0 && bitN (getN b).1 0 then
    (bif !bitN (getN b).1 1 then
      ((getN b).2.2 == 0 && (getS (b.drop (getN b).2.1.toNat)).2.2 == 0 && (getV (b.drop ((getN b).2.1 + (getS (b.drop (getN b).2.1.toNat)).2.1).toNat)).2.2 == 0 && (getT (b.drop ((getN b).2.1 + (getS (b.drop (getN b).2.1.toNat)).2.1 + (getV (b.drop ((getN b).2.1 + (getS (b.drop (getN b).2.1.toNat)).2.1).toNat)).2.1).toNat) 64).2.2 == 0,
        ⟨(getS (b.drop (getN b).2.1.toNat)).1, (getV (b.drop ((getN b).2.1 + (getS (b.drop (getN b).2.1.toNat)).2.1).toNat)).1, bitN (getN b).1 1, (getT (b.drop ((getN b).2.1 + (getS (b.drop (getN b).2.1.toNat)).2.1 + (getV (b.drop ((getN b).2.1 + (getS (b.drop (getN b).2.1.toNat)).2.1).toNat)).2.1).toNat) 64).1, ⟨0, 0⟩⟩,
        (getN b).2.1 + (getS (b.drop (getN b).2.1.toNat)).2.1 + (getV (b.drop ((getN b).2.1 + (getS (b.drop (getN b).2.1.toNat)).2.1).toNat)).2.1 + (getT (b.drop ((getN b).2.1 + (getS (b.drop (getN b).2.1.toNat)).2.1 + (getV (b.drop ((getN b).2.1 + (getS (b.drop (getN b).2.1.toNat)).2.1).toNat)).2.1).toNat) 64).2.1)
    else
      ((getN b).2.2 == 0 && (getS (b.drop (getN b).2.1.toNat)).2.2 == 0 && (getV (b.drop ((getN b).2.1 + (getS (b.drop (getN b).2.1.toNat)).2.1).toNat)).2.2 == 0,
        ⟨(getS (b.drop (getN b).2.1.toNat)).1, (getV (b.drop ((getN b).2.1 + (getS (b.drop (getN b).2.1.toNat)).2.1).toNat)).1, bitN (getN b).1 1, ByteArray.mk #[], ⟨0, 0⟩⟩,
        (getN b).2.1 + (getS (b.drop (getN b).2.1.toNat)).2.1 + (getV (b.drop ((getN b).2.1 + (getS (b.drop (getN b).2.1.toNat)).2.1).toNat)).2.1))
  else ((getN b).2.2 == 0, zeroC, (getN b).2.1)
def stB (b : List UInt8) : Bool × TCell × Int :=
  bif (stA b).1 && bitN (getN b).1 2 then ((stA b).1 && (getV (b.drop (stA b).2.2.toNat)).2.2 == 0, { (stA b).2.1 with dead := (getV (b.drop (stA b).2.2.toNat)).1 }, (stA b).2.2 + (getV (b.drop (stA b).2.2.toNat)).2.1)
  else stA b
def rightC (n : Int) (c : TCell) : Bool := decide (n ≤ 7) && bitN n 0 == written c && bitN n 1 == c.gone && bitN n 2 == !zeroV c.dead
def getC (b : List UInt8) (p : Int) : TCell × Int × Int :=
  bif !(stB b).1 || !rightC (getN b).1 (stB b).2.1 || !goodC p (stB b).2.1 then (zeroC, 0, 80) else ((stB b).2.1, (stB b).2.2, 0)

theorem drop_add {b r p : List UInt8} {k j : Int} (h : b.drop k.toNat = p ++ r) (hk : 0 ≤ k) (hj : j = (p.length : Int)) : b.drop (k + j).toNat = r := by
  have e : (k + j).toNat = k.toNat + p.length := by omega
  rw [e, ← List.drop_drop, h, List.drop_left]
theorem rd_drop {α : Type} {get : List UInt8 → α × Int × Int} {good : α → Prop} {put : α → List UInt8} (R : Rd get good put) {b : List UInt8} {k : Int} (hk : 0 ≤ k) (h : (get (b.drop k.toNat)).2.2 = 0) :
    good (get (b.drop k.toNat)).1 ∧ (get (b.drop k.toNat)).2.1 = ((put (get (b.drop k.toNat)).1).length : Int) ∧ ∃ r, b.drop k.toNat = put (get (b.drop k.toNat)).1 ++ r ∧ b.drop (k + (get (b.drop k.toNat)).2.1).toNat = r := by
  obtain ⟨h1, h2, r, h3⟩ := R.front (b.drop k.toNat) (get (b.drop k.toNat)).1 (get (b.drop k.toNat)).2.1 (by rw [← h])
  exact ⟨h1, h2, r, h3, drop_add h3 hk h2⟩
/-- What was read of a write is as it was put. -/
theorem stA_ok {b : List UInt8} (h : (stA b).1 = true) : okN (getN b).1 ∧ 0 ≤ (stA b).2.2 ∧
    (stA b).2.2 = ((putN (getN b).1 ++ (bif bitN (getN b).1 0 then putS (stA b).2.1.stamp ++ putV (stA b).2.1.vec ++ (bif bitN (getN b).1 1 then [] else putT (stA b).2.1.value) else [])).length : Int) ∧
    b = putN (getN b).1 ++ (bif bitN (getN b).1 0 then putS (stA b).2.1.stamp ++ putV (stA b).2.1.vec ++ (bif bitN (getN b).1 1 then [] else putT (stA b).2.1.value) else []) ++ b.drop (stA b).2.2.toNat ∧
    (stA b).2.1.dead = ⟨0, 0⟩ := by
  have he : (getN b).2.2 = 0 := by
    unfold stA at h
    rw [Bool.cond_eq_ite] at h
    split at h
    · rename_i h1
      simp only [Bool.and_eq_true, beq_iff_eq] at h1
      exact h1.1
    · simpa using h
  obtain ⟨r0, h1, h2, h3⟩ := getN_ok he
  have hk0 : 0 ≤ (getN b).2.1 := by rw [h2]; omega
  have hd0 : b.drop (getN b).2.1.toNat = r0 := by
    generalize getN b = g at *
    subst h3
    exact drop_put h2
  have e0 : ((getN b).2.2 == (0 : Int)) = true := by rw [he]; rfl
  unfold stA at h ⊢
  rw [e0] at h ⊢
  cases b0 : bitN (getN b).1 0 with
  | false =>
    simp only [Bool.and_false, cond_false, List.append_nil]
    refine ⟨h1, hk0, h2, ?_, rfl⟩
    rw [hd0]
    exact h3
  | true =>
    rw [b0] at h
    cases b1 : bitN (getN b).1 1 with
    | true =>
      rw [b1] at h
      simp only [Bool.and_true, cond_true, Bool.not_true, cond_false, Bool.true_and, Bool.and_eq_true, beq_iff_eq, List.append_nil] at h ⊢
      obtain ⟨s1, s2, r1, s3, s4⟩ := rd_drop rdS hk0 h.1
      have hk1 : 0 ≤ (getN b).2.1 + (getS (b.drop (getN b).2.1.toNat)).2.1 := by omega
      obtain ⟨v1, v2, r2, v3, v4⟩ := rd_drop rdV hk1 h.2
      refine ⟨h1, by omega, ?_, ?_, trivial⟩
      · rw [List.length_append, List.length_append]; omega
      · rw [v4]
        rw [s4] at v3
        rw [hd0] at s3
        conv => lhs; rw [h3, s3, v3]
        rw [s4, hd0]
        simp only [List.append_assoc]
    | false =>
      rw [b1] at h
      simp only [Bool.and_true, cond_true, Bool.not_false, cond_false, Bool.true_and, Bool.and_eq_true, beq_iff_eq] at h ⊢
      obtain ⟨s1, s2, r1, s3, s4⟩ := rd_drop rdS hk0 h.1.1
      have hk1 : 0 ≤ (getN b).2.1 + (getS (b.drop (getN b).2.1.toNat)).2.1 := by omega
      obtain ⟨v1, v2, r2, v3, v4⟩ := rd_drop rdV hk1 h.1.2
      have hk2 : 0 ≤ (getN b).2.1 + (getS (b.drop (getN b).2.1.toNat)).2.1 + (getV (b.drop ((getN b).2.1 + (getS (b.drop (getN b).2.1.toNat)).2.1).toNat)).2.1 := by omega
      obtain ⟨t1, t2, r3, t3, t4⟩ := rd_drop (rdT (m := 64) (by decide)) hk2 h.2
      refine ⟨h1, by omega, ?_, ?_, trivial⟩
      · rw [List.length_append, List.length_append, List.length_append]; omega
      · rw [t4]
        rw [v4] at t3
        rw [s4] at v3
        rw [hd0] at s3
        conv => lhs; rw [h3, s3, v3, t3]
        rw [v4, s4, hd0]
        simp only [List.append_assoc]
/-- **What is got is as it was put.** -/
theorem getC_front {b : List UInt8} {p : Int} {c : TCell} {k : Int} (h : getC b p = (c, k, 0)) : goodC p c = true ∧ k = ((putC p c).length : Int) ∧ ∃ r, b = putC p c ++ r := by
  unfold getC at h
  rw [Bool.cond_eq_ite] at h
  split at h
  · injection h with e1 e2; injection e2 with e2 e3; cases e3
  · rename_i hc
    have hc := Bool.eq_false_iff.2 hc
    simp only [Bool.or_eq_false_iff, Bool.not_eq_false'] at hc
    obtain ⟨⟨hB, hR⟩, hG⟩ := hc
    injection h with e1 e2
    injection e2 with e2 e3
    rw [e1] at hR hG
    refine ⟨hG, ?_⟩
    rw [putC_eq hG]
    unfold rightC at hR
    simp only [Bool.and_eq_true, beq_iff_eq, decide_eq_true_eq] at hR
    obtain ⟨⟨⟨r7, r0⟩, r1⟩, r2⟩ := hR
    have hA : (stA b).1 = true := by
      unfold stB at hB
      rw [Bool.cond_eq_ite] at hB
      split at hB
      · simp only [Bool.and_eq_true] at hB; exact hB.1
      · exact hB
    obtain ⟨a1, a2, a3, a4, a5⟩ := stA_ok hA
    have hn := flags_of a1.1 r7 r0 r1 r2
    unfold stB at e1 e2 hB
    rw [hA] at e1 e2 hB
    unfold bodyC
    rw [← hn, ← r0, ← r1]
    have hz : zeroV c.dead = !bitN (getN b).1 2 := by rw [r2, Bool.not_not]
    rw [hz]
    cases b2 : bitN (getN b).1 2 with
    | true =>
      rw [b2] at e1 e2 hB
      simp only [Bool.and_true, cond_true, Bool.true_and, beq_iff_eq] at e1 e2 hB
      obtain ⟨v1, v2, r, v3, v4⟩ := rd_drop rdV a2 hB
      subst e1
      simp only [Bool.not_true, cond_false]
      refine ⟨?_, r, ?_⟩
      · rw [← e2, v2, a3, ← List.append_assoc, List.length_append (bs := putV _)]
        exact (Int.natCast_add _ _).symm
      · rw [← List.append_assoc, List.append_assoc _ _ r, ← v3]
        exact a4
    | false =>
      rw [b2] at e1 e2 hB
      simp only [Bool.and_false, cond_false] at e1 e2 hB
      subst e1
      simp only [Bool.not_false, cond_true, List.append_nil]
      exact ⟨by rw [← e2]; exact a3, _, a4⟩
/-- **What is put is got.** -/
theorem getC_back {p : Int} {c : TCell} (h : goodC p c = true) (r : List UInt8) : getC (putC p c ++ r) p = (c, ((putC p c).length : Int), 0) := by
  have g := goodC_iff.1 h
  obtain ⟨f1, f2, f3, f4, f5⟩ := flags_ok c
  rw [putC_eq h]
  generalize hb : putN (flagsC c) ++ bodyC c ++ r = b
  have hN : getN b = (flagsC c, ((putN (flagsC c)).length : Int), 0) := by rw [← hb, List.append_assoc]; exact rdN.back _ _ f1
  have hd0 : b.drop (getN b).2.1.toNat = bodyC c ++ r := by
    rw [hN, ← hb, List.append_assoc]
    exact drop_put rfl
  have e0 : ((getN b).2.2 == (0 : Int)) = true := by rw [hN]; rfl
  have q0 : bitN (getN b).1 0 = written c := by rw [hN]; exact f3
  have q1 : bitN (getN b).1 1 = c.gone := by rw [hN]; exact f4
  have q2 : bitN (getN b).1 2 = !zeroV c.dead := by rw [hN]; exact f5
  have hk0 : (getN b).2.1 = ((putN (flagsC c)).length : Int) := by rw [hN]
  have hA : stA b = (true, { c with dead := ⟨0, 0⟩ }, ((putN (flagsC c) ++ (bif written c then putS c.stamp ++ putV c.vec ++ (bif c.gone then [] else putT c.value) else [])).length : Int)) ∧
      b.drop (stA b).2.2.toNat = (bif zeroV c.dead then [] else putV c.dead) ++ r := by
    unfold stA
    rw [e0, q0, q1]
    cases hw : written c with
    | false =>
      simp only [Bool.and_false, cond_false, List.append_nil]
      obtain ⟨w1, w2, w3, w4⟩ := not_written hw
      refine ⟨?_, ?_⟩
      · unfold zeroC
        rw [w1, w2, w3, w4, hk0]
      · rw [hd0]
        unfold bodyC
        rw [hw]
        rfl
    | true =>
      obtain ⟨g1, g2, g3, g4, g5⟩ := g.st hw
      have hbody : bodyC c = putS c.stamp ++ (putV c.vec ++ ((bif c.gone then [] else putT c.value) ++ (bif zeroV c.dead then [] else putV c.dead))) := by
        unfold bodyC
        rw [hw]
        simp only [cond_true, List.append_assoc]
      rw [hbody, List.append_assoc, List.append_assoc] at hd0
      have hS : getS (b.drop (getN b).2.1.toNat) = (c.stamp, ((putS c.stamp).length : Int), 0) := by rw [hd0]; exact rdS.back _ _ g1
      have hp0 : 0 ≤ (getN b).2.1 := by omega
      have hd1 : b.drop ((getN b).2.1 + (getS (b.drop (getN b).2.1.toNat)).2.1).toNat = putV c.vec ++ ((bif c.gone then [] else putT c.value) ++ (bif zeroV c.dead then [] else putV c.dead) ++ r) := drop_add hd0 hp0 (by rw [hS])
      have hV : getV (b.drop ((getN b).2.1 + (getS (b.drop (getN b).2.1.toNat)).2.1).toNat) = (c.vec, ((putV c.vec).length : Int), 0) := by rw [hd1]; exact rdV.back _ _ g3
      have hp1 : 0 ≤ (getN b).2.1 + (getS (b.drop (getN b).2.1.toNat)).2.1 := by rw [hS]; show 0 ≤ (getN b).2.1 + ((putS c.stamp).length : Int); omega
      have hd2 : b.drop ((getN b).2.1 + (getS (b.drop (getN b).2.1.toNat)).2.1 + (getV (b.drop ((getN b).2.1 + (getS (b.drop (getN b).2.1.toNat)).2.1).toNat)).2.1).toNat = (bif c.gone then [] else putT c.value) ++ (bif zeroV c.dead then [] else putV c.dead) ++ r := drop_add hd1 hp1 (by rw [hV])
      cases hg : c.gone with
      | true =>
        rw [hg] at hd2
        simp only [Bool.and_true, cond_true, Bool.not_true, cond_false, List.append_nil]
        rw [hd2, hV, hS, hk0]
        refine ⟨?_, rfl⟩
        have hv : c.value = ByteArray.mk #[] := size0 (g5 hg)
        rw [List.length_append, List.length_append, ← hv, ← hg]
        simp only [beq_self_eq_true, Bool.and_true, Prod.mk.injEq, true_and]
        omega
      | false =>
        rw [hg] at hd2
        simp only [Bool.and_true, cond_true, Bool.not_false, cond_false]
        have hd2' := hd2
        simp only [cond_false, List.append_assoc] at hd2'
        have hT := (rdT (m := 64) (by decide)).back c.value ((bif zeroV c.dead then [] else putV c.dead) ++ r) g4
        have hp2 : 0 ≤ (getN b).2.1 + (getS (b.drop (getN b).2.1.toNat)).2.1 + (getV (b.drop ((getN b).2.1 + (getS (b.drop (getN b).2.1.toNat)).2.1).toNat)).2.1 := by rw [hV]; show 0 ≤ (getN b).2.1 + (getS (b.drop (getN b).2.1.toNat)).2.1 + ((putV c.vec).length : Int); omega
        have hT' : getT (b.drop ((getN b).2.1 + (getS (b.drop (getN b).2.1.toNat)).2.1 + (getV (b.drop ((getN b).2.1 + (getS (b.drop (getN b).2.1.toNat)).2.1).toNat)).2.1).toNat) 64 = (c.value, ((putT c.value).length : Int), 0) := by rw [hd2']; exact hT
        have hd3 := drop_add hd2' hp2 (j := (getT (b.drop ((getN b).2.1 + (getS (b.drop (getN b).2.1.toNat)).2.1 + (getV (b.drop ((getN b).2.1 + (getS (b.drop (getN b).2.1.toNat)).2.1).toNat)).2.1).toNat) 64).2.1) (by rw [hT'])
        rw [hd3]
        refine ⟨?_, rfl⟩
        rw [hT', hV, hS, hk0, List.length_append, List.length_append, List.length_append, ← hg]
        simp only [beq_self_eq_true, Bool.and_true, Prod.mk.injEq, true_and]
        omega
  obtain ⟨hA1, hA2⟩ := hA
  have hB : stB b = (true, c, ((putN (flagsC c) ++ bodyC c).length : Int)) := by
    unfold stB
    rw [q2]
    cases hz : zeroV c.dead with
    | true =>
      rw [hA1]
      simp only [Bool.not_true, Bool.and_false, cond_false]
      unfold bodyC
      rw [hz, ← zeroV_iff.1 hz]
      simp only [cond_true, List.append_nil]
    | false =>
      rw [hz] at hA2
      have hV : getV (b.drop (stA b).2.2.toNat) = (c.dead, ((putV c.dead).length : Int), 0) := by rw [hA2]; exact rdV.back _ _ g.dead
      rw [hV, hA1]
      simp only [Bool.not_false, Bool.and_true, cond_true, beq_self_eq_true]
      unfold bodyC
      rw [hz]
      simp only [cond_false, ← List.append_assoc]
      rw [List.length_append (bs := putV c.dead)]
      simp only [Prod.mk.injEq, true_and]
      exact (Int.natCast_add _ _).symm
  unfold getC
  have hr : rightC (getN b).1 c = true := by
    unfold rightC
    rw [q0, q1, q2]
    have : decide ((getN b).1 ≤ 7) = true := decide_eq_true (by rw [hN]; exact f2)
    rw [this]
    simp
  rw [hB]
  simp only [hr, h]
  rfl
theorem getC_err (b : List UInt8) (p : Int) : (getC b p).2.2 = 0 ∨ getC b p = (zeroC, 0, 80) := by
  unfold getC
  rw [Bool.cond_eq_ite]
  split
  · exact .inr rfl
  · exact .inl rfl
/-- Whoever reads so reads the same. -/
theorem getC_only {b : List UInt8} {p : Int} {x : TCell × Int × Int} (h1 : x.2.2 = 0 → goodC p x.1 = true ∧ x.2.1 = ((putC p x.1).length : Int) ∧ ∃ r, b = putC p x.1 ++ r) (h2 : x.2.2 ≠ 0 → x = (zeroC, 0, 80) ∧ ∀ c r, goodC p c = true → b ≠ putC p c ++ r) : x = getC b p := by
  by_cases hx : x.2.2 = 0
  · obtain ⟨g1, g2, r, g3⟩ := h1 hx
    have := getC_back g1 r
    rw [← g3] at this
    rw [this, ← g2, ← hx]
  · obtain ⟨g1, g2⟩ := h2 hx
    rcases getC_err b p with he | he
    · obtain ⟨k1, k2, r, k3⟩ := getC_front (b := b) (p := p) (c := (getC b p).1) (k := (getC b p).2.1) (by rw [← he])
      exact absurd k3 (g2 _ _ k1)
    · rw [he, g1]
end Go.Proofs.Yteebobbhhgmeiaa
