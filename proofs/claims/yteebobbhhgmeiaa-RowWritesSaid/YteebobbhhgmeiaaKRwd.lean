/- made by a program (rowgen.py): RowWrites: for every input the law returns true, and each argument reads behind the call as it read before. -/
import Derived.Test.YteebobbhhgmeiaaKRwc

namespace Go.Proofs.Yteebobbhhgmeiaa
open Go.RowKit
def goodS (s : TStamp) : Bool := bif s.n == 0 && s.site == 0 then true else decide (1 ≤ s.n) && decide (s.n ≤ 281474976710656) && (s.site == 1 || s.site == 2)
def goodV (v : TVec) : Bool := decide (0 ≤ v.a) && decide (v.a ≤ 1099511627776) && (decide (0 ≤ v.b) && decide (v.b ≤ 1099511627776))
def zeroV (v : TVec) : Bool := v.a == 0 && v.b == 0
def codeS (s : TStamp) : Int := bif s.n == 0 then 0 else 2 * s.n + s.site - 1
def decS (n : Int) : TStamp := if n = 0 then ⟨0, 0⟩ else ⟨n / 2, 1 + n % 2⟩
def putS (s : TStamp) : List UInt8 := bif goodS s then putN (codeS s) else []
def putV (v : TVec) : List UInt8 := bif goodV v then putN v.a ++ putN v.b else []
def putT (t : ByteArray) : List UInt8 := putN (t.size : Int) ++ t.data.toList
def getS (b : List UInt8) : TStamp × Int × Int := if (getN b).2.2 ≠ 0 then (⟨0, 0⟩, 0, (getN b).2.2) else if goodS (decS (getN b).1) = true then (decS (getN b).1, (getN b).2.1, 0) else (⟨0, 0⟩, 0, 11)
def getV (b : List UInt8) : TVec × Int × Int := if (getN b).2.2 ≠ 0 then (⟨0, 0⟩, 0, (getN b).2.2) else
 if (getN (b.drop (getN b).2.1.toNat)).2.2 ≠ 0 then (⟨0, 0⟩, 0, (getN (b.drop (getN b).2.1.toNat)).2.2) else
 if goodV ⟨(getN b).1, (getN (b.drop (getN b).2.1.toNat)).1⟩ = true then (⟨(getN b).1, (getN (b.drop (getN b).2.1.toNat)).1⟩, (getN b).2.1 + (getN (b.drop (getN b).2.1.toNat)).2.1, 0) else (⟨0, 0⟩, 0, 11)
def getT (b : List UInt8) (m : Int) : ByteArray × Int × Int := if (getN b).2.2 ≠ 0 then (ByteArray.empty, 0, (getN b).2.2) else if (getN b).1 > m then (ByteArray.empty, 0, 3) else
 if (b.length : Int) - (getN b).2.1 < (getN b).1 then (ByteArray.empty, 0, 10) else (⟨((b.drop (getN b).2.1.toNat).take (getN b).1.toNat).toArray⟩, (getN b).2.1 + (getN b).1, 0)
structure Rd {α : Type} (get : List UInt8 → α × Int × Int) (good : α → Prop) (put : α → List UInt8) : Prop where
 back : ∀ x r, good x → get (put x ++ r) = (x, ((put x).length : Int), 0)
 front : ∀ b x k, get b = (x, k, 0) → good x ∧ k = ((put x).length : Int) ∧ ∃ r, b = put x ++ r
theorem take_split {b p : List UInt8} (h : b.take p.length = p) : ∃ r, b = p ++ r := ⟨b.drop p.length, by
 conv => lhs; rw [← List.take_append_drop p.length b, h]⟩
def okN (n : Int) : Prop := 0 ≤ n ∧ n ≤ 4611686018427387903
theorem rdN : Rd getN okN putN where
 back := fun x r h => by rw [get_put h.1 h.2 r, putN_length]
 front := fun b x k h => by
  obtain ⟨h1, h2, h3, _, h5⟩ := put_get h
  exact ⟨⟨h1, h2⟩, by rw [h3, putN_length], take_split (by rw [putN_length]; exact h5)⟩
theorem getN_ok {b : List UInt8} (h : (getN b).2.2 = 0) : ∃ r, okN (getN b).1 ∧ (getN b).2.1 = ((putN (getN b).1).length : Int) ∧ b = putN (getN b).1 ++ r := by
 obtain ⟨h1, h2, r, h3⟩ := rdN.front b (getN b).1 (getN b).2.1 (by rw [← h])
 exact ⟨r, h1, h2, h3⟩
theorem getN_err (b : List UInt8) : (getN b).2.2 ≠ 0 → (getN b).1 = 0 ∧ (getN b).2.1 = 0 := fun h => by
 cases b with
 | nil => exact ⟨rfl, rfl⟩
 | cons x r =>
  rw [getN_cons] at h ⊢
  split
  ·exact ⟨rfl, rfl⟩
  ·split
   ·exact ⟨rfl, rfl⟩
   ·rename_i h1 h2
    rw [if_neg h1, if_neg h2] at h
    exact absurd rfl h
theorem getN_bounds (b : List UInt8) : 0 ≤ (getN b).2.1 ∧ (getN b).2.1 ≤ (b.length : Int) ∧ (getN b).2.1 ≤ 8 ∧ 0 ≤ (getN b).1 ∧ (getN b).1 ≤ 4611686018427387903 := by
 by_cases h : (getN b).2.2 = 0
 ·obtain ⟨r, ⟨h1, h1'⟩, h2, h3⟩ := getN_ok h
  have hl := congrArg List.length h3
  rw [List.length_append] at hl
  have h8 : (putN (getN b).1).length ≤ 8 := by
   rw [putN_length]
   have := (sz_ok h1 h1').1
   unfold szs at this
   omega
  exact ⟨by omega, by omega, by omega, h1, h1'⟩
 ·obtain ⟨h1, h2⟩ := getN_err b h
  rw [h1, h2]
  omega
theorem goodS_iff {s : TStamp} : goodS s = true ↔ (s.n = 0 ∧ s.site = 0) ∨ (1 ≤ s.n ∧ s.n ≤ 281474976710656 ∧ (s.site = 1 ∨ s.site = 2)) := by
 unfold goodS
 rw [Bool.cond_eq_ite]
 split
 ·rename_i h
  simp only [Bool.and_eq_true, beq_iff_eq] at h
  exact ⟨fun _ => .inl h, fun _ => rfl⟩
 ·rename_i h
  simp only [Bool.and_eq_true, beq_iff_eq] at h
  simp only [Bool.and_eq_true, Bool.or_eq_true, beq_iff_eq, decide_eq_true_eq]
  constructor
  ·intro h'; exact .inr ⟨h'.1.1, h'.1.2, h'.2⟩
  ·rintro (h' | ⟨h1, h2, h3⟩)
   ·exact absurd h' h
   ·exact ⟨⟨h1, h2⟩, h3⟩
theorem vec_ext {s t : TVec} (h1 : s.a = t.a) (h2 : s.b = t.b) : s = t := by cases s; cases t; simp_all
theorem and_two_pow (n i : Nat) : n &&& 2 ^ i = n / 2 ^ i % 2 * 2 ^ i := by
 rw [← Nat.toNat_testBit]
 apply Nat.eq_of_testBit_eq
 intro j
 rw [Nat.testBit_and, Nat.testBit_two_pow]
 cases hb : n.testBit i with
 | true =>
  by_cases hij : i = j
  ·subst hij; simp [hb]
  ·simp [hij]
 | false =>
  by_cases hij : i = j
  ·subst hij; simp [hb]
  ·simp [hij]
theorem and_bit {n : Int} (h : okN n) (k : Nat) (m : Int) (hm : m = ((2 ^ k : Nat) : Int)) (hk : k < 60) : (BitVec.ofInt 64 n &&& BitVec.ofInt 64 m).toNat = n.toNat / 2 ^ k % 2 * 2 ^ k := by
 obtain ⟨h0, h1⟩ := h
 have hp : 2 ^ k < 2 ^ 60 := Nat.pow_lt_pow_right (by decide) hk
 have e60 : (2 : Nat) ^ 60 = 1152921504606846976 := by decide
 rw [BitVec.toNat_and, BitVec.toNat_ofInt, BitVec.toNat_ofInt]
 have m1 : (n % ((2 ^ 64 : Nat) : Int)).toNat = n.toNat := by omega
 have m2 : (m % ((2 ^ 64 : Nat) : Int)).toNat = 2 ^ k := by
  subst hm
  generalize 2 ^ k = q at *
  omega
 rw [m1, m2, and_two_pow]
theorem bit_pos {n : Int} (h : okN n) (k : Nat) (m : Int) (hm : m = ((2 ^ k : Nat) : Int)) (hk : k < 60) : decide (IntKind.i64.wrap ((BitVec.ofInt 64 n &&& BitVec.ofInt 64 m).toNat : Int) > 0) = (n.toNat / 2 ^ k % 2 == 1) := by
 rw [and_bit h k m hm hk]
 have hp : 2 ^ k < 2 ^ 60 := Nat.pow_lt_pow_right (by decide) hk
 have hp0 : 0 < 2 ^ k := Nat.pow_pos (by decide)
 have e60 : (2 : Nat) ^ 60 = 1152921504606846976 := by decide
 generalize n.toNat / 2 ^ k = x
 generalize 2 ^ k = q at *
 rcases Nat.mod_two_eq_zero_or_one x with e | e
 ·rw [e, Nat.zero_mul]
  rfl
 ·rw [e, Nat.one_mul, i64_in (by omega)]
  have : (q : Int) > 0 := by omega
  rw [decide_eq_true this]
  rfl
theorem bit_low {n : Int} (h : okN n) : IntKind.i64.wrap (IntKind.i64.wrap ((BitVec.ofInt 64 n &&& BitVec.ofInt 64 1).toNat : Int) + 1) = 1 + n % 2 := by
 have e := and_bit h 0 1 rfl (by decide)
 rw [e]
 obtain ⟨h0, h1⟩ := h
 have e2 : n.toNat / 2 ^ 0 % 2 * 2 ^ 0 = n.toNat % 2 := by rw [Nat.pow_zero, Nat.div_one, Nat.mul_one]
 rw [e2, i64_in (n := ((n.toNat % 2 : Nat) : Int)) (by omega), i64_in (by omega)]
 omega
end Go.Proofs.Yteebobbhhgmeiaa
namespace Go.Proofs.Yteebobbhhgmeiaa
open Go.RowKit
theorem eqB_iff {x y : ByteArray} : (x.toList == y.toList) = true ↔ x = y := by
 rw [beq_iff_eq, ByteArray.toList_eq, ByteArray.toList_eq]
 constructor
 ·intro h
  cases x; cases y
  simpa using h
 ·rintro rfl; rfl
theorem noB_iff {x : ByteArray} : (x.toList == (ByteArray.mk #[]).toList) = true ↔ x.size = 0 := by
 rw [eqB_iff]
 constructor
 ·rintro rfl; rfl
 ·intro h
  cases x with | mk d =>
  have : d.size = 0 := h
  rw [Array.eq_empty_of_size_eq_zero this]
theorem noB_eq (x : ByteArray) : (x.toList == (ByteArray.mk #[]).toList) = (x.size == 0) := by
 rw [Bool.eq_iff_iff, noB_iff, beq_iff_eq]
theorem size0 {x : ByteArray} (h : x.size = 0) : x = ByteArray.mk #[] := eqB_iff.1 (noB_iff.2 h)
def written (c : TCell) : Bool := !(c.stamp.n == 0 && c.stamp.site == 0 && (c.vec.a == 0 && c.vec.b == 0) && (!c.gone && c.value.size == 0))
def goodC (p : Int) (c : TCell) : Bool :=
 bif p == 1 && !zeroV c.dead || (p == 2 && (c.gone || !goodV c.dead) || !(p == 1 || p == 2)) then false else
 bif !written c then true else goodS c.stamp && decide (0 < c.stamp.n) && goodV c.vec && decide ((c.value.size : Int) ≤ 64) && !(c.gone && !(c.value.size == 0))
def flagsC (c : TCell) : Int := (bif written c then 1 else 0) + (bif c.gone then 2 else 0) + (bif zeroV c.dead then 0 else 4)
def bodyC (c : TCell) : List UInt8 := (bif written c then putS c.stamp ++ putV c.vec ++ (bif c.gone then [] else putT c.value) else []) ++ (bif zeroV c.dead then [] else putV c.dead)
def putC (p : Int) (c : TCell) : List UInt8 := bif goodC p c then putN (flagsC c) ++ bodyC c else []
def zeroC : TCell := ⟨⟨0, 0⟩, ⟨0, 0⟩, false, ByteArray.mk #[], ⟨0, 0⟩⟩
theorem zeroV_iff {v : TVec} : zeroV v = true ↔ v = ⟨0, 0⟩ := by
 unfold zeroV
 simp only [Bool.and_eq_true, beq_iff_eq]
 constructor
 ·intro h; exact vec_ext h.1 h.2
 ·rintro rfl; exact ⟨rfl, rfl⟩
structure GoodC (p : Int) (c : TCell) : Prop where
 pol : p = 1 ∨ p = 2
 dead : goodV c.dead = true
 last : p = 1 → zeroV c.dead = true
 del : p = 2 → c.gone = false
 st : written c = true → goodS c.stamp = true ∧ 0 < c.stamp.n ∧ goodV c.vec = true ∧ (c.value.size : Int) ≤ 64 ∧ (c.gone = true → c.value.size = 0)
theorem goodC_iff {p : Int} {c : TCell} : goodC p c = true ↔ GoodC p c := by
 unfold goodC
 rw [Bool.cond_eq_ite]
 split
 ·rename_i h
  refine ⟨fun h => (by cases h), fun g => ?_⟩
  exfalso
  simp only [Bool.or_eq_true, Bool.and_eq_true, beq_iff_eq, Bool.not_eq_true'] at h
  rcases h with ⟨h1, h2⟩ | ⟨h1, h2⟩ | h1
  ·rw [g.last h1] at h2; cases h2
  ·rcases h2 with h2 | h2
   ·rw [g.del h1] at h2; cases h2
   ·rw [g.dead] at h2; cases h2
  ·rcases g.pol with h | h
   ·rw [h] at h1; cases h1
   ·rw [h] at h1; cases h1
 ·rename_i h
  have hh := Bool.eq_false_iff.2 h
  simp only [Bool.or_eq_false_iff] at hh
  obtain ⟨h1, h2, h3⟩ := hh
  have hp : p = 1 ∨ p = 2 := by
   have : (p == 1 || p == 2) = true := by
    cases hq : (p == 1 || p == 2) with
    | true => rfl
    | false => rw [hq] at h3; cases h3
   simpa using this
  have base : goodV c.dead = true ∧ (p = 1 → zeroV c.dead = true) ∧ (p = 2 → c.gone = false) := by
   rcases hp with rfl | rfl
   ·have hz : zeroV c.dead = true := by
     cases hz : zeroV c.dead with
     | true => rfl
     | false => rw [hz] at h1; cases h1
    refine ⟨by rw [zeroV_iff.1 hz]; rfl, fun _ => hz, fun h => by cases h⟩
   ·have : c.gone = false ∧ goodV c.dead = true := by
     cases hg : c.gone with
     | true => rw [hg] at h2; cases h2
     | false =>
      cases hv : goodV c.dead with
      | true => exact ⟨rfl, rfl⟩
      | false => rw [hg, hv] at h2; cases h2
    exact ⟨this.2, fun h => (by cases h), fun _ => this.1⟩
  cases hw : written c with
  | false => exact ⟨fun _ => ⟨hp, base.1, base.2.1, base.2.2, fun h => by rw [hw] at h; cases h⟩, fun _ => rfl⟩
  | true =>
   rw [Bool.not_true, cond_false]
   simp only [Bool.and_eq_true, decide_eq_true_eq, Bool.not_eq_true', Bool.and_eq_false_iff, Bool.not_eq_false', beq_iff_eq]
   constructor
   ·rintro ⟨⟨⟨⟨g1, g2⟩, g3⟩, g4⟩, g5⟩
    refine ⟨hp, base.1, base.2.1, base.2.2, fun _ => ⟨g1, g2, g3, g4, fun hg => ?_⟩⟩
    rcases g5 with g5 | g5
    ·rw [g5] at hg; cases hg
    ·exact g5
   ·intro g
    obtain ⟨g1, g2, g3, g4, g5⟩ := g.st hw
    refine ⟨⟨⟨⟨g1, g2⟩, g3⟩, g4⟩, ?_⟩
    cases hg : c.gone with
    | false => exact .inl rfl
    | true => exact .inr (g5 hg)
theorem flags_ok (c : TCell) : okN (flagsC c) ∧ flagsC c ≤ 7 ∧ ((flagsC c).toNat / 2 ^ 0 % 2 == 1) = written c ∧ ((flagsC c).toNat / 2 ^ 1 % 2 == 1) = c.gone ∧ ((flagsC c).toNat / 2 ^ 2 % 2 == 1) = !zeroV c.dead := by
 unfold flagsC okN
 cases written c <;> cases c.gone <;> cases zeroV c.dead <;> decide
def bitN (n : Int) (k : Nat) : Bool := n.toNat / 2 ^ k % 2 == 1
def stA (b : List UInt8) : Bool × TCell × Int :=
 bif (getN b).2.2 == 0 && bitN (getN b).1 0 then
  (bif !bitN (getN b).1 1 then
   ((getN b).2.2 == 0 && (getS (b.drop (getN b).2.1.toNat)).2.2 == 0 && (getV (b.drop ((getN b).2.1 + (getS (b.drop (getN b).2.1.toNat)).2.1).toNat)).2.2 == 0 && (getT (b.drop ((getN b).2.1 + (getS (b.drop (getN b).2.1.toNat)).2.1 + (getV (b.drop ((getN b).2.1 + (getS (b.drop (getN b).2.1.toNat)).2.1).toNat)).2.1).toNat) 64).2.2 == 0,
    ⟨(getS (b.drop (getN b).2.1.toNat)).1, (getV (b.drop ((getN b).2.1 + (getS (b.drop (getN b).2.1.toNat)).2.1).toNat)).1, bitN (getN b).1 1, (getT (b.drop ((getN b).2.1 + (getS (b.drop (getN b).2.1.toNat)).2.1 + (getV (b.drop ((getN b).2.1 + (getS (b.drop (getN b).2.1.toNat)).2.1).toNat)).2.1).toNat) 64).1, ⟨0, 0⟩⟩,
    (getN b).2.1 + (getS (b.drop (getN b).2.1.toNat)).2.1 + (getV (b.drop ((getN b).2.1 + (getS (b.drop (getN b).2.1.toNat)).2.1).toNat)).2.1 + (getT (b.drop ((getN b).2.1 + (getS (b.drop (getN b).2.1.toNat)).2.1 + (getV (b.drop ((getN b).2.1 + (getS (b.drop (getN b).2.1.toNat)).2.1).toNat)).2.1).toNat) 64).2.1)
  else
   ((getN b).2.2 == 0 && (getS (b.drop (getN b).2.1.toNat)).2.2 == 0 && (getV (b.drop ((getN b).2.1 + (getS (b.drop (getN b).2.1.toNat)).2.1).toNat)).2.2 == 0,
    ⟨(getS (b.drop (getN b).2.1.toNat)).1, (getV (b.drop ((getN b).2.1 + (getS (b.drop (getN b).2.1.toNat)).2.1).toNat)).1, bitN (getN b).1 1, ByteArray.mk #[], ⟨0, 0⟩⟩,
    (getN b).2.1 + (getS (b.drop (getN b).2.1.toNat)).2.1 + (getV (b.drop ((getN b).2.1 + (getS (b.drop (getN b).2.1.toNat)).2.1).toNat)).2.1))
 else ((getN b).2.2 == 0, zeroC, (getN b).2.1)
def stB (b : List UInt8) : Bool × TCell × Int :=
 bif (stA b).1 && bitN (getN b).1 2 then ((stA b).1 && (getV (b.drop (stA b).2.2.toNat)).2.2 == 0, { (stA b).2.1 with dead := (getV (b.drop (stA b).2.2.toNat)).1 }, (stA b).2.2 + (getV (b.drop (stA b).2.2.toNat)).2.1)
 else stA b
def rightC (n : Int) (c : TCell) : Bool := decide (n ≤ 7) && bitN n 0 == written c && bitN n 1 == c.gone && bitN n 2 == !zeroV c.dead
def getC (b : List UInt8) (p : Int) : TCell × Int × Int :=
 bif !(stB b).1 || !rightC (getN b).1 (stB b).2.1 || !goodC p (stB b).2.1 then (zeroC, 0, 80) else ((stB b).2.1, (stB b).2.2, 0)
end Go.Proofs.Yteebobbhhgmeiaa
namespace Go.Proofs.Yteebobbhhgmeiaa
open Go.RowKit
theorem stamp_known_eq (n : Int) : stamp_known_0 n = (n == 1 || n == 2) := by
 unfold stamp_known_0 stamp_known_k0
 cases n == 1 <;> cases n == 2 <;> rfl
theorem stamp_Good_eq (s : TStamp) : stamp_Good_0 s = goodS s := by
 unfold stamp_Good_0 goodS
 rw [stamp_known_eq]
 rfl
theorem vec_Good_f1_iff (x : Int) : (vec_Good_f1_0 x 0 == x) = (decide (0 ≤ x) && decide (x ≤ 1099511627776)) := by
 unfold vec_Good_f1_0
 rw [Bool.eq_iff_iff]
 simp only [beq_iff_eq, Bool.and_eq_true, decide_eq_true_eq]
 omega
theorem vec_Good_eq (v : TVec) : vec_Good_0 v = goodV v := by
 unfold vec_Good_0 goodV
 rw [vec_Good_f1_iff, vec_Good_f1_iff]
theorem putN_8 (n : Int) : (putN n).length ≤ 8 := by
 rw [putN_length]
 rcases sz_cases n with h | ⟨_, _, h⟩
 ·omega
 ·unfold szs at h; omega
theorem putS_8 (s : TStamp) : (putS s).length ≤ 8 := by
 unfold putS
 cases goodS s with
 | true => exact putN_8 _
 | false => exact Nat.zero_le _
theorem putV_16 (v : TVec) : (putV v).length ≤ 16 := by
 unfold putV
 cases goodV v with
 | true =>
  rw [cond_true, List.length_append]
  have h1 := putN_8 v.a
  have h2 := putN_8 v.b
  omega
 | false => exact Nat.zero_le _
theorem putT_8 (t : ByteArray) : (putT t).length ≤ 8 + t.size := by
 unfold putT
 rw [List.length_append]
 have h1 := putN_8 (t.size : Int)
 have hs : t.data.toList.length = t.size := Array.length_toList
 omega
def cell_Of_k3 (_a0 : Int) (_a1 : TStamp) (_a2 : TVec) (_a3 : Bool) (a4 : ByteArray) : Bool := decide ((↑a4.size : Int) > (64 : Int))
def cell_Of_k2 (a0 : Int) (a1 : TStamp) (a2 : TVec) (a3 : Bool) (a4 : ByteArray) : Bool := bif a0 != (1 : Int) && a0 != (2 : Int) then a0 != (1 : Int) && a0 != (2 : Int) else bif a1.1 == (0 : Int) && a1.2 == (0 : Int) then a1.1 == (0 : Int) && a1.2 == (0 : Int) else bif !stamp_Good_0 a1 then !stamp_Good_0 a1 else bif !vec_Good_0 a2 then !vec_Good_0 a2 else a3 && !a4.toList == (ByteArray.mk #[]).toList
def cell_Of_k1 (a0 : Int) (a1 : TStamp) (a2 : TVec) (a3 : Bool) (a4 : ByteArray) : Bool := (cell_Of_k2 a0 a1 a2 a3 a4) || ((cell_Of_k3 a0 a1 a2 a3 a4) || a3 && a0 == (2 : Int))
def cell_Of_k0 (a0 : Int) (a1 : TStamp) (a2 : TVec) (a3 : Bool) (a4 : ByteArray) : Int := bif (cell_Of_k2 a0 a1 a2 a3 a4) then (0 : Int) else bif (cell_Of_k3 a0 a1 a2 a3 a4) then (0 : Int) else (0 : Int)
def cell_Of_0 (a0 : Int) (a1 : TStamp) (a2 : TVec) (a3 : Bool) (a4 : ByteArray) : TCell := TCell.mk (TStamp.mk (bif (cell_Of_k1 a0 a1 a2 a3 a4) then (cell_Of_k0 a0 a1 a2 a3 a4) else a1.1) (bif (cell_Of_k1 a0 a1 a2 a3 a4) then (cell_Of_k0 a0 a1 a2 a3 a4) else a1.2)) (TVec.mk (bif (cell_Of_k1 a0 a1 a2 a3 a4) then (cell_Of_k0 a0 a1 a2 a3 a4) else a2.1) (bif (cell_Of_k1 a0 a1 a2 a3 a4) then (cell_Of_k0 a0 a1 a2 a3 a4) else a2.2)) (bif (cell_Of_k1 a0 a1 a2 a3 a4) then bif (cell_Of_k2 a0 a1 a2 a3 a4) then false else bif (cell_Of_k3 a0 a1 a2 a3 a4) then false else false else a3) (bif (cell_Of_k1 a0 a1 a2 a3 a4) then bif (cell_Of_k2 a0 a1 a2 a3 a4) then ByteArray.mk #[] else bif (cell_Of_k3 a0 a1 a2 a3 a4) then ByteArray.mk #[] else ByteArray.mk #[] else a4) (TVec.mk (bif (cell_Of_k1 a0 a1 a2 a3 a4) then bif (cell_Of_k2 a0 a1 a2 a3 a4) then (0 : Int) else bif (cell_Of_k3 a0 a1 a2 a3 a4) then (0 : Int) else a2.1 else (0 : Int)) (bif (cell_Of_k1 a0 a1 a2 a3 a4) then bif (cell_Of_k2 a0 a1 a2 a3 a4) then (0 : Int) else bif (cell_Of_k3 a0 a1 a2 a3 a4) then (0 : Int) else a2.2 else (0 : Int)))
def cell_Of_1 (a0 : Int) (a1 : TStamp) (a2 : TVec) (a3 : Bool) (a4 : ByteArray) : Int := bif (cell_Of_k1 a0 a1 a2 a3 a4) then bif (cell_Of_k2 a0 a1 a2 a3 a4) then (2 : Int) else bif (cell_Of_k3 a0 a1 a2 a3 a4) then (3 : Int) else (0 : Int) else (0 : Int)
def cell_Of_r (a0 : Int) (a1 : TStamp) (a2 : TVec) (a3 : Bool) (a4 : ByteArray) : A := .v (.tuple ⟨[.agg ⟨[.int .i64 ((cell_Of_0 a0 a1 a2 a3 a4).stamp.n), .int .i64 ((cell_Of_0 a0 a1 a2 a3 a4).stamp.site), .int .i64 ((cell_Of_0 a0 a1 a2 a3 a4).vec.a), .int .i64 ((cell_Of_0 a0 a1 a2 a3 a4).vec.b), .bool ((cell_Of_0 a0 a1 a2 a3 a4).gone), .string ((cell_Of_0 a0 a1 a2 a3 a4).value), .int .i64 ((cell_Of_0 a0 a1 a2 a3 a4).dead.a), .int .i64 ((cell_Of_0 a0 a1 a2 a3 a4).dead.b)]⟩, .int .i64 (cell_Of_1 a0 a1 a2 a3 a4)]⟩)
def cell_Of_o (_a0 : Int) (_a1 : TStamp) (_a2 : TVec) (_a3 : Bool) (_a4 : ByteArray) : Objs := []
def cell_Of_ps (_a0 : Int) (_a1 : TStamp) (_a2 : TVec) (_a3 : Bool) (_a4 : ByteArray) : List Prop := []
set_option maxRecDepth 100000 in
theorem cell_Of_ev (a0 : Int) (a1 : TStamp) (a2 : TVec) (a3 : Bool) (a4 : ByteArray) : evF (envT Cb L0) 9 36 [valA .i64 a0, valA .stamp a1, valA .vec a2, valA .bool a3, valA .str a4] 0 [] = some (1, cell_Of_r a0 a1 a2 a3 a4, 0, cell_Of_o a0 a1 a2 a3 a4, []) := by kernel_rfl
set_option maxRecDepth 100000 in
theorem cell_Of_c (a0 : Int) (a1 : TStamp) (a2 : TVec) (a3 : Bool) (a4 : ByteArray) (_hp : ∀ p ∈ cell_Of_ps a0 a1 a2 a3 a4, p) : CallOk Try.prog 36 [valA .i64 a0, valA .stamp a1, valA .vec a2, valA .bool a3, valA .str a4] 0 [] 1 (cell_Of_r a0 a1 a2 a3 a4) 0 (cell_Of_o a0 a1 a2 a3 a4) := by
 exact evF_ok (envP_ok Cb_ok L0_ok) (cell_Of_ev a0 a1 a2 a3 a4) needs_nil
def cell_Of_t : List A → Nat → Objs → Option CRes
 | [y0, y1, y2, y3, y4], nx, o => match argU .i64 y0, argU .stamp y1, argU .vec y2, argU .bool y3, argU .str y4 with
  | some (a0, p0), some (a1, p1), some (a2, p2), some (a3, p3), some (a4, p4) => some (1, (cell_Of_r a0 a1 a2 a3 a4).pk (shiftR nx), nx + 0, shiftO nx (cell_Of_o a0 a1 a2 a3 a4) ++ o, p0 ++ (p1 ++ (p2 ++ (p3 ++ (p4 ++ (cell_Of_ps a0 a1 a2 a3 a4))))))
  | _, _, _, _, _ => none
 | _, _, _ => none
theorem cell_Of_tok : TOk Try.prog 36 cell_Of_t := fun args nx o k x nx' o' ps h => by
 unfold cell_Of_t at h
 split at h <;> first | (cases h; done) | skip
 split at h <;> first | (cases h; done) | skip
 rename_i a0 p0 a1 p1 a2 p2 a3 p3 a4 p4 e0 e1 e2 e3 e4
 cases h
 refine ⟨fun hp => ?_, _, rfl⟩
 have q0 := fun p hm => hp p (List.mem_append.2 (.inl hm))
 have r0 := fun p hm => hp p (List.mem_append.2 (.inr hm))
 have q1 := fun p hm => r0 p (List.mem_append.2 (.inl hm))
 have r1 := fun p hm => r0 p (List.mem_append.2 (.inr hm))
 have q2 := fun p hm => r1 p (List.mem_append.2 (.inl hm))
 have r2 := fun p hm => r1 p (List.mem_append.2 (.inr hm))
 have q3 := fun p hm => r2 p (List.mem_append.2 (.inl hm))
 have r3 := fun p hm => r2 p (List.mem_append.2 (.inr hm))
 have q4 := fun p hm => r3 p (List.mem_append.2 (.inl hm))
 have r4 := fun p hm => r3 p (List.mem_append.2 (.inr hm))
 refine callOk_args (callOk_shift (cell_Of_c a0 a1 a2 a3 a4 r4) (Nat.le_refl _) (freeL_cons (valA_free _ _) (freeL_cons (valA_free _ _) (freeL_cons (valA_free _ _) (freeL_cons (valA_free _ _) (freeL_cons (valA_free _ _) freeL_nil))))) nx o) fun F N R vs hl => ?_
 obtain ⟨v0, w0, rfl, h0, hl⟩ := hl.inv
 obtain ⟨v1, w1, rfl, h1, hl⟩ := hl.inv
 obtain ⟨v2, w2, rfl, h2, hl⟩ := hl.inv
 obtain ⟨v3, w3, rfl, h3, hl⟩ := hl.inv
 obtain ⟨v4, w4, rfl, h4, hl⟩ := hl.inv
 exact HL.cons (argU_ok e0 q0 h0) (HL.cons (argU_ok e1 q1 h1) (HL.cons (argU_ok e2 q2 h2) (HL.cons (argU_ok e3 q3 h3) (HL.cons (argU_ok e4 q4 h4) (hl)))))
noncomputable def Cd_1 := addC 36 cell_Of_t Cb
theorem Cd_1_ok : COk Try.prog Cd_1 := addC_ok cell_Of_tok Cb_ok
def cell_written_0 (a0 : TCell) : Bool := !(a0.1.1 == (0 : Int) && a0.1.2 == (0 : Int) && (a0.2.1 == (0 : Int) && a0.2.2 == (0 : Int) && (a0.3 == false && (a0.4.toList == (ByteArray.mk #[]).toList && true))))
def cell_written_r (a0 : TCell) : A := .v (.bool (cell_written_0 a0))
def cell_written_o (_a0 : TCell) : Objs := []
def cell_written_ps (_a0 : TCell) : List Prop := []
set_option maxRecDepth 100000 in
theorem cell_written_ev (a0 : TCell) : evF (envT Cd_1 L0) 9 105 [valA .cell a0] 0 [] = some (1, cell_written_r a0, 0, cell_written_o a0, []) := by kernel_rfl
set_option maxRecDepth 100000 in
theorem cell_written_c (a0 : TCell) (_hp : ∀ p ∈ cell_written_ps a0, p) : CallOk Try.prog 105 [valA .cell a0] 0 [] 1 (cell_written_r a0) 0 (cell_written_o a0) := by
 exact evF_ok (envP_ok Cd_1_ok L0_ok) (cell_written_ev a0) needs_nil
def cell_written_t : List A → Nat → Objs → Option CRes
 | [y0], nx, o => match argU .cell y0 with
  | some (a0, p0) => some (1, (cell_written_r a0).pk (shiftR nx), nx + 0, shiftO nx (cell_written_o a0) ++ o, p0 ++ (cell_written_ps a0))
  | _ => none
 | _, _, _ => none
theorem cell_written_tok : TOk Try.prog 105 cell_written_t := fun args nx o k x nx' o' ps h => by
 unfold cell_written_t at h
 split at h <;> first | (cases h; done) | skip
 split at h <;> first | (cases h; done) | skip
 rename_i a0 p0 e0
 cases h
 refine ⟨fun hp => ?_, _, rfl⟩
 have q0 := fun p hm => hp p (List.mem_append.2 (.inl hm))
 have r0 := fun p hm => hp p (List.mem_append.2 (.inr hm))
 refine callOk_args (callOk_shift (cell_written_c a0 r0) (Nat.le_refl _) (freeL_cons (valA_free _ _) freeL_nil) nx o) fun F N R vs hl => ?_
 obtain ⟨v0, w0, rfl, h0, hl⟩ := hl.inv
 exact HL.cons (argU_ok e0 q0 h0) (hl)
noncomputable def Cd_2 := addC 105 cell_written_t Cd_1
theorem Cd_2_ok : COk Try.prog Cd_2 := addC_ok cell_written_tok Cd_1_ok
def cell_Good_0 (a0 : Int) (a1 : TCell) : Bool := bif bif a0 == (1 : Int) then !(a1.5.1 == (0 : Int) && a1.5.2 == (0 : Int)) else !a0 == (2 : Int) || (a1.3 || !vec_Good_0 a1.5) then bif a0 == (1 : Int) then false else bif a0 == (2 : Int) then false else false else bif !cell_written_0 a1 then true else decide (a1.1.1 > (0 : Int)) && stamp_Good_0 a1.1 && vec_Good_0 a1.2 && decide ((↑a1.4.size : Int) ≤ (64 : Int)) && !(a1.3 && !a1.4.toList == (ByteArray.mk #[]).toList)
def cell_Good_r (a0 : Int) (a1 : TCell) : A := .v (.bool (cell_Good_0 a0 a1))
def cell_Good_o (_a0 : Int) (_a1 : TCell) : Objs := []
def cell_Good_ps (_a0 : Int) (_a1 : TCell) : List Prop := []
set_option maxRecDepth 100000 in
theorem cell_Good_ev (a0 : Int) (a1 : TCell) : evF (envT Cd_2 L0) 9 38 [valA .i64 a0, valA .cell a1] 0 [] = some (1, cell_Good_r a0 a1, 0, cell_Good_o a0 a1, []) := by kernel_rfl
set_option maxRecDepth 100000 in
theorem cell_Good_c (a0 : Int) (a1 : TCell) (_hp : ∀ p ∈ cell_Good_ps a0 a1, p) : CallOk Try.prog 38 [valA .i64 a0, valA .cell a1] 0 [] 1 (cell_Good_r a0 a1) 0 (cell_Good_o a0 a1) := by
 exact evF_ok (envP_ok Cd_2_ok L0_ok) (cell_Good_ev a0 a1) needs_nil
def cell_Good_t : List A → Nat → Objs → Option CRes
 | [y0, y1], nx, o => match argU .i64 y0, argU .cell y1 with
  | some (a0, p0), some (a1, p1) => some (1, (cell_Good_r a0 a1).pk (shiftR nx), nx + 0, shiftO nx (cell_Good_o a0 a1) ++ o, p0 ++ (p1 ++ (cell_Good_ps a0 a1)))
  | _, _ => none
 | _, _, _ => none
theorem cell_Good_tok : TOk Try.prog 38 cell_Good_t := fun args nx o k x nx' o' ps h => by
 unfold cell_Good_t at h
 split at h <;> first | (cases h; done) | skip
 split at h <;> first | (cases h; done) | skip
 rename_i a0 p0 a1 p1 e0 e1
 cases h
 refine ⟨fun hp => ?_, _, rfl⟩
 have q0 := fun p hm => hp p (List.mem_append.2 (.inl hm))
 have r0 := fun p hm => hp p (List.mem_append.2 (.inr hm))
 have q1 := fun p hm => r0 p (List.mem_append.2 (.inl hm))
 have r1 := fun p hm => r0 p (List.mem_append.2 (.inr hm))
 refine callOk_args (callOk_shift (cell_Good_c a0 a1 r1) (Nat.le_refl _) (freeL_cons (valA_free _ _) (freeL_cons (valA_free _ _) freeL_nil)) nx o) fun F N R vs hl => ?_
 obtain ⟨v0, w0, rfl, h0, hl⟩ := hl.inv
 obtain ⟨v1, w1, rfl, h1, hl⟩ := hl.inv
 exact HL.cons (argU_ok e0 q0 h0) (HL.cons (argU_ok e1 q1 h1) (hl))
noncomputable def Cd_3 := addC 38 cell_Good_t Cd_2
theorem Cd_3_ok : COk Try.prog Cd_3 := addC_ok cell_Good_tok Cd_2_ok
def cell_Seen_k0 (a0 : Int) (a1 : TCell) : Bool := !cell_Good_0 a0 a1 || !cell_written_0 a1 || a1.3 || !vec_Covers_0 a1.2 a1.5
def cell_Seen_0 (a0 : Int) (a1 : TCell) : ByteArray := bif (cell_Seen_k0 a0 a1) then ByteArray.mk #[] else a1.4
def cell_Seen_1 (a0 : Int) (a1 : TCell) : Bool := bif (cell_Seen_k0 a0 a1) then false else true
def cell_Seen_r (a0 : Int) (a1 : TCell) : A := .v (.tuple ⟨[.string (cell_Seen_0 a0 a1), .bool (cell_Seen_1 a0 a1)]⟩)
def cell_Seen_o (_a0 : Int) (_a1 : TCell) : Objs := []
def cell_Seen_ps (_a0 : Int) (_a1 : TCell) : List Prop := []
set_option maxRecDepth 100000 in
theorem cell_Seen_ev (a0 : Int) (a1 : TCell) : evF (envT Cd_3 L0) 9 40 [valA .i64 a0, valA .cell a1] 0 [] = some (1, cell_Seen_r a0 a1, 0, cell_Seen_o a0 a1, []) := by kernel_rfl
set_option maxRecDepth 100000 in
theorem cell_Seen_c (a0 : Int) (a1 : TCell) (_hp : ∀ p ∈ cell_Seen_ps a0 a1, p) : CallOk Try.prog 40 [valA .i64 a0, valA .cell a1] 0 [] 1 (cell_Seen_r a0 a1) 0 (cell_Seen_o a0 a1) := by
 exact evF_ok (envP_ok Cd_3_ok L0_ok) (cell_Seen_ev a0 a1) needs_nil
def cell_Seen_t : List A → Nat → Objs → Option CRes
 | [y0, y1], nx, o => match argU .i64 y0, argU .cell y1 with
  | some (a0, p0), some (a1, p1) => some (1, (cell_Seen_r a0 a1).pk (shiftR nx), nx + 0, shiftO nx (cell_Seen_o a0 a1) ++ o, p0 ++ (p1 ++ (cell_Seen_ps a0 a1)))
  | _, _ => none
 | _, _, _ => none
theorem cell_Seen_tok : TOk Try.prog 40 cell_Seen_t := fun args nx o k x nx' o' ps h => by
 unfold cell_Seen_t at h
 split at h <;> first | (cases h; done) | skip
 split at h <;> first | (cases h; done) | skip
 rename_i a0 p0 a1 p1 e0 e1
 cases h
 refine ⟨fun hp => ?_, _, rfl⟩
 have q0 := fun p hm => hp p (List.mem_append.2 (.inl hm))
 have r0 := fun p hm => hp p (List.mem_append.2 (.inr hm))
 have q1 := fun p hm => r0 p (List.mem_append.2 (.inl hm))
 have r1 := fun p hm => r0 p (List.mem_append.2 (.inr hm))
 refine callOk_args (callOk_shift (cell_Seen_c a0 a1 r1) (Nat.le_refl _) (freeL_cons (valA_free _ _) (freeL_cons (valA_free _ _) freeL_nil)) nx o) fun F N R vs hl => ?_
 obtain ⟨v0, w0, rfl, h0, hl⟩ := hl.inv
 obtain ⟨v1, w1, rfl, h1, hl⟩ := hl.inv
 exact HL.cons (argU_ok e0 q0 h0) (HL.cons (argU_ok e1 q1 h1) (hl))
noncomputable def Cd_4 := addC 40 cell_Seen_t Cd_3
theorem Cd_4_ok : COk Try.prog Cd_4 := addC_ok cell_Seen_tok Cd_3_ok
theorem cell_written_eq (c : TCell) : cell_written_0 c = written c := by
 unfold cell_written_0 written
 have hg : (c.3 == false) = !c.gone := by show (c.gone == false) = !c.gone; cases c.gone <;> rfl
 rw [noB_eq, Bool.and_true, hg]
 simp only [Bool.and_assoc]
theorem cell_Good_eq (p : Int) (c : TCell) : cell_Good_0 p c = goodC p c := by
 unfold cell_Good_0 goodC zeroV
 rw [cell_written_eq, vec_Good_eq, vec_Good_eq, stamp_Good_eq, noB_eq]
 have hw : (bif !written c then true else decide (c.1.1 > (0 : Int)) && goodS c.1 && goodV c.2 && decide (((c.4.size : Nat) : Int) ≤ (64 : Int)) && !(c.3 && !c.4.size == 0)) = bif !written c then true else goodS c.stamp && decide (0 < c.stamp.n) && goodV c.vec && decide ((c.value.size : Int) ≤ 64) && !(c.gone && !(c.value.size == 0)) := by
  rw [Bool.and_comm (decide (c.1.1 > (0 : Int)))]
 rw [hw]
 generalize (bif !written c then true else goodS c.stamp && decide (0 < c.stamp.n) && goodV c.vec && decide ((c.value.size : Int) ≤ 64) && !(c.gone && !(c.value.size == 0))) = X
 by_cases h1 : p = 1
 ·subst h1
  show (bif !(c.5.1 == (0 : Int) && c.5.2 == (0 : Int)) then false else X) = bif !(c.5.1 == (0 : Int) && c.5.2 == (0 : Int)) || false then false else X
  rw [Bool.or_false]
 ·have e1 : (p == 1) = false := by simpa using h1
  rw [e1]
  by_cases h2 : p = 2
  ·subst h2
   show (bif c.3 || !goodV c.5 then false else X) = bif (c.3 || !goodV c.5) || false then false else X
   rw [Bool.or_false]
  ·have e2 : (p == 2) = false := by simpa using h2
   rw [e2]
   rfl
def stamp_Put_0 (a0 : List UInt8) (a1 : TStamp) : List UInt8 := a0 ++ putN (bif a1.1 == (0 : Int) && a1.2 == (0 : Int) then (0 : Int) else bif stamp_Good_0 a1 then IntKind.i64.wrap (IntKind.i64.wrap (IntKind.i64.wrap (a1.1 * (2 : Int)) + a1.2) - (1 : Int)) else (-1 : Int))
def stamp_Put_r (_a0 : List UInt8) (_a1 : TStamp) : A := .sq 0
def stamp_Put_o (a0 : List UInt8) (a1 : TStamp) : Objs := [(0, some (.arr 5 1 (.ty .u8 (stamp_Put_0 a0 a1))))]
def stamp_Put_ps (a0 : List UInt8) (_a1 : TStamp) : List Prop := [(boundP (a0.length + (8 : Nat)))]
set_option maxRecDepth 100000 in
theorem stamp_Put_ev (a0 : List UInt8) (a1 : TStamp) : evF (envT Cd_4 L0) 9 121 [valA .bytes a0, valA .stamp a1] 0 [] = some (1, stamp_Put_r a0 a1, 1, stamp_Put_o a0 a1, [(boundP (a0.length + (8 : Nat)))]) := by kernel_rfl
set_option maxRecDepth 100000 in
theorem stamp_Put_c (a0 : List UInt8) (a1 : TStamp) (hp : ∀ p ∈ stamp_Put_ps a0 a1, p) : CallOk Try.prog 121 [valA .bytes a0, valA .stamp a1] 0 [] 1 (stamp_Put_r a0 a1) 1 (stamp_Put_o a0 a1) := by
 have n0 : (boundP (a0.length + (8 : Nat))) := hp _ (List.mem_cons_self ..)
 exact evF_ok (envP_ok Cd_4_ok L0_ok) (stamp_Put_ev a0 a1) (needs_cons n0 needs_nil)
def stamp_Put_r2 (_a0 : List UInt8) (_a1 : TStamp) : A := .sq 0
def stamp_Put_o2 (a0 : List UInt8) (a1 : TStamp) : Objs := [(0, some (.arr 5 1 (.ty .u8 (a0 ++ putS a1))))]
def stamp_Put_ps2 (a0 : List UInt8) (_a1 : TStamp) : List Prop := [boundP (a0.length + 8)]
theorem stamp_Put_eq (a0 : List UInt8) (a1 : TStamp) : stamp_Put_0 a0 a1 = a0 ++ putS a1 := by
 unfold stamp_Put_0 putS codeS
 rw [stamp_Good_eq]
 congr 1
 cases hg : goodS a1 with
 | false =>
  have hz : (a1.1 == (0 : Int) && a1.2 == (0 : Int)) = false := by
   rw [Bool.eq_false_iff]
   intro h
   unfold goodS at hg
   rw [h] at hg
   cases hg
  rw [hz]
  rfl
 | true =>
  have h' := goodS_iff.1 hg
  rw [cond_true, cond_true]
  congr 1
  by_cases h0 : a1.n = 0
  ·have hz : (a1.1 == (0 : Int) && a1.2 == (0 : Int)) = true := by
    rcases h' with ⟨h1, h2⟩ | h1
    ·rw [h1, h2]; rfl
    ·omega
   have e : (a1.n == 0) = true := by simpa using h0
   rw [hz, e]
   rfl
  ·have hz : (a1.1 == (0 : Int) && a1.2 == (0 : Int)) = false := by
    have : (a1.1 == (0 : Int)) = false := by simpa using h0
    rw [this]; rfl
   have e : (a1.n == 0) = false := by simpa using h0
   rw [hz, e, cond_false, cond_false, i64_in (n := a1.1 * 2) (by omega), i64_in (n := a1.1 * 2 + a1.2) (by omega), i64_in (by omega)]
   omega
theorem stamp_Put_c2 (a0 : List UInt8) (a1 : TStamp) (hp : ∀ p ∈ stamp_Put_ps2 a0 a1, p) : CallOk Try.prog 121 [valA .bytes a0, valA .stamp a1] 0 [] 1 (stamp_Put_r2 a0 a1) 1 (stamp_Put_o2 a0 a1) := by
 have h := stamp_Put_c a0 a1 (needs_cons (hp _ (List.mem_cons_self ..)) needs_nil)
 have ho : stamp_Put_o a0 a1 = stamp_Put_o2 a0 a1 := by unfold stamp_Put_o stamp_Put_o2; rw [stamp_Put_eq]
 rw [ho] at h
 exact h
def stamp_Put_t : List A → Nat → Objs → Option CRes
 | [y0, y1], nx, o => match argU .bytes y0, argU .stamp y1 with
  | some (a0, p0), some (a1, p1) => some (1, (stamp_Put_r2 a0 a1).pk (shiftR nx), nx + 1, shiftO nx (stamp_Put_o2 a0 a1) ++ o, p0 ++ (p1 ++ (stamp_Put_ps2 a0 a1)))
  | _, _ => none
 | _, _, _ => none
theorem stamp_Put_tok : TOk Try.prog 121 stamp_Put_t := fun args nx o k x nx' o' ps h => by
 unfold stamp_Put_t at h
 split at h <;> first | (cases h; done) | skip
 split at h <;> first | (cases h; done) | skip
 rename_i a0 p0 a1 p1 e0 e1
 cases h
 refine ⟨fun hp => ?_, _, rfl⟩
 have q0 := fun p hm => hp p (List.mem_append.2 (.inl hm))
 have r0 := fun p hm => hp p (List.mem_append.2 (.inr hm))
 have q1 := fun p hm => r0 p (List.mem_append.2 (.inl hm))
 have r1 := fun p hm => r0 p (List.mem_append.2 (.inr hm))
 refine callOk_args (callOk_shift (stamp_Put_c2 a0 a1 r1) (Nat.le_refl _) (freeL_cons (valA_free _ _) (freeL_cons (valA_free _ _) freeL_nil)) nx o) fun F N R vs hl => ?_
 obtain ⟨v0, w0, rfl, h0, hl⟩ := hl.inv
 obtain ⟨v1, w1, rfl, h1, hl⟩ := hl.inv
 exact HL.cons (argU_ok e0 q0 h0) (HL.cons (argU_ok e1 q1 h1) (hl))
noncomputable def Cd_5 := addC 121 stamp_Put_t Cd_4
theorem Cd_5_ok : COk Try.prog Cd_5 := addC_ok stamp_Put_tok Cd_4_ok
def vec_Put_k0 (a0 : List UInt8) (a1 : TVec) : List UInt8 := a0 ++ putN a1.1
def vec_Put_0 (a0 : List UInt8) (a1 : TVec) : List UInt8 := bif !vec_Good_0 a1 then [] ++ a0 else (vec_Put_k0 a0 a1) ++ putN a1.2
def vec_Put_r (_a0 : List UInt8) (_a1 : TVec) : A := .sq 0
def vec_Put_o (a0 : List UInt8) (a1 : TVec) : Objs := [(0, some (.arr 5 1 (.ty .u8 (vec_Put_0 a0 a1))))]
def vec_Put_ps (a0 : List UInt8) (a1 : TVec) : List Prop := [((!vec_Good_0 a1) = true → boundP ((0 : Nat) + a0.length)), ((!!vec_Good_0 a1) = true → boundP (a0.length + (8 : Nat))), ((!!vec_Good_0 a1) = true → boundP ((vec_Put_k0 a0 a1).length + (8 : Nat)))]
set_option maxRecDepth 100000 in
theorem vec_Put_ev (a0 : List UInt8) (a1 : TVec) : evF (envT Cd_5 L0) 9 120 [valA .bytes a0, valA .vec a1] 0 [] = some (1, vec_Put_r a0 a1, 1, vec_Put_o a0 a1, [((!vec_Good_0 a1) = true → boundP ((0 : Nat) + a0.length)), ((!!vec_Good_0 a1) = true → boundP (a0.length + (8 : Nat))), ((!!vec_Good_0 a1) = true → boundP ((vec_Put_k0 a0 a1).length + (8 : Nat)))]) := by kernel_rfl
set_option maxRecDepth 100000 in
theorem vec_Put_c (a0 : List UInt8) (a1 : TVec) (hp : ∀ p ∈ vec_Put_ps a0 a1, p) : CallOk Try.prog 120 [valA .bytes a0, valA .vec a1] 0 [] 1 (vec_Put_r a0 a1) 1 (vec_Put_o a0 a1) := by
 have n0 : ((!vec_Good_0 a1) = true → boundP ((0 : Nat) + a0.length)) := hp _ (List.mem_cons_self ..)
 have n1 : ((!!vec_Good_0 a1) = true → boundP (a0.length + (8 : Nat))) := hp _ (List.mem_cons_of_mem _ (List.mem_cons_self ..))
 have n2 : ((!!vec_Good_0 a1) = true → boundP ((vec_Put_k0 a0 a1).length + (8 : Nat))) := hp _ (List.mem_cons_of_mem _ (List.mem_cons_of_mem _ (List.mem_cons_self ..)))
 exact evF_ok (envP_ok Cd_5_ok L0_ok) (vec_Put_ev a0 a1) (needs_cons n0 (needs_cons n1 (needs_cons n2 needs_nil)))
def vec_Put_r2 (_a0 : List UInt8) (_a1 : TVec) : A := .sq 0
def vec_Put_o2 (a0 : List UInt8) (a1 : TVec) : Objs := [(0, some (.arr 5 1 (.ty .u8 (a0 ++ putV a1))))]
def vec_Put_ps2 (a0 : List UInt8) (_a1 : TVec) : List Prop := [boundP (a0.length + 16)]
theorem vec_Put_eq (a0 : List UInt8) (a1 : TVec) : vec_Put_0 a0 a1 = a0 ++ putV a1 := by
 unfold vec_Put_0 vec_Put_k0 putV
 rw [vec_Good_eq]
 cases goodV a1 with
 | false => exact (List.append_nil a0).symm
 | true => exact List.append_assoc ..
theorem vec_Put_c2 (a0 : List UInt8) (a1 : TVec) (hp : ∀ p ∈ vec_Put_ps2 a0 a1, p) : CallOk Try.prog 120 [valA .bytes a0, valA .vec a1] 0 [] 1 (vec_Put_r2 a0 a1) 1 (vec_Put_o2 a0 a1) := by
 have hb : boundP (a0.length + 16) := hp _ (List.mem_cons_self ..)
 have h := vec_Put_c a0 a1 (needs_cons (fun _ => by unfold boundP at *; omega) (needs_cons (fun _ => by unfold boundP at *; omega) (needs_cons (fun _ => by
  have := putN_8 a1.1
  unfold vec_Put_k0 boundP at *
  rw [List.length_append]
  omega) needs_nil)))
 have ho : vec_Put_o a0 a1 = vec_Put_o2 a0 a1 := by unfold vec_Put_o vec_Put_o2; rw [vec_Put_eq]
 rw [ho] at h
 exact h
def vec_Put_t : List A → Nat → Objs → Option CRes
 | [y0, y1], nx, o => match argU .bytes y0, argU .vec y1 with
  | some (a0, p0), some (a1, p1) => some (1, (vec_Put_r2 a0 a1).pk (shiftR nx), nx + 1, shiftO nx (vec_Put_o2 a0 a1) ++ o, p0 ++ (p1 ++ (vec_Put_ps2 a0 a1)))
  | _, _ => none
 | _, _, _ => none
theorem vec_Put_tok : TOk Try.prog 120 vec_Put_t := fun args nx o k x nx' o' ps h => by
 unfold vec_Put_t at h
 split at h <;> first | (cases h; done) | skip
 split at h <;> first | (cases h; done) | skip
 rename_i a0 p0 a1 p1 e0 e1
 cases h
 refine ⟨fun hp => ?_, _, rfl⟩
 have q0 := fun p hm => hp p (List.mem_append.2 (.inl hm))
 have r0 := fun p hm => hp p (List.mem_append.2 (.inr hm))
 have q1 := fun p hm => r0 p (List.mem_append.2 (.inl hm))
 have r1 := fun p hm => r0 p (List.mem_append.2 (.inr hm))
 refine callOk_args (callOk_shift (vec_Put_c2 a0 a1 r1) (Nat.le_refl _) (freeL_cons (valA_free _ _) (freeL_cons (valA_free _ _) freeL_nil)) nx o) fun F N R vs hl => ?_
 obtain ⟨v0, w0, rfl, h0, hl⟩ := hl.inv
 obtain ⟨v1, w1, rfl, h1, hl⟩ := hl.inv
 exact HL.cons (argU_ok e0 q0 h0) (HL.cons (argU_ok e1 q1 h1) (hl))
noncomputable def Cd_6 := addC 120 vec_Put_t Cd_5
theorem Cd_6_ok : COk Try.prog Cd_6 := addC_ok vec_Put_tok Cd_5_ok
def num_PutText_k0 (a0 : List UInt8) (a1 : ByteArray) : List UInt8 := a0 ++ putN (↑a1.size : Int)
def num_PutText_0 (a0 : List UInt8) (a1 : ByteArray) : List UInt8 := (num_PutText_k0 a0 a1) ++ a1.data.toList
def num_PutText_r (_a0 : List UInt8) (_a1 : ByteArray) : A := .sq 0
def num_PutText_o (a0 : List UInt8) (a1 : ByteArray) : Objs := [(0, some (.arr 5 1 (.ty .u8 (num_PutText_0 a0 a1))))]
def num_PutText_ps (a0 : List UInt8) (a1 : ByteArray) : List Prop := [(boundP (a0.length + (8 : Nat))), (boundP ((num_PutText_k0 a0 a1).length + a1.data.toList.length))]
set_option maxRecDepth 100000 in
theorem num_PutText_ev (a0 : List UInt8) (a1 : ByteArray) : evF (envT Cd_6 L0) 9 122 [valA .bytes a0, valA .str a1] 0 [] = some (1, num_PutText_r a0 a1, 1, num_PutText_o a0 a1, [(boundP (a0.length + (8 : Nat))), (boundP ((num_PutText_k0 a0 a1).length + a1.data.toList.length))]) := by kernel_rfl
set_option maxRecDepth 100000 in
theorem num_PutText_c (a0 : List UInt8) (a1 : ByteArray) (hp : ∀ p ∈ num_PutText_ps a0 a1, p) : CallOk Try.prog 122 [valA .bytes a0, valA .str a1] 0 [] 1 (num_PutText_r a0 a1) 1 (num_PutText_o a0 a1) := by
 have n0 : (boundP (a0.length + (8 : Nat))) := hp _ (List.mem_cons_self ..)
 have n1 : (boundP ((num_PutText_k0 a0 a1).length + a1.data.toList.length)) := hp _ (List.mem_cons_of_mem _ (List.mem_cons_self ..))
 exact evF_ok (envP_ok Cd_6_ok L0_ok) (num_PutText_ev a0 a1) (needs_cons n0 (needs_cons n1 needs_nil))
def num_PutText_r2 (_a0 : List UInt8) (_a1 : ByteArray) : A := .sq 0
def num_PutText_o2 (a0 : List UInt8) (a1 : ByteArray) : Objs := [(0, some (.arr 5 1 (.ty .u8 (a0 ++ putT a1))))]
def num_PutText_ps2 (a0 : List UInt8) (a1 : ByteArray) : List Prop := [boundP (a0.length + 8 + a1.size)]
theorem num_PutText_c2 (a0 : List UInt8) (a1 : ByteArray) (hp : ∀ p ∈ num_PutText_ps2 a0 a1, p) : CallOk Try.prog 122 [valA .bytes a0, valA .str a1] 0 [] 1 (num_PutText_r2 a0 a1) 1 (num_PutText_o2 a0 a1) := by
 have hb : boundP (a0.length + 8 + a1.size) := hp _ (List.mem_cons_self ..)
 have h := num_PutText_c a0 a1 (needs_cons (by unfold boundP at *; omega) (needs_cons (by
  have := putN_8 (a1.size : Int)
  have hs : a1.data.toList.length = a1.size := Array.length_toList
  unfold num_PutText_k0 boundP at *
  rw [List.length_append, hs]
  omega) needs_nil))
 have ho : num_PutText_o a0 a1 = num_PutText_o2 a0 a1 := by unfold num_PutText_o num_PutText_o2 num_PutText_0 num_PutText_k0 putT; rw [List.append_assoc]
 rw [ho] at h
 exact h
def num_PutText_t : List A → Nat → Objs → Option CRes
 | [y0, y1], nx, o => match argU .bytes y0, argU .str y1 with
  | some (a0, p0), some (a1, p1) => some (1, (num_PutText_r2 a0 a1).pk (shiftR nx), nx + 1, shiftO nx (num_PutText_o2 a0 a1) ++ o, p0 ++ (p1 ++ (num_PutText_ps2 a0 a1)))
  | _, _ => none
 | _, _, _ => none
theorem num_PutText_tok : TOk Try.prog 122 num_PutText_t := fun args nx o k x nx' o' ps h => by
 unfold num_PutText_t at h
 split at h <;> first | (cases h; done) | skip
 split at h <;> first | (cases h; done) | skip
 rename_i a0 p0 a1 p1 e0 e1
 cases h
 refine ⟨fun hp => ?_, _, rfl⟩
 have q0 := fun p hm => hp p (List.mem_append.2 (.inl hm))
 have r0 := fun p hm => hp p (List.mem_append.2 (.inr hm))
 have q1 := fun p hm => r0 p (List.mem_append.2 (.inl hm))
 have r1 := fun p hm => r0 p (List.mem_append.2 (.inr hm))
 refine callOk_args (callOk_shift (num_PutText_c2 a0 a1 r1) (Nat.le_refl _) (freeL_cons (valA_free _ _) (freeL_cons (valA_free _ _) freeL_nil)) nx o) fun F N R vs hl => ?_
 obtain ⟨v0, w0, rfl, h0, hl⟩ := hl.inv
 obtain ⟨v1, w1, rfl, h1, hl⟩ := hl.inv
 exact HL.cons (argU_ok e0 q0 h0) (HL.cons (argU_ok e1 q1 h1) (hl))
noncomputable def Cd_7 := addC 122 num_PutText_t Cd_6
theorem Cd_7_ok : COk Try.prog Cd_7 := addC_ok num_PutText_tok Cd_6_ok
def cell_Put_k4 (_a0 : List UInt8) (_a1 : Int) (a2 : TCell) : Int := bif a2.3 then IntKind.i64.wrap (↑(BitVec.ofInt (64 : Nat) (bif cell_written_0 a2 then (1 : Int) else (0 : Int)) ||| BitVec.ofInt (64 : Nat) (2 : Int)).toNat : Int) else bif cell_written_0 a2 then (1 : Int) else (0 : Int)
def cell_Put_k3 (a0 : List UInt8) (a1 : Int) (a2 : TCell) : List UInt8 := a0 ++ putN (bif !(a2.5.1 == (0 : Int) && a2.5.2 == (0 : Int)) then IntKind.i64.wrap (↑(BitVec.ofInt (64 : Nat) (cell_Put_k4 a0 a1 a2) ||| BitVec.ofInt (64 : Nat) (4 : Int)).toNat : Int) else (cell_Put_k4 a0 a1 a2)) ++ putS a2.1
def cell_Put_k2 (a0 : List UInt8) (a1 : Int) (a2 : TCell) : Bool := decide (IntKind.i64.wrap (↑(BitVec.ofInt (64 : Nat) (bif !(a2.5.1 == (0 : Int) && a2.5.2 == (0 : Int)) then IntKind.i64.wrap (↑(BitVec.ofInt (64 : Nat) (cell_Put_k4 a0 a1 a2) ||| BitVec.ofInt (64 : Nat) (4 : Int)).toNat : Int) else (cell_Put_k4 a0 a1 a2)) &&& BitVec.ofInt (64 : Nat) (1 : Int)).toNat : Int) > (0 : Int))
def cell_Put_k1 (a0 : List UInt8) (a1 : Int) (a2 : TCell) : Bool := decide (IntKind.i64.wrap (↑(BitVec.ofInt (64 : Nat) (bif !(a2.5.1 == (0 : Int) && a2.5.2 == (0 : Int)) then IntKind.i64.wrap (↑(BitVec.ofInt (64 : Nat) (cell_Put_k4 a0 a1 a2) ||| BitVec.ofInt (64 : Nat) (4 : Int)).toNat : Int) else (cell_Put_k4 a0 a1 a2)) &&& BitVec.ofInt (64 : Nat) (4 : Int)).toNat : Int) > (0 : Int))
def cell_Put_k0 (a0 : List UInt8) (a1 : Int) (a2 : TCell) : List UInt8 := bif (cell_Put_k2 a0 a1 a2) then bif !a2.3 then (cell_Put_k3 a0 a1 a2) ++ putV a2.2 ++ putT a2.4 else (cell_Put_k3 a0 a1 a2) ++ putV a2.2 else a0 ++ putN (bif !(a2.5.1 == (0 : Int) && a2.5.2 == (0 : Int)) then IntKind.i64.wrap (↑(BitVec.ofInt (64 : Nat) (cell_Put_k4 a0 a1 a2) ||| BitVec.ofInt (64 : Nat) (4 : Int)).toNat : Int) else (cell_Put_k4 a0 a1 a2))
def cell_Put_0 (a0 : List UInt8) (a1 : Int) (a2 : TCell) : List UInt8 := bif !cell_Good_0 a1 a2 then [] ++ a0 else bif (cell_Put_k1 a0 a1 a2) then (cell_Put_k0 a0 a1 a2) ++ putV (TVec.mk (bif (cell_Put_k2 a0 a1 a2) then bif !a2.3 then a2.5.1 else a2.5.1 else a2.5.1) (bif (cell_Put_k2 a0 a1 a2) then bif !a2.3 then a2.5.2 else a2.5.2 else a2.5.2)) else (cell_Put_k0 a0 a1 a2)
def cell_Put_r (_a0 : List UInt8) (_a1 : Int) (_a2 : TCell) : A := .sq 0
def cell_Put_o (a0 : List UInt8) (a1 : Int) (a2 : TCell) : Objs := [(0, some (.arr 5 1 (.ty .u8 (cell_Put_0 a0 a1 a2))))]
def cell_Put_ps (a0 : List UInt8) (a1 : Int) (a2 : TCell) : List Prop := [((!cell_Good_0 a1 a2) = true → boundP ((0 : Nat) + a0.length)), ((!!cell_Good_0 a1 a2) = true → boundP (a0.length + (8 : Nat))), ((!!cell_Good_0 a1 a2) = true → (cell_Put_k2 a0 a1 a2) = true → boundP ((a0 ++ putN (bif !(a2.5.1 == (0 : Int) && a2.5.2 == (0 : Int)) then IntKind.i64.wrap (↑(BitVec.ofInt (64 : Nat) (cell_Put_k4 a0 a1 a2) ||| BitVec.ofInt (64 : Nat) (4 : Int)).toNat : Int) else (cell_Put_k4 a0 a1 a2))).length + (8 : Nat))), ((!!cell_Good_0 a1 a2) = true → (cell_Put_k2 a0 a1 a2) = true → boundP ((cell_Put_k3 a0 a1 a2).length + (16 : Nat))), ((!!cell_Good_0 a1 a2) = true → (cell_Put_k2 a0 a1 a2) = true → (!a2.3) = true → boundP (((cell_Put_k3 a0 a1 a2) ++ putV a2.2).length + (8 : Nat) + a2.4.size)), ((!!cell_Good_0 a1 a2) = true → (cell_Put_k1 a0 a1 a2) = true → boundP ((cell_Put_k0 a0 a1 a2).length + (16 : Nat)))]
set_option maxRecDepth 100000 in
theorem cell_Put_ev (a0 : List UInt8) (a1 : Int) (a2 : TCell) : evF (envT Cd_7 L0) 9 56 [valA .bytes a0, valA .i64 a1, valA .cell a2] 0 [] = some (1, cell_Put_r a0 a1 a2, 1, cell_Put_o a0 a1 a2, [((!cell_Good_0 a1 a2) = true → boundP ((0 : Nat) + a0.length)), ((!!cell_Good_0 a1 a2) = true → boundP (a0.length + (8 : Nat))), ((!!cell_Good_0 a1 a2) = true → (cell_Put_k2 a0 a1 a2) = true → boundP ((a0 ++ putN (bif !(a2.5.1 == (0 : Int) && a2.5.2 == (0 : Int)) then IntKind.i64.wrap (↑(BitVec.ofInt (64 : Nat) (cell_Put_k4 a0 a1 a2) ||| BitVec.ofInt (64 : Nat) (4 : Int)).toNat : Int) else (cell_Put_k4 a0 a1 a2))).length + (8 : Nat))), ((!!cell_Good_0 a1 a2) = true → (cell_Put_k2 a0 a1 a2) = true → boundP ((cell_Put_k3 a0 a1 a2).length + (16 : Nat))), ((!!cell_Good_0 a1 a2) = true → (cell_Put_k2 a0 a1 a2) = true → (!a2.3) = true → boundP (((cell_Put_k3 a0 a1 a2) ++ putV a2.2).length + (8 : Nat) + a2.4.size)), ((!!cell_Good_0 a1 a2) = true → (cell_Put_k1 a0 a1 a2) = true → boundP ((cell_Put_k0 a0 a1 a2).length + (16 : Nat)))]) := by kernel_rfl
set_option maxRecDepth 100000 in
theorem cell_Put_c (a0 : List UInt8) (a1 : Int) (a2 : TCell) (hp : ∀ p ∈ cell_Put_ps a0 a1 a2, p) : CallOk Try.prog 56 [valA .bytes a0, valA .i64 a1, valA .cell a2] 0 [] 1 (cell_Put_r a0 a1 a2) 1 (cell_Put_o a0 a1 a2) := by
 have n0 : ((!cell_Good_0 a1 a2) = true → boundP ((0 : Nat) + a0.length)) := hp _ (List.mem_cons_self ..)
 have n1 : ((!!cell_Good_0 a1 a2) = true → boundP (a0.length + (8 : Nat))) := hp _ (List.mem_cons_of_mem _ (List.mem_cons_self ..))
 have n2 : ((!!cell_Good_0 a1 a2) = true → (cell_Put_k2 a0 a1 a2) = true → boundP ((a0 ++ putN (bif !(a2.5.1 == (0 : Int) && a2.5.2 == (0 : Int)) then IntKind.i64.wrap (↑(BitVec.ofInt (64 : Nat) (cell_Put_k4 a0 a1 a2) ||| BitVec.ofInt (64 : Nat) (4 : Int)).toNat : Int) else (cell_Put_k4 a0 a1 a2))).length + (8 : Nat))) := hp _ (List.mem_cons_of_mem _ (List.mem_cons_of_mem _ (List.mem_cons_self ..)))
 have n3 : ((!!cell_Good_0 a1 a2) = true → (cell_Put_k2 a0 a1 a2) = true → boundP ((cell_Put_k3 a0 a1 a2).length + (16 : Nat))) := hp _ (List.mem_cons_of_mem _ (List.mem_cons_of_mem _ (List.mem_cons_of_mem _ (List.mem_cons_self ..))))
 have n4 : ((!!cell_Good_0 a1 a2) = true → (cell_Put_k2 a0 a1 a2) = true → (!a2.3) = true → boundP (((cell_Put_k3 a0 a1 a2) ++ putV a2.2).length + (8 : Nat) + a2.4.size)) := hp _ (List.mem_cons_of_mem _ (List.mem_cons_of_mem _ (List.mem_cons_of_mem _ (List.mem_cons_of_mem _ (List.mem_cons_self ..)))))
 have n5 : ((!!cell_Good_0 a1 a2) = true → (cell_Put_k1 a0 a1 a2) = true → boundP ((cell_Put_k0 a0 a1 a2).length + (16 : Nat))) := hp _ (List.mem_cons_of_mem _ (List.mem_cons_of_mem _ (List.mem_cons_of_mem _ (List.mem_cons_of_mem _ (List.mem_cons_of_mem _ (List.mem_cons_self ..))))))
 exact evF_ok (envP_ok Cd_7_ok L0_ok) (cell_Put_ev a0 a1 a2) (needs_cons n0 (needs_cons n1 (needs_cons n2 (needs_cons n3 (needs_cons n4 (needs_cons n5 needs_nil))))))
def cell_Put_r2 (_a0 : List UInt8) (_a1 : Int) (_a2 : TCell) : A := .sq 0
def cell_Put_o2 (a0 : List UInt8) (a1 : Int) (a2 : TCell) : Objs := [(0, some (.arr 5 1 (.ty .u8 (a0 ++ putC a1 a2))))]
def cell_Put_ps2 (a0 : List UInt8) (_a1 : Int) (_a2 : TCell) : List Prop := [boundP (a0.length + 128)]
theorem cell_Put_n (a0 : List UInt8) (a1 : Int) (c : TCell) : (bif !(c.5.1 == (0 : Int) && c.5.2 == (0 : Int)) then IntKind.i64.wrap (↑(BitVec.ofInt (64 : Nat) (cell_Put_k4 a0 a1 c) ||| BitVec.ofInt (64 : Nat) (4 : Int)).toNat : Int) else (cell_Put_k4 a0 a1 c)) = flagsC c := by
 unfold cell_Put_k4 flagsC
 rw [cell_written_eq]
 show (bif !(zeroV c.dead) then _ else _) = _
 cases written c <;> cases c.gone <;> cases zeroV c.dead <;> rfl
theorem cell_Put_b1 (a0 : List UInt8) (a1 : Int) (c : TCell) : cell_Put_k2 a0 a1 c = written c := by
 unfold cell_Put_k2
 obtain ⟨h1, _, h3, _⟩ := flags_ok c
 rw [cell_Put_n, bit_pos h1 0 1 rfl (by decide)]
 exact h3
theorem cell_Put_b4 (a0 : List UInt8) (a1 : Int) (c : TCell) : cell_Put_k1 a0 a1 c = !zeroV c.dead := by
 unfold cell_Put_k1
 obtain ⟨h1, _, _, _, h5⟩ := flags_ok c
 rw [cell_Put_n, bit_pos h1 2 4 rfl (by decide)]
 exact h5
theorem cell_Put_eq (a0 : List UInt8) (a1 : Int) (c : TCell) : cell_Put_0 a0 a1 c = a0 ++ putC a1 c := by
 unfold cell_Put_0 cell_Put_k0 cell_Put_k3 putC bodyC
 rw [cell_Good_eq, cell_Put_n, cell_Put_b1, cell_Put_b4]
 have hd : ∀ w g : Bool, (TVec.mk (bif w then bif !g then c.5.1 else c.5.1 else c.5.1) (bif w then bif !g then c.5.2 else c.5.2 else c.5.2)) = c.dead := by intro w g; cases w <;> cases g <;> rfl
 rw [hd]
 cases goodC a1 c <;> cases written c <;> cases c.gone <;> cases zeroV c.dead <;> simp
theorem cell_Put_c2 (a0 : List UInt8) (a1 : Int) (a2 : TCell) (hp : ∀ p ∈ cell_Put_ps2 a0 a1 a2, p) : CallOk Try.prog 56 [valA .bytes a0, valA .i64 a1, valA .cell a2] 0 [] 1 (cell_Put_r2 a0 a1 a2) 1 (cell_Put_o2 a0 a1 a2) := by
 have hb : boundP (a0.length + 128) := hp _ (List.mem_cons_self ..)
 unfold boundP at hb
 have n8 := putN_8 (flagsC a2)
 have s8 := putS_8 a2.stamp
 have v16 := putV_16 a2.vec
 have t8 := putT_8 a2.value
 have k3 : (cell_Put_k3 a0 a1 a2).length ≤ a0.length + 16 := by
  unfold cell_Put_k3
  rw [cell_Put_n, List.length_append, List.length_append]
  omega
 have sz : (!!cell_Good_0 a1 a2) = true → cell_Put_k2 a0 a1 a2 = true → a2.value.size ≤ 64 := fun h1 h2 => by
  rw [cell_Good_eq, Bool.not_not] at h1
  rw [cell_Put_b1] at h2
  have := ((goodC_iff.1 h1).st h2).2.2.2.1
  omega
 have h := cell_Put_c a0 a1 a2 (needs_cons (fun _ => by unfold boundP; omega) (needs_cons (fun _ => by unfold boundP; omega) (needs_cons (fun _ _ => by rw [cell_Put_n, List.length_append]; unfold boundP; omega) (needs_cons (fun _ _ => by unfold boundP; omega) (needs_cons (fun h1 h2 _ => by
   have := sz h1 h2
   rw [List.length_append]; unfold boundP; omega) (needs_cons (fun h1 _ => by
   have : (cell_Put_k0 a0 a1 a2).length ≤ a0.length + 112 := by
    unfold cell_Put_k0
    rw [cell_Put_n]
    cases hw : cell_Put_k2 a0 a1 a2 with
    | false => rw [cond_false, List.length_append]; omega
    | true =>
     have := sz h1 hw
     rw [cond_true]
     cases a2.3 with
     | true => simp only [Bool.not_true, cond_false, List.length_append]; omega
     | false => simp only [Bool.not_false, cond_true, List.length_append]; omega
   unfold boundP; omega) needs_nil))))))
 have ho : cell_Put_o a0 a1 a2 = cell_Put_o2 a0 a1 a2 := by unfold cell_Put_o cell_Put_o2; rw [cell_Put_eq]
 rw [ho] at h
 exact h
def cell_Put_t : List A → Nat → Objs → Option CRes
 | [y0, y1, y2], nx, o => match argU .bytes y0, argU .i64 y1, argU .cell y2 with
  | some (a0, p0), some (a1, p1), some (a2, p2) => some (1, (cell_Put_r2 a0 a1 a2).pk (shiftR nx), nx + 1, shiftO nx (cell_Put_o2 a0 a1 a2) ++ o, p0 ++ (p1 ++ (p2 ++ (cell_Put_ps2 a0 a1 a2))))
  | _, _, _ => none
 | _, _, _ => none
theorem cell_Put_tok : TOk Try.prog 56 cell_Put_t := fun args nx o k x nx' o' ps h => by
 unfold cell_Put_t at h
 split at h <;> first | (cases h; done) | skip
 split at h <;> first | (cases h; done) | skip
 rename_i a0 p0 a1 p1 a2 p2 e0 e1 e2
 cases h
 refine ⟨fun hp => ?_, _, rfl⟩
 have q0 := fun p hm => hp p (List.mem_append.2 (.inl hm))
 have r0 := fun p hm => hp p (List.mem_append.2 (.inr hm))
 have q1 := fun p hm => r0 p (List.mem_append.2 (.inl hm))
 have r1 := fun p hm => r0 p (List.mem_append.2 (.inr hm))
 have q2 := fun p hm => r1 p (List.mem_append.2 (.inl hm))
 have r2 := fun p hm => r1 p (List.mem_append.2 (.inr hm))
 refine callOk_args (callOk_shift (cell_Put_c2 a0 a1 a2 r2) (Nat.le_refl _) (freeL_cons (valA_free _ _) (freeL_cons (valA_free _ _) (freeL_cons (valA_free _ _) freeL_nil))) nx o) fun F N R vs hl => ?_
 obtain ⟨v0, w0, rfl, h0, hl⟩ := hl.inv
 obtain ⟨v1, w1, rfl, h1, hl⟩ := hl.inv
 obtain ⟨v2, w2, rfl, h2, hl⟩ := hl.inv
 exact HL.cons (argU_ok e0 q0 h0) (HL.cons (argU_ok e1 q1 h1) (HL.cons (argU_ok e2 q2 h2) (hl)))
noncomputable def Cd_8 := addC 56 cell_Put_t Cd_7
theorem Cd_8_ok : COk Try.prog Cd_8 := addC_ok cell_Put_tok Cd_7_ok
def stamp_Get_k2 (a0 : List UInt8) : Bool := (getN a0).fst == (0 : Int)
def stamp_Get_k1 (a0 : List UInt8) : Bool := (getN a0).snd.snd != (0 : Int)
def stamp_Get_k0 (a0 : List UInt8) : Bool := !stamp_Good_0 (TStamp.mk ((getN a0).fst.fdiv (2 : Int)) (IntKind.i64.wrap (IntKind.i64.wrap (↑(BitVec.ofInt (64 : Nat) (getN a0).fst &&& BitVec.ofInt (64 : Nat) (1 : Int)).toNat : Int) + (1 : Int))))
def stamp_Get_0 (a0 : List UInt8) : TStamp := TStamp.mk (bif (stamp_Get_k1 a0) then (0 : Int) else bif (stamp_Get_k2 a0) then (0 : Int) else bif (stamp_Get_k0 a0) then (0 : Int) else (getN a0).fst.fdiv (2 : Int)) (bif (stamp_Get_k1 a0) then (0 : Int) else bif (stamp_Get_k2 a0) then (0 : Int) else bif (stamp_Get_k0 a0) then (0 : Int) else IntKind.i64.wrap (IntKind.i64.wrap (↑(BitVec.ofInt (64 : Nat) (getN a0).fst &&& BitVec.ofInt (64 : Nat) (1 : Int)).toNat : Int) + (1 : Int)))
def stamp_Get_1 (a0 : List UInt8) : Int := bif (stamp_Get_k1 a0) then (0 : Int) else bif (stamp_Get_k2 a0) then (getN a0).snd.fst else bif (stamp_Get_k0 a0) then (0 : Int) else (getN a0).snd.fst
def stamp_Get_2 (a0 : List UInt8) : Int := bif (stamp_Get_k1 a0) then (getN a0).snd.snd else bif (stamp_Get_k2 a0) then (0 : Int) else bif (stamp_Get_k0 a0) then (11 : Int) else (0 : Int)
def stamp_Get_r (a0 : List UInt8) : A := .v (.tuple ⟨[.agg ⟨[.int .i64 ((stamp_Get_0 a0).n), .int .i64 ((stamp_Get_0 a0).site)]⟩, .int .i64 (stamp_Get_1 a0), .int .i64 (stamp_Get_2 a0)]⟩)
def stamp_Get_o (_a0 : List UInt8) : Objs := []
def stamp_Get_ps (_a0 : List UInt8) : List Prop := []
set_option maxRecDepth 100000 in
theorem stamp_Get_ev (a0 : List UInt8) : evF (envT Cd_8 L0) 9 115 [valA .bytes a0] 0 [] = some (1, stamp_Get_r a0, 0, stamp_Get_o a0, []) := by kernel_rfl
set_option maxRecDepth 100000 in
theorem stamp_Get_c (a0 : List UInt8) (_hp : ∀ p ∈ stamp_Get_ps a0, p) : CallOk Try.prog 115 [valA .bytes a0] 0 [] 1 (stamp_Get_r a0) 0 (stamp_Get_o a0) := by
 exact evF_ok (envP_ok Cd_8_ok L0_ok) (stamp_Get_ev a0) needs_nil
def stamp_Get_r2 (a0 : List UInt8) : A := .v (.tuple ⟨[.agg ⟨[.int .i64 (getS a0).1.n, .int .i64 (getS a0).1.site]⟩, .int .i64 (getS a0).2.1, .int .i64 (getS a0).2.2]⟩)
def stamp_Get_o2 (_a0 : List UInt8) : Objs := []
def stamp_Get_ps2 (_a0 : List UInt8) : List Prop := []
theorem stamp_Get_eq (b : List UInt8) : (stamp_Get_0 b, stamp_Get_1 b, stamp_Get_2 b) = getS b := by
 obtain ⟨_, _, _, hn0, hn1⟩ := getN_bounds b
 have hok : okN (getN b).1 := ⟨hn0, hn1⟩
 unfold stamp_Get_0 stamp_Get_1 stamp_Get_2 stamp_Get_k0 stamp_Get_k1 stamp_Get_k2 getS decS
 rw [bit_low hok, stamp_Good_eq, Int.fdiv_eq_ediv_of_nonneg _ (by decide)]
 by_cases he : (getN b).2.2 = 0
 ·have e1 : ((getN b).2.2 != (0 : Int)) = false := by rw [he]; rfl
  rw [e1, if_neg (by rw [he]; simp)]
  by_cases hz : (getN b).1 = 0
  ·have e2 : ((getN b).1 == (0 : Int)) = true := by rw [hz]; rfl
   rw [e2, if_pos hz]
   rfl
  ·have e2 : ((getN b).1 == (0 : Int)) = false := by simpa using hz
   rw [e2, if_neg hz]
   cases hg : goodS ⟨(getN b).1 / 2, 1 + (getN b).1 % 2⟩ with
   | true => rfl
   | false => rfl
 ·have e1 : ((getN b).2.2 != (0 : Int)) = true := by simpa using he
  rw [e1, if_pos he]
  rfl
theorem stamp_Get_c2 (a0 : List UInt8) (_hp : ∀ p ∈ stamp_Get_ps2 a0, p) : CallOk Try.prog 115 [valA .bytes a0] 0 [] 1 (stamp_Get_r2 a0) 0 (stamp_Get_o2 a0) := by
 have h := stamp_Get_c a0 needs_nil
 have hr : stamp_Get_r a0 = stamp_Get_r2 a0 := by unfold stamp_Get_r stamp_Get_r2; rw [← stamp_Get_eq]
 rw [hr] at h
 exact h
def stamp_Get_t : List A → Nat → Objs → Option CRes
 | [y0], nx, o => match argU .bytes y0 with
  | some (a0, p0) => some (1, (stamp_Get_r2 a0).pk (shiftR nx), nx + 0, shiftO nx (stamp_Get_o2 a0) ++ o, p0 ++ (stamp_Get_ps2 a0))
  | _ => none
 | _, _, _ => none
theorem stamp_Get_tok : TOk Try.prog 115 stamp_Get_t := fun args nx o k x nx' o' ps h => by
 unfold stamp_Get_t at h
 split at h <;> first | (cases h; done) | skip
 split at h <;> first | (cases h; done) | skip
 rename_i a0 p0 e0
 cases h
 refine ⟨fun hp => ?_, _, rfl⟩
 have q0 := fun p hm => hp p (List.mem_append.2 (.inl hm))
 have r0 := fun p hm => hp p (List.mem_append.2 (.inr hm))
 refine callOk_args (callOk_shift (stamp_Get_c2 a0 r0) (Nat.le_refl _) (freeL_cons (valA_free _ _) freeL_nil) nx o) fun F N R vs hl => ?_
 obtain ⟨v0, w0, rfl, h0, hl⟩ := hl.inv
 exact HL.cons (argU_ok e0 q0 h0) (hl)
noncomputable def Cd_9 := addC 115 stamp_Get_t Cd_8
theorem Cd_9_ok : COk Try.prog Cd_9 := addC_ok stamp_Get_tok Cd_8_ok
def vec_Get_k5 (a0 : List UInt8) : Bool := (getN (List.take ((↑a0.length : Int).toNat - (0 : Nat)) (List.drop (0 : Nat) a0))).snd.snd != (0 : Int)
def vec_Get_k4 (a0 : List UInt8) : Int := IntKind.i64.wrap ((0 : Int) + (getN (List.take ((↑a0.length : Int).toNat - (0 : Nat)) (List.drop (0 : Nat) a0))).snd.fst)
def vec_Get_k3 (a0 : List UInt8) : Int := bif (vec_Get_k5 a0) then (0 : Int) else (0 : Int)
def vec_Get_k2 (a0 : List UInt8) : Int := (getN (List.take ((↑a0.length : Int).toNat - (vec_Get_k4 a0).toNat) (List.drop (vec_Get_k4 a0).toNat a0))).snd.snd
def vec_Get_k1 (a0 : List UInt8) : Bool := !vec_Good_0 (TVec.mk (getN (List.take ((↑a0.length : Int).toNat - (0 : Nat)) (List.drop (0 : Nat) a0))).fst (getN (List.take ((↑a0.length : Int).toNat - (vec_Get_k4 a0).toNat) (List.drop (vec_Get_k4 a0).toNat a0))).fst)
def vec_Get_k0 (a0 : List UInt8) : Bool := (vec_Get_k5 a0) || (vec_Get_k2 a0) != (0 : Int)
def vec_Get_0 (a0 : List UInt8) : TVec := TVec.mk (bif (vec_Get_k0 a0) then (vec_Get_k3 a0) else bif (vec_Get_k1 a0) then (0 : Int) else (getN (List.take ((↑a0.length : Int).toNat - (0 : Nat)) (List.drop (0 : Nat) a0))).fst) (bif (vec_Get_k0 a0) then (vec_Get_k3 a0) else bif (vec_Get_k1 a0) then (0 : Int) else (getN (List.take ((↑a0.length : Int).toNat - (vec_Get_k4 a0).toNat) (List.drop (vec_Get_k4 a0).toNat a0))).fst)
def vec_Get_1 (a0 : List UInt8) : Int := bif (vec_Get_k0 a0) then (vec_Get_k3 a0) else bif (vec_Get_k1 a0) then (0 : Int) else IntKind.i64.wrap ((vec_Get_k4 a0) + (getN (List.take ((↑a0.length : Int).toNat - (vec_Get_k4 a0).toNat) (List.drop (vec_Get_k4 a0).toNat a0))).snd.fst)
def vec_Get_2 (a0 : List UInt8) : Int := bif (vec_Get_k0 a0) then bif (vec_Get_k5 a0) then (getN (List.take ((↑a0.length : Int).toNat - (0 : Nat)) (List.drop (0 : Nat) a0))).snd.snd else (vec_Get_k2 a0) else bif (vec_Get_k1 a0) then (11 : Int) else (0 : Int)
def vec_Get_r (a0 : List UInt8) : A := .v (.tuple ⟨[.agg ⟨[.int .i64 ((vec_Get_0 a0).a), .int .i64 ((vec_Get_0 a0).b)]⟩, .int .i64 (vec_Get_1 a0), .int .i64 (vec_Get_2 a0)]⟩)
def vec_Get_o (_a0 : List UInt8) : Objs := []
def vec_Get_ps (a0 : List UInt8) : List Prop := [((!(vec_Get_k5 a0)) = true → (0 : Int) ≤ (vec_Get_k4 a0) ∧ (vec_Get_k4 a0) ≤ (↑a0.length : Int) ∧ (↑a0.length : Int) ≤ (↑a0.length : Int))]
set_option maxRecDepth 100000 in
theorem vec_Get_ev (a0 : List UInt8) : evF (envT Cd_9 L0) 9 116 [valA .bytes a0] 0 [] = some (1, vec_Get_r a0, 0, vec_Get_o a0, [((0 : Int) ≤ (0 : Int) ∧ (0 : Int) ≤ (↑a0.length : Int) ∧ (↑a0.length : Int) ≤ (↑a0.length : Int)), ((!(vec_Get_k5 a0)) = true → (0 : Int) ≤ (0 : Int) ∧ (0 : Int) < (2 : Int)), ((!(vec_Get_k5 a0)) = true → (0 : Nat) < (2 : Nat)), ((!(vec_Get_k5 a0)) = true → (0 : Int) ≤ (vec_Get_k4 a0) ∧ (vec_Get_k4 a0) ≤ (↑a0.length : Int) ∧ (↑a0.length : Int) ≤ (↑a0.length : Int)), ((!(vec_Get_k5 a0)) = true → (!(vec_Get_k2 a0) != (0 : Int)) = true → (0 : Int) ≤ (1 : Int) ∧ (1 : Int) < (2 : Int)), ((!(vec_Get_k5 a0)) = true → (!(vec_Get_k2 a0) != (0 : Int)) = true → (1 : Nat) < (2 : Nat))]) := by kernel_rfl
set_option maxRecDepth 100000 in
theorem vec_Get_c (a0 : List UInt8) (hp : ∀ p ∈ vec_Get_ps a0, p) : CallOk Try.prog 116 [valA .bytes a0] 0 [] 1 (vec_Get_r a0) 0 (vec_Get_o a0) := by
 have n0 : ((0 : Int) ≤ (0 : Int) ∧ (0 : Int) ≤ (↑a0.length : Int) ∧ (↑a0.length : Int) ≤ (↑a0.length : Int)) := by omega
 have n1 : ((!(vec_Get_k5 a0)) = true → (0 : Int) ≤ (0 : Int) ∧ (0 : Int) < (2 : Int)) := by omega
 have n2 : ((!(vec_Get_k5 a0)) = true → (0 : Nat) < (2 : Nat)) := by omega
 have n3 : ((!(vec_Get_k5 a0)) = true → (0 : Int) ≤ (vec_Get_k4 a0) ∧ (vec_Get_k4 a0) ≤ (↑a0.length : Int) ∧ (↑a0.length : Int) ≤ (↑a0.length : Int)) := hp _ (List.mem_cons_self ..)
 have n4 : ((!(vec_Get_k5 a0)) = true → (!(vec_Get_k2 a0) != (0 : Int)) = true → (0 : Int) ≤ (1 : Int) ∧ (1 : Int) < (2 : Int)) := by omega
 have n5 : ((!(vec_Get_k5 a0)) = true → (!(vec_Get_k2 a0) != (0 : Int)) = true → (1 : Nat) < (2 : Nat)) := by omega
 exact evF_ok (envP_ok Cd_9_ok L0_ok) (vec_Get_ev a0) (needs_cons n0 (needs_cons n1 (needs_cons n2 (needs_cons n3 (needs_cons n4 (needs_cons n5 needs_nil))))))
def vec_Get_r2 (a0 : List UInt8) : A := .v (.tuple ⟨[.agg ⟨[.int .i64 (getV a0).1.a, .int .i64 (getV a0).1.b]⟩, .int .i64 (getV a0).2.1, .int .i64 (getV a0).2.2]⟩)
def vec_Get_o2 (_a0 : List UInt8) : Objs := []
def vec_Get_ps2 (_a0 : List UInt8) : List Prop := []
theorem slice_all {b : List UInt8} {k : Int} : List.take (((b.length : Nat) : Int).toNat - k.toNat) (List.drop k.toNat b) = b.drop k.toNat := by
 rw [Int.toNat_natCast]
 exact List.take_of_length_le (by rw [List.length_drop]; exact Nat.le_refl _)
theorem vec_Get_eq (b : List UInt8) : (∀ p ∈ vec_Get_ps b, p) ∧ (vec_Get_0 b, vec_Get_1 b, vec_Get_2 b) = getV b := by
 obtain ⟨hk0, hk1, hk2, hn0, hn1⟩ := getN_bounds b
 have e0 : List.take (((b.length : Nat) : Int).toNat - (0 : Nat)) (List.drop (0 : Nat) b) = b := by
  simp
 have k4 : vec_Get_k4 b = (getN b).2.1 := by
  unfold vec_Get_k4
  rw [e0, i64_in (by omega)]
  omega
 refine ⟨needs_cons (fun _ => ?_) needs_nil, ?_⟩
 ·rw [k4]; omega
 ·unfold vec_Get_0 vec_Get_1 vec_Get_2 vec_Get_k0 vec_Get_k1 vec_Get_k2 vec_Get_k3 vec_Get_k5 getV
  rw [k4, e0, slice_all, vec_Good_eq]
  obtain ⟨hj0, hj1, hj2, hm0, hm1⟩ := getN_bounds (b.drop (getN b).2.1.toNat)
  rw [i64_in (n := (getN b).2.1 + _) (by omega)]
  by_cases he : (getN b).2.2 = 0
  ·have e1 : ((getN b).2.2 != (0 : Int)) = false := by rw [he]; rfl
   rw [e1, if_neg (by rw [he]; simp)]
   by_cases he2 : (getN (b.drop (getN b).2.1.toNat)).2.2 = 0
   ·have e2 : ((getN (b.drop (getN b).2.1.toNat)).2.2 != (0 : Int)) = false := by rw [he2]; rfl
    rw [e2, if_neg (by rw [he2]; simp)]
    cases hg : goodV ⟨(getN b).1, (getN (b.drop (getN b).2.1.toNat)).1⟩ with
    | true => rfl
    | false => rfl
   ·have e2 : ((getN (b.drop (getN b).2.1.toNat)).2.2 != (0 : Int)) = true := by simpa using he2
    rw [e2, if_pos he2]
    rfl
  ·have e1 : ((getN b).2.2 != (0 : Int)) = true := by simpa using he
   rw [e1, if_pos he]
   rfl
theorem vec_Get_c2 (a0 : List UInt8) (_hp : ∀ p ∈ vec_Get_ps2 a0, p) : CallOk Try.prog 116 [valA .bytes a0] 0 [] 1 (vec_Get_r2 a0) 0 (vec_Get_o2 a0) := by
 obtain ⟨h1, h2⟩ := vec_Get_eq a0
 have h := vec_Get_c a0 h1
 have hr : vec_Get_r a0 = vec_Get_r2 a0 := by unfold vec_Get_r vec_Get_r2; rw [← h2]
 rw [hr] at h
 exact h
def vec_Get_t : List A → Nat → Objs → Option CRes
 | [y0], nx, o => match argU .bytes y0 with
  | some (a0, p0) => some (1, (vec_Get_r2 a0).pk (shiftR nx), nx + 0, shiftO nx (vec_Get_o2 a0) ++ o, p0 ++ (vec_Get_ps2 a0))
  | _ => none
 | _, _, _ => none
theorem vec_Get_tok : TOk Try.prog 116 vec_Get_t := fun args nx o k x nx' o' ps h => by
 unfold vec_Get_t at h
 split at h <;> first | (cases h; done) | skip
 split at h <;> first | (cases h; done) | skip
 rename_i a0 p0 e0
 cases h
 refine ⟨fun hp => ?_, _, rfl⟩
 have q0 := fun p hm => hp p (List.mem_append.2 (.inl hm))
 have r0 := fun p hm => hp p (List.mem_append.2 (.inr hm))
 refine callOk_args (callOk_shift (vec_Get_c2 a0 r0) (Nat.le_refl _) (freeL_cons (valA_free _ _) freeL_nil) nx o) fun F N R vs hl => ?_
 obtain ⟨v0, w0, rfl, h0, hl⟩ := hl.inv
 exact HL.cons (argU_ok e0 q0 h0) (hl)
noncomputable def Cd_10 := addC 116 vec_Get_t Cd_9
theorem Cd_10_ok : COk Try.prog Cd_10 := addC_ok vec_Get_tok Cd_9_ok
def num_GetText_k3 (a0 : List UInt8) (_a1 : Int) : Bool := (getN a0).snd.snd != (0 : Int)
def num_GetText_k2 (a0 : List UInt8) (_a1 : Int) : Int := IntKind.i64.wrap ((getN a0).snd.fst + (getN a0).fst)
def num_GetText_k1 (a0 : List UInt8) (a1 : Int) : Bool := decide ((getN a0).fst > a1)
def num_GetText_k0 (a0 : List UInt8) (a1 : Int) : Bool := (num_GetText_k3 a0 a1) || ((num_GetText_k1 a0 a1) || decide (IntKind.i64.wrap ((↑a0.length : Int) - (getN a0).snd.fst) < (getN a0).fst))
def num_GetText_0 (a0 : List UInt8) (a1 : Int) : ByteArray := bif (num_GetText_k0 a0 a1) then bif (num_GetText_k3 a0 a1) then ByteArray.mk #[] else bif (num_GetText_k1 a0 a1) then ByteArray.mk #[] else ByteArray.mk #[] else ByteArray.mk (List.take ((num_GetText_k2 a0 a1).toNat - (getN a0).snd.fst.toNat) (List.drop (getN a0).snd.fst.toNat a0)).toArray
def num_GetText_1 (a0 : List UInt8) (a1 : Int) : Int := bif (num_GetText_k0 a0 a1) then bif (num_GetText_k3 a0 a1) then (0 : Int) else bif (num_GetText_k1 a0 a1) then (0 : Int) else (0 : Int) else (num_GetText_k2 a0 a1)
def num_GetText_2 (a0 : List UInt8) (a1 : Int) : Int := bif (num_GetText_k0 a0 a1) then bif (num_GetText_k3 a0 a1) then (getN a0).snd.snd else bif (num_GetText_k1 a0 a1) then (3 : Int) else (10 : Int) else (0 : Int)
def num_GetText_r (a0 : List UInt8) (a1 : Int) : A := .v (.tuple ⟨[.string (num_GetText_0 a0 a1), .int .i64 (num_GetText_1 a0 a1), .int .i64 (num_GetText_2 a0 a1)]⟩)
def num_GetText_o (_a0 : List UInt8) (_a1 : Int) : Objs := []
def num_GetText_ps (a0 : List UInt8) (a1 : Int) : List Prop := [((!(num_GetText_k0 a0 a1)) = true → (0 : Int) ≤ (getN a0).snd.fst ∧ (getN a0).snd.fst ≤ (num_GetText_k2 a0 a1) ∧ (num_GetText_k2 a0 a1) ≤ (↑a0.length : Int))]
set_option maxRecDepth 100000 in
theorem num_GetText_ev (a0 : List UInt8) (a1 : Int) : evF (envT Cd_10 L0) 9 117 [valA .bytes a0, valA .i64 a1] 0 [] = some (1, num_GetText_r a0 a1, 0, num_GetText_o a0 a1, [((!(num_GetText_k0 a0 a1)) = true → (0 : Int) ≤ (getN a0).snd.fst ∧ (getN a0).snd.fst ≤ (num_GetText_k2 a0 a1) ∧ (num_GetText_k2 a0 a1) ≤ (↑a0.length : Int))]) := by kernel_rfl
set_option maxRecDepth 100000 in
theorem num_GetText_c (a0 : List UInt8) (a1 : Int) (hp : ∀ p ∈ num_GetText_ps a0 a1, p) : CallOk Try.prog 117 [valA .bytes a0, valA .i64 a1] 0 [] 1 (num_GetText_r a0 a1) 0 (num_GetText_o a0 a1) := by
 have n0 : ((!(num_GetText_k0 a0 a1)) = true → (0 : Int) ≤ (getN a0).snd.fst ∧ (getN a0).snd.fst ≤ (num_GetText_k2 a0 a1) ∧ (num_GetText_k2 a0 a1) ≤ (↑a0.length : Int)) := hp _ (List.mem_cons_self ..)
 exact evF_ok (envP_ok Cd_10_ok L0_ok) (num_GetText_ev a0 a1) (needs_cons n0 needs_nil)
def num_GetText_r2 (a0 : List UInt8) (a1 : Int) : A := .v (.tuple ⟨[.string (getT a0 a1).1, .int .i64 (getT a0 a1).2.1, .int .i64 (getT a0 a1).2.2]⟩)
def num_GetText_o2 (_a0 : List UInt8) (_a1 : Int) : Objs := []
def num_GetText_ps2 (a0 : List UInt8) (_a1 : Int) : List Prop := [boundP a0.length]
theorem num_GetText_eq (b : List UInt8) (m : Int) (hb : boundP b.length) : (∀ p ∈ num_GetText_ps b m, p) ∧ (num_GetText_0 b m, num_GetText_1 b m, num_GetText_2 b m) = getT b m := by
 obtain ⟨hk0, hk1, hk2, hn0, hn1⟩ := getN_bounds b
 unfold boundP at hb
 have k2 : num_GetText_k2 b m = (getN b).2.1 + (getN b).1 := by
  unfold num_GetText_k2
  exact i64_in (by omega)
 have k0 : num_GetText_k0 b m = ((getN b).2.2 != 0 || (decide ((getN b).1 > m) || decide ((b.length : Int) - (getN b).2.1 < (getN b).1))) := by
  unfold num_GetText_k0 num_GetText_k1 num_GetText_k3
  rw [i64_in (by omega)]
 refine ⟨needs_cons (fun h => ?_) needs_nil, ?_⟩
 ·rw [k0] at h
  rw [k2]
  simp only [Bool.not_eq_true', Bool.or_eq_false_iff, decide_eq_false_iff_not] at h
  omega
 ·unfold num_GetText_0 num_GetText_1 num_GetText_2 num_GetText_k1 num_GetText_k3 getT
  rw [k0, k2]
  by_cases he : (getN b).2.2 = 0
  ·have e1 : ((getN b).2.2 != (0 : Int)) = false := by rw [he]; rfl
   rw [e1, if_neg (by rw [he]; simp)]
   by_cases hm : (getN b).1 > m
   ·rw [decide_eq_true hm, if_pos hm]; rfl
   ·rw [decide_eq_false hm, if_neg hm]
    by_cases hc : (b.length : Int) - (getN b).2.1 < (getN b).1
    ·rw [decide_eq_true hc, if_pos hc]; rfl
    ·rw [decide_eq_false hc, if_neg hc]
     have e3 : ((getN b).2.1 + (getN b).1).toNat - (getN b).2.1.toNat = (getN b).1.toNat := by omega
     rw [e3]
     rfl
  ·have e1 : ((getN b).2.2 != (0 : Int)) = true := by simpa using he
   rw [e1, if_pos he]
   rfl
theorem num_GetText_c2 (a0 : List UInt8) (a1 : Int) (hp : ∀ p ∈ num_GetText_ps2 a0 a1, p) : CallOk Try.prog 117 [valA .bytes a0, valA .i64 a1] 0 [] 1 (num_GetText_r2 a0 a1) 0 (num_GetText_o2 a0 a1) := by
 obtain ⟨h1, h2⟩ := num_GetText_eq a0 a1 (hp _ (List.mem_cons_self ..))
 have h := num_GetText_c a0 a1 h1
 have hr : num_GetText_r a0 a1 = num_GetText_r2 a0 a1 := by unfold num_GetText_r num_GetText_r2; rw [← h2]
 rw [hr] at h
 exact h
def num_GetText_t : List A → Nat → Objs → Option CRes
 | [y0, y1], nx, o => match argU .bytes y0, argU .i64 y1 with
  | some (a0, p0), some (a1, p1) => some (1, (num_GetText_r2 a0 a1).pk (shiftR nx), nx + 0, shiftO nx (num_GetText_o2 a0 a1) ++ o, p0 ++ (p1 ++ (num_GetText_ps2 a0 a1)))
  | _, _ => none
 | _, _, _ => none
theorem num_GetText_tok : TOk Try.prog 117 num_GetText_t := fun args nx o k x nx' o' ps h => by
 unfold num_GetText_t at h
 split at h <;> first | (cases h; done) | skip
 split at h <;> first | (cases h; done) | skip
 rename_i a0 p0 a1 p1 e0 e1
 cases h
 refine ⟨fun hp => ?_, _, rfl⟩
 have q0 := fun p hm => hp p (List.mem_append.2 (.inl hm))
 have r0 := fun p hm => hp p (List.mem_append.2 (.inr hm))
 have q1 := fun p hm => r0 p (List.mem_append.2 (.inl hm))
 have r1 := fun p hm => r0 p (List.mem_append.2 (.inr hm))
 refine callOk_args (callOk_shift (num_GetText_c2 a0 a1 r1) (Nat.le_refl _) (freeL_cons (valA_free _ _) (freeL_cons (valA_free _ _) freeL_nil)) nx o) fun F N R vs hl => ?_
 obtain ⟨v0, w0, rfl, h0, hl⟩ := hl.inv
 obtain ⟨v1, w1, rfl, h1, hl⟩ := hl.inv
 exact HL.cons (argU_ok e0 q0 h0) (HL.cons (argU_ok e1 q1 h1) (hl))
noncomputable def Cd_11 := addC 117 num_GetText_t Cd_10
theorem Cd_11_ok : COk Try.prog Cd_11 := addC_ok num_GetText_tok Cd_10_ok
noncomputable def Cd_12 := addC 113 (inl (envT Cd_11 L0) 9 113) Cd_11
theorem Cd_12_ok : COk Try.prog Cd_12 := addC_ok (inl_ok (envP_ok Cd_11_ok L0_ok) 9 113) Cd_11_ok
def cell_Get_k12 (a0 : List UInt8) (_a1 : Int) : Int := IntKind.i64.wrap ((0 : Int) + (getN a0).snd.fst)
def cell_Get_k11 (a0 : List UInt8) (a1 : Int) : Int := IntKind.i64.wrap ((cell_Get_k12 a0 a1) + (getS (List.take ((↑a0.length : Int).toNat - (cell_Get_k12 a0 a1).toNat) (List.drop (cell_Get_k12 a0 a1).toNat a0))).snd.fst)
def cell_Get_k10 (a0 : List UInt8) (a1 : Int) : Int := bif (getN a0).snd.snd == (0 : Int) && decide (IntKind.i64.wrap (↑(BitVec.ofInt (64 : Nat) (getN a0).fst &&& BitVec.ofInt (64 : Nat) (1 : Int)).toNat : Int) > (0 : Int)) then bif !decide (IntKind.i64.wrap (↑(BitVec.ofInt (64 : Nat) (getN a0).fst &&& BitVec.ofInt (64 : Nat) (2 : Int)).toNat : Int) > (0 : Int)) then (getV (List.take ((↑a0.length : Int).toNat - (cell_Get_k11 a0 a1).toNat) (List.drop (cell_Get_k11 a0 a1).toNat a0))).fst.2 else (getV (List.take ((↑a0.length : Int).toNat - (cell_Get_k11 a0 a1).toNat) (List.drop (cell_Get_k11 a0 a1).toNat a0))).fst.2 else (0 : Int)
def cell_Get_k9 (a0 : List UInt8) (a1 : Int) : Int := bif (getN a0).snd.snd == (0 : Int) && decide (IntKind.i64.wrap (↑(BitVec.ofInt (64 : Nat) (getN a0).fst &&& BitVec.ofInt (64 : Nat) (1 : Int)).toNat : Int) > (0 : Int)) then bif !decide (IntKind.i64.wrap (↑(BitVec.ofInt (64 : Nat) (getN a0).fst &&& BitVec.ofInt (64 : Nat) (2 : Int)).toNat : Int) > (0 : Int)) then (getV (List.take ((↑a0.length : Int).toNat - (cell_Get_k11 a0 a1).toNat) (List.drop (cell_Get_k11 a0 a1).toNat a0))).fst.1 else (getV (List.take ((↑a0.length : Int).toNat - (cell_Get_k11 a0 a1).toNat) (List.drop (cell_Get_k11 a0 a1).toNat a0))).fst.1 else (0 : Int)
def cell_Get_k8 (a0 : List UInt8) (a1 : Int) : Int := bif (getN a0).snd.snd == (0 : Int) && decide (IntKind.i64.wrap (↑(BitVec.ofInt (64 : Nat) (getN a0).fst &&& BitVec.ofInt (64 : Nat) (1 : Int)).toNat : Int) > (0 : Int)) then bif !decide (IntKind.i64.wrap (↑(BitVec.ofInt (64 : Nat) (getN a0).fst &&& BitVec.ofInt (64 : Nat) (2 : Int)).toNat : Int) > (0 : Int)) then (getS (List.take ((↑a0.length : Int).toNat - (cell_Get_k12 a0 a1).toNat) (List.drop (cell_Get_k12 a0 a1).toNat a0))).fst.2 else (getS (List.take ((↑a0.length : Int).toNat - (cell_Get_k12 a0 a1).toNat) (List.drop (cell_Get_k12 a0 a1).toNat a0))).fst.2 else (0 : Int)
def cell_Get_k7 (a0 : List UInt8) (a1 : Int) : Int := bif (getN a0).snd.snd == (0 : Int) && decide (IntKind.i64.wrap (↑(BitVec.ofInt (64 : Nat) (getN a0).fst &&& BitVec.ofInt (64 : Nat) (1 : Int)).toNat : Int) > (0 : Int)) then bif !decide (IntKind.i64.wrap (↑(BitVec.ofInt (64 : Nat) (getN a0).fst &&& BitVec.ofInt (64 : Nat) (2 : Int)).toNat : Int) > (0 : Int)) then (getS (List.take ((↑a0.length : Int).toNat - (cell_Get_k12 a0 a1).toNat) (List.drop (cell_Get_k12 a0 a1).toNat a0))).fst.1 else (getS (List.take ((↑a0.length : Int).toNat - (cell_Get_k12 a0 a1).toNat) (List.drop (cell_Get_k12 a0 a1).toNat a0))).fst.1 else (0 : Int)
def cell_Get_k6 (a0 : List UInt8) (_a1 : Int) : Int := bif (getN a0).snd.snd == (0 : Int) && decide (IntKind.i64.wrap (↑(BitVec.ofInt (64 : Nat) (getN a0).fst &&& BitVec.ofInt (64 : Nat) (1 : Int)).toNat : Int) > (0 : Int)) then bif !decide (IntKind.i64.wrap (↑(BitVec.ofInt (64 : Nat) (getN a0).fst &&& BitVec.ofInt (64 : Nat) (2 : Int)).toNat : Int) > (0 : Int)) then (0 : Int) else (0 : Int) else (0 : Int)
def cell_Get_k5 (a0 : List UInt8) (a1 : Int) : Int := IntKind.i64.wrap ((cell_Get_k11 a0 a1) + (getV (List.take ((↑a0.length : Int).toNat - (cell_Get_k11 a0 a1).toNat) (List.drop (cell_Get_k11 a0 a1).toNat a0))).snd.fst)
def cell_Get_k4 (a0 : List UInt8) (_a1 : Int) : Bool := bif (getN a0).snd.snd == (0 : Int) && decide (IntKind.i64.wrap (↑(BitVec.ofInt (64 : Nat) (getN a0).fst &&& BitVec.ofInt (64 : Nat) (1 : Int)).toNat : Int) > (0 : Int)) then bif !decide (IntKind.i64.wrap (↑(BitVec.ofInt (64 : Nat) (getN a0).fst &&& BitVec.ofInt (64 : Nat) (2 : Int)).toNat : Int) > (0 : Int)) then decide (IntKind.i64.wrap (↑(BitVec.ofInt (64 : Nat) (getN a0).fst &&& BitVec.ofInt (64 : Nat) (2 : Int)).toNat : Int) > (0 : Int)) else decide (IntKind.i64.wrap (↑(BitVec.ofInt (64 : Nat) (getN a0).fst &&& BitVec.ofInt (64 : Nat) (2 : Int)).toNat : Int) > (0 : Int)) else false
def cell_Get_k3 (a0 : List UInt8) (a1 : Int) : ByteArray := bif (getN a0).snd.snd == (0 : Int) && decide (IntKind.i64.wrap (↑(BitVec.ofInt (64 : Nat) (getN a0).fst &&& BitVec.ofInt (64 : Nat) (1 : Int)).toNat : Int) > (0 : Int)) then bif !decide (IntKind.i64.wrap (↑(BitVec.ofInt (64 : Nat) (getN a0).fst &&& BitVec.ofInt (64 : Nat) (2 : Int)).toNat : Int) > (0 : Int)) then (getT (List.take ((↑a0.length : Int).toNat - (cell_Get_k5 a0 a1).toNat) (List.drop (cell_Get_k5 a0 a1).toNat a0)) (64 : Int)).fst else ByteArray.mk #[] else ByteArray.mk #[]
def cell_Get_k2 (a0 : List UInt8) (a1 : Int) : Int := bif (getN a0).snd.snd == (0 : Int) && decide (IntKind.i64.wrap (↑(BitVec.ofInt (64 : Nat) (getN a0).fst &&& BitVec.ofInt (64 : Nat) (1 : Int)).toNat : Int) > (0 : Int)) then bif !decide (IntKind.i64.wrap (↑(BitVec.ofInt (64 : Nat) (getN a0).fst &&& BitVec.ofInt (64 : Nat) (2 : Int)).toNat : Int) > (0 : Int)) then IntKind.i64.wrap ((cell_Get_k5 a0 a1) + (getT (List.take ((↑a0.length : Int).toNat - (cell_Get_k5 a0 a1).toNat) (List.drop (cell_Get_k5 a0 a1).toNat a0)) (64 : Int)).snd.fst) else (cell_Get_k5 a0 a1) else (cell_Get_k12 a0 a1)
def cell_Get_k1 (a0 : List UInt8) (a1 : Int) : Bool := (bif (getN a0).snd.snd == (0 : Int) && decide (IntKind.i64.wrap (↑(BitVec.ofInt (64 : Nat) (getN a0).fst &&& BitVec.ofInt (64 : Nat) (1 : Int)).toNat : Int) > (0 : Int)) then bif !decide (IntKind.i64.wrap (↑(BitVec.ofInt (64 : Nat) (getN a0).fst &&& BitVec.ofInt (64 : Nat) (2 : Int)).toNat : Int) > (0 : Int)) then (getN a0).snd.snd == (0 : Int) && (getS (List.take ((↑a0.length : Int).toNat - (cell_Get_k12 a0 a1).toNat) (List.drop (cell_Get_k12 a0 a1).toNat a0))).snd.snd == (0 : Int) && (getV (List.take ((↑a0.length : Int).toNat - (cell_Get_k11 a0 a1).toNat) (List.drop (cell_Get_k11 a0 a1).toNat a0))).snd.snd == (0 : Int) && (getT (List.take ((↑a0.length : Int).toNat - (cell_Get_k5 a0 a1).toNat) (List.drop (cell_Get_k5 a0 a1).toNat a0)) (64 : Int)).snd.snd == (0 : Int) else (getN a0).snd.snd == (0 : Int) && (getS (List.take ((↑a0.length : Int).toNat - (cell_Get_k12 a0 a1).toNat) (List.drop (cell_Get_k12 a0 a1).toNat a0))).snd.snd == (0 : Int) && (getV (List.take ((↑a0.length : Int).toNat - (cell_Get_k11 a0 a1).toNat) (List.drop (cell_Get_k11 a0 a1).toNat a0))).snd.snd == (0 : Int) else (getN a0).snd.snd == (0 : Int)) && decide (IntKind.i64.wrap (↑(BitVec.ofInt (64 : Nat) (getN a0).fst &&& BitVec.ofInt (64 : Nat) (4 : Int)).toNat : Int) > (0 : Int))
def cell_Get_k0 (a0 : List UInt8) (a1 : Int) : Bool := (!bif (cell_Get_k1 a0 a1) then (bif (getN a0).snd.snd == (0 : Int) && decide (IntKind.i64.wrap (↑(BitVec.ofInt (64 : Nat) (getN a0).fst &&& BitVec.ofInt (64 : Nat) (1 : Int)).toNat : Int) > (0 : Int)) then bif !decide (IntKind.i64.wrap (↑(BitVec.ofInt (64 : Nat) (getN a0).fst &&& BitVec.ofInt (64 : Nat) (2 : Int)).toNat : Int) > (0 : Int)) then (getN a0).snd.snd == (0 : Int) && (getS (List.take ((↑a0.length : Int).toNat - (cell_Get_k12 a0 a1).toNat) (List.drop (cell_Get_k12 a0 a1).toNat a0))).snd.snd == (0 : Int) && (getV (List.take ((↑a0.length : Int).toNat - (cell_Get_k11 a0 a1).toNat) (List.drop (cell_Get_k11 a0 a1).toNat a0))).snd.snd == (0 : Int) && (getT (List.take ((↑a0.length : Int).toNat - (cell_Get_k5 a0 a1).toNat) (List.drop (cell_Get_k5 a0 a1).toNat a0)) (64 : Int)).snd.snd == (0 : Int) else (getN a0).snd.snd == (0 : Int) && (getS (List.take ((↑a0.length : Int).toNat - (cell_Get_k12 a0 a1).toNat) (List.drop (cell_Get_k12 a0 a1).toNat a0))).snd.snd == (0 : Int) && (getV (List.take ((↑a0.length : Int).toNat - (cell_Get_k11 a0 a1).toNat) (List.drop (cell_Get_k11 a0 a1).toNat a0))).snd.snd == (0 : Int) else (getN a0).snd.snd == (0 : Int)) && (getV (List.take ((↑a0.length : Int).toNat - (cell_Get_k2 a0 a1).toNat) (List.drop (cell_Get_k2 a0 a1).toNat a0))).snd.snd == (0 : Int) else bif (getN a0).snd.snd == (0 : Int) && decide (IntKind.i64.wrap (↑(BitVec.ofInt (64 : Nat) (getN a0).fst &&& BitVec.ofInt (64 : Nat) (1 : Int)).toNat : Int) > (0 : Int)) then bif !decide (IntKind.i64.wrap (↑(BitVec.ofInt (64 : Nat) (getN a0).fst &&& BitVec.ofInt (64 : Nat) (2 : Int)).toNat : Int) > (0 : Int)) then (getN a0).snd.snd == (0 : Int) && (getS (List.take ((↑a0.length : Int).toNat - (cell_Get_k12 a0 a1).toNat) (List.drop (cell_Get_k12 a0 a1).toNat a0))).snd.snd == (0 : Int) && (getV (List.take ((↑a0.length : Int).toNat - (cell_Get_k11 a0 a1).toNat) (List.drop (cell_Get_k11 a0 a1).toNat a0))).snd.snd == (0 : Int) && (getT (List.take ((↑a0.length : Int).toNat - (cell_Get_k5 a0 a1).toNat) (List.drop (cell_Get_k5 a0 a1).toNat a0)) (64 : Int)).snd.snd == (0 : Int) else (getN a0).snd.snd == (0 : Int) && (getS (List.take ((↑a0.length : Int).toNat - (cell_Get_k12 a0 a1).toNat) (List.drop (cell_Get_k12 a0 a1).toNat a0))).snd.snd == (0 : Int) && (getV (List.take ((↑a0.length : Int).toNat - (cell_Get_k11 a0 a1).toNat) (List.drop (cell_Get_k11 a0 a1).toNat a0))).snd.snd == (0 : Int) else (getN a0).snd.snd == (0 : Int)) || !((decide ((getN a0).fst ≤ (7 : Int)) && decide (IntKind.i64.wrap (↑(BitVec.ofInt (64 : Nat) (getN a0).fst &&& BitVec.ofInt (64 : Nat) (1 : Int)).toNat : Int) > (0 : Int)) == cell_written_0 (TCell.mk (TStamp.mk (bif (cell_Get_k1 a0 a1) then (cell_Get_k7 a0 a1) else (cell_Get_k7 a0 a1)) (bif (cell_Get_k1 a0 a1) then (cell_Get_k8 a0 a1) else (cell_Get_k8 a0 a1))) (TVec.mk (bif (cell_Get_k1 a0 a1) then (cell_Get_k9 a0 a1) else (cell_Get_k9 a0 a1)) (bif (cell_Get_k1 a0 a1) then (cell_Get_k10 a0 a1) else (cell_Get_k10 a0 a1))) (bif (cell_Get_k1 a0 a1) then (cell_Get_k4 a0 a1) else (cell_Get_k4 a0 a1)) (bif (cell_Get_k1 a0 a1) then (cell_Get_k3 a0 a1) else (cell_Get_k3 a0 a1)) (TVec.mk (bif (cell_Get_k1 a0 a1) then (getV (List.take ((↑a0.length : Int).toNat - (cell_Get_k2 a0 a1).toNat) (List.drop (cell_Get_k2 a0 a1).toNat a0))).fst.1 else (cell_Get_k6 a0 a1)) (bif (cell_Get_k1 a0 a1) then (getV (List.take ((↑a0.length : Int).toNat - (cell_Get_k2 a0 a1).toNat) (List.drop (cell_Get_k2 a0 a1).toNat a0))).fst.2 else (cell_Get_k6 a0 a1)))) && decide (IntKind.i64.wrap (↑(BitVec.ofInt (64 : Nat) (getN a0).fst &&& BitVec.ofInt (64 : Nat) (2 : Int)).toNat : Int) > (0 : Int)) == bif (cell_Get_k1 a0 a1) then (cell_Get_k4 a0 a1) else (cell_Get_k4 a0 a1)) && decide (IntKind.i64.wrap (↑(BitVec.ofInt (64 : Nat) (getN a0).fst &&& BitVec.ofInt (64 : Nat) (4 : Int)).toNat : Int) > (0 : Int)) == !((bif (cell_Get_k1 a0 a1) then (getV (List.take ((↑a0.length : Int).toNat - (cell_Get_k2 a0 a1).toNat) (List.drop (cell_Get_k2 a0 a1).toNat a0))).fst.1 else (cell_Get_k6 a0 a1)) == (0 : Int) && (bif (cell_Get_k1 a0 a1) then (getV (List.take ((↑a0.length : Int).toNat - (cell_Get_k2 a0 a1).toNat) (List.drop (cell_Get_k2 a0 a1).toNat a0))).fst.2 else (cell_Get_k6 a0 a1)) == (0 : Int))) || !cell_Good_0 a1 (TCell.mk (TStamp.mk (bif (cell_Get_k1 a0 a1) then (cell_Get_k7 a0 a1) else (cell_Get_k7 a0 a1)) (bif (cell_Get_k1 a0 a1) then (cell_Get_k8 a0 a1) else (cell_Get_k8 a0 a1))) (TVec.mk (bif (cell_Get_k1 a0 a1) then (cell_Get_k9 a0 a1) else (cell_Get_k9 a0 a1)) (bif (cell_Get_k1 a0 a1) then (cell_Get_k10 a0 a1) else (cell_Get_k10 a0 a1))) (bif (cell_Get_k1 a0 a1) then (cell_Get_k4 a0 a1) else (cell_Get_k4 a0 a1)) (bif (cell_Get_k1 a0 a1) then (cell_Get_k3 a0 a1) else (cell_Get_k3 a0 a1)) (TVec.mk (bif (cell_Get_k1 a0 a1) then (getV (List.take ((↑a0.length : Int).toNat - (cell_Get_k2 a0 a1).toNat) (List.drop (cell_Get_k2 a0 a1).toNat a0))).fst.1 else (cell_Get_k6 a0 a1)) (bif (cell_Get_k1 a0 a1) then (getV (List.take ((↑a0.length : Int).toNat - (cell_Get_k2 a0 a1).toNat) (List.drop (cell_Get_k2 a0 a1).toNat a0))).fst.2 else (cell_Get_k6 a0 a1))))
def cell_Get_0 (a0 : List UInt8) (a1 : Int) : TCell := TCell.mk (TStamp.mk (bif (cell_Get_k0 a0 a1) then (0 : Int) else bif (cell_Get_k1 a0 a1) then (cell_Get_k7 a0 a1) else (cell_Get_k7 a0 a1)) (bif (cell_Get_k0 a0 a1) then (0 : Int) else bif (cell_Get_k1 a0 a1) then (cell_Get_k8 a0 a1) else (cell_Get_k8 a0 a1))) (TVec.mk (bif (cell_Get_k0 a0 a1) then (0 : Int) else bif (cell_Get_k1 a0 a1) then (cell_Get_k9 a0 a1) else (cell_Get_k9 a0 a1)) (bif (cell_Get_k0 a0 a1) then (0 : Int) else bif (cell_Get_k1 a0 a1) then (cell_Get_k10 a0 a1) else (cell_Get_k10 a0 a1))) (bif (cell_Get_k0 a0 a1) then false else bif (cell_Get_k1 a0 a1) then (cell_Get_k4 a0 a1) else (cell_Get_k4 a0 a1)) (bif (cell_Get_k0 a0 a1) then ByteArray.mk #[] else bif (cell_Get_k1 a0 a1) then (cell_Get_k3 a0 a1) else (cell_Get_k3 a0 a1)) (TVec.mk (bif (cell_Get_k0 a0 a1) then (0 : Int) else bif (cell_Get_k1 a0 a1) then (getV (List.take ((↑a0.length : Int).toNat - (cell_Get_k2 a0 a1).toNat) (List.drop (cell_Get_k2 a0 a1).toNat a0))).fst.1 else (cell_Get_k6 a0 a1)) (bif (cell_Get_k0 a0 a1) then (0 : Int) else bif (cell_Get_k1 a0 a1) then (getV (List.take ((↑a0.length : Int).toNat - (cell_Get_k2 a0 a1).toNat) (List.drop (cell_Get_k2 a0 a1).toNat a0))).fst.2 else (cell_Get_k6 a0 a1)))
def cell_Get_1 (a0 : List UInt8) (a1 : Int) : Int := bif (cell_Get_k0 a0 a1) then (0 : Int) else bif (cell_Get_k1 a0 a1) then IntKind.i64.wrap ((cell_Get_k2 a0 a1) + (getV (List.take ((↑a0.length : Int).toNat - (cell_Get_k2 a0 a1).toNat) (List.drop (cell_Get_k2 a0 a1).toNat a0))).snd.fst) else (cell_Get_k2 a0 a1)
def cell_Get_2 (a0 : List UInt8) (a1 : Int) : Int := bif (cell_Get_k0 a0 a1) then (80 : Int) else (0 : Int)
def cell_Get_r (a0 : List UInt8) (a1 : Int) : A := .v (.tuple ⟨[.agg ⟨[.int .i64 ((cell_Get_0 a0 a1).stamp.n), .int .i64 ((cell_Get_0 a0 a1).stamp.site), .int .i64 ((cell_Get_0 a0 a1).vec.a), .int .i64 ((cell_Get_0 a0 a1).vec.b), .bool ((cell_Get_0 a0 a1).gone), .string ((cell_Get_0 a0 a1).value), .int .i64 ((cell_Get_0 a0 a1).dead.a), .int .i64 ((cell_Get_0 a0 a1).dead.b)]⟩, .int .i64 (cell_Get_1 a0 a1), .int .i64 (cell_Get_2 a0 a1)]⟩)
def cell_Get_o (_a0 : List UInt8) (_a1 : Int) : Objs := []
def cell_Get_ps (a0 : List UInt8) (a1 : Int) : List Prop := [(((getN a0).snd.snd == (0 : Int) && decide (IntKind.i64.wrap (↑(BitVec.ofInt (64 : Nat) (getN a0).fst &&& BitVec.ofInt (64 : Nat) (1 : Int)).toNat : Int) > (0 : Int))) = true → (0 : Int) ≤ (cell_Get_k12 a0 a1) ∧ (cell_Get_k12 a0 a1) ≤ (↑a0.length : Int) ∧ (↑a0.length : Int) ≤ (↑a0.length : Int)), (((getN a0).snd.snd == (0 : Int) && decide (IntKind.i64.wrap (↑(BitVec.ofInt (64 : Nat) (getN a0).fst &&& BitVec.ofInt (64 : Nat) (1 : Int)).toNat : Int) > (0 : Int))) = true → (0 : Int) ≤ (cell_Get_k11 a0 a1) ∧ (cell_Get_k11 a0 a1) ≤ (↑a0.length : Int) ∧ (↑a0.length : Int) ≤ (↑a0.length : Int)), (((getN a0).snd.snd == (0 : Int) && decide (IntKind.i64.wrap (↑(BitVec.ofInt (64 : Nat) (getN a0).fst &&& BitVec.ofInt (64 : Nat) (1 : Int)).toNat : Int) > (0 : Int))) = true → (!decide (IntKind.i64.wrap (↑(BitVec.ofInt (64 : Nat) (getN a0).fst &&& BitVec.ofInt (64 : Nat) (2 : Int)).toNat : Int) > (0 : Int))) = true → (0 : Int) ≤ (cell_Get_k5 a0 a1) ∧ (cell_Get_k5 a0 a1) ≤ (↑a0.length : Int) ∧ (↑a0.length : Int) ≤ (↑a0.length : Int)), (((getN a0).snd.snd == (0 : Int) && decide (IntKind.i64.wrap (↑(BitVec.ofInt (64 : Nat) (getN a0).fst &&& BitVec.ofInt (64 : Nat) (1 : Int)).toNat : Int) > (0 : Int))) = true → (!decide (IntKind.i64.wrap (↑(BitVec.ofInt (64 : Nat) (getN a0).fst &&& BitVec.ofInt (64 : Nat) (2 : Int)).toNat : Int) > (0 : Int))) = true → boundP (List.take ((↑a0.length : Int).toNat - (cell_Get_k5 a0 a1).toNat) (List.drop (cell_Get_k5 a0 a1).toNat a0)).length), ((cell_Get_k1 a0 a1) = true → (0 : Int) ≤ (cell_Get_k2 a0 a1) ∧ (cell_Get_k2 a0 a1) ≤ (↑a0.length : Int) ∧ (↑a0.length : Int) ≤ (↑a0.length : Int))]
set_option maxRecDepth 100000 in
theorem cell_Get_ev (a0 : List UInt8) (a1 : Int) : evF (envT Cd_12 L0) 9 54 [valA .bytes a0, valA .i64 a1] 0 [] = some (1, cell_Get_r a0 a1, 0, cell_Get_o a0 a1, [(((getN a0).snd.snd == (0 : Int) && decide (IntKind.i64.wrap (↑(BitVec.ofInt (64 : Nat) (getN a0).fst &&& BitVec.ofInt (64 : Nat) (1 : Int)).toNat : Int) > (0 : Int))) = true → (0 : Int) ≤ (cell_Get_k12 a0 a1) ∧ (cell_Get_k12 a0 a1) ≤ (↑a0.length : Int) ∧ (↑a0.length : Int) ≤ (↑a0.length : Int)), (((getN a0).snd.snd == (0 : Int) && decide (IntKind.i64.wrap (↑(BitVec.ofInt (64 : Nat) (getN a0).fst &&& BitVec.ofInt (64 : Nat) (1 : Int)).toNat : Int) > (0 : Int))) = true → (0 : Int) ≤ (cell_Get_k11 a0 a1) ∧ (cell_Get_k11 a0 a1) ≤ (↑a0.length : Int) ∧ (↑a0.length : Int) ≤ (↑a0.length : Int)), (((getN a0).snd.snd == (0 : Int) && decide (IntKind.i64.wrap (↑(BitVec.ofInt (64 : Nat) (getN a0).fst &&& BitVec.ofInt (64 : Nat) (1 : Int)).toNat : Int) > (0 : Int))) = true → (!decide (IntKind.i64.wrap (↑(BitVec.ofInt (64 : Nat) (getN a0).fst &&& BitVec.ofInt (64 : Nat) (2 : Int)).toNat : Int) > (0 : Int))) = true → (0 : Int) ≤ (cell_Get_k5 a0 a1) ∧ (cell_Get_k5 a0 a1) ≤ (↑a0.length : Int) ∧ (↑a0.length : Int) ≤ (↑a0.length : Int)), (((getN a0).snd.snd == (0 : Int) && decide (IntKind.i64.wrap (↑(BitVec.ofInt (64 : Nat) (getN a0).fst &&& BitVec.ofInt (64 : Nat) (1 : Int)).toNat : Int) > (0 : Int))) = true → (!decide (IntKind.i64.wrap (↑(BitVec.ofInt (64 : Nat) (getN a0).fst &&& BitVec.ofInt (64 : Nat) (2 : Int)).toNat : Int) > (0 : Int))) = true → boundP (List.take ((↑a0.length : Int).toNat - (cell_Get_k5 a0 a1).toNat) (List.drop (cell_Get_k5 a0 a1).toNat a0)).length), ((cell_Get_k1 a0 a1) = true → (0 : Int) ≤ (cell_Get_k2 a0 a1) ∧ (cell_Get_k2 a0 a1) ≤ (↑a0.length : Int) ∧ (↑a0.length : Int) ≤ (↑a0.length : Int))]) := by kernel_rfl
set_option maxRecDepth 100000 in
theorem cell_Get_c (a0 : List UInt8) (a1 : Int) (hp : ∀ p ∈ cell_Get_ps a0 a1, p) : CallOk Try.prog 54 [valA .bytes a0, valA .i64 a1] 0 [] 1 (cell_Get_r a0 a1) 0 (cell_Get_o a0 a1) := by
 have n0 : (((getN a0).snd.snd == (0 : Int) && decide (IntKind.i64.wrap (↑(BitVec.ofInt (64 : Nat) (getN a0).fst &&& BitVec.ofInt (64 : Nat) (1 : Int)).toNat : Int) > (0 : Int))) = true → (0 : Int) ≤ (cell_Get_k12 a0 a1) ∧ (cell_Get_k12 a0 a1) ≤ (↑a0.length : Int) ∧ (↑a0.length : Int) ≤ (↑a0.length : Int)) := hp _ (List.mem_cons_self ..)
 have n1 : (((getN a0).snd.snd == (0 : Int) && decide (IntKind.i64.wrap (↑(BitVec.ofInt (64 : Nat) (getN a0).fst &&& BitVec.ofInt (64 : Nat) (1 : Int)).toNat : Int) > (0 : Int))) = true → (0 : Int) ≤ (cell_Get_k11 a0 a1) ∧ (cell_Get_k11 a0 a1) ≤ (↑a0.length : Int) ∧ (↑a0.length : Int) ≤ (↑a0.length : Int)) := hp _ (List.mem_cons_of_mem _ (List.mem_cons_self ..))
 have n2 : (((getN a0).snd.snd == (0 : Int) && decide (IntKind.i64.wrap (↑(BitVec.ofInt (64 : Nat) (getN a0).fst &&& BitVec.ofInt (64 : Nat) (1 : Int)).toNat : Int) > (0 : Int))) = true → (!decide (IntKind.i64.wrap (↑(BitVec.ofInt (64 : Nat) (getN a0).fst &&& BitVec.ofInt (64 : Nat) (2 : Int)).toNat : Int) > (0 : Int))) = true → (0 : Int) ≤ (cell_Get_k5 a0 a1) ∧ (cell_Get_k5 a0 a1) ≤ (↑a0.length : Int) ∧ (↑a0.length : Int) ≤ (↑a0.length : Int)) := hp _ (List.mem_cons_of_mem _ (List.mem_cons_of_mem _ (List.mem_cons_self ..)))
 have n3 : (((getN a0).snd.snd == (0 : Int) && decide (IntKind.i64.wrap (↑(BitVec.ofInt (64 : Nat) (getN a0).fst &&& BitVec.ofInt (64 : Nat) (1 : Int)).toNat : Int) > (0 : Int))) = true → (!decide (IntKind.i64.wrap (↑(BitVec.ofInt (64 : Nat) (getN a0).fst &&& BitVec.ofInt (64 : Nat) (2 : Int)).toNat : Int) > (0 : Int))) = true → boundP (List.take ((↑a0.length : Int).toNat - (cell_Get_k5 a0 a1).toNat) (List.drop (cell_Get_k5 a0 a1).toNat a0)).length) := hp _ (List.mem_cons_of_mem _ (List.mem_cons_of_mem _ (List.mem_cons_of_mem _ (List.mem_cons_self ..))))
 have n4 : ((cell_Get_k1 a0 a1) = true → (0 : Int) ≤ (cell_Get_k2 a0 a1) ∧ (cell_Get_k2 a0 a1) ≤ (↑a0.length : Int) ∧ (↑a0.length : Int) ≤ (↑a0.length : Int)) := hp _ (List.mem_cons_of_mem _ (List.mem_cons_of_mem _ (List.mem_cons_of_mem _ (List.mem_cons_of_mem _ (List.mem_cons_self ..)))))
 exact evF_ok (envP_ok Cd_12_ok L0_ok) (cell_Get_ev a0 a1) (needs_cons n0 (needs_cons n1 (needs_cons n2 (needs_cons n3 (needs_cons n4 needs_nil)))))
def cell_Get_r2 (a0 : List UInt8) (a1 : Int) : A := .v (.tuple ⟨[.agg ⟨[.int .i64 (getC a0 a1).1.stamp.n, .int .i64 (getC a0 a1).1.stamp.site, .int .i64 (getC a0 a1).1.vec.a, .int .i64 (getC a0 a1).1.vec.b, .bool (getC a0 a1).1.gone, .string (getC a0 a1).1.value, .int .i64 (getC a0 a1).1.dead.a, .int .i64 (getC a0 a1).1.dead.b]⟩, .int .i64 (getC a0 a1).2.1, .int .i64 (getC a0 a1).2.2]⟩)
def cell_Get_o2 (_a0 : List UInt8) (_a1 : Int) : Objs := []
def cell_Get_ps2 (a0 : List UInt8) (_a1 : Int) : List Prop := [boundP a0.length]
theorem getS_bounds (b : List UInt8) : 0 ≤ (getS b).2.1 ∧ (getS b).2.1 ≤ (b.length : Int) := by
 obtain ⟨h1, h2, _⟩ := getN_bounds b
 unfold getS
 split
 ·exact ⟨Int.le_refl _, by show (0 : Int) ≤ (b.length : Int); omega⟩
 ·split
  ·exact ⟨h1, h2⟩
  ·exact ⟨Int.le_refl _, by show (0 : Int) ≤ (b.length : Int); omega⟩
theorem getV_bounds (b : List UInt8) : 0 ≤ (getV b).2.1 ∧ (getV b).2.1 ≤ (b.length : Int) := by
 obtain ⟨h1, h2, _⟩ := getN_bounds b
 obtain ⟨h3, h4, _⟩ := getN_bounds (b.drop (getN b).2.1.toNat)
 rw [List.length_drop] at h4
 unfold getV
 split
 ·exact ⟨Int.le_refl _, by show (0 : Int) ≤ (b.length : Int); omega⟩
 ·split
  ·exact ⟨Int.le_refl _, by show (0 : Int) ≤ (b.length : Int); omega⟩
  ·split
   ·exact ⟨by show 0 ≤ (getN b).2.1 + _; omega, by show (getN b).2.1 + _ ≤ (b.length : Int); omega⟩
   ·exact ⟨Int.le_refl _, by show (0 : Int) ≤ (b.length : Int); omega⟩
theorem getT_bounds (b : List UInt8) (m : Int) : 0 ≤ (getT b m).2.1 ∧ (getT b m).2.1 ≤ (b.length : Int) := by
 obtain ⟨h1, h2, _, h3, _⟩ := getN_bounds b
 unfold getT
 split
 ·exact ⟨Int.le_refl _, by show (0 : Int) ≤ (b.length : Int); omega⟩
 ·split
  ·exact ⟨Int.le_refl _, by show (0 : Int) ≤ (b.length : Int); omega⟩
  ·split
   ·exact ⟨Int.le_refl _, by show (0 : Int) ≤ (b.length : Int); omega⟩
   ·exact ⟨by show 0 ≤ (getN b).2.1 + _; omega, by show (getN b).2.1 + _ ≤ (b.length : Int); omega⟩
theorem cell_Get_eq (b : List UInt8) (p : Int) (hb : boundP b.length) : (∀ q ∈ cell_Get_ps b p, q) ∧ (cell_Get_0 b p, cell_Get_1 b p, cell_Get_2 b p) = getC b p := by
 unfold boundP at hb
 obtain ⟨a1, a2, _, a3, a4⟩ := getN_bounds b
 have hok : okN (getN b).1 := ⟨a3, a4⟩
 have B1 := bit_pos hok 0 1 rfl (by decide)
 have B2 := bit_pos hok 1 2 rfl (by decide)
 have B4 := bit_pos hok 2 4 rfl (by decide)
 have e12 : cell_Get_k12 b p = (getN b).2.1 := by
  unfold cell_Get_k12
  rw [i64_in (by omega)]; omega
 obtain ⟨s1, s2⟩ := getS_bounds (b.drop (getN b).2.1.toNat)
 rw [List.length_drop] at s2
 have e11 : cell_Get_k11 b p = (getN b).2.1 + (getS (b.drop (getN b).2.1.toNat)).2.1 := by
  unfold cell_Get_k11
  rw [e12, slice_all, i64_in (by omega)]
 obtain ⟨v1, v2⟩ := getV_bounds (b.drop ((getN b).2.1 + (getS (b.drop (getN b).2.1.toNat)).2.1).toNat)
 rw [List.length_drop] at v2
 have e5 : cell_Get_k5 b p = (getN b).2.1 + (getS (b.drop (getN b).2.1.toNat)).2.1 + (getV (b.drop ((getN b).2.1 + (getS (b.drop (getN b).2.1.toNat)).2.1).toNat)).2.1 := by
  unfold cell_Get_k5
  rw [e11, slice_all, i64_in (by omega)]
 obtain ⟨t1, t2⟩ := getT_bounds (b.drop ((getN b).2.1 + (getS (b.drop (getN b).2.1.toNat)).2.1 + (getV (b.drop ((getN b).2.1 + (getS (b.drop (getN b).2.1.toNat)).2.1).toNat)).2.1).toNat) 64
 rw [List.length_drop] at t2
 have e2 : cell_Get_k2 b p = (stA b).2.2 ∧ 0 ≤ (stA b).2.2 ∧ (stA b).2.2 ≤ (b.length : Int) := by
  unfold cell_Get_k2 stA
  rw [e5, e12, slice_all, B1, B2]
  show (bif (getN b).2.2 == 0 && bitN (getN b).1 0 then bif !bitN (getN b).1 1 then _ else _ else _) = _ ∧ _
  rw [i64_in (by omega)]
  cases ((getN b).2.2 == 0 && bitN (getN b).1 0) <;> cases bitN (getN b).1 1 <;> refine ⟨rfl, ?_, ?_⟩ <;> (first | exact a1 | exact a2 | (simp only [cond_true, cond_false, Bool.not_true, Bool.not_false]; omega))
 obtain ⟨e2, e2a, e2b⟩ := e2
 obtain ⟨d1, d2⟩ := getV_bounds (b.drop (stA b).2.2.toNat)
 rw [List.length_drop] at d2
 have hcell : (stA b).2.1 = ⟨⟨cell_Get_k7 b p, cell_Get_k8 b p⟩, ⟨cell_Get_k9 b p, cell_Get_k10 b p⟩, cell_Get_k4 b p, cell_Get_k3 b p, ⟨0, 0⟩⟩ := by
  unfold cell_Get_k7 cell_Get_k8 cell_Get_k9 cell_Get_k10 cell_Get_k4 cell_Get_k3 stA
  rw [e11, e5, e12, slice_all, slice_all, slice_all, B1, B2]
  show _ = TCell.mk (TStamp.mk (bif (getN b).2.2 == 0 && bitN (getN b).1 0 then bif !bitN (getN b).1 1 then _ else _ else _) _) _ _ _ _
  show (bif (getN b).2.2 == 0 && bitN (getN b).1 0 then bif !bitN (getN b).1 1 then _ else _ else _ : Bool × TCell × Int).2.1 = TCell.mk (TStamp.mk (bif (getN b).2.2 == 0 && bitN (getN b).1 0 then bif !bitN (getN b).1 1 then _ else _ else _) (bif (getN b).2.2 == 0 && bitN (getN b).1 0 then bif !bitN (getN b).1 1 then _ else _ else _)) (TVec.mk (bif (getN b).2.2 == 0 && bitN (getN b).1 0 then bif !bitN (getN b).1 1 then _ else _ else _) (bif (getN b).2.2 == 0 && bitN (getN b).1 0 then bif !bitN (getN b).1 1 then _ else _ else _)) (bif (getN b).2.2 == 0 && bitN (getN b).1 0 then bif !bitN (getN b).1 1 then bitN (getN b).1 1 else bitN (getN b).1 1 else _) (bif (getN b).2.2 == 0 && bitN (getN b).1 0 then bif !bitN (getN b).1 1 then _ else _ else _) _
  cases ((getN b).2.2 == 0 && bitN (getN b).1 0) <;> cases bitN (getN b).1 1 <;> rfl
 have hok1 : (bif (getN b).2.2 == 0 && bitN (getN b).1 0 then bif !bitN (getN b).1 1 then (getN b).2.2 == 0 && (getS (b.drop (getN b).2.1.toNat)).2.2 == 0 && (getV (b.drop ((getN b).2.1 + (getS (b.drop (getN b).2.1.toNat)).2.1).toNat)).2.2 == 0 && (getT (b.drop ((getN b).2.1 + (getS (b.drop (getN b).2.1.toNat)).2.1 + (getV (b.drop ((getN b).2.1 + (getS (b.drop (getN b).2.1.toNat)).2.1).toNat)).2.1).toNat) 64).2.2 == 0
   else (getN b).2.2 == 0 && (getS (b.drop (getN b).2.1.toNat)).2.2 == 0 && (getV (b.drop ((getN b).2.1 + (getS (b.drop (getN b).2.1.toNat)).2.1).toNat)).2.2 == 0 else (getN b).2.2 == 0) = (stA b).1 := by
  unfold stA
  cases ((getN b).2.2 == 0 && bitN (getN b).1 0) <;> cases bitN (getN b).1 1 <;> rfl
 have e1 : cell_Get_k1 b p = ((stA b).1 && bitN (getN b).1 2) := by
  unfold cell_Get_k1
  rw [e11, e5, e12, slice_all, slice_all, slice_all, B1, B2, B4]
  show ((bif (getN b).2.2 == 0 && bitN (getN b).1 0 then bif !bitN (getN b).1 1 then _ else _ else _) && bitN (getN b).1 2) = _
  rw [hok1]
 have e6 : cell_Get_k6 b p = 0 := by
  unfold cell_Get_k6
  cases ((getN b).2.2 == 0 && decide (IntKind.i64.wrap (↑(BitVec.ofInt (64 : Nat) (getN b).1 &&& BitVec.ofInt (64 : Nat) (1 : Int)).toNat : Int) > (0 : Int))) <;> cases decide (IntKind.i64.wrap (↑(BitVec.ofInt (64 : Nat) (getN b).1 &&& BitVec.ofInt (64 : Nat) (2 : Int)).toNat : Int) > (0 : Int)) <;> rfl
 refine ⟨needs_cons (fun _ => by rw [e12]; omega) (needs_cons (fun _ => by rw [e11]; omega) (needs_cons (fun _ _ => by rw [e5]; omega) (needs_cons (fun _ _ => by rw [e5, slice_all, List.length_drop]; unfold boundP; omega) (needs_cons (fun _ => by rw [e2]; omega) needs_nil)))), ?_⟩
 have hB1 : (stB b).1 = bif (stA b).1 && bitN (getN b).1 2 then (stA b).1 && (getV (b.drop (stA b).2.2.toNat)).2.2 == 0 else (stA b).1 := by unfold stB; cases ((stA b).1 && bitN (getN b).1 2) <;> rfl
 have hB2 : (stB b).2.1 = TCell.mk (TStamp.mk (bif cell_Get_k1 b p then cell_Get_k7 b p else cell_Get_k7 b p) (bif cell_Get_k1 b p then cell_Get_k8 b p else cell_Get_k8 b p)) (TVec.mk (bif cell_Get_k1 b p then cell_Get_k9 b p else cell_Get_k9 b p) (bif cell_Get_k1 b p then cell_Get_k10 b p else cell_Get_k10 b p)) (bif cell_Get_k1 b p then cell_Get_k4 b p else cell_Get_k4 b p) (bif cell_Get_k1 b p then cell_Get_k3 b p else cell_Get_k3 b p) (TVec.mk (bif cell_Get_k1 b p then (getV (b.drop (stA b).2.2.toNat)).1.1 else cell_Get_k6 b p) (bif cell_Get_k1 b p then (getV (b.drop (stA b).2.2.toNat)).1.2 else cell_Get_k6 b p)) := by
  rw [e1]
  unfold stB
  cases ((stA b).1 && bitN (getN b).1 2) with
  | true => simp only [cond_true]; rw [hcell]
  | false => simp only [cond_false]; rw [hcell, e6]
 have hB3 : (stB b).2.2 = bif cell_Get_k1 b p then (stA b).2.2 + (getV (b.drop (stA b).2.2.toNat)).2.1 else (stA b).2.2 := by
  rw [e1]
  unfold stB
  cases ((stA b).1 && bitN (getN b).1 2) <;> rfl
 have e0 : cell_Get_k0 b p = (!(stB b).1 || !rightC (getN b).1 (stB b).2.1 || !goodC p (stB b).2.1) := by
  unfold cell_Get_k0
  rw [e2, e11, e5, e12, slice_all, slice_all, slice_all, slice_all, cell_Good_eq, cell_written_eq, ← hB2]
  rw [B1, B2, B4]
  show ((!bif cell_Get_k1 b p then (bif (getN b).2.2 == 0 && bitN (getN b).1 0 then bif !bitN (getN b).1 1 then _ else _ else _) && _ else (bif (getN b).2.2 == 0 && bitN (getN b).1 0 then bif !bitN (getN b).1 1 then _ else _ else _)) || _ || _) = _
  rw [hok1, hB1, ← e1]
  unfold rightC
  rw [hB2]
  rfl
 unfold cell_Get_0 cell_Get_1 cell_Get_2 getC
 rw [e0]
 cases (!(stB b).1 || !rightC (getN b).1 (stB b).2.1 || !goodC p (stB b).2.1) with
 | true => rfl
 | false =>
  simp only [cond_false]
  rw [hB3, e2, slice_all, hB2, i64_in (by omega)]
theorem cell_Get_c2 (a0 : List UInt8) (a1 : Int) (hp : ∀ p ∈ cell_Get_ps2 a0 a1, p) : CallOk Try.prog 54 [valA .bytes a0, valA .i64 a1] 0 [] 1 (cell_Get_r2 a0 a1) 0 (cell_Get_o2 a0 a1) := by
 obtain ⟨h1, h2⟩ := cell_Get_eq a0 a1 (hp _ (List.mem_cons_self ..))
 have h := cell_Get_c a0 a1 h1
 have hr : cell_Get_r a0 a1 = cell_Get_r2 a0 a1 := by unfold cell_Get_r cell_Get_r2; rw [← h2]
 rw [hr] at h
 exact h
def cell_Get_t : List A → Nat → Objs → Option CRes
 | [y0, y1], nx, o => match argU .bytes y0, argU .i64 y1 with
  | some (a0, p0), some (a1, p1) => some (1, (cell_Get_r2 a0 a1).pk (shiftR nx), nx + 0, shiftO nx (cell_Get_o2 a0 a1) ++ o, p0 ++ (p1 ++ (cell_Get_ps2 a0 a1)))
  | _, _ => none
 | _, _, _ => none
theorem cell_Get_tok : TOk Try.prog 54 cell_Get_t := fun args nx o k x nx' o' ps h => by
 unfold cell_Get_t at h
 split at h <;> first | (cases h; done) | skip
 split at h <;> first | (cases h; done) | skip
 rename_i a0 p0 a1 p1 e0 e1
 cases h
 refine ⟨fun hp => ?_, _, rfl⟩
 have q0 := fun p hm => hp p (List.mem_append.2 (.inl hm))
 have r0 := fun p hm => hp p (List.mem_append.2 (.inr hm))
 have q1 := fun p hm => r0 p (List.mem_append.2 (.inl hm))
 have r1 := fun p hm => r0 p (List.mem_append.2 (.inr hm))
 refine callOk_args (callOk_shift (cell_Get_c2 a0 a1 r1) (Nat.le_refl _) (freeL_cons (valA_free _ _) (freeL_cons (valA_free _ _) freeL_nil)) nx o) fun F N R vs hl => ?_
 obtain ⟨v0, w0, rfl, h0, hl⟩ := hl.inv
 obtain ⟨v1, w1, rfl, h1, hl⟩ := hl.inv
 exact HL.cons (argU_ok e0 q0 h0) (HL.cons (argU_ok e1 q1 h1) (hl))
noncomputable def Cd_13 := addC 54 cell_Get_t Cd_12
theorem Cd_13_ok : COk Try.prog Cd_13 := addC_ok cell_Get_tok Cd_12_ok
noncomputable def Cd := Cd_13
theorem Cd_ok : COk Try.prog Cd := Cd_13_ok
end Go.Proofs.Yteebobbhhgmeiaa
namespace Go.Proofs.Yteebobbhhgmeiaa
open Go.RowKit
def r08_Zero_r (a0 : TVec) : A := .v (.bool (a0.1 == (0 : Int) && a0.2 == (0 : Int)))
def r08_Zero_o (_a0 : TVec) : Objs := []
def r08_Zero_ps (_a0 : TVec) : List Prop := []
set_option maxRecDepth 100000 in
theorem r08_Zero_ev (a0 : TVec) : evF (envT Cd L0) 9 108 [valA .vec a0] 0 [] = some (1, r08_Zero_r a0, 0, r08_Zero_o a0, []) := by kernel_rfl
set_option maxRecDepth 100000 in
theorem r08_Zero_c (a0 : TVec) (_hp : ∀ p ∈ r08_Zero_ps a0, p) : CallOk Try.prog 108 [valA .vec a0] 0 [] 1 (r08_Zero_r a0) 0 (r08_Zero_o a0) := by
 exact evF_ok (envP_ok Cd_ok L0_ok) (r08_Zero_ev a0) needs_nil
def r08_Zero_t : List A → Nat → Objs → Option CRes
 | [y0], nx, o => match argU .vec y0 with
  | some (a0, p0) => some (1, (r08_Zero_r a0).pk (shiftR nx), nx + 0, shiftO nx (r08_Zero_o a0) ++ o, p0 ++ (r08_Zero_ps a0))
  | _ => none
 | _, _, _ => none
theorem r08_Zero_tok : TOk Try.prog 108 r08_Zero_t := fun args nx o k x nx' o' ps h => by
 unfold r08_Zero_t at h
 split at h <;> first | (cases h; done) | skip
 split at h <;> first | (cases h; done) | skip
 rename_i a0 p0 e0
 cases h
 refine ⟨fun hp => ?_, _, rfl⟩
 have q0 := fun p hm => hp p (List.mem_append.2 (.inl hm))
 have r0 := fun p hm => hp p (List.mem_append.2 (.inr hm))
 refine callOk_args (callOk_shift (r08_Zero_c a0 r0) (Nat.le_refl _) (freeL_cons (valA_free _ _) freeL_nil) nx o) fun F N R vs hl => ?_
 obtain ⟨v0, w0, rfl, h0, hl⟩ := hl.inv
 exact HL.cons (argU_ok e0 q0 h0) (hl)
noncomputable def Cf_1 := addC 108 r08_Zero_t Cd
theorem Cf_1_ok : COk Try.prog Cf_1 := addC_ok r08_Zero_tok Cd_ok
def r08_Written_0 (a0 : TCell) : Bool := a0.1.1 != (0 : Int) || a0.1.2 != (0 : Int) || a0.2.1 != (0 : Int) || a0.2.2 != (0 : Int) || a0.3 || !a0.4.toList == (ByteArray.mk #[]).toList
def r08_Written_r (a0 : TCell) : A := .v (.bool (r08_Written_0 a0))
def r08_Written_o (_a0 : TCell) : Objs := []
def r08_Written_ps (_a0 : TCell) : List Prop := []
set_option maxRecDepth 100000 in
theorem r08_Written_ev (a0 : TCell) : evF (envT Cf_1 L0) 9 106 [valA .cell a0] 0 [] = some (1, r08_Written_r a0, 0, r08_Written_o a0, []) := by kernel_rfl
set_option maxRecDepth 100000 in
theorem r08_Written_c (a0 : TCell) (_hp : ∀ p ∈ r08_Written_ps a0, p) : CallOk Try.prog 106 [valA .cell a0] 0 [] 1 (r08_Written_r a0) 0 (r08_Written_o a0) := by
 exact evF_ok (envP_ok Cf_1_ok L0_ok) (r08_Written_ev a0) needs_nil
def r08_Written_t : List A → Nat → Objs → Option CRes
 | [y0], nx, o => match argU .cell y0 with
  | some (a0, p0) => some (1, (r08_Written_r a0).pk (shiftR nx), nx + 0, shiftO nx (r08_Written_o a0) ++ o, p0 ++ (r08_Written_ps a0))
  | _ => none
 | _, _, _ => none
theorem r08_Written_tok : TOk Try.prog 106 r08_Written_t := fun args nx o k x nx' o' ps h => by
 unfold r08_Written_t at h
 split at h <;> first | (cases h; done) | skip
 split at h <;> first | (cases h; done) | skip
 rename_i a0 p0 e0
 cases h
 refine ⟨fun hp => ?_, _, rfl⟩
 have q0 := fun p hm => hp p (List.mem_append.2 (.inl hm))
 have r0 := fun p hm => hp p (List.mem_append.2 (.inr hm))
 refine callOk_args (callOk_shift (r08_Written_c a0 r0) (Nat.le_refl _) (freeL_cons (valA_free _ _) freeL_nil) nx o) fun F N R vs hl => ?_
 obtain ⟨v0, w0, rfl, h0, hl⟩ := hl.inv
 exact HL.cons (argU_ok e0 q0 h0) (hl)
noncomputable def Cf_2 := addC 106 r08_Written_t Cf_1
theorem Cf_2_ok : COk Try.prog Cf_2 := addC_ok r08_Written_tok Cf_1_ok
def r08_Good_0 (a0 : Int) (a1 : TCell) : Bool := bif a0 == (1 : Int) && !(a1.5.1 == (0 : Int) && a1.5.2 == (0 : Int)) || a0 == (2 : Int) && (a1.3 || !r06_Good_0 a1.5) || a0 != (1 : Int) && a0 != (2 : Int) then false else bif !r08_Written_0 a1 then true else r05_Good_0 a1.1 && decide (a1.1.1 > (0 : Int)) && r06_Good_0 a1.2 && decide ((↑a1.4.size : Int) ≤ (64 : Int)) && (!a1.3 || a1.4.toList == (ByteArray.mk #[]).toList)
def r08_Good_r (a0 : Int) (a1 : TCell) : A := .v (.bool (r08_Good_0 a0 a1))
def r08_Good_o (_a0 : Int) (_a1 : TCell) : Objs := []
def r08_Good_ps (_a0 : Int) (_a1 : TCell) : List Prop := []
set_option maxRecDepth 100000 in
theorem r08_Good_ev (a0 : Int) (a1 : TCell) : evF (envT Cf_2 L0) 9 42 [valA .i64 a0, valA .cell a1] 0 [] = some (1, r08_Good_r a0 a1, 0, r08_Good_o a0 a1, []) := by kernel_rfl
set_option maxRecDepth 100000 in
theorem r08_Good_c (a0 : Int) (a1 : TCell) (_hp : ∀ p ∈ r08_Good_ps a0 a1, p) : CallOk Try.prog 42 [valA .i64 a0, valA .cell a1] 0 [] 1 (r08_Good_r a0 a1) 0 (r08_Good_o a0 a1) := by
 exact evF_ok (envP_ok Cf_2_ok L0_ok) (r08_Good_ev a0 a1) needs_nil
def r08_Good_t : List A → Nat → Objs → Option CRes
 | [y0, y1], nx, o => match argU .i64 y0, argU .cell y1 with
  | some (a0, p0), some (a1, p1) => some (1, (r08_Good_r a0 a1).pk (shiftR nx), nx + 0, shiftO nx (r08_Good_o a0 a1) ++ o, p0 ++ (p1 ++ (r08_Good_ps a0 a1)))
  | _, _ => none
 | _, _, _ => none
theorem r08_Good_tok : TOk Try.prog 42 r08_Good_t := fun args nx o k x nx' o' ps h => by
 unfold r08_Good_t at h
 split at h <;> first | (cases h; done) | skip
 split at h <;> first | (cases h; done) | skip
 rename_i a0 p0 a1 p1 e0 e1
 cases h
 refine ⟨fun hp => ?_, _, rfl⟩
 have q0 := fun p hm => hp p (List.mem_append.2 (.inl hm))
 have r0 := fun p hm => hp p (List.mem_append.2 (.inr hm))
 have q1 := fun p hm => r0 p (List.mem_append.2 (.inl hm))
 have r1 := fun p hm => r0 p (List.mem_append.2 (.inr hm))
 refine callOk_args (callOk_shift (r08_Good_c a0 a1 r1) (Nat.le_refl _) (freeL_cons (valA_free _ _) (freeL_cons (valA_free _ _) freeL_nil)) nx o) fun F N R vs hl => ?_
 obtain ⟨v0, w0, rfl, h0, hl⟩ := hl.inv
 obtain ⟨v1, w1, rfl, h1, hl⟩ := hl.inv
 exact HL.cons (argU_ok e0 q0 h0) (HL.cons (argU_ok e1 q1 h1) (hl))
noncomputable def Cf_3 := addC 42 r08_Good_t Cf_2
theorem Cf_3_ok : COk Try.prog Cf_3 := addC_ok r08_Good_tok Cf_2_ok
theorem r05_Good_eq (s : TStamp) : r05_Good_0 s = goodS s := rfl
theorem r06_Good_eq (v : TVec) : r06_Good_0 v = goodV v := by
 unfold r06_Good_0 goodV
 rw [Bool.and_assoc]
theorem r08_Written_eq (c : TCell) : r08_Written_0 c = written c := by
 unfold r08_Written_0 written bne
 rw [noB_eq]
 generalize (c.1.1 == (0 : Int)) = a
 generalize (c.1.2 == (0 : Int)) = b
 generalize (c.2.1 == (0 : Int)) = d
 generalize (c.2.2 == (0 : Int)) = e
 show (!a || !b || !d || !e || c.gone || !(c.4.size == 0)) = !(a && b && (d && e) && (!c.gone && c.value.size == 0))
 cases a <;> cases b <;> cases d <;> cases e <;> cases c.gone <;> simp
theorem r08_Good_eq (p : Int) (c : TCell) : r08_Good_0 p c = goodC p c := by
 unfold r08_Good_0 goodC bne
 rw [r08_Written_eq, r06_Good_eq, r06_Good_eq, r05_Good_eq, noB_eq]
 have h1 : (p == (1 : Int) && !(c.5.1 == (0 : Int) && c.5.2 == (0 : Int)) || p == (2 : Int) && (c.3 || !goodV c.5) || !(p == (1 : Int)) && !(p == (2 : Int))) = (p == 1 && !zeroV c.dead || (p == 2 && (c.gone || !goodV c.dead) || !(p == 1 || p == 2))) := by
  rw [Bool.or_assoc, Bool.not_or]
  rfl
 have h2 : (!c.3 || c.4.size == 0) = !(c.gone && !(c.value.size == 0)) := by rw [Bool.not_and, Bool.not_not]
 rw [h1, h2]
noncomputable def Cf := Cf_3
theorem Cf_ok : COk Try.prog Cf := Cf_3_ok
end Go.Proofs.Yteebobbhhgmeiaa
namespace Go.Proofs.Yteebobbhhgmeiaa
open Go.RowKit
theorem scan_from {X : Type} (mk : Nat → X) (n : Nat) (stop : Nat → Bool) (next : X → X) (goes : X → Cnd) (ps : X → List Prop)
  (hg : ∀ i, i ≤ n → (∀ j, j < i → stop j = false) → cval (goes (mk i)) = (decide (i < n) && !stop i)) (hn : ∀ i, i < n → (∀ j, j < i + 1 → stop j = false) → next (mk i) = mk (i + 1)) (hp : ∀ i, i ≤ n → (∀ j, j < i → stop j = false) → ∀ p ∈ ps (mk i), p) :
  ∀ (f i : Nat), i ≤ n → n ≤ i + f → (∀ j, j < i → stop j = false) →
  needX next goes ps f (mk i) ∧ ∃ k, k ≤ n ∧ iterX next goes f (mk i) = mk k ∧ (∀ j, j < k → stop j = false) ∧ (k < n → stop k = true)
 | 0, i, hi, hf, hs => by
  have hc := hg i hi hs
  have : i = n := by omega
  rw [decide_eq_false (by omega), Bool.false_and] at hc
  exact ⟨⟨hp i hi hs, hc⟩, i, hi, rfl, hs, fun h => by omega⟩
 | f + 1, i, hi, hf, hs => by
  have hc := hg i hi hs
  cases hb : cval (goes (mk i)) with
  | false =>
   have e : iterX next goes (f + 1) (mk i) = mk i := by
    show (bif cval (goes (mk i)) then _ else mk i) = mk i
    rw [hb]; rfl
   rw [e]
   refine ⟨⟨hp i hi hs, fun h => by rw [hb] at h; cases h⟩, i, hi, rfl, hs, fun h => ?_⟩
   rw [hb, decide_eq_true h, Bool.true_and] at hc
   cases hst : stop i with
   | true => rfl
   | false => rw [hst] at hc; cases hc
  | true =>
   rw [hb] at hc
   have h1 : i < n := by
    cases hd : decide (i < n) with
    | true => exact of_decide_eq_true hd
    | false => rw [hd] at hc; cases hc
   have h2 : stop i = false := by
    cases hst : stop i with
    | false => rfl
    | true => rw [hst, Bool.and_comm] at hc; cases hc
   have hs' : ∀ j, j < i + 1 → stop j = false := fun j hj => by
    by_cases h : j < i
    ·exact hs j h
    ·obtain rfl : j = i := by omega
     exact h2
   have e : iterX next goes (f + 1) (mk i) = iterX next goes f (mk (i + 1)) := by
    show (bif cval (goes (mk i)) then iterX next goes f (next (mk i)) else mk i) = _
    rw [hb, hn i h1 hs']; rfl
   obtain ⟨g1, g2⟩ := scan_from mk n stop next goes ps hg hn hp f (i + 1) h1 (by omega) hs'
   rw [e]
   exact ⟨⟨hp i hi hs, fun _ => by rw [hn i h1 hs']; exact g1⟩, g2⟩
theorem scan {X : Type} (mk : Nat → X) (n : Nat) (stop : Nat → Bool) (next : X → X) (goes : X → Cnd) (ps : X → List Prop) (f : Nat) (x : X) (hx : x = mk 0) (hf : n ≤ f)
  (hg : ∀ i, i ≤ n → (∀ j, j < i → stop j = false) → cval (goes (mk i)) = (decide (i < n) && !stop i)) (hn : ∀ i, i < n → (∀ j, j < i + 1 → stop j = false) → next (mk i) = mk (i + 1)) (hp : ∀ i, i ≤ n → (∀ j, j < i → stop j = false) → ∀ p ∈ ps (mk i), p) :
  needX next goes ps f x ∧ ∃ k, k ≤ n ∧ iterX next goes f x = mk k ∧ (∀ j, j < k → stop j = false) ∧ (k < n → stop k = true) := by
 subst hx
 exact scan_from mk n stop next goes ps hg hn hp f 0 (Nat.zero_le _) (by omega) fun j h => absurd h (Nat.not_lt_zero _)
theorem wsucc {i : Nat} (h : i < 9223372036854775807) : IntKind.i64.wrap ((i : Int) + 1) = ((i + 1 : Nat) : Int) := by rw [i64_in (by omega)]; omega
theorem dlt {i n : Nat} : decide ((i : Int) < (n : Int)) = decide (i < n) := by
 by_cases h : i < n
 ·rw [decide_eq_true h, decide_eq_true (by omega)]
 ·rw [decide_eq_false h, decide_eq_false (by omega)]
theorem nn (b : Bool) : (!!b) = b := Bool.not_not b
theorem all_scan {α : Type} (l : List α) (d : α) (p : α → Bool) (k : Nat) (hk : k ≤ l.length) (h1 : ∀ j, j < k → p (l.getD j d) = true) (h2 : k < l.length → p (l.getD k d) = false) : l.all p = decide (¬ k < l.length) := by
 by_cases h : k < l.length
 ·rw [decide_eq_false (by omega)]
  have := h2 h
  rw [List.getD_eq_getElem?_getD, List.getElem?_eq_getElem h, Option.getD_some] at this
  cases ha : l.all p with
  | false => rfl
  | true => rw [List.all_eq_true.1 ha _ (List.getElem_mem h)] at this; cases this
 ·rw [decide_eq_true (by omega)]
  refine List.all_eq_true.2 fun x hx => ?_
  obtain ⟨i, hi, rfl⟩ := List.mem_iff_getElem.1 hx
  have := h1 i (by omega)
  rw [List.getD_eq_getElem?_getD, List.getElem?_eq_getElem hi, Option.getD_some] at this
  exact this
def wideN (n : Nat) : Prop := n ≤ 9223372036854775807
def allN (n : Nat) (p : Nat → Bool) : Bool := (List.range n).all p
theorem allN_iff {n : Nat} {p : Nat → Bool} : allN n p = true ↔ ∀ i, i < n → p i = true := by
 unfold allN
 rw [List.all_eq_true]
 exact ⟨fun h i hi => h i (List.mem_range.2 hi), fun h i hi => h i (List.mem_range.1 hi)⟩
theorem allN_congr {n : Nat} {p q : Nat → Bool} (h : ∀ i, i < n → p i = q i) : allN n p = allN n q := by
 rw [Bool.eq_iff_iff, allN_iff, allN_iff]
 exact ⟨fun g i hi => (h i hi) ▸ g i hi, fun g i hi => (h i hi).symm ▸ g i hi⟩
theorem scanB {X : Type} (mk : Nat → X) (n : Nat) (bad : Nat → Bool) (next : X → X) (goes : X → Cnd) (ps : X → List Prop) (f : Nat) (x : X) (hx : x = mk 0) (hf : n ≤ f)
  (hg : ∀ i, i ≤ n → (∀ j, j < i → bad j = false) → cval (goes (mk i)) = (decide (i < n) && !bad i)) (hn : ∀ i, i < n → (∀ j, j < i + 1 → bad j = false) → next (mk i) = mk (i + 1)) (hp : ∀ i, i ≤ n → (∀ j, j < i → bad j = false) → ∀ p ∈ ps (mk i), p) :
  needX next goes ps f x ∧ ∃ k, k ≤ n ∧ iterX next goes f x = mk k ∧ (∀ j, j < k → bad j = false) ∧ (k < n → bad k = true) ∧ (decide (k < n) && bad k) = !allN n (fun i => !bad i) := by
 obtain ⟨h1, k, hk, h2, h3, h4⟩ := scan mk n bad next goes ps f x hx hf hg hn hp
 refine ⟨h1, k, hk, h2, h3, h4, ?_⟩
 by_cases h : k < n
 ·rw [decide_eq_true h, h4 h]
  cases ha : allN n (fun i => !bad i) with
  | false => rfl
  | true => have := allN_iff.1 ha k h; rw [h4 h] at this; cases this
 ·rw [decide_eq_false h, allN_iff.2 (fun i hi => by rw [h3 i (by omega)]; rfl)]
  rfl
theorem all_N {α : Type} (l : List α) (d : α) (p : α → Bool) : l.all p = allN l.length (fun i => p (l.getD i d)) := by
 rw [Bool.eq_iff_iff, List.all_eq_true, allN_iff]
 constructor
 ·intro h i hi
  rw [List.getD_eq_getElem?_getD, List.getElem?_eq_getElem hi, Option.getD_some]
  exact h _ (List.getElem_mem hi)
 ·intro h x hx
  obtain ⟨i, hi, rfl⟩ := List.mem_iff_getElem.1 hx
  have := h i hi
  rw [List.getD_eq_getElem?_getD, List.getElem?_eq_getElem hi, Option.getD_some] at this
  exact this
theorem zip_N {α β : Type} (l : List α) (r : List β) (d : α) (e : β) (p : α → β → Bool) (h : r.length = l.length) : (l.zip r).all (fun x => p x.1 x.2) = allN l.length (fun i => p (l.getD i d) (r.getD i e)) := by
 rw [all_N (l.zip r) (d, e), List.length_zip, h, Nat.min_self]
 refine allN_congr fun i hi => ?_
 rw [List.getD_eq_getElem?_getD, List.getD_eq_getElem?_getD, List.getD_eq_getElem?_getD, List.getElem?_eq_getElem (by rw [List.length_zip]; omega), List.getElem?_eq_getElem hi, List.getElem?_eq_getElem (by omega), List.getElem_zip]
 rfl
theorem beq0 (n : Nat) : (n == 0) = !decide (1 ≤ n) := by cases n <;> simp
theorem beq0i (n : Nat) : ((n : Int) == 0) = (n == 0) := by cases n <;> simp; omega
theorem dgt (n k : Nat) : decide ((n : Int) > (k : Int)) = decide (k < n) := decide_eq_decide.2 (by omega)
instance : LawfulBEq ByteArray where
 rfl := fun {a} => by cases a with | mk a => exact beq_self_eq_true a
 eq_of_beq := fun {a b} h => by
  cases a with | mk a => cases b with | mk b => exact congrArg ByteArray.mk (eq_of_beq (α := Array UInt8) h)
theorem find_upd : ∀ (m : List (ByteArray × Int)) (b : ByteArray) (v : Int) (x : ByteArray), findM (updM m b v) x = if x = b then v else findM m x
 | [], b, v, x => by
  by_cases h : x = b
  ·subst h; simp [updM, findM]
  ·simp [updM, findM, h, show (x == b) = false from beq_eq_false_iff_ne.2 h]
 | (a, n) :: r, b, v, x => by
  unfold updM
  by_cases h : b = a
  ·subst h
   rw [show (b == b) = true from beq_self_eq_true b, cond_true]
   by_cases hx : x = b
   ·subst hx; simp [findM]
   ·simp [findM, hx, show (x == b) = false from beq_eq_false_iff_ne.2 hx]
  ·rw [show (b == a) = false from beq_eq_false_iff_ne.2 h, cond_false]
   by_cases hx : x = a
   ·subst hx
    rw [if_neg (fun e => h e.symm)]
    simp [findM]
   ·simp only [findM, show (x == a) = false from beq_eq_false_iff_ne.2 hx, cond_false]
    exact find_upd r b v x
def lowB (b : UInt8) : Bool := decide (97 ≤ b.toNat) && decide (b.toNat ≤ 122)
def nameB (s : ByteArray) : Bool := s.data.toList.all lowB && (decide (1 ≤ s.size) && decide (s.size ≤ 12))
def polB (p : Int) : Bool := p == 1 || p == 2
def goodPs : List ByteArray → List TGroup → Int
 | _, [] => 0
 | seen, g :: r => bif !(nameB g.name && polB g.policy) then 2 else bif seen.any (fun s => s == g.name) then 70 else goodPs (seen ++ [g.name]) r
def goodP (l : List TGroup) : Int := bif l.length == 0 then 2 else bif decide (4 < l.length) then 3 else goodPs [] l
theorem size_data (s : ByteArray) : s.data.toList.length = s.size := by show s.data.toList.length = s.data.size; exact Array.length_toList
theorem get_data (s : ByteArray) (i : Nat) (h : i < s.size) : s.data.toList.getD i 0 = s[i]'h := by
 rw [List.getD_eq_getElem?_getD, List.getElem?_eq_getElem (by rw [size_data]; exact h)]
 rfl
theorem rune_low (s : ByteArray) (i : Nat) (h : i < s.size) : (decide (((Utf8.decode s i).1 : Int) < 97) || decide (((Utf8.decode s i).1 : Int) > 122)) = !lowB (s.data.toList.getD i 0) ∧ (lowB (s.data.toList.getD i 0) = true → (Utf8.decode s i).2 = 1) := by
 rw [get_data s i h]
 by_cases hb : (s[i]'h).toNat < 128
 ·rw [decode_ascii s i h hb]
  refine ⟨?_, fun _ => rfl⟩
  unfold lowB
  rw [Bool.not_and, ← decide_not, ← decide_not]
  congr 1 <;> exact decide_eq_decide.2 (by omega)
 ·have h2 := (decode_high s i h (by omega)).1
  have hl : lowB (s[i]'h) = false := by unfold lowB; rw [decide_eq_false (p := (s[i]'h).toNat ≤ 122) (by omega), Bool.and_false]
  rw [hl]
  refine ⟨?_, fun h => by cases h⟩
  rw [decide_eq_true (p := ((Utf8.decode s i).1 : Int) > 122) (by omega), Bool.or_true]
  rfl
theorem goodP_0 {l : List TGroup} (h : goodP l = 0) : 1 ≤ l.length ∧ l.length ≤ 4 := by
 unfold goodP at h
 cases h1 : l.length == 0 with
 | true => rw [h1] at h; cases h
 | false =>
  rw [h1] at h
  cases h2 : decide (4 < l.length) with
  | true => rw [h2] at h; cases h
  | false =>
   have := of_decide_eq_false h2
   have h3 : l.length ≠ 0 := by simpa using h1
   omega
theorem goodPs_at (l : List TGroup) (k : Nat) (seen : List ByteArray) : (∀ j, j < k → j < l.length → (nameB (l.getD j (dflt TC.group)).name && polB (l.getD j (dflt TC.group)).policy) = true ∧ (seen ++ (l.take j).map (·.name)).any (fun s => s == (l.getD j (dflt TC.group)).name) = false) →
  goodPs seen l = goodPs (seen ++ (l.take k).map (·.name)) (l.drop k) := by
 induction l generalizing k seen with
 | nil => intro _; simp [goodPs]
 | cons g r ih =>
  intro h
  cases k with
  | zero => simp
  | succ k =>
   obtain ⟨h1, h2⟩ := h 0 (Nat.succ_pos _) (Nat.succ_pos _)
   have h1' : (nameB g.name && polB g.policy) = true := h1
   have h2' : seen.any (fun s => s == g.name) = false := by simpa using h2
   rw [goodPs, h1', h2', Bool.not_true, cond_false, cond_false]
   rw [ih k (seen ++ [g.name]) (fun j hj hl => by
    have := h (j + 1) (by omega) (by simpa using hl)
    simpa [List.append_assoc] using this)]
   simp [List.append_assoc]
def mapAt (l : List TGroup) : Nat → List (ByteArray × Int)
 | 0 => []
 | i + 1 => updM (mapAt l i) (l.getD i (dflt TC.group)).1 (IntKind.i64.wrap (findM (mapAt l i) (l.getD i (dflt TC.group)).1 + 1))
def stopG (l : List TGroup) (i : Nat) : Bool := !(nameB (l.getD i (dflt TC.group)).1 && polB (l.getD i (dflt TC.group)).2) || ((l.take i).map (·.name)).any (fun s => s == (l.getD i (dflt TC.group)).1)
theorem take_names (l : List TGroup) (i : Nat) (h : i < l.length) : (l.take (i + 1)).map (·.name) = (l.take i).map (·.name) ++ [(l.getD i (dflt TC.group)).1] := by
 rw [List.take_add_one, List.getD_eq_getElem?_getD, List.getElem?_eq_getElem h, List.map_append]
 rfl
theorem find_mapAt (l : List TGroup) : ∀ (i : Nat), i ≤ l.length → (∀ j, j < i → stopG l j = false) → ∀ x, findM (mapAt l i) x = bif ((l.take i).map (·.name)).any (fun s => s == x) then 1 else 0
 | 0, _, _, x => by simp [mapAt, findM]
 | i + 1, hi, hs, x => by
  have ih := find_mapAt l i (by omega) (fun j hj => hs j (by omega))
  have h := hs i (Nat.lt_succ_self i)
  unfold stopG at h
  have h2 := (Bool.or_eq_false_iff.1 h).2
  unfold mapAt
  rw [find_upd, ih, h2, take_names l i (by omega), List.any_append, ih]
  by_cases hx : x = (l.getD i (dflt TC.group)).1
  ·subst hx
   rw [if_pos rfl]
   simp
   decide
  ·rw [if_neg hx]
   have : ([(l.getD i (dflt TC.group)).1].any fun s => s == x) = false := by
    simp only [List.any_cons, List.any_nil, Bool.or_false]
    exact beq_eq_false_iff_ne.2 fun e => hx e.symm
   rw [this, Bool.or_false]
end Go.Proofs.Yteebobbhhgmeiaa
namespace Go.Proofs.Yteebobbhhgmeiaa
open Go.RowKit
abbrev policy_named_l0_X : Type := ByteArray × Nat
def policy_named_l0_T (x : policy_named_l0_X) : St := ⟨36, 2, [(26, .own 1 0)], [(1, some (.sit x.1 x.2))]⟩
def policy_named_l0_un : St → Option policy_named_l0_X
 | ⟨36, 2, [(26, .own 1 0)], [(1, some (.sit z0 z1))]⟩ => some (z0, z1)
 | _ => none
theorem policy_named_l0_unok : ∀ s x, policy_named_l0_un s = some x → s = policy_named_l0_T x := fun s x h => by
 unfold policy_named_l0_un at h
 split at h
 ·cases h; rfl
 ·cases h
def policy_named_l0_S : Shape := ⟨2, 2, [26], [], [(1, 1)], [1], [2], [1]⟩
def policy_named_l0_E : Entry := ⟨[], [(1, 1)], [26], [1]⟩
def policy_named_l0_f_k1 (a0 : ByteArray) (a1 : Nat) : Bool := !!decide (a1 < a0.size)
def policy_named_l0_f_k0 (a0 : ByteArray) (a1 : Nat) : Bool := (policy_named_l0_f_k1 a0 a1) && (decide ((↑(Utf8.decode a0 a1).fst : Int) < (97 : Int)) || decide ((↑(Utf8.decode a0 a1).fst : Int) > (122 : Int)))
def policy_named_l0_f_1 (a0 : ByteArray) (a1 : Nat) : Nat := bif decide (a1 < a0.size) then a1 + (Utf8.decode a0 a1).snd else a1
def policy_named_l0_f_2 (a0 : ByteArray) (a1 : Nat) : Bool := (policy_named_l0_f_k1 a0 a1) && !(policy_named_l0_f_k0 a0 a1)
def policy_named_l0_f_6 (a0 : ByteArray) (a1 : Nat) : Nat := bif decide (a1 < a0.size) then a1 + (Utf8.decode a0 a1).snd else a1
def policy_named_l0_f_9 (a0 : ByteArray) (a1 : Nat) : Nat := bif decide (a1 < a0.size) then a1 + (Utf8.decode a0 a1).snd else a1
def policy_named_l0_next (x : policy_named_l0_X) : policy_named_l0_X := (x.1, policy_named_l0_f_1 x.1 x.2)
def policy_named_l0_goes (x : policy_named_l0_X) : Cnd := some (policy_named_l0_f_2 x.1 x.2)
def policy_named_l0_psA (x : policy_named_l0_X) : List Prop := [((policy_named_l0_f_k1 x.1 x.2) = true → decide (x.2 < x.1.size) = true)]
def policy_named_l0_ps (_x : policy_named_l0_X) : List Prop := []
def policy_named_l0_outs (x : policy_named_l0_X) : Outs := [(some 0, some (!decide (x.2 < x.1.size)), ⟨36, 2, [(2, .dead)], [(1, some (.sit x.1 (policy_named_l0_f_6 x.1 x.2)))]⟩), (none, some ((policy_named_l0_f_k0 x.1 x.2)), ⟨36, 2, [(2, .v (.bool (false)))], [(1, some (.sit x.1 (policy_named_l0_f_9 x.1 x.2)))]⟩)]
def policy_named_l0_fuel (x : policy_named_l0_X) : Nat := x.1.size - x.2
def policy_named_l0_run (x : policy_named_l0_X) : policy_named_l0_X := iterX policy_named_l0_next policy_named_l0_goes (policy_named_l0_fuel x) x
set_option maxRecDepth 100000 in
theorem policy_named_l0_ev (a0 : ByteArray) (a1 : Nat) : roundE (envT Cf L0) 9 (loopAt Try.prog 164 0) policy_named_l0_S (policy_named_l0_T (a0, a1)) = some (policy_named_l0_psA (a0, a1), policy_named_l0_outs (a0, a1), policy_named_l0_goes (a0, a1), policy_named_l0_T (policy_named_l0_next (a0, a1))) := by kernel_rfl
set_option maxRecDepth 100000 in
theorem policy_named_l0_hA (a0 : ByteArray) (a1 : Nat) (_hp : ∀ p ∈ policy_named_l0_ps (a0, a1), p) : ∀ p ∈ policy_named_l0_psA (a0, a1), p := by
 have n0 : ((policy_named_l0_f_k1 a0 a1) = true → decide (a1 < a0.size) = true) := by intro h; exact (Bool.not_not _).symm.trans h
 exact (needs_cons n0 needs_nil)
noncomputable def policy_named_l0_row := rowL (envT Cf L0) (loopAt Try.prog 164 0) policy_named_l0_S policy_named_l0_E policy_named_l0_un policy_named_l0_fuel policy_named_l0_next policy_named_l0_goes policy_named_l0_ps policy_named_l0_outs
theorem policy_named_l0_rok : ∀ s b ps outs, policy_named_l0_row s = some (b, ps, outs) → Wf s ⟨ps, outs, none⟩ ∧ LoopOk (envT C0 L0) b s ps outs :=
 rowP_ok (T := policy_named_l0_T) Cf_ok L0_ok (u := 9) (by kernel_rfl) (by decide) (fun ⟨a0, a1⟩ => policy_named_l0_ev a0 a1) (fun ⟨a0, a1⟩ => policy_named_l0_hA a0 a1) policy_named_l0_unok (fun _ => okOuts_ok (n := 36) rfl) fun _ _ => rfl
noncomputable def policy_named_l0_L := addLp 0 policy_named_l0_row L0
theorem policy_named_l0_Lok : LpOk policy_named_l0_L := addLp_ok policy_named_l0_rok L0_ok
def policy_named_k0 (a0 : TGroup) : Bool := a0.1.toList == (ByteArray.mk #[]).toList || decide ((↑a0.1.size : Int) > (12 : Int)) || a0.2 != (1 : Int) && a0.2 != (2 : Int)
def policy_named_0 (a0 : TGroup) : Bool := bif (policy_named_k0 a0) then false else bif policy_named_l0_f_k0 (policy_named_l0_run (a0.1, (0 : Nat))).fst (policy_named_l0_run (a0.1, (0 : Nat))).snd then false else true
def policy_named_r (a0 : TGroup) : A := .v (.bool (policy_named_0 a0))
def policy_named_o (_a0 : TGroup) : Objs := []
def policy_named_ps (a0 : TGroup) : List Prop := [((!(policy_named_k0 a0)) = true → needX policy_named_l0_next policy_named_l0_goes policy_named_l0_ps (policy_named_l0_fuel (a0.1, (0 : Nat))) (a0.1, (0 : Nat)))]
set_option maxRecDepth 100000 in
theorem policy_named_ev (a0 : TGroup) : evF (envT Cf policy_named_l0_L) 9 164 [valA .group a0] 0 [] = some (1, policy_named_r a0, 0, policy_named_o a0, [((!(policy_named_k0 a0)) = true → loopAt Try.prog (164 : FuncId) (0 : Nat) = loopAt Try.prog (164 : FuncId) (0 : Nat)), ((!(policy_named_k0 a0)) = true → needX policy_named_l0_next policy_named_l0_goes policy_named_l0_ps (policy_named_l0_fuel (a0.1, (0 : Nat))) (a0.1, (0 : Nat)))]) := by kernel_rfl
set_option maxRecDepth 100000 in
theorem policy_named_c (a0 : TGroup) (hp : ∀ p ∈ policy_named_ps a0, p) : CallOk Try.prog 164 [valA .group a0] 0 [] 1 (policy_named_r a0) 0 (policy_named_o a0) := by
 have n0 : ((!(policy_named_k0 a0)) = true → loopAt Try.prog (164 : FuncId) (0 : Nat) = loopAt Try.prog (164 : FuncId) (0 : Nat)) := by intros; rfl
 have n1 : ((!(policy_named_k0 a0)) = true → needX policy_named_l0_next policy_named_l0_goes policy_named_l0_ps (policy_named_l0_fuel (a0.1, (0 : Nat))) (a0.1, (0 : Nat))) := hp _ (List.mem_cons_self ..)
 exact evF_ok (envP_ok Cf_ok policy_named_l0_Lok) (policy_named_ev a0) (needs_cons n0 (needs_cons n1 needs_nil))
def policy_named_r2 (a0 : TGroup) : A := .v (.bool (nameB a0.name && polB a0.policy))
def policy_named_o2 (_a0 : TGroup) : Objs := []
def policy_named_ps2 (_a0 : TGroup) : List Prop := []
theorem policy_named_eq (g : TGroup) : (∀ p ∈ policy_named_ps g, p) ∧ policy_named_0 g = (nameB g.name && polB g.policy) := by
 have hk0 : ∀ i, policy_named_l0_f_k0 g.1 i = (decide (i < g.1.size) && !lowB (g.1.data.toList.getD i 0)) := fun i => by
  unfold policy_named_l0_f_k0 policy_named_l0_f_k1
  rw [nn]
  by_cases h : i < g.1.size
  ·rw [decide_eq_true h, Bool.true_and, Bool.true_and]; exact (rune_low g.1 i h).1
  ·rw [decide_eq_false h]; rfl
 obtain ⟨h1, k, hk, hx, hs, hst⟩ := scan (fun i => ((g.1, i) : ByteArray × Nat)) g.1.size (fun i => !lowB (g.1.data.toList.getD i 0)) policy_named_l0_next policy_named_l0_goes policy_named_l0_ps (policy_named_l0_fuel (g.1, 0)) (g.1, 0) rfl (Nat.le_refl _)
  (fun i _ _ => by
   show ((!!decide (i < g.1.size)) && !policy_named_l0_f_k0 g.1 i) = _
   rw [hk0, nn]
   cases decide (i < g.1.size) <;> rfl)
  (fun i hi hj => by
   show (g.1, (bif decide (i < g.1.size) then i + (Utf8.decode g.1 i).snd else i)) = (g.1, i + 1)
   have h2 := hj i (Nat.lt_succ_self i)
   rw [decide_eq_true hi, cond_true, (rune_low g.1 i hi).2 (by simpa using h2)])
  (fun _ _ _ => needs_nil)
 refine ⟨needs_cons (fun _ => h1) needs_nil, ?_⟩
 have hr : policy_named_l0_run (g.1, 0) = (g.1, k) := hx
 have ha : g.1.data.toList.all lowB = decide (¬ k < g.1.size) := by
  have := all_scan g.1.data.toList 0 lowB k (by rw [size_data]; exact hk) (fun j hj => by simpa using hs j hj) (fun h => by rw [size_data] at h; simpa using hst h)
  rw [size_data] at this
  exact this
 unfold policy_named_0
 rw [hr]
 show (bif policy_named_k0 g then false else bif policy_named_l0_f_k0 g.1 k then false else true) = _
 rw [hk0]
 unfold policy_named_k0 nameB polB
 rw [noB_eq]
 show _ = (g.1.data.toList.all lowB && (decide (1 ≤ g.1.size) && decide (g.1.size ≤ 12)) && (g.2 == 1 || g.2 == 2))
 rw [ha]
 have e1 : (g.1.size == 0) = !decide (1 ≤ g.1.size) := beq0 _
 have e2 : decide ((g.1.size : Int) > 12) = !decide (g.1.size ≤ 12) := by
  rw [← decide_not]; exact decide_eq_decide.2 (by generalize g.1.size = m; omega)
 have e3 : (g.2 != 1 && g.2 != 2) = !(g.2 == 1 || g.2 == 2) := by simp [bne]
 rw [e1, e2, e3]
 by_cases h : k < g.1.size
 ·have := hst h
  rw [this, decide_eq_true h, decide_eq_false (not_not_intro h)]
  simp
 ·rw [decide_eq_false h, decide_eq_true h]
  cases decide (1 ≤ g.1.size) <;> cases decide (g.1.size ≤ 12) <;> cases (g.2 == 1 || g.2 == 2) <;> rfl
theorem policy_named_c2 (a0 : TGroup) (_hp : ∀ p ∈ policy_named_ps2 a0, p) : CallOk Try.prog 164 [valA .group a0] 0 [] 1 (policy_named_r2 a0) 0 (policy_named_o2 a0) := by
 have h := policy_named_c a0 (policy_named_eq a0).1
 unfold policy_named_r at h
 rw [(policy_named_eq a0).2] at h
 exact h
def policy_named_t : List A → Nat → Objs → Option CRes
 | [y0], nx, o => match argU .group y0 with
  | some (a0, p0) => some (1, (policy_named_r2 a0).pk (shiftR nx), nx + 0, shiftO nx (policy_named_o2 a0) ++ o, p0 ++ (policy_named_ps2 a0))
  | _ => none
 | _, _, _ => none
theorem policy_named_tok : TOk Try.prog 164 policy_named_t := fun args nx o k x nx' o' ps h => by
 unfold policy_named_t at h
 split at h <;> first | (cases h; done) | skip
 split at h <;> first | (cases h; done) | skip
 rename_i a0 p0 e0
 cases h
 refine ⟨fun hp => ?_, _, rfl⟩
 have q0 := fun p hm => hp p (List.mem_append.2 (.inl hm))
 have r0 := fun p hm => hp p (List.mem_append.2 (.inr hm))
 refine callOk_args (callOk_shift (policy_named_c2 a0 r0) (Nat.le_refl _) (freeL_cons (valA_free _ _) freeL_nil) nx o) fun F N R vs hl => ?_
 obtain ⟨v0, w0, rfl, h0, hl⟩ := hl.inv
 exact HL.cons (argU_ok e0 q0 h0) (hl)
noncomputable def Ch_1 := addC 164 policy_named_t Cf
theorem Ch_1_ok : COk Try.prog Ch_1 := addC_ok policy_named_tok Cf_ok
abbrev policy_Good_l1_X : Type := (List TGroup) × Int × Int × (List (U .str × U .i64))
def policy_Good_l1_T (x : policy_Good_l1_X) : St := ⟨35, 1, [(3, .mp 0), (15, .sl .group x.1), (16, .v (.int .i64 x.2.1)), (17, .v (.int .i64 x.2.2.1))], [(0, some (.map .str .i64 x.2.2.2))]⟩
def policy_Good_l1_un : St → Option policy_Good_l1_X
 | ⟨35, 1, [(3, .mp 0), (15, .sl .group z0), (16, .v (.int .i64 z1)), (17, .v (.int .i64 z2))], [(0, some (.map .str .i64 z3))]⟩ => some (z0, z1, z2, z3)
 | _ => none
theorem policy_Good_l1_unok : ∀ s x, policy_Good_l1_un s = some x → s = policy_Good_l1_T x := fun s x h => by
 unfold policy_Good_l1_un at h
 split at h
 ·cases h; rfl
 ·cases h
def policy_Good_l1_S : Shape := ⟨1, 1, [3, 15, 16, 17], [], [(0, 0)], [0], [2], [0]⟩
def policy_Good_l1_E : Entry := ⟨[], [(0, 0)], [3, 15, 16, 17], [0]⟩
def policy_Good_l1_f_k1 (a0 : List TGroup) (_a1 : Int) (a2 : Int) (a3 : List (U .str × U .i64)) : List (ByteArray × Int) := updM a3 (a0.getD a2.toNat (dflt TC.group)).1 (IntKind.i64.wrap (findM a3 (a0.getD a2.toNat (dflt TC.group)).1 + (1 : Int)))
def policy_Good_l1_f_k0 (a0 : List TGroup) (a1 : Int) (a2 : Int) (a3 : List (U .str × U .i64)) : Bool := !!decide (a2 < a1) && (!(nameB (a0.getD a2.toNat (dflt TC.group)).1 && polB (a0.getD a2.toNat (dflt TC.group)).2) || decide (findM (policy_Good_l1_f_k1 a0 a1 a2 a3) (a0.getD a2.toNat (dflt TC.group)).1 > (1 : Int)))
def policy_Good_l1_f_3 (a0 : List TGroup) (a1 : Int) (a2 : Int) (a3 : List (U .str × U .i64)) : List (U .str × U .i64) := (policy_Good_l1_f_k1 a0 a1 a2 a3)
def policy_Good_l1_f_4 (a0 : List TGroup) (a1 : Int) (a2 : Int) (a3 : List (U .str × U .i64)) : Bool := !!decide (a2 < a1) && !(policy_Good_l1_f_k0 a0 a1 a2 a3)
def policy_Good_l1_f_9 (a0 : List TGroup) (_a1 : Int) (a2 : Int) (_a3 : List (U .str × U .i64)) : Int := bif !(nameB (a0.getD a2.toNat (dflt TC.group)).1 && polB (a0.getD a2.toNat (dflt TC.group)).2) then (2 : Int) else (70 : Int)
def policy_Good_l1_f_10 (a0 : List TGroup) (a1 : Int) (a2 : Int) (a3 : List (U .str × U .i64)) : List (U .str × U .i64) := bif !(nameB (a0.getD a2.toNat (dflt TC.group)).1 && polB (a0.getD a2.toNat (dflt TC.group)).2) then a3 else (policy_Good_l1_f_k1 a0 a1 a2 a3)
def policy_Good_l1_next (x : policy_Good_l1_X) : policy_Good_l1_X := (x.1, x.2.1, IntKind.i64.wrap (x.2.2.1 + (1 : Int)), policy_Good_l1_f_3 x.1 x.2.1 x.2.2.1 x.2.2.2)
def policy_Good_l1_goes (x : policy_Good_l1_X) : Cnd := some (policy_Good_l1_f_4 x.1 x.2.1 x.2.2.1 x.2.2.2)
def policy_Good_l1_psA (x : policy_Good_l1_X) : List Prop := [((!!decide (x.2.2.1 < x.2.1)) = true → (0 : Int) ≤ x.2.2.1 ∧ x.2.2.1 < (↑x.1.length : Int))]
def policy_Good_l1_ps (x : policy_Good_l1_X) : List Prop := [((!!decide (x.2.2.1 < x.2.1)) = true → (0 : Int) ≤ x.2.2.1 ∧ x.2.2.1 < (↑x.1.length : Int))]
def policy_Good_l1_outs (x : policy_Good_l1_X) : Outs := [(some 1, some (!decide (x.2.2.1 < x.2.1)), ⟨35, 1, [(2, .dead)], [(0, some (.map .str .i64 x.2.2.2))]⟩), (none, some ((policy_Good_l1_f_k0 x.1 x.2.1 x.2.2.1 x.2.2.2)), ⟨35, 2, [(2, .v (.int .i64 (policy_Good_l1_f_9 x.1 x.2.1 x.2.2.1 x.2.2.2)))], [(0, some (.map .str .i64 (policy_Good_l1_f_10 x.1 x.2.1 x.2.2.1 x.2.2.2)))]⟩)]
def policy_Good_l1_fuel (x : policy_Good_l1_X) : Nat := (x.2.1 - x.2.2.1).toNat
def policy_Good_l1_run (x : policy_Good_l1_X) : policy_Good_l1_X := iterX policy_Good_l1_next policy_Good_l1_goes (policy_Good_l1_fuel x) x
set_option maxRecDepth 100000 in
theorem policy_Good_l1_ev (a0 : List TGroup) (a1 : Int) (a2 : Int) (a3 : List (U .str × U .i64)) : roundE (envT Ch_1 L0) 9 (loopAt Try.prog 131 1) policy_Good_l1_S (policy_Good_l1_T (a0, a1, a2, a3)) = some (policy_Good_l1_psA (a0, a1, a2, a3), policy_Good_l1_outs (a0, a1, a2, a3), policy_Good_l1_goes (a0, a1, a2, a3), policy_Good_l1_T (policy_Good_l1_next (a0, a1, a2, a3))) := by kernel_rfl
set_option maxRecDepth 100000 in
theorem policy_Good_l1_hA (a0 : List TGroup) (a1 : Int) (a2 : Int) (a3 : List (U .str × U .i64)) (hp : ∀ p ∈ policy_Good_l1_ps (a0, a1, a2, a3), p) : ∀ p ∈ policy_Good_l1_psA (a0, a1, a2, a3), p := by
 have n0 : ((!!decide (a2 < a1)) = true → (0 : Int) ≤ a2 ∧ a2 < (↑a0.length : Int)) := hp _ (List.mem_cons_self ..)
 exact (needs_cons n0 needs_nil)
noncomputable def policy_Good_l1_row := rowL (envT Ch_1 L0) (loopAt Try.prog 131 1) policy_Good_l1_S policy_Good_l1_E policy_Good_l1_un policy_Good_l1_fuel policy_Good_l1_next policy_Good_l1_goes policy_Good_l1_ps policy_Good_l1_outs
theorem policy_Good_l1_rok : ∀ s b ps outs, policy_Good_l1_row s = some (b, ps, outs) → Wf s ⟨ps, outs, none⟩ ∧ LoopOk (envT C0 L0) b s ps outs :=
 rowP_ok (T := policy_Good_l1_T) Ch_1_ok L0_ok (u := 9) (by kernel_rfl) (by decide) (fun ⟨a0, a1, a2, a3⟩ => policy_Good_l1_ev a0 a1 a2 a3) (fun ⟨a0, a1, a2, a3⟩ => policy_Good_l1_hA a0 a1 a2 a3) policy_Good_l1_unok (fun _ => okOuts_ok (n := 35) rfl) fun _ _ => rfl
noncomputable def policy_Good_l1_L := addLp 1 policy_Good_l1_row L0
theorem policy_Good_l1_Lok : LpOk policy_Good_l1_L := addLp_ok policy_Good_l1_rok L0_ok
def policy_Good_k4 (a0 : List TGroup) : Bool := (↑a0.length : Int) == (0 : Int) || decide ((↑a0.length : Int) > (4 : Int))
def policy_Good_k3 (a0 : List TGroup) : List TGroup := (policy_Good_l1_run (a0, (↑a0.length : Int), (0 : Int), [])).fst
def policy_Good_k2 (a0 : List TGroup) : Int := (policy_Good_l1_run (a0, (↑a0.length : Int), (0 : Int), [])).snd.fst
def policy_Good_k1 (a0 : List TGroup) : List (U TC.str × U TC.i64) := (policy_Good_l1_run (a0, (↑a0.length : Int), (0 : Int), [])).snd.snd.snd
def policy_Good_k0 (a0 : List TGroup) : Int := (policy_Good_l1_run (a0, (↑a0.length : Int), (0 : Int), [])).snd.snd.fst
def policy_Good_0 (a0 : List TGroup) : Int := bif (policy_Good_k4 a0) then bif (↑a0.length : Int) == (0 : Int) then (2 : Int) else (3 : Int) else bif policy_Good_l1_f_k0 (policy_Good_k3 a0) (policy_Good_k2 a0) (policy_Good_k0 a0) (policy_Good_k1 a0) then policy_Good_l1_f_9 (policy_Good_k3 a0) (policy_Good_k2 a0) (policy_Good_k0 a0) (policy_Good_k1 a0) else (0 : Int)
def policy_Good_r (a0 : List TGroup) : A := .v (.int .i64 (policy_Good_0 a0))
def policy_Good_o (_a0 : List TGroup) : Objs := []
def policy_Good_ps (a0 : List TGroup) : List Prop := [((!(policy_Good_k4 a0)) = true → needX policy_Good_l1_next policy_Good_l1_goes policy_Good_l1_ps (policy_Good_l1_fuel (a0, (↑a0.length : Int), (0 : Int), [])) (a0, (↑a0.length : Int), (0 : Int), []))]
set_option maxRecDepth 100000 in
theorem policy_Good_ev (a0 : List TGroup) : evF (envT Ch_1 policy_Good_l1_L) 9 131 [.sl .group a0] 0 [] = some (1, policy_Good_r a0, 0, policy_Good_o a0, [((!(policy_Good_k4 a0)) = true → loopAt Try.prog (131 : FuncId) (1 : Nat) = loopAt Try.prog (131 : FuncId) (1 : Nat)), ((!(policy_Good_k4 a0)) = true → needX policy_Good_l1_next policy_Good_l1_goes policy_Good_l1_ps (policy_Good_l1_fuel (a0, (↑a0.length : Int), (0 : Int), [])) (a0, (↑a0.length : Int), (0 : Int), []))]) := by kernel_rfl
set_option maxRecDepth 100000 in
theorem policy_Good_c (a0 : List TGroup) (hp : ∀ p ∈ policy_Good_ps a0, p) : CallOk Try.prog 131 [.sl .group a0] 0 [] 1 (policy_Good_r a0) 0 (policy_Good_o a0) := by
 have n0 : ((!(policy_Good_k4 a0)) = true → loopAt Try.prog (131 : FuncId) (1 : Nat) = loopAt Try.prog (131 : FuncId) (1 : Nat)) := by intros; rfl
 have n1 : ((!(policy_Good_k4 a0)) = true → needX policy_Good_l1_next policy_Good_l1_goes policy_Good_l1_ps (policy_Good_l1_fuel (a0, (↑a0.length : Int), (0 : Int), [])) (a0, (↑a0.length : Int), (0 : Int), [])) := hp _ (List.mem_cons_self ..)
 exact evF_ok (envP_ok Ch_1_ok policy_Good_l1_Lok) (policy_Good_ev a0) (needs_cons n0 (needs_cons n1 needs_nil))
def policy_Good_r2 (a0 : List TGroup) : A := .v (.int .i64 (goodP a0))
def policy_Good_o2 (_a0 : List TGroup) : Objs := []
def policy_Good_ps2 (_a0 : List TGroup) : List Prop := []
theorem policy_Good_eq (l : List TGroup) : (∀ p ∈ policy_Good_ps l, p) ∧ policy_Good_0 l = goodP l := by
 have e4 : policy_Good_k4 l = (l.length == 0 || decide (4 < l.length)) := by
  unfold policy_Good_k4
  rw [beq0i]
  congr 1
  exact dgt l.length 4
 have main : policy_Good_k4 l = false → needX policy_Good_l1_next policy_Good_l1_goes policy_Good_l1_ps (policy_Good_l1_fuel (l, (l.length : Int), 0, [])) (l, (l.length : Int), 0, []) ∧ policy_Good_0 l = goodP l := fun h4 => by
  have hn4 : l.length ≤ 4 := by
   rw [e4] at h4
   have := of_decide_eq_false (Bool.or_eq_false_iff.1 h4).2
   omega
  have hk0 : ∀ i, i ≤ l.length → (∀ j, j < i → stopG l j = false) → policy_Good_l1_f_k0 l (l.length : Int) (i : Int) (mapAt l i) = (decide (i < l.length) && stopG l i) := fun i hi hs => by
   unfold policy_Good_l1_f_k0 policy_Good_l1_f_k1
   rw [Int.toNat_natCast, find_upd, if_pos rfl, find_mapAt l i hi hs, nn, dlt]
   unfold stopG
   congr 2
   cases ((l.take i).map (·.name)).any (fun s => s == (l.getD i (dflt TC.group)).1) <;> rfl
  obtain ⟨h1, k, hk, hx, hs, hst⟩ := scan (fun i => ((l, (l.length : Int), (i : Int), mapAt l i) : policy_Good_l1_X)) l.length (stopG l) policy_Good_l1_next policy_Good_l1_goes policy_Good_l1_ps (policy_Good_l1_fuel (l, (l.length : Int), 0, [])) ((l, (l.length : Int), 0, []) : policy_Good_l1_X) rfl
   (by show l.length ≤ ((l.length : Int) - 0).toNat; omega)
   (fun i hi hs => by
    show ((!!decide ((i : Int) < (l.length : Int))) && !policy_Good_l1_f_k0 l (l.length : Int) (i : Int) (mapAt l i)) = _
    rw [hk0 i hi hs, nn, dlt]
    cases decide (i < l.length) <;> rfl)
   (fun i hi hs => by
    show (l, (l.length : Int), IntKind.i64.wrap ((i : Int) + 1), policy_Good_l1_f_k1 l (l.length : Int) (i : Int) (mapAt l i)) = (l, (l.length : Int), ((i + 1 : Nat) : Int), mapAt l (i + 1))
    rw [wsucc (by omega)]
    unfold policy_Good_l1_f_k1
    rw [Int.toNat_natCast]
    rfl)
   (fun i hi hs => needs_cons (fun h => by
    have h' : (!!decide ((i : Int) < (l.length : Int))) = true := h
    rw [nn] at h'
    have := of_decide_eq_true h'
    show (0 : Int) ≤ (i : Int) ∧ (i : Int) < (l.length : Int)
    omega) needs_nil)
  refine ⟨h1, ?_⟩
  have hr : policy_Good_l1_run (l, (l.length : Int), 0, []) = (l, (l.length : Int), (k : Int), mapAt l k) := hx
  unfold policy_Good_0 policy_Good_k3 policy_Good_k2 policy_Good_k1 policy_Good_k0
  rw [hr, h4, cond_false]
  show (bif policy_Good_l1_f_k0 l (l.length : Int) (k : Int) (mapAt l k) then policy_Good_l1_f_9 l (l.length : Int) (k : Int) (mapAt l k) else 0) = _
  rw [hk0 k hk hs]
  rw [e4] at h4
  obtain ⟨h5, h6⟩ := Bool.or_eq_false_iff.1 h4
  unfold goodP
  rw [h5, h6, cond_false, cond_false, goodPs_at l k [] (fun j hj hl => by
   have := hs j hj
   unfold stopG at this
   obtain ⟨q1, q2⟩ := Bool.or_eq_false_iff.1 this
   exact ⟨by rw [Bool.not_eq_false'] at q1; exact q1, by simpa using q2⟩), List.nil_append]
  by_cases hkl : k < l.length
  ·have hst' := hst hkl
   rw [hst', decide_eq_true hkl, Bool.and_true, cond_true]
   have hd : l.drop k = l.getD k (dflt TC.group) :: l.drop (k + 1) := by
    rw [List.getD_eq_getElem?_getD, List.getElem?_eq_getElem hkl, Option.getD_some]
    exact List.drop_eq_getElem_cons hkl
   rw [hd]
   unfold goodPs policy_Good_l1_f_9
   rw [Int.toNat_natCast]
   unfold stopG at hst'
   show (bif !(nameB (l.getD k (dflt TC.group)).1 && polB (l.getD k (dflt TC.group)).2) then (2 : Int) else 70) = bif !(nameB (l.getD k (dflt TC.group)).1 && polB (l.getD k (dflt TC.group)).2) then 2 else _
   cases hq : !(nameB (l.getD k (dflt TC.group)).1 && polB (l.getD k (dflt TC.group)).2) with
   | true => rfl
   | false =>
    rw [hq, Bool.false_or] at hst'
    have hst2 : ((l.take k).map (·.name)).any (fun s => s == (l.getD k (dflt TC.group)).name) = true := hst'
    rw [cond_false, cond_false, hst2]
    rfl
  ·rw [decide_eq_false hkl, Bool.false_and, cond_false, List.drop_eq_nil_of_le (by omega)]
   rfl
 cases h4 : policy_Good_k4 l with
 | false =>
  obtain ⟨g1, g2⟩ := main h4
  exact ⟨needs_cons (fun _ => g1) needs_nil, g2⟩
 | true =>
  refine ⟨needs_cons (fun h => by rw [h4] at h; cases h) needs_nil, ?_⟩
  unfold policy_Good_0 goodP
  rw [h4, cond_true, beq0i]
  rw [e4] at h4
  cases h5 : l.length == 0 with
  | true => rfl
  | false =>
   rw [h5, Bool.false_or] at h4
   rw [h4]
   rfl
theorem policy_Good_c2 (a0 : List TGroup) (_hp : ∀ p ∈ policy_Good_ps2 a0, p) : CallOk Try.prog 131 [.sl .group a0] 0 [] 1 (policy_Good_r2 a0) 0 (policy_Good_o2 a0) := by
 have h := policy_Good_c a0 (policy_Good_eq a0).1
 unfold policy_Good_r at h
 rw [(policy_Good_eq a0).2] at h
 exact h
def policy_Good_t : List A → Nat → Objs → Option CRes
 | [y0], nx, o => match argL .group y0 with
  | some a0 => some (1, (policy_Good_r2 a0).pk (shiftR nx), nx + 0, shiftO nx (policy_Good_o2 a0) ++ o, policy_Good_ps2 a0)
  | _ => none
 | _, _, _ => none
theorem policy_Good_tok : TOk Try.prog 131 policy_Good_t := fun args nx o k x nx' o' ps h => by
 unfold policy_Good_t at h
 split at h <;> first | (cases h; done) | skip
 split at h <;> first | (cases h; done) | skip
 rename_i a0 e0
 cases h
 refine ⟨fun hp => ?_, _, rfl⟩
 refine callOk_args (callOk_shift (policy_Good_c2 a0 hp) (Nat.le_refl _) (freeL_cons rfl freeL_nil) nx o) fun F N R vs hl => ?_
 obtain ⟨v0, w0, rfl, h0, hl⟩ := hl.inv
 exact HL.cons (argL_ok e0 h0) (hl)
noncomputable def Ch_2 := addC 131 policy_Good_t Ch_1
theorem Ch_2_ok : COk Try.prog Ch_2 := addC_ok policy_Good_tok Ch_1_ok
abbrev r07_Name_l0_X : Type := ByteArray × Int
def r07_Name_l0_T (x : r07_Name_l0_X) : St := ⟨28, 0, [(0, .v (.string x.1)), (3, .v (.int .i64 x.2))], []⟩
def r07_Name_l0_un : St → Option r07_Name_l0_X
 | ⟨28, 0, [(0, .v (.string z0)), (3, .v (.int .i64 z1))], []⟩ => some (z0, z1)
 | _ => none
theorem r07_Name_l0_unok : ∀ s x, r07_Name_l0_un s = some x → s = r07_Name_l0_T x := fun s x h => by
 unfold r07_Name_l0_un at h
 split at h
 ·cases h; rfl
 ·cases h
def r07_Name_l0_S : Shape := ⟨0, 0, [0, 3], [], [], [], [2], []⟩
def r07_Name_l0_E : Entry := ⟨[], [], [0, 3], []⟩
def r07_Name_l0_f_k1 (a0 : ByteArray) (a1 : Int) : Bool := !!decide (a1 < (↑a0.size : Int))
def r07_Name_l0_f_k0 (a0 : ByteArray) (a1 : Int) : Bool := (r07_Name_l0_f_k1 a0 a1) && (decide ((↑(a0.data.toList.getD a1.toNat (0 : UInt8)).toNat : Int) < (97 : Int)) || decide ((↑(a0.data.toList.getD a1.toNat (0 : UInt8)).toNat : Int) > (122 : Int)))
def r07_Name_l0_f_2 (a0 : ByteArray) (a1 : Int) : Bool := (r07_Name_l0_f_k1 a0 a1) && !(r07_Name_l0_f_k0 a0 a1)
def r07_Name_l0_next (x : r07_Name_l0_X) : r07_Name_l0_X := (x.1, IntKind.i64.wrap (x.2 + (1 : Int)))
def r07_Name_l0_goes (x : r07_Name_l0_X) : Cnd := some (r07_Name_l0_f_2 x.1 x.2)
def r07_Name_l0_psA (x : r07_Name_l0_X) : List Prop := [((r07_Name_l0_f_k1 x.1 x.2) = true → (0 : Int) ≤ x.2 ∧ x.2 < (↑x.1.size : Int)), ((r07_Name_l0_f_k1 x.1 x.2) = true → decide ((↑(x.1.data.toList.getD x.2.toNat (0 : UInt8)).toNat : Int) < (97 : Int)) = false → (0 : Int) ≤ x.2 ∧ x.2 < (↑x.1.size : Int))]
def r07_Name_l0_ps (x : r07_Name_l0_X) : List Prop := [((r07_Name_l0_f_k1 x.1 x.2) = true → (0 : Int) ≤ x.2 ∧ x.2 < (↑x.1.size : Int)), ((r07_Name_l0_f_k1 x.1 x.2) = true → decide ((↑(x.1.data.toList.getD x.2.toNat (0 : UInt8)).toNat : Int) < (97 : Int)) = false → (0 : Int) ≤ x.2 ∧ x.2 < (↑x.1.size : Int))]
def r07_Name_l0_outs (x : r07_Name_l0_X) : Outs := [(some 0, some (!decide (x.2 < (↑x.1.size : Int))), ⟨28, 0, [(2, .dead)], []⟩), (none, some ((r07_Name_l0_f_k0 x.1 x.2)), ⟨28, 0, [(2, .v (.bool (false)))], []⟩)]
def r07_Name_l0_fuel (x : r07_Name_l0_X) : Nat := ((↑x.1.size : Int) - x.2).toNat
def r07_Name_l0_run (x : r07_Name_l0_X) : r07_Name_l0_X := iterX r07_Name_l0_next r07_Name_l0_goes (r07_Name_l0_fuel x) x
set_option maxRecDepth 100000 in
theorem r07_Name_l0_ev (a0 : ByteArray) (a1 : Int) : roundE (envT Ch_2 L0) 9 (loopAt Try.prog 163 0) r07_Name_l0_S (r07_Name_l0_T (a0, a1)) = some (r07_Name_l0_psA (a0, a1), r07_Name_l0_outs (a0, a1), r07_Name_l0_goes (a0, a1), r07_Name_l0_T (r07_Name_l0_next (a0, a1))) := by kernel_rfl
set_option maxRecDepth 100000 in
theorem r07_Name_l0_hA (a0 : ByteArray) (a1 : Int) (hp : ∀ p ∈ r07_Name_l0_ps (a0, a1), p) : ∀ p ∈ r07_Name_l0_psA (a0, a1), p := by
 have n0 : ((r07_Name_l0_f_k1 a0 a1) = true → (0 : Int) ≤ a1 ∧ a1 < (↑a0.size : Int)) := hp _ (List.mem_cons_self ..)
 have n1 : ((r07_Name_l0_f_k1 a0 a1) = true → decide ((↑(a0.data.toList.getD a1.toNat (0 : UInt8)).toNat : Int) < (97 : Int)) = false → (0 : Int) ≤ a1 ∧ a1 < (↑a0.size : Int)) := hp _ (List.mem_cons_of_mem _ (List.mem_cons_self ..))
 exact (needs_cons n0 (needs_cons n1 needs_nil))
noncomputable def r07_Name_l0_row := rowL (envT Ch_2 L0) (loopAt Try.prog 163 0) r07_Name_l0_S r07_Name_l0_E r07_Name_l0_un r07_Name_l0_fuel r07_Name_l0_next r07_Name_l0_goes r07_Name_l0_ps r07_Name_l0_outs
theorem r07_Name_l0_rok : ∀ s b ps outs, r07_Name_l0_row s = some (b, ps, outs) → Wf s ⟨ps, outs, none⟩ ∧ LoopOk (envT C0 L0) b s ps outs :=
 rowP_ok (T := r07_Name_l0_T) Ch_2_ok L0_ok (u := 9) (by kernel_rfl) (by decide) (fun ⟨a0, a1⟩ => r07_Name_l0_ev a0 a1) (fun ⟨a0, a1⟩ => r07_Name_l0_hA a0 a1) r07_Name_l0_unok (fun _ => okOuts_ok (n := 28) rfl) fun _ _ => rfl
noncomputable def r07_Name_l0_L := addLp 0 r07_Name_l0_row L0
theorem r07_Name_l0_Lok : LpOk r07_Name_l0_L := addLp_ok r07_Name_l0_rok L0_ok
def r07_Name_0 (a0 : ByteArray) : Bool := bif r07_Name_l0_f_k0 (r07_Name_l0_run (a0, (0 : Int))).fst (r07_Name_l0_run (a0, (0 : Int))).snd then false else decide ((↑a0.size : Int) ≥ (1 : Int)) && decide ((↑a0.size : Int) ≤ (12 : Int))
def r07_Name_r (a0 : ByteArray) : A := .v (.bool (r07_Name_0 a0))
def r07_Name_o (_a0 : ByteArray) : Objs := []
def r07_Name_ps (a0 : ByteArray) : List Prop := [(needX r07_Name_l0_next r07_Name_l0_goes r07_Name_l0_ps (r07_Name_l0_fuel (a0, (0 : Int))) (a0, (0 : Int)))]
set_option maxRecDepth 100000 in
theorem r07_Name_ev (a0 : ByteArray) : evF (envT Ch_2 r07_Name_l0_L) 9 163 [valA .str a0] 0 [] = some (1, r07_Name_r a0, 0, r07_Name_o a0, [(loopAt Try.prog (163 : FuncId) (0 : Nat) = loopAt Try.prog (163 : FuncId) (0 : Nat)), (needX r07_Name_l0_next r07_Name_l0_goes r07_Name_l0_ps (r07_Name_l0_fuel (a0, (0 : Int))) (a0, (0 : Int)))]) := by kernel_rfl
set_option maxRecDepth 100000 in
theorem r07_Name_c (a0 : ByteArray) (hp : ∀ p ∈ r07_Name_ps a0, p) : CallOk Try.prog 163 [valA .str a0] 0 [] 1 (r07_Name_r a0) 0 (r07_Name_o a0) := by
 have n1 : (needX r07_Name_l0_next r07_Name_l0_goes r07_Name_l0_ps (r07_Name_l0_fuel (a0, (0 : Int))) (a0, (0 : Int))) := hp _ (List.mem_cons_self ..)
 exact evF_ok (envP_ok Ch_2_ok r07_Name_l0_Lok) (r07_Name_ev a0) (needs_cons rfl (needs_cons n1 needs_nil))
def r07_Name_r2 (a0 : ByteArray) : A := .v (.bool (nameB a0))
def r07_Name_o2 (_a0 : ByteArray) : Objs := []
def r07_Name_ps2 (a0 : ByteArray) : List Prop := [wideN a0.size]
theorem r07_Name_eq (g : ByteArray) (hb : wideN g.size) : (∀ p ∈ r07_Name_ps g, p) ∧ r07_Name_0 g = nameB g := by
 unfold wideN at hb
 have hlow : ∀ i, (decide ((((g.data.toList.getD i 0).toNat : Nat) : Int) < 97) || decide ((((g.data.toList.getD i 0).toNat : Nat) : Int) > 122)) = !lowB (g.data.toList.getD i 0) := fun i => by
  unfold lowB
  rw [Bool.not_and, ← decide_not, ← decide_not]
  congr 1 <;> exact decide_eq_decide.2 (by omega)
 have hk0 : ∀ i : Nat, r07_Name_l0_f_k0 g (i : Int) = (decide (i < g.size) && !lowB (g.data.toList.getD i 0)) := fun i => by
  unfold r07_Name_l0_f_k0 r07_Name_l0_f_k1
  rw [nn, dlt, Int.toNat_natCast, hlow]
 obtain ⟨h1, k, hk, hx, hs, hst⟩ := scan (fun i => ((g, (i : Int)) : ByteArray × Int)) g.size (fun i => !lowB (g.data.toList.getD i 0)) r07_Name_l0_next r07_Name_l0_goes r07_Name_l0_ps (r07_Name_l0_fuel (g, 0)) (g, 0) rfl (by show g.size ≤ ((g.size : Int) - 0).toNat; omega)
  (fun i _ _ => by
   show ((!!decide ((i : Int) < (g.size : Int))) && !r07_Name_l0_f_k0 g i) = _
   rw [hk0, nn, dlt]
   cases decide (i < g.size) <;> rfl)
  (fun i hi hj => by
   show (g, IntKind.i64.wrap ((i : Int) + 1)) = (g, ((i + 1 : Nat) : Int))
   rw [wsucc (by omega)])
  (fun i _ _ => needs_cons (fun h => by
    have h' : (!!decide ((i : Int) < (g.size : Int))) = true := h
    rw [nn] at h'
    have := of_decide_eq_true h'
    show (0 : Int) ≤ (i : Int) ∧ (i : Int) < (g.size : Int)
    omega) (needs_cons (fun h _ => by
    have h' : (!!decide ((i : Int) < (g.size : Int))) = true := h
    rw [nn] at h'
    have := of_decide_eq_true h'
    show (0 : Int) ≤ (i : Int) ∧ (i : Int) < (g.size : Int)
    omega) needs_nil))
 refine ⟨needs_cons h1 needs_nil, ?_⟩
 have hr : r07_Name_l0_run (g, 0) = (g, (k : Int)) := hx
 have ha : g.data.toList.all lowB = decide (¬ k < g.size) := by
  have := all_scan g.data.toList 0 lowB k (by rw [size_data]; exact hk) (fun j hj => by simpa using hs j hj) (fun h => by rw [size_data] at h; simpa using hst h)
  rw [size_data] at this
  exact this
 unfold r07_Name_0
 rw [hr]
 show (bif r07_Name_l0_f_k0 g (k : Int) then false else decide ((g.size : Int) ≥ 1) && decide ((g.size : Int) ≤ 12)) = _
 rw [hk0]
 unfold nameB
 rw [ha, show decide ((g.size : Int) ≥ 1) = decide (1 ≤ g.size) from decide_eq_decide.2 (by omega), show decide ((g.size : Int) ≤ 12) = decide (g.size ≤ 12) from decide_eq_decide.2 (by omega)]
 by_cases h : k < g.size
 ·rw [hst h, decide_eq_true h, decide_eq_false (not_not_intro h)]
  rfl
 ·rw [decide_eq_false h, decide_eq_true h]
  rfl
theorem r07_Name_c2 (a0 : ByteArray) (hp : ∀ p ∈ r07_Name_ps2 a0, p) : CallOk Try.prog 163 [valA .str a0] 0 [] 1 (r07_Name_r2 a0) 0 (r07_Name_o2 a0) := by
 have hb : wideN a0.size := hp _ (List.mem_cons_self ..)
 have h := r07_Name_c a0 (r07_Name_eq a0 hb).1
 unfold r07_Name_r at h
 rw [(r07_Name_eq a0 hb).2] at h
 exact h
def r07_Name_t : List A → Nat → Objs → Option CRes
 | [y0], nx, o => match argU .str y0 with
  | some (a0, p0) => some (1, (r07_Name_r2 a0).pk (shiftR nx), nx + 0, shiftO nx (r07_Name_o2 a0) ++ o, p0 ++ (r07_Name_ps2 a0))
  | _ => none
 | _, _, _ => none
theorem r07_Name_tok : TOk Try.prog 163 r07_Name_t := fun args nx o k x nx' o' ps h => by
 unfold r07_Name_t at h
 split at h <;> first | (cases h; done) | skip
 split at h <;> first | (cases h; done) | skip
 rename_i a0 p0 e0
 cases h
 refine ⟨fun hp => ?_, _, rfl⟩
 have q0 := fun p hm => hp p (List.mem_append.2 (.inl hm))
 have r0 := fun p hm => hp p (List.mem_append.2 (.inr hm))
 refine callOk_args (callOk_shift (r07_Name_c2 a0 r0) (Nat.le_refl _) (freeL_cons (valA_free _ _) freeL_nil) nx o) fun F N R vs hl => ?_
 obtain ⟨v0, w0, rfl, h0, hl⟩ := hl.inv
 exact HL.cons (argU_ok e0 q0 h0) (hl)
noncomputable def Ch_3 := addC 163 r07_Name_t Ch_2
theorem Ch_3_ok : COk Try.prog Ch_3 := addC_ok r07_Name_tok Ch_2_ok
abbrev r07_Good_l2_X : Type := (List TGroup) × Int × Int
def r07_Good_l2_T (x : r07_Good_l2_X) : St := ⟨56, 0, [(0, .sl .group x.1), (3, .v (.int .i64 x.2.1)), (4, .v (.int .i64 x.2.2))], []⟩
def r07_Good_l2_un : St → Option r07_Good_l2_X
 | ⟨56, 0, [(0, .sl .group z0), (3, .v (.int .i64 z1)), (4, .v (.int .i64 z2))], []⟩ => some (z0, z1, z2)
 | _ => none
theorem r07_Good_l2_unok : ∀ s x, r07_Good_l2_un s = some x → s = r07_Good_l2_T x := fun s x h => by
 unfold r07_Good_l2_un at h
 split at h
 ·cases h; rfl
 ·cases h
def r07_Good_l2_S : Shape := ⟨0, 0, [0, 3, 4], [], [], [], [2], []⟩
def r07_Good_l2_E : Entry := ⟨[], [], [0, 3, 4], []⟩
def r07_Good_l2_f_k0 (a0 : List TGroup) (a1 : Int) (a2 : Int) : Bool := !!decide (a2 < a1) && (a0.getD a2.toNat (dflt TC.group)).1.toList == (a0.getD a1.toNat (dflt TC.group)).1.toList
def r07_Good_l2_f_3 (a0 : List TGroup) (a1 : Int) (a2 : Int) : Bool := !!decide (a2 < a1) && !(r07_Good_l2_f_k0 a0 a1 a2)
def r07_Good_l2_next (x : r07_Good_l2_X) : r07_Good_l2_X := (x.1, x.2.1, IntKind.i64.wrap (x.2.2 + (1 : Int)))
def r07_Good_l2_goes (x : r07_Good_l2_X) : Cnd := some (r07_Good_l2_f_3 x.1 x.2.1 x.2.2)
def r07_Good_l2_psA (x : r07_Good_l2_X) : List Prop := [((!!decide (x.2.2 < x.2.1)) = true → (0 : Int) ≤ x.2.2 ∧ x.2.2 < (↑x.1.length : Int)), ((!!decide (x.2.2 < x.2.1)) = true → (0 : Int) ≤ x.2.1 ∧ x.2.1 < (↑x.1.length : Int))]
def r07_Good_l2_ps (x : r07_Good_l2_X) : List Prop := [((!!decide (x.2.2 < x.2.1)) = true → (0 : Int) ≤ x.2.2 ∧ x.2.2 < (↑x.1.length : Int)), ((!!decide (x.2.2 < x.2.1)) = true → (0 : Int) ≤ x.2.1 ∧ x.2.1 < (↑x.1.length : Int))]
def r07_Good_l2_outs (x : r07_Good_l2_X) : Outs := [(some 2, some (!decide (x.2.2 < x.2.1)), ⟨56, 0, [(2, .dead)], []⟩), (none, some ((r07_Good_l2_f_k0 x.1 x.2.1 x.2.2)), ⟨56, 0, [(2, .v (.int .i64 ((70 : Int))))], []⟩)]
def r07_Good_l2_fuel (x : r07_Good_l2_X) : Nat := (x.2.1 - x.2.2).toNat
def r07_Good_l2_run (x : r07_Good_l2_X) : r07_Good_l2_X := iterX r07_Good_l2_next r07_Good_l2_goes (r07_Good_l2_fuel x) x
set_option maxRecDepth 100000 in
theorem r07_Good_l2_ev (a0 : List TGroup) (a1 : Int) (a2 : Int) : roundE (envT Ch_3 L0) 9 (loopAt Try.prog 128 2) r07_Good_l2_S (r07_Good_l2_T (a0, a1, a2)) = some (r07_Good_l2_psA (a0, a1, a2), r07_Good_l2_outs (a0, a1, a2), r07_Good_l2_goes (a0, a1, a2), r07_Good_l2_T (r07_Good_l2_next (a0, a1, a2))) := by kernel_rfl
set_option maxRecDepth 100000 in
theorem r07_Good_l2_hA (a0 : List TGroup) (a1 : Int) (a2 : Int) (hp : ∀ p ∈ r07_Good_l2_ps (a0, a1, a2), p) : ∀ p ∈ r07_Good_l2_psA (a0, a1, a2), p := by
 have n0 : ((!!decide (a2 < a1)) = true → (0 : Int) ≤ a2 ∧ a2 < (↑a0.length : Int)) := hp _ (List.mem_cons_self ..)
 have n1 : ((!!decide (a2 < a1)) = true → (0 : Int) ≤ a1 ∧ a1 < (↑a0.length : Int)) := hp _ (List.mem_cons_of_mem _ (List.mem_cons_self ..))
 exact (needs_cons n0 (needs_cons n1 needs_nil))
noncomputable def r07_Good_l2_row := rowL (envT Ch_3 L0) (loopAt Try.prog 128 2) r07_Good_l2_S r07_Good_l2_E r07_Good_l2_un r07_Good_l2_fuel r07_Good_l2_next r07_Good_l2_goes r07_Good_l2_ps r07_Good_l2_outs
theorem r07_Good_l2_rok : ∀ s b ps outs, r07_Good_l2_row s = some (b, ps, outs) → Wf s ⟨ps, outs, none⟩ ∧ LoopOk (envT C0 L0) b s ps outs :=
 rowP_ok (T := r07_Good_l2_T) Ch_3_ok L0_ok (u := 9) (by kernel_rfl) (by decide) (fun ⟨a0, a1, a2⟩ => r07_Good_l2_ev a0 a1 a2) (fun ⟨a0, a1, a2⟩ => r07_Good_l2_hA a0 a1 a2) r07_Good_l2_unok (fun _ => okOuts_ok (n := 56) rfl) fun _ _ => rfl
noncomputable def r07_Good_l2_L := addLp 2 r07_Good_l2_row L0
theorem r07_Good_l2_Lok : LpOk r07_Good_l2_L := addLp_ok r07_Good_l2_rok L0_ok
abbrev r07_Good_l0_X : Type := (List TGroup) × Int
def r07_Good_l0_T (x : r07_Good_l0_X) : St := ⟨56, 0, [(0, .sl .group x.1), (3, .v (.int .i64 x.2))], []⟩
def r07_Good_l0_un : St → Option r07_Good_l0_X
 | ⟨56, 0, [(0, .sl .group z0), (3, .v (.int .i64 z1))], []⟩ => some (z0, z1)
 | _ => none
theorem r07_Good_l0_unok : ∀ s x, r07_Good_l0_un s = some x → s = r07_Good_l0_T x := fun s x h => by
 unfold r07_Good_l0_un at h
 split at h
 ·cases h; rfl
 ·cases h
def r07_Good_l0_S : Shape := ⟨0, 0, [0, 3], [], [], [], [2], []⟩
def r07_Good_l0_E : Entry := ⟨[], [], [0, 3], []⟩
def r07_Good_l0_f_k2 (a0 : List TGroup) (a1 : Int) : Bool := !!decide (a1 < (↑a0.length : Int))
def r07_Good_l0_f_k1 (a0 : List TGroup) (a1 : Int) : Bool := !nameB (a0.getD a1.toNat (dflt TC.group)).1 || (a0.getD a1.toNat (dflt TC.group)).2 != (1 : Int) && (a0.getD a1.toNat (dflt TC.group)).2 != (2 : Int)
def r07_Good_l0_f_k0 (a0 : List TGroup) (a1 : Int) : Bool := (r07_Good_l0_f_k2 a0 a1) && ((r07_Good_l0_f_k1 a0 a1) || r07_Good_l2_f_k0 (r07_Good_l2_run (a0, a1, (0 : Int))).fst (r07_Good_l2_run (a0, a1, (0 : Int))).snd.fst (r07_Good_l2_run (a0, a1, (0 : Int))).snd.snd)
def r07_Good_l0_f_2 (a0 : List TGroup) (a1 : Int) : Bool := (r07_Good_l0_f_k2 a0 a1) && !(r07_Good_l0_f_k0 a0 a1)
def r07_Good_l0_f_11 (a0 : List TGroup) (a1 : Int) : Int := bif (r07_Good_l0_f_k1 a0 a1) then (2 : Int) else (70 : Int)
def r07_Good_l0_next (x : r07_Good_l0_X) : r07_Good_l0_X := (x.1, IntKind.i64.wrap (x.2 + (1 : Int)))
def r07_Good_l0_goes (x : r07_Good_l0_X) : Cnd := some (r07_Good_l0_f_2 x.1 x.2)
def r07_Good_l0_psA (x : r07_Good_l0_X) : List Prop := [((r07_Good_l0_f_k2 x.1 x.2) = true → (0 : Int) ≤ x.2 ∧ x.2 < (↑x.1.length : Int)), ((r07_Good_l0_f_k2 x.1 x.2) = true → wideN (x.1.getD x.2.toNat (dflt TC.group)).1.size), ((r07_Good_l0_f_k2 x.1 x.2) = true → (!nameB (x.1.getD x.2.toNat (dflt TC.group)).1) = false → (0 : Int) ≤ x.2 ∧ x.2 < (↑x.1.length : Int)), ((r07_Good_l0_f_k2 x.1 x.2) = true → ((x.1.getD x.2.toNat (dflt TC.group)).2 != (1 : Int)) = true → (!nameB (x.1.getD x.2.toNat (dflt TC.group)).1) = false → (0 : Int) ≤ x.2 ∧ x.2 < (↑x.1.length : Int)), ((r07_Good_l0_f_k2 x.1 x.2) = true → (!(r07_Good_l0_f_k1 x.1 x.2)) = true → loopAt Try.prog (128 : FuncId) (2 : Nat) = loopAt Try.prog (128 : FuncId) (2 : Nat)), ((r07_Good_l0_f_k2 x.1 x.2) = true → (!(r07_Good_l0_f_k1 x.1 x.2)) = true → needX r07_Good_l2_next r07_Good_l2_goes r07_Good_l2_ps (r07_Good_l2_fuel (x.1, x.2, (0 : Int))) (x.1, x.2, (0 : Int)))]
def r07_Good_l0_ps (x : r07_Good_l0_X) : List Prop := [((r07_Good_l0_f_k2 x.1 x.2) = true → (0 : Int) ≤ x.2 ∧ x.2 < (↑x.1.length : Int)), ((r07_Good_l0_f_k2 x.1 x.2) = true → wideN (x.1.getD x.2.toNat (dflt TC.group)).1.size), ((r07_Good_l0_f_k2 x.1 x.2) = true → (!nameB (x.1.getD x.2.toNat (dflt TC.group)).1) = false → (0 : Int) ≤ x.2 ∧ x.2 < (↑x.1.length : Int)), ((r07_Good_l0_f_k2 x.1 x.2) = true → ((x.1.getD x.2.toNat (dflt TC.group)).2 != (1 : Int)) = true → (!nameB (x.1.getD x.2.toNat (dflt TC.group)).1) = false → (0 : Int) ≤ x.2 ∧ x.2 < (↑x.1.length : Int)), ((r07_Good_l0_f_k2 x.1 x.2) = true → (!(r07_Good_l0_f_k1 x.1 x.2)) = true → needX r07_Good_l2_next r07_Good_l2_goes r07_Good_l2_ps (r07_Good_l2_fuel (x.1, x.2, (0 : Int))) (x.1, x.2, (0 : Int)))]
def r07_Good_l0_outs (x : r07_Good_l0_X) : Outs := [(some 0, some (!decide (x.2 < (↑x.1.length : Int))), ⟨56, 0, [(2, .dead)], []⟩), (none, some ((r07_Good_l0_f_k0 x.1 x.2)), ⟨56, 0, [(2, .v (.int .i64 (r07_Good_l0_f_11 x.1 x.2)))], []⟩)]
def r07_Good_l0_fuel (x : r07_Good_l0_X) : Nat := ((↑x.1.length : Int) - x.2).toNat
def r07_Good_l0_run (x : r07_Good_l0_X) : r07_Good_l0_X := iterX r07_Good_l0_next r07_Good_l0_goes (r07_Good_l0_fuel x) x
set_option maxRecDepth 100000 in
theorem r07_Good_l0_ev (a0 : List TGroup) (a1 : Int) : roundE (envT Ch_3 r07_Good_l2_L) 9 (loopAt Try.prog 128 0) r07_Good_l0_S (r07_Good_l0_T (a0, a1)) = some (r07_Good_l0_psA (a0, a1), r07_Good_l0_outs (a0, a1), r07_Good_l0_goes (a0, a1), r07_Good_l0_T (r07_Good_l0_next (a0, a1))) := by kernel_rfl
set_option maxRecDepth 100000 in
theorem r07_Good_l0_hA (a0 : List TGroup) (a1 : Int) (hp : ∀ p ∈ r07_Good_l0_ps (a0, a1), p) : ∀ p ∈ r07_Good_l0_psA (a0, a1), p := by
 have n0 : ((r07_Good_l0_f_k2 a0 a1) = true → (0 : Int) ≤ a1 ∧ a1 < (↑a0.length : Int)) := hp _ (List.mem_cons_self ..)
 have n1 : ((r07_Good_l0_f_k2 a0 a1) = true → wideN (a0.getD a1.toNat (dflt TC.group)).1.size) := hp _ (List.mem_cons_of_mem _ (List.mem_cons_self ..))
 have n2 : ((r07_Good_l0_f_k2 a0 a1) = true → (!nameB (a0.getD a1.toNat (dflt TC.group)).1) = false → (0 : Int) ≤ a1 ∧ a1 < (↑a0.length : Int)) := hp _ (List.mem_cons_of_mem _ (List.mem_cons_of_mem _ (List.mem_cons_self ..)))
 have n3 : ((r07_Good_l0_f_k2 a0 a1) = true → ((a0.getD a1.toNat (dflt TC.group)).2 != (1 : Int)) = true → (!nameB (a0.getD a1.toNat (dflt TC.group)).1) = false → (0 : Int) ≤ a1 ∧ a1 < (↑a0.length : Int)) := hp _ (List.mem_cons_of_mem _ (List.mem_cons_of_mem _ (List.mem_cons_of_mem _ (List.mem_cons_self ..))))
 have n4 : ((r07_Good_l0_f_k2 a0 a1) = true → (!(r07_Good_l0_f_k1 a0 a1)) = true → loopAt Try.prog (128 : FuncId) (2 : Nat) = loopAt Try.prog (128 : FuncId) (2 : Nat)) := by intros; rfl
 have n5 : ((r07_Good_l0_f_k2 a0 a1) = true → (!(r07_Good_l0_f_k1 a0 a1)) = true → needX r07_Good_l2_next r07_Good_l2_goes r07_Good_l2_ps (r07_Good_l2_fuel (a0, a1, (0 : Int))) (a0, a1, (0 : Int))) := hp _ (List.mem_cons_of_mem _ (List.mem_cons_of_mem _ (List.mem_cons_of_mem _ (List.mem_cons_of_mem _ (List.mem_cons_self ..)))))
 exact (needs_cons n0 (needs_cons n1 (needs_cons n2 (needs_cons n3 (needs_cons n4 (needs_cons n5 needs_nil))))))
noncomputable def r07_Good_l0_row := rowL (envT Ch_3 r07_Good_l2_L) (loopAt Try.prog 128 0) r07_Good_l0_S r07_Good_l0_E r07_Good_l0_un r07_Good_l0_fuel r07_Good_l0_next r07_Good_l0_goes r07_Good_l0_ps r07_Good_l0_outs
theorem r07_Good_l0_rok : ∀ s b ps outs, r07_Good_l0_row s = some (b, ps, outs) → Wf s ⟨ps, outs, none⟩ ∧ LoopOk (envT C0 L0) b s ps outs :=
 rowP_ok (T := r07_Good_l0_T) Ch_3_ok r07_Good_l2_Lok (u := 9) (by kernel_rfl) (by decide) (fun ⟨a0, a1⟩ => r07_Good_l0_ev a0 a1) (fun ⟨a0, a1⟩ => r07_Good_l0_hA a0 a1) r07_Good_l0_unok (fun _ => okOuts_ok (n := 56) rfl) fun _ _ => rfl
noncomputable def r07_Good_l0_L := addLp 0 r07_Good_l0_row r07_Good_l2_L
theorem r07_Good_l0_Lok : LpOk r07_Good_l0_L := addLp_ok r07_Good_l0_rok r07_Good_l2_Lok
def r07_Good_k3 (a0 : List TGroup) : Int := (r07_Good_l0_run (a0, (0 : Int))).snd
def r07_Good_k2 (a0 : List TGroup) : List TGroup := (r07_Good_l0_run (a0, (0 : Int))).fst
def r07_Good_k1 (a0 : List TGroup) : Bool := (↑a0.length : Int) == (0 : Int)
def r07_Good_k0 (a0 : List TGroup) : Bool := decide ((↑a0.length : Int) > (4 : Int))
def r07_Good_0 (a0 : List TGroup) : Int := bif (r07_Good_k1 a0) then (2 : Int) else bif (r07_Good_k0 a0) then (3 : Int) else bif r07_Good_l0_f_k0 (r07_Good_k2 a0) (r07_Good_k3 a0) then r07_Good_l0_f_11 (r07_Good_k2 a0) (r07_Good_k3 a0) else (0 : Int)
def r07_Good_r (a0 : List TGroup) : A := .v (.int .i64 (r07_Good_0 a0))
def r07_Good_o (_a0 : List TGroup) : Objs := []
def r07_Good_ps (a0 : List TGroup) : List Prop := [((!(r07_Good_k1 a0)) = true → (!(r07_Good_k0 a0)) = true → needX r07_Good_l0_next r07_Good_l0_goes r07_Good_l0_ps (r07_Good_l0_fuel (a0, (0 : Int))) (a0, (0 : Int)))]
set_option maxRecDepth 100000 in
theorem r07_Good_ev (a0 : List TGroup) : evF (envT Ch_3 r07_Good_l0_L) 9 128 [.sl .group a0] 0 [] = some (1, r07_Good_r a0, 0, r07_Good_o a0, [((!(r07_Good_k1 a0)) = true → (!(r07_Good_k0 a0)) = true → loopAt Try.prog (128 : FuncId) (0 : Nat) = loopAt Try.prog (128 : FuncId) (0 : Nat)), ((!(r07_Good_k1 a0)) = true → (!(r07_Good_k0 a0)) = true → needX r07_Good_l0_next r07_Good_l0_goes r07_Good_l0_ps (r07_Good_l0_fuel (a0, (0 : Int))) (a0, (0 : Int)))]) := by kernel_rfl
set_option maxRecDepth 100000 in
theorem r07_Good_c (a0 : List TGroup) (hp : ∀ p ∈ r07_Good_ps a0, p) : CallOk Try.prog 128 [.sl .group a0] 0 [] 1 (r07_Good_r a0) 0 (r07_Good_o a0) := by
 have n0 : ((!(r07_Good_k1 a0)) = true → (!(r07_Good_k0 a0)) = true → loopAt Try.prog (128 : FuncId) (0 : Nat) = loopAt Try.prog (128 : FuncId) (0 : Nat)) := by intros; rfl
 have n1 : ((!(r07_Good_k1 a0)) = true → (!(r07_Good_k0 a0)) = true → needX r07_Good_l0_next r07_Good_l0_goes r07_Good_l0_ps (r07_Good_l0_fuel (a0, (0 : Int))) (a0, (0 : Int))) := hp _ (List.mem_cons_self ..)
 exact evF_ok (envP_ok Ch_3_ok r07_Good_l0_Lok) (r07_Good_ev a0) (needs_cons n0 (needs_cons n1 needs_nil))
def r07_Good_r2 (a0 : List TGroup) : A := .v (.int .i64 (goodP a0))
def r07_Good_o2 (_a0 : List TGroup) : Objs := []
def r07_Good_ps2 (a0 : List TGroup) : List Prop := [∀ g ∈ a0, wideN g.name.size]
theorem tlb (a b : ByteArray) : (a.toList == b.toList) = (a == b) := by
 rw [Bool.eq_iff_iff, eqB_iff, beq_iff_eq]
theorem any_names (l : List TGroup) (x : ByteArray) (i k : Nat) (hi : i ≤ l.length) (hk : k ≤ i) (h1 : ∀ j, j < k → ((l.getD j (dflt TC.group)).1 == x) = false) (h2 : k < i → ((l.getD k (dflt TC.group)).1 == x) = true) : ((l.take i).map (·.name)).any (fun s => s == x) = decide (k < i) := by
 rw [List.any_map]
 by_cases h : k < i
 ·rw [decide_eq_true h]
  refine List.any_eq_true.2 ⟨l.getD k (dflt TC.group), ?_, h2 h⟩
  rw [List.getD_eq_getElem?_getD, List.getElem?_eq_getElem (by omega), Option.getD_some]
  exact List.mem_take_iff_getElem.2 ⟨k, by omega, rfl⟩
 ·rw [decide_eq_false h]
  refine Bool.eq_false_iff.2 fun ha => ?_
  obtain ⟨g, hg, hx⟩ := List.any_eq_true.1 ha
  obtain ⟨j, hj, rfl⟩ := List.mem_take_iff_getElem.1 hg
  have := h1 j (by omega)
  rw [List.getD_eq_getElem?_getD, List.getElem?_eq_getElem (by omega), Option.getD_some] at this
  have hx' : (l[j].1 == x) = true := hx
  rw [this] at hx'
  cases hx'
theorem r07_inner (l : List TGroup) (hl : l.length ≤ 4) (i : Nat) (hi : i < l.length) :
  needX r07_Good_l2_next r07_Good_l2_goes r07_Good_l2_ps (r07_Good_l2_fuel (l, (i : Int), 0)) (l, (i : Int), 0) ∧
  r07_Good_l2_f_k0 (r07_Good_l2_run (l, (i : Int), 0)).fst (r07_Good_l2_run (l, (i : Int), 0)).snd.fst (r07_Good_l2_run (l, (i : Int), 0)).snd.snd = ((l.take i).map (·.name)).any (fun s => s == (l.getD i (dflt TC.group)).1) := by
 have hk0 : ∀ k : Nat, r07_Good_l2_f_k0 l (i : Int) (k : Int) = (decide (k < i) && ((l.getD k (dflt TC.group)).1 == (l.getD i (dflt TC.group)).1)) := fun k => by
  unfold r07_Good_l2_f_k0
  rw [nn, dlt, Int.toNat_natCast, Int.toNat_natCast, tlb]
 obtain ⟨h1, k, hk, hx, hs, hst⟩ := scan (fun k => ((l, (i : Int), (k : Int)) : r07_Good_l2_X)) i (fun k => (l.getD k (dflt TC.group)).1 == (l.getD i (dflt TC.group)).1) r07_Good_l2_next r07_Good_l2_goes r07_Good_l2_ps (r07_Good_l2_fuel (l, (i : Int), 0)) (l, (i : Int), 0) rfl (by show i ≤ ((i : Int) - 0).toNat; omega)
  (fun k _ _ => by
   show ((!!decide ((k : Int) < (i : Int))) && !r07_Good_l2_f_k0 l i k) = _
   rw [hk0, nn, dlt]
   cases decide (k < i) <;> rfl)
  (fun k hk _ => by
   show (l, (i : Int), IntKind.i64.wrap ((k : Int) + 1)) = (l, (i : Int), ((k + 1 : Nat) : Int))
   rw [wsucc (by omega)])
  (fun k _ _ => needs_cons (fun h => by
    have h' : (!!decide ((k : Int) < (i : Int))) = true := h
    rw [nn] at h'
    have := of_decide_eq_true h'
    show (0 : Int) ≤ (k : Int) ∧ (k : Int) < (l.length : Int)
    omega) (needs_cons (fun _ => by
    show (0 : Int) ≤ (i : Int) ∧ (i : Int) < (l.length : Int)
    omega) needs_nil))
 refine ⟨h1, ?_⟩
 have hr : r07_Good_l2_run (l, (i : Int), 0) = (l, (i : Int), (k : Int)) := hx
 rw [hr]
 show r07_Good_l2_f_k0 l (i : Int) (k : Int) = _
 rw [hk0, any_names l _ i k (by omega) hk hs hst]
 by_cases h : k < i
 ·rw [hst h, Bool.and_true]
 ·rw [decide_eq_false h, Bool.false_and]
theorem r07_Good_eq (l : List TGroup) (hb : ∀ g ∈ l, wideN g.name.size) : (∀ p ∈ r07_Good_ps l, p) ∧ r07_Good_0 l = goodP l := by
 have main : r07_Good_k1 l = false → r07_Good_k0 l = false → needX r07_Good_l0_next r07_Good_l0_goes r07_Good_l0_ps (r07_Good_l0_fuel (l, 0)) (l, 0) ∧ r07_Good_0 l = goodP l := fun h1 h0 => by
  have hn4 : l.length ≤ 4 := by have h := of_decide_eq_false h0; omega
  have hf1 : ∀ i : Nat, r07_Good_l0_f_k1 l (i : Int) = !(nameB (l.getD i (dflt TC.group)).1 && polB (l.getD i (dflt TC.group)).2) := fun i => by
   unfold r07_Good_l0_f_k1 polB
   rw [Int.toNat_natCast, Bool.not_and]
   congr 1
   simp [bne]
  have hk0 : ∀ i : Nat, r07_Good_l0_f_k0 l (i : Int) = (decide (i < l.length) && stopG l i) := fun i => by
   unfold r07_Good_l0_f_k0 r07_Good_l0_f_k2
   rw [hf1, nn, dlt]
   by_cases hi : i < l.length
   ·rw [(r07_inner l hn4 i hi).2]; rfl
   ·rw [decide_eq_false hi]; rfl
  obtain ⟨g1, k, hk, hx, hs, hst⟩ := scan (fun i => ((l, (i : Int)) : r07_Good_l0_X)) l.length (stopG l) r07_Good_l0_next r07_Good_l0_goes r07_Good_l0_ps (r07_Good_l0_fuel (l, 0)) ((l, 0) : r07_Good_l0_X) rfl
   (by show l.length ≤ ((l.length : Int) - 0).toNat; omega)
   (fun i hi hs => by
    show ((!!decide ((i : Int) < (l.length : Int))) && !r07_Good_l0_f_k0 l (i : Int)) = _
    rw [hk0 i, nn, dlt]
    cases decide (i < l.length) <;> rfl)
   (fun i hi hs => by
    show (l, IntKind.i64.wrap ((i : Int) + 1)) = (l, ((i + 1 : Nat) : Int))
    rw [wsucc (by omega)])
   (fun i hi hs => by
    have hlt : (!!decide ((i : Int) < (l.length : Int))) = true → i < l.length := fun h => by
     rw [nn] at h
     have := of_decide_eq_true h
     omega
    have hin : (!!decide ((i : Int) < (l.length : Int))) = true → (0 : Int) ≤ (i : Int) ∧ (i : Int) < (l.length : Int) := fun h => by
     have := hlt h
     omega
    exact needs_cons hin (needs_cons (fun h => by
     have := hlt h
     show wideN (l.getD i (dflt TC.group)).1.size
     rw [List.getD_eq_getElem?_getD, List.getElem?_eq_getElem this, Option.getD_some]
     exact hb _ (List.getElem_mem this)) (needs_cons (fun h _ => hin h) (needs_cons (fun h _ _ => hin h) (needs_cons (fun h _ => (r07_inner l hn4 i (hlt h)).1) needs_nil)))))
  refine ⟨g1, ?_⟩
  have hr : r07_Good_l0_run (l, 0) = (l, (k : Int)) := hx
  unfold r07_Good_0 r07_Good_k3 r07_Good_k2
  rw [hr, h1, h0, cond_false, cond_false]
  show (bif r07_Good_l0_f_k0 l (k : Int) then r07_Good_l0_f_11 l (k : Int) else 0) = _
  rw [hk0 k]
  have e1 : (l.length == 0) = false := by rw [← beq0i]; exact h1
  have e2 : decide (4 < l.length) = false := decide_eq_false (by omega)
  unfold goodP
  rw [e1, e2, cond_false, cond_false, goodPs_at l k [] (fun j hj hl => by
   have := hs j hj
   unfold stopG at this
   obtain ⟨q1, q2⟩ := Bool.or_eq_false_iff.1 this
   exact ⟨by rw [Bool.not_eq_false'] at q1; exact q1, by simpa using q2⟩), List.nil_append]
  by_cases hkl : k < l.length
  ·have hst' := hst hkl
   rw [hst', decide_eq_true hkl, Bool.and_true, cond_true]
   have hd : l.drop k = l.getD k (dflt TC.group) :: l.drop (k + 1) := by
    rw [List.getD_eq_getElem?_getD, List.getElem?_eq_getElem hkl, Option.getD_some]
    exact List.drop_eq_getElem_cons hkl
   rw [hd]
   unfold goodPs r07_Good_l0_f_11
   rw [hf1]
   unfold stopG at hst'
   show (bif !(nameB (l.getD k (dflt TC.group)).1 && polB (l.getD k (dflt TC.group)).2) then (2 : Int) else 70) = bif !(nameB (l.getD k (dflt TC.group)).1 && polB (l.getD k (dflt TC.group)).2) then 2 else _
   cases hq : !(nameB (l.getD k (dflt TC.group)).1 && polB (l.getD k (dflt TC.group)).2) with
   | true => rfl
   | false =>
    rw [hq, Bool.false_or] at hst'
    have hst2 : ((l.take k).map (·.name)).any (fun s => s == (l.getD k (dflt TC.group)).name) = true := hst'
    rw [cond_false, cond_false, hst2]
    rfl
  ·rw [decide_eq_false hkl, Bool.false_and, cond_false, List.drop_eq_nil_of_le (by omega)]
   rfl
 cases h1 : r07_Good_k1 l with
 | true =>
  refine ⟨needs_cons (fun h => by rw [h1] at h; cases h) needs_nil, ?_⟩
  unfold r07_Good_0 goodP
  rw [h1, cond_true, ← beq0i]
  unfold r07_Good_k1 at h1
  rw [h1]
  rfl
 | false =>
  cases h0 : r07_Good_k0 l with
  | true =>
   refine ⟨needs_cons (fun _ h => by rw [h0] at h; cases h) needs_nil, ?_⟩
   unfold r07_Good_0 goodP
   rw [h1, h0, cond_false, cond_true, ← beq0i]
   unfold r07_Good_k1 at h1
   rw [h1, cond_false, ← dgt l.length 4]
   unfold r07_Good_k0 at h0
   rw [show (decide ((l.length : Int) > ((4 : Nat) : Int))) = true from h0]
   rfl
  | false =>
   obtain ⟨g1, g2⟩ := main h1 h0
   exact ⟨needs_cons (fun _ _ => g1) needs_nil, g2⟩
theorem r07_Good_c2 (a0 : List TGroup) (hp : ∀ p ∈ r07_Good_ps2 a0, p) : CallOk Try.prog 128 [.sl .group a0] 0 [] 1 (r07_Good_r2 a0) 0 (r07_Good_o2 a0) := by
 have hb : ∀ g ∈ a0, wideN g.name.size := hp _ (List.mem_cons_self ..)
 have h := r07_Good_c a0 (r07_Good_eq a0 hb).1
 unfold r07_Good_r at h
 rw [(r07_Good_eq a0 hb).2] at h
 exact h
def r07_Good_t : List A → Nat → Objs → Option CRes
 | [y0], nx, o => match argL .group y0 with
  | some a0 => some (1, (r07_Good_r2 a0).pk (shiftR nx), nx + 0, shiftO nx (r07_Good_o2 a0) ++ o, r07_Good_ps2 a0)
  | _ => none
 | _, _, _ => none
theorem r07_Good_tok : TOk Try.prog 128 r07_Good_t := fun args nx o k x nx' o' ps h => by
 unfold r07_Good_t at h
 split at h <;> first | (cases h; done) | skip
 split at h <;> first | (cases h; done) | skip
 rename_i a0 e0
 cases h
 refine ⟨fun hp => ?_, _, rfl⟩
 refine callOk_args (callOk_shift (r07_Good_c2 a0 hp) (Nat.le_refl _) (freeL_cons rfl freeL_nil) nx o) fun F N R vs hl => ?_
 obtain ⟨v0, w0, rfl, h0, hl⟩ := hl.inv
 exact HL.cons (argL_ok e0 h0) (hl)
noncomputable def Ch_4 := addC 128 r07_Good_t Ch_3
theorem Ch_4_ok : COk Try.prog Ch_4 := addC_ok r07_Good_tok Ch_3_ok
noncomputable def Ch := Ch_4
theorem Ch_ok : COk Try.prog Ch := Ch_4_ok
end Go.Proofs.Yteebobbhhgmeiaa
namespace Go.Proofs.Yteebobbhhgmeiaa
open Go.RowKit Go.Shelf
attribute [local go_sem] Oper.semAt_some
def gV (g : TGroup) : Value := .agg #[.string g.name, .int .i64 g.policy]
def cV (c : TCell) : Value := .agg #[.int .i64 c.stamp.n, .int .i64 c.stamp.site, .int .i64 c.vec.a, .int .i64 c.vec.b, .bool c.gone, .string c.value, .int .i64 c.dead.a, .int .i64 c.dead.b]
structure KB (n₀ X : Nat) (W W' : World) : Prop where
 os : W'.os = W.os
 tape : W'.tape = W.tape
 output : W'.output = W.output
 size : W.heap.size ≤ W'.heap.size
 block : ∀ k, k < n₀ → k ≠ X → W'.heap[k]? = W.heap[k]?
theorem KB.refl (n₀ X : Nat) (W : World) : KB n₀ X W W := ⟨rfl, rfl, rfl, Nat.le_refl _, fun _ _ _ => rfl⟩
theorem KB.trans {n₀ X : Nat} {A B C : World} (h : KB n₀ X A B) (k : KB n₀ X B C) : KB n₀ X A C :=
 ⟨k.os.trans h.os, k.tape.trans h.tape, k.output.trans h.output, Nat.le_trans h.size k.size, fun i h1 h2 => (k.block i h1 h2).trans (h.block i h1 h2)⟩
theorem KB.of_below {n₀ X : Nat} {A B : World} (h : Below n₀ A B) : KB n₀ X A B := ⟨h.os, h.tape, h.output, h.size, fun k hk _ => h.block k hk⟩
theorem KB.cell {n₀ X : Nat} {A B : World} {p : Addr} (h : KB n₀ X A B) (hp : p.block < n₀) (hx : p.block ≠ X) : B.cell? p = A.cell? p := World.cell?_of_block (h.block _ hp hx)
theorem KB.putObj {n₀ X : Nat} {w : World} (hn : n₀ ≤ w.heap.size) (W : World) (l : Nat) (o o' : Obj) (hl : w.heap.size ≤ l) (h : W.heap[l]? = some o) (h1 : o.isCells = false) (h2 : o.isWalk = false) : KB n₀ X W (W.putObj l o') :=
 KB.of_below (belowK_b hn W l o o' hl h h1 h2)
def GsAt (n₀ X : Nat) (W : World) (b off : Nat) (l : List TGroup) : Prop := (b < n₀ ∧ b ≠ X) ∧ ∀ j g, l[j]? = some g → W.cell? ⟨b, off + j * 2, none⟩ = some (.string g.name) ∧ W.cell? ⟨b, off + j * 2 + 1, none⟩ = some (.int .i64 g.policy)
def CsAt (n₀ X : Nat) (W : World) (b off : Nat) (l : List TCell) : Prop := (b < n₀ ∧ b ≠ X) ∧ ∀ j c, l[j]? = some c → W.cell? ⟨b, off + j * 8, none⟩ = some (.int .i64 c.stamp.n) ∧ W.cell? ⟨b, off + j * 8 + 1, none⟩ = some (.int .i64 c.stamp.site) ∧ W.cell? ⟨b, off + j * 8 + 2, none⟩ = some (.int .i64 c.vec.a) ∧ W.cell? ⟨b, off + j * 8 + 3, none⟩ = some (.int .i64 c.vec.b) ∧ W.cell? ⟨b, off + j * 8 + 4, none⟩ = some (.bool c.gone) ∧ W.cell? ⟨b, off + j * 8 + 5, none⟩ = some (.string c.value) ∧ W.cell? ⟨b, off + j * 8 + 6, none⟩ = some (.int .i64 c.dead.a) ∧ W.cell? ⟨b, off + j * 8 + 7, none⟩ = some (.int .i64 c.dead.b)
theorem GsAt.kept {n₀ X : Nat} {W W' : World} {b off : Nat} {l : List TGroup} (h : GsAt n₀ X W b off l) (hb : KB n₀ X W W') : GsAt n₀ X W' b off l :=
 ⟨h.1, fun j g hg => ⟨(hb.cell (p := ⟨b, _, none⟩) h.1.1 h.1.2).trans (h.2 j g hg).1, (hb.cell (p := ⟨b, _, none⟩) h.1.1 h.1.2).trans (h.2 j g hg).2⟩⟩
theorem CsAt.kept {n₀ X : Nat} {W W' : World} {b off : Nat} {l : List TCell} (h : CsAt n₀ X W b off l) (hb : KB n₀ X W W') : CsAt n₀ X W' b off l := by
 refine ⟨h.1, fun j c hc => ?_⟩
 obtain ⟨h0, h1, h2, h3, h4, h5, h6, h7⟩ := h.2 j c hc
 have k : ∀ o, W'.cell? ⟨b, o, none⟩ = W.cell? ⟨b, o, none⟩ := fun o => hb.cell (p := ⟨b, o, none⟩) h.1.1 h.1.2
 exact ⟨(k _).trans h0, (k _).trans h1, (k _).trans h2, (k _).trans h3, (k _).trans h4, (k _).trans h5, (k _).trans h6, (k _).trans h7⟩
theorem grown_none {W W' : World} (h : Below W.heap.size W W') : W.grownBy W' none := ⟨h.os, h.tape, h.output, h.size, fun k hk _ => h.block k hk⟩
def encP (x : TGroup × TCell) : Array Value := #[gV x.1, cV x.2]
theorem zip_take {α β : Type} (l : List α) (r : List β) (k : Nat) (x : α) (y : β) (hx : l[k]? = some x) (hy : r[k]? = some y) : (l.zip r).take (k + 1) = (l.zip r).take k ++ [(x, y)] := by
 rw [List.take_add_one, (List.getElem?_zip_eq_some (z := (x, y))).2 ⟨hx, hy⟩]
 rfl
set_option maxRecDepth 100000 in
set_option maxHeartbeats 4000000 in
theorem parts1_in (n : Nat) (hn : 1 ≤ n) (l B2 B3 n₀ b off cap b' off' cap' X : Nat) (gs : List TGroup) (cs : List TCell) (hlen : cs.length = gs.length) (hl4 : gs.length ≤ 4)
    (J Jx : List (TGroup × TCell) → World → Prop) (n1 : Nat) (hn1 : n₀ ≤ n1)
    (hJa : AbidesFrom n1 J)
    (hY : ∀ pre x W, J pre W → pre.length < gs.length → YieldAt Fence.wide (n - 1) Try.prog l (encP x) W fun e W' =>
      (e = .returned (.bool true) ∧ J (pre ++ [x]) W' ∧ KB n₀ X W W') ∨ (e = .returned (.bool false) ∧ Jx (pre ++ [x]) W'))
    (W : World) (hW1 : n1 = W.heap.size) (h2 : W.cell? ⟨B2, 0, none⟩ = some (.slice (some ⟨b, off, none⟩) gs.length cap)) (h3 : W.cell? ⟨B3, 1, none⟩ = some (.slice (some ⟨b', off', none⟩) cs.length cap')) (hB2 : B2 < n₀ ∧ B2 ≠ X) (hB3 : B3 < n₀ ∧ B3 ≠ X)
    (hg : GsAt n₀ X W b off gs) (hc : CsAt n₀ X W b' off' cs) (h0 : J [] W) :
    CallsIn Fence.wide n Try.prog 165 #[.func (.yield l) #[] #[], .pointer (some ⟨B2, 0, none⟩), .pointer (some ⟨B3, 0, none⟩)] W fun e W' => (∃ v, e = .returned v) ∧
      ((∃ ys, ys = gs.zip cs ∧ J ys W') ∨ (∃ pre, (∃ k, k ≤ gs.length ∧ pre = (gs.zip cs).take k) ∧ Jx pre W')) := by
  refine callsIn_of_wp Try.func165 rfl trivial ?_ rfl
  simp only [Try.ntmps165, List.size_toArray, List.length_cons, List.length_nil, Nat.reduceAdd, Nat.reduceSub, Array.replicate_succ, Array.replicate_zero, List.push_toArray, List.append_toArray, List.nil_append, List.cons_append]
  gi_wp2
  gi_loopw [8] (fun i wr => ∃ k : Nat, k ≤ gs.length ∧ i = .int .i64 k ∧ J ((gs.zip cs).take k) wr ∧ KB n₀ X W wr ∧ W.heap.size ≤ wr.heap.size) (fun i _ => gs.length - (intOf i).toNat)
  case atStart => exact ⟨0, Nat.zero_le _, rfl, h0, KB.refl _ _ _, Nat.le_refl _⟩
  case round =>
    obtain ⟨k, hk, rfl, hJs, hnx, hsz⟩ := hrel
    by_cases hlt : k < gs.length
    · have hlt' : k < cs.length := by omega
      obtain ⟨hg1, hg2⟩ := (hg.kept hnx).2 k gs[k] (List.getElem?_eq_getElem hlt)
      have h2' := (hnx.cell (p := ⟨B2, 0, none⟩) hB2.1 hB2.2).trans h2
      gi_wp2
      have hb3 : Below wr.heap.size wr (wr.alloc (.cells #[.string gs[k].name, .int .i64 gs[k].policy] 79)) := (Below.refl _ wr).alloc (Nat.le_refl _) _
      have hv : wr.heap.size = wr.heap.size := rfl
      have hn := World.alloc_heap_new wr (.cells #[.string gs[k].name, .int .i64 gs[k].policy] 79)
      generalize wr.alloc (.cells #[.string gs[k].name, .int .i64 gs[k].policy] 79) = W3 at hb3 hn ⊢
      have hb4 : KB n₀ X wr W3 := KB.of_below (hb3.mono (Nat.le_trans hn1 (by rw [hW1]; exact hsz)))
      have hb5 : KB n₀ X W3 W3.drew := KB.of_below ((Below.refl _ W3).drew)
      obtain ⟨hc0, hc1, hc2, hc3, hc4, hc5, hc6, hc7⟩ := ((hc.kept hnx).kept hb4).2 k cs[k] (List.getElem?_eq_getElem hlt')
      have h3' := ((hnx.trans hb4).cell (p := ⟨B3, 1, none⟩) hB3.1 hB3.2).trans h3
      have hz : ((gs.zip cs).take k).length < gs.length := by rw [List.length_take, List.length_zip]; omega
      have hJ3 : J ((gs.zip cs).take k) W3.drew := hJa _ wr _ none hJs (grown_none hb3.drew) (fun r e => by cases e)
      obtain ⟨fn, tmps, assign, body, hy, hR⟩ := hY _ (gs[k], cs[k]) _ hJ3 hz
      have hR2 : RoundIn Fence.wide (n - 1) Try.prog l fn tmps assign body W3.drew fun e W' => ∃ q : Bool, e = .returned (.bool q) ∧ (q = true → J ((gs.zip cs).take (k + 1)) W' ∧ KB n₀ X wr W') ∧ (q = false → Jx ((gs.zip cs).take (k + 1)) W') := by
        refine hR.mono ?_
        rw [← zip_take gs cs k gs[k] cs[k] (List.getElem?_eq_getElem hlt) (List.getElem?_eq_getElem hlt')]
        rintro e W' (⟨rfl, h1, h2⟩ | ⟨rfl, h1⟩)
        · exact ⟨true, rfl, ⟨fun _ => ⟨h1, (hb4.trans hb5).trans h2⟩, fun h => by cases h⟩⟩
        · exact ⟨false, rfl, ⟨fun h => (by cases h), fun _ => h1⟩⟩
      clear hR
      have hm : Try.prog.follows .mixedOrders = true := by kernel_rfl
      dsimp only [encP, gV, cV] at hy
      obtain ⟨hn0, hn1'⟩ := cb2 hn
      gi_region_with_o (refine hR2.mono ?_; rintro e W4 ⟨q, rfl, hq1, hq2⟩)
      all_goals (cases q)
      all_goals gi_wp2
      all_goals first
        | (refine bodyPost_ret (results_none rfl _ _ _) rfl ?_; exact ⟨⟨_, rfl⟩, .inr ⟨_, ⟨k + 1, by omega, rfl⟩, hq2 (by trivial)⟩⟩)
        | (obtain ⟨q1, q2⟩ := hq1 (by trivial)
           exact ⟨⟨k + 1, by omega, rfl, q1, hnx.trans q2, Nat.le_trans hsz q2.size⟩, by simp [intOf]; omega⟩)
    · obtain rfl : k = gs.length := by omega
      gi_wp2
      go_end0
      exact ⟨⟨_, rfl⟩, .inl ⟨_, rfl, by rw [List.take_of_length_le (by rw [List.length_zip]; omega)] at hJs; exact hJs⟩⟩
set_option maxHeartbeats 1000000 in
theorem parts_in (n : Nat) (a : Option Addr) (len cap : Nat) (v1 : Value) (key : ByteArray) (w : World) :
  CallsIn Fence.wide n Try.prog 132 #[.slice a len cap, .agg #[.string key, v1]] w fun e w' => e = .returned (.func (.func 165) #[] #[.pointer (some ⟨w.heap.size, 0, none⟩), .pointer (some ⟨w.heap.size + 1, 0, none⟩)]) ∧ w' = (w.alloc (.cells #[.slice a len cap] 66)).alloc (.cells #[.string key, v1] 71) := by
 refine callsIn_of_wp Try.func132 rfl trivial ?_ rfl
 simp only [Try.ntmps132, List.size_toArray, List.length_cons, List.length_nil, Nat.reduceAdd, Nat.reduceSub, Array.replicate_succ, Array.replicate_zero, List.push_toArray, List.append_toArray, List.nil_append, List.cons_append]
 gi_wp2
 go_ret
 exact ⟨rfl, rfl⟩
theorem parts_stops (n : Nat) (hn : 1 ≤ n) (B2 B3 n₀ X b off cap b' off' cap' : Nat) (gs : List TGroup) (cs : List TCell) (hlen : cs.length = gs.length) (hl4 : gs.length ≤ 4) (w : World) (hn₀ : n₀ ≤ w.heap.size)
  (h2 : w.cell? ⟨B2, 0, none⟩ = some (.slice (some ⟨b, off, none⟩) gs.length cap)) (h3 : w.cell? ⟨B3, 1, none⟩ = some (.slice (some ⟨b', off', none⟩) cs.length cap')) (hB2 : B2 < n₀ ∧ B2 ≠ X) (hB3 : B3 < n₀ ∧ B3 ≠ X)
  (hg : GsAt n₀ X w b off gs) (hc : CsAt n₀ X w b' off' cs) :
  SeqStopsK Fence.wide n Try.prog 165 #[.pointer (some ⟨B2, 0, none⟩), .pointer (some ⟨B3, 0, none⟩)] encP (KB n₀ X) (fun ys => ys = gs.zip cs) (fun pre => ∃ k, k ≤ gs.length ∧ pre = (gs.zip cs).take k) gs.length w := fun l J Jx W hW hJ _ hY h0 => by
 have hk : KB n₀ X w W := KB.of_below (hW.mono hn₀)
 exact parts1_in n hn l B2 B3 n₀ b off cap b' off' cap' X gs cs hlen hl4 J Jx W.heap.size (Nat.le_trans hn₀ hW.size) hJ hY W rfl ((hk.cell (p := ⟨B2, 0, none⟩) hB2.1 hB2.2).trans h2) ((hk.cell (p := ⟨B3, 1, none⟩) hB3.1 hB3.2).trans h3) hB2 hB3 (hg.kept hk) (hc.kept hk) h0
def goodR (p : Int) (G : Int → TCell → Bool) (gs : List TGroup) (key : ByteArray) (cs : List TCell) : Int :=
 if (p != 0) = true then p else if key.toList.isEmpty = true then 2 else if 32 < (key.size : Int) then 3 else if ((cs.length : Int) != (gs.length : Int)) = true then 100 else bif (gs.zip cs).all (fun x => G x.1.policy x.2) then 0 else 80
theorem blk_own {β : Type} (B : Nat) (cs : Array Value) (t : TypeId) : Own (fun (_ : β) W => W.heap[B]? = some (.cells cs t (0, 0))) := fun s W W' row hs hg hr => by
 refine (hg.block B (blk_lt hs) fun e => ?_).trans hs
 obtain ⟨o, h1, h2⟩ := hr B e.symm
 rw [hs] at h1
 cases h1
 cases h2
theorem keepsFrom_below (B : Nat) {W W' : World} (h : Below W.heap.size W W') : KeepsFrom B W W' := ⟨h.size, fun k _ _ hk _ => (h.block k (blk_lt hk)).trans hk⟩
theorem ownFrom_size {β : Type} (B n : Nat) : OwnFrom B (fun (_ : β) W => n ≤ W.heap.size) := fun _ _ _ _ hs hg _ => Nat.le_trans hs hg.size
set_option maxRecDepth 100000 in
set_option maxHeartbeats 4000000 in
theorem rgood_calls (w : World) (a0 a1 : Option Addr) (gs : List TGroup) (cs : List TCell) (key : ByteArray) (cap0 cap1 : Nat) (p : Int) (G : Int → TCell → Bool)
    (hP : ∀ W, Below w.heap.size w W → Calls Try.prog 131 #[.slice a0 gs.length cap0] W fun e W' => e = .returned (.int .i64 p) ∧ Below W.heap.size W W')
    (hp0 : p = 0 → 1 ≤ gs.length ∧ gs.length ≤ 4)
    (hC : ∀ (q : Int) (c : TCell) W, Calls Try.prog 38 #[.int .i64 q, cV c] W fun e W' => e = .returned (.bool (G q c)) ∧ Below W.heap.size W W')
    (hG : 0 < gs.length → ∃ b off, a0 = some ⟨b, off, none⟩ ∧ GsAt w.heap.size w.heap.size w b off gs)
    (hS : 0 < cs.length → ∃ b off, a1 = some ⟨b, off, none⟩ ∧ CsAt w.heap.size w.heap.size w b off cs) :
    Calls Try.prog 65 #[.slice a0 gs.length cap0, .agg #[.string key, .slice a1 cs.length cap1]] w fun e W' => e = .returned (.int .i64 (goodR p G gs key cs)) ∧ Below w.heap.size w W' := by
  refine (callsIn_wide (n := 5)).1 ?_
  refine callsIn_of_wp_marks Try.func65 rfl trivial ?_ rfl
  simp only [Try.ntmps65, List.size_toArray, List.length_cons, List.length_nil, Nat.reduceAdd, Nat.reduceSub, Array.replicate_succ, Array.replicate_zero, List.push_toArray, List.append_toArray, List.nil_append, List.cons_append]
  have hw2 : Below w.heap.size w ((w.alloc (.cells #[.string key, .slice a1 cs.length cap1] 71)).alloc (.cells #[.int .i64 0] 26)) := ((Below.refl _ w).alloc (Nat.le_refl _) _).alloc (by simp) _
  have hr1 := alloc_old (.cells #[.int .i64 0] 26) (alloc_new (w := w) (.cells #[.string key, .slice a1 cs.length cap1] 71) rfl)
  have hr2 := alloc_new (w := w.alloc (.cells #[.string key, .slice a1 cs.length cap1] 71)) (.cells #[.int .i64 0] 26) (n := w.heap.size + 1) (by simp)
  gi_wp2_with (first
    | (refine ⟨trivial, ?_⟩; gi_at_call 131; refine (callsIn_wide.2 (hP _ hw2)).mono ?_; rintro e W1 ⟨rfl, hb1⟩; have hx1 := blk_next hr1 hb1; have hx2 := blk_next hr2 hb1; obtain ⟨c0, c1⟩ := cb2 hx1; have d0 := cb1 hx2; have f0 := fb1 hx2; have hB1 : Below w.heap.size w W1 := hw2.trans (hb1.mono (by simp; omega)); clear hr1 hr2 hb1)
    | (refine ⟨trivial, ?_⟩; gi_at_call 132; refine (parts_in _ _ _ _ _ _ _).mono ?_; rintro e W2 ⟨rfl, rfl⟩))
  · have h1 : (p != 0) = true := by assumption
    have e : goodR p G gs key cs = p := by unfold goodR; rw [if_pos h1]
    have hc := cb1 (set_same (i := 0) hx2 (.int .i64 p))
    exact ⟨.int .i64 p, by simp [results, Try.f65, go_sem, hc], by rw [e], hB1.setCell (p := ⟨w.heap.size + 1, 0, none⟩) (by simp) _⟩
  · have h1 : (p != 0) = false := by assumption
    have h2 : key.toList.isEmpty = true := by assumption
    have e : goodR p G gs key cs = 2 := by unfold goodR; rw [if_neg (by rw [h1]; simp), if_pos h2]
    have hc := cb1 (set_same (i := 0) hx2 (.int .i64 2))
    exact ⟨.int .i64 2, by simp [results, Try.f65, go_sem, hc], by rw [e], hB1.setCell (p := ⟨w.heap.size + 1, 0, none⟩) (by simp) _⟩
  · have h1 : (p != 0) = false := by assumption
    have h2 : key.toList.isEmpty = false := by assumption
    have h3 : 32 < (key.size : Int) := by assumption
    have e : goodR p G gs key cs = 3 := by unfold goodR; rw [if_neg (by rw [h1]; simp), if_neg (by rw [h2]; simp), if_pos h3]
    have hc := cb1 (set_same (i := 0) hx2 (.int .i64 3))
    exact ⟨.int .i64 3, by simp [results, Try.f65, go_sem, hc], by rw [e], hB1.setCell (p := ⟨w.heap.size + 1, 0, none⟩) (by simp) _⟩
  · have h1 : (p != 0) = false := by assumption
    have h2 : key.toList.isEmpty = false := by assumption
    have h3 : (key.size : Int) ≤ 32 := by assumption
    have h4 : ((cs.length : Int) != (gs.length : Int)) = true := by assumption
    have e : goodR p G gs key cs = 100 := by unfold goodR; rw [if_neg (by rw [h1]; simp), if_neg (by rw [h2]; simp), if_neg (by omega), if_pos h4]
    have hc := cb1 (set_same (i := 0) hx2 (.int .i64 100))
    exact ⟨.int .i64 100, by simp [results, Try.f65, go_sem, hc], by rw [e], hB1.setCell (p := ⟨w.heap.size + 1, 0, none⟩) (by simp) _⟩
  have h1 : (p != 0) = false := by assumption
  have h2 : key.toList.isEmpty = false := by assumption
  have h3 : (key.size : Int) ≤ 32 := by assumption
  have h4 : ((cs.length : Int) != (gs.length : Int)) = false := by assumption
  have e : goodR p G gs key cs = bif (gs.zip cs).all (fun x => G x.1.policy x.2) then 0 else 80 := by unfold goodR; rw [if_neg (by rw [h1]; simp), if_neg (by rw [h2]; simp), if_neg (by omega), if_neg (by rw [h4]; simp)]
  have hp : p = 0 := by simpa using h1
  clear h1
  subst hp
  have hlen : cs.length = gs.length := by have : (cs.length : Int) = gs.length := by simpa using h4
                                          omega
  obtain ⟨hl1, hl4⟩ := hp0 rfl
  obtain ⟨b, off, rfl, hg⟩ := hG (by omega)
  obtain ⟨b', off', rfl, hc⟩ := hS (by omega)
  have hW2 : Below W1.heap.size W1 ((W1.alloc (.cells #[.slice (some ⟨b, off, none⟩) gs.length cap0] 66)).alloc (.cells #[.string key, .slice (some ⟨b', off', none⟩) cs.length cap1] 71)) := ((Below.refl _ W1).alloc (Nat.le_refl _) _).alloc (by simp) _
  have hy2 := alloc_old (.cells #[.string key, .slice (some ⟨b', off', none⟩) cs.length cap1] 71) (alloc_new (w := W1) (.cells #[.slice (some ⟨b, off, none⟩) gs.length cap0] 66) rfl)
  have hy3 := alloc_new (w := W1.alloc (.cells #[.slice (some ⟨b, off, none⟩) gs.length cap0] 66)) (.cells #[.string key, .slice (some ⟨b', off', none⟩) cs.length cap1] 71) (n := W1.heap.size + 1) (by simp)
  have hz2 := blk_next hx2 hW2
  have hs1 := blk_lt hx2
  have hs2 := blk_lt hy3
  have hB2 := hB1.trans (hW2.mono hB1.size)
  generalize (W1.alloc (.cells #[.slice (some ⟨b, off, none⟩) gs.length cap0] 66)).alloc (.cells #[.string key, .slice (some ⟨b', off', none⟩) cs.length cap1] 71) = W2 at hW2 hy2 hy3 hz2 hs2 hB2 ⊢
  have hg2 : GsAt W2.heap.size W2.heap.size W2 b off gs := ⟨⟨by have := hg.1.1; omega, by have := hg.1.1; omega⟩, fun j g hj => ⟨(hB2.cell (p := ⟨b, _, none⟩) hg.1.1).trans (hg.2 j g hj).1, (hB2.cell (p := ⟨b, _, none⟩) hg.1.1).trans (hg.2 j g hj).2⟩⟩
  have hc2 : CsAt W2.heap.size W2.heap.size W2 b' off' cs := by
    refine ⟨⟨by have := hc.1.1; omega, by have := hc.1.1; omega⟩, fun j c hj => ?_⟩
    have k : ∀ o, W2.cell? ⟨b', o, none⟩ = w.cell? ⟨b', o, none⟩ := fun o => hB2.cell (p := ⟨b', o, none⟩) hc.1.1
    simp only [k]
    exact hc.2 j c hj
  refine wpIn_rangeFunc_ownH (F := Fence.wide) rfl (by omega) (gf := 165) (lb := #[.pointer (some ⟨W1.heap.size, 0, none⟩), .pointer (some ⟨W1.heap.size + 1, 0, none⟩)]) rfl trivial (enters_of Try.func165 (by kernel_rfl) rfl)
    (parts_stops _ (by omega) W1.heap.size (W1.heap.size + 1) W2.heap.size W2.heap.size b off cap0 b' off' cap1 gs cs hlen hl4 W2 (Nat.le_refl _) (cb1 hy2) (cb2 hy3).2 ⟨by omega, by omega⟩ ⟨by omega, by omega⟩ hg2 hc2)
    KB.trans (KB.putObj (Nat.le_refl _)) (Below.refl _ _) (fun _ => rfl)
    (fun pre W => ((∀ x ∈ pre, G x.1.policy x.2 = true) ∧ W.heap[w.heap.size + 1]? = some (.cells #[.int .i64 0] 26 (0, 0))) ∧ Below w.heap.size w W ∧ W2.heap.size ≤ W.heap.size)
    (fun c pre W => ((c = .ret ∧ ∃ x ∈ pre, G x.1.policy x.2 = false) ∧ W.heap[w.heap.size + 1]? = some (.cells #[.int .i64 80] 26 (0, 0))) ∧ Below w.heap.size w W ∧ W2.heap.size ≤ W.heap.size)
    (OwnFrom.and (OwnFrom.and (ownFrom_pure _ _) (Own.from (blk_own _ _ _) _)) (OwnFrom.and (ownFrom_below (Nat.le_refl _) hB2.size) (ownFrom_size _ _)))
    (fun c => OwnFrom.and (OwnFrom.and (ownFrom_pure _ _) (Own.from (blk_own _ _ _) _)) (OwnFrom.and (ownFrom_below (Nat.le_refl _) hB2.size) (ownFrom_size _ _)))
    ⟨⟨by simp, hz2⟩, hB2, Nat.le_refl _⟩
    (fun x a' W => (∃ B6 B7, a' = { tmps := #[Value.slice (some ⟨b, off, none⟩) gs.length cap0, Value.agg #[Value.string key, Value.slice (some ⟨b', off', none⟩) cs.length cap1], undef,
          Value.pointer (some { block := w.heap.size, off := 0 }),
          Value.pointer (some { block := w.heap.size + 1, off := 0 }), Value.int IntKind.i64 0, Value.pointer (some ⟨B6, 0, none⟩), Value.pointer (some ⟨B7, 0, none⟩),
          Value.slice (some ⟨b, off, none⟩) gs.length cap0, Value.int IntKind.i64 0, Value.int IntKind.i64 0, Value.bool false, undef,
          Value.bool false, Value.pointer (some { block := w.heap.size, off := 0 }), Value.string key, Value.bool false,
          Value.bool (decide (32 < (key.size : Int))), Value.pointer (some { block := w.heap.size, off := 0 }),
          Value.string key, Value.int IntKind.i64 key.size, Value.bool (decide (32 < (key.size : Int))), Value.bool false,
          Value.pointer (some { block := w.heap.size, off := 1 }), Value.slice (some ⟨b', off', none⟩) cs.length cap1,
          Value.int IntKind.i64 cs.length, Value.slice (some ⟨b, off, none⟩) gs.length cap0, Value.int IntKind.i64 gs.length,
          Value.bool false, Value.slice (some ⟨b, off, none⟩) gs.length cap0, Value.agg #[Value.string key, Value.slice (some ⟨b', off', none⟩) cs.length cap1],
          Value.func (Fn.func 165) #[] #[Value.pointer (some { block := W1.heap.size, off := 0 }), Value.pointer (some { block := W1.heap.size + 1, off := 0 })],
          gV x.1, cV x.2, undef, undef, undef, undef, undef], defers := [] } ∧
        (W.heap[B6]? = some (.cells #[.string x.1.name, .int .i64 x.1.policy] 79 (0, 0)) ∧ W.heap[B7]? = some (.cells #[.int .i64 x.2.stamp.n, .int .i64 x.2.stamp.site, .int .i64 x.2.vec.a, .int .i64 x.2.vec.b, .bool x.2.gone, .string x.2.value, .int .i64 x.2.dead.a, .int .i64 x.2.dead.b] 55 (0, 0)))))
    (fun x a' => Own.from (fun s X Y row hs hgr hr => by
      obtain ⟨B6, B7, e1, e2, e3⟩ := hs
      exact ⟨B6, B7, e1, blk_own B6 _ _ s X Y row e2 hgr hr, blk_own B7 _ _ s X Y row e3 hgr hr⟩) _) ?assign ?body ?done ?stop
  case assign =>
    rintro l pre x W K ⟨⟨i1, i2⟩, i3, i4⟩ hK
    clear hlen h4
    dsimp only [encP, gV, cV] at hK ⊢
    gi_wp2
    have hb : Below W.heap.size W ((W.alloc (.cells #[.string x.1.name, .int .i64 x.1.policy] 79)).alloc (.cells #[.int .i64 x.2.stamp.n, .int .i64 x.2.stamp.site, .int .i64 x.2.vec.a, .int .i64 x.2.vec.b, .bool x.2.gone, .string x.2.value, .int .i64 x.2.dead.a, .int .i64 x.2.dead.b] 55)) := ((Below.refl _ W).alloc (Nat.le_refl _) _).alloc (by simp) _
    exact hK _ _ (keepsFrom_below _ hb) (KB.of_below (hb.mono i4)) ⟨⟨i1, blk_next i2 hb⟩, i3.trans (hb.mono i3.size), Nat.le_trans i4 hb.size⟩ ⟨W.heap.size, W.heap.size + 1, rfl, alloc_old _ (alloc_new _ rfl), alloc_new _ (by simp)⟩
  case body =>
    rintro l pre x a' W hl hr ⟨⟨i1, i2⟩, i3, i5⟩ ⟨B6, B7, rfl, e6, e7⟩ hlt
    obtain ⟨k0, k1⟩ := cb2 e6
    obtain ⟨m0, m1, m2, m3, m4, m5, m6, m7⟩ := cb8 e7
    have d0 := cb1 i2
    have f0 := fb1 i2
    cases hGx : G x.1.policy x.2 with
    | true =>
      gi_wp2_with (refine ⟨trivial, ?_⟩; gi_at_call 38; refine (CallsIn.inRound l (callsIn_wide.2 (hC x.1.policy x.2 _))).mono ?_; rw [hGx]; rintro e W' ⟨rfl, hb⟩)
      exact ⟨keepsFrom_below _ hb, KB.of_below (hb.mono i5), ⟨fun y hy => (List.mem_append.1 hy).elim (i1 y) (fun e => by simp at e; subst e; exact hGx), blk_next i2 hb⟩, i3.trans (hb.mono i3.size), Nat.le_trans i5 hb.size⟩
    | false =>
      gi_wp2_with (refine ⟨trivial, ?_⟩; gi_at_call 38; refine (CallsIn.inRound l (callsIn_wide.2 (hC x.1.policy x.2 _))).mono ?_; rw [hGx]; rintro e W' ⟨rfl, hb⟩; have i4 := blk_next i2 hb; have d4 := cb1 i4; have f4 := fb1 i4)
      exact ⟨(keepsFrom_below _ hb).trans ((KeepsOthers.setCell _ _ _).from _), ⟨⟨rfl, x, by simp, hGx⟩, set_same (i := 0) i4 (.int .i64 80)⟩, (i3.trans (hb.mono i3.size)).setCell (p := ⟨w.heap.size + 1, 0, none⟩) (by simp) _, Nat.le_trans i5 (by rw [set_size]; exact hb.size)⟩
  case done =>
    rintro D ys W hD rfl ⟨⟨i1, i2⟩, i3, i5⟩ hK
    have d0 := cb1 i2
    have f0 := fb1 i2
    gi_wp2
    have hK' := (KeepsOthers.setCell W ⟨w.heap.size + 1, 0, none⟩ (.int .i64 0)).same D _ hK rfl
    refine ⟨by simp, .inl ⟨_, _, rfl, run_takeDeferred hK', ?_⟩⟩
    have hc5 := cell_kept (World.cell?_setCell_same' W ⟨w.heap.size + 1, 0, none⟩ (.int .i64 0) (by rw [d0]; rfl)) (grownBy_putObj' _ D (.deferred none)) (fun r e => by cases e; exact ⟨_, hK', rfl⟩)
    refine ⟨.int .i64 0, ?_, ?_, (i3.setCell (p := ⟨w.heap.size + 1, 0, none⟩) (by simp) _).trans (belowK_b (w := w) (Nat.le_refl _) _ D _ _ (by have := hB2.size; omega) hK' rfl rfl)⟩
    · simp [results, Try.f65, go_sem, hc5]
    · rw [List.all_eq_true.2 (fun x hx => i1 x hx)]; rfl
  case stop =>
    rintro D c pre W hD ⟨k, hk, rfl⟩ ⟨⟨⟨rfl, x, hx, hGx⟩, i2⟩, i3, i5⟩ hK
    gi_wp2
    refine ⟨by simp, .inl ⟨_, _, rfl, run_takeDeferred hK, ?_⟩⟩
    have hc5 := cell_kept (cb1 i2) (grownBy_putObj' _ D (.deferred none)) (fun r e => by cases e; exact ⟨_, hK, rfl⟩)
    refine ⟨.int .i64 80, ?_, ?_, i3.trans (belowK_b (w := w) (Nat.le_refl _) W D _ _ (by have := hB2.size; omega) hK rfl rfl)⟩
    · simp [results, Try.f65, go_sem, hc5]
    · have : (gs.zip cs).all (fun x => G x.1.policy x.2) = false := by
        cases ha : (gs.zip cs).all (fun x => G x.1.policy x.2) with
        | false => rfl
        | true => have := (List.all_eq_true.1 ha) x (List.mem_of_mem_take hx); rw [hGx] at this; cases this
      rw [this]; rfl
end Go.Proofs.Yteebobbhhgmeiaa
namespace Go.Proofs.Yteebobbhhgmeiaa
open Go.RowKit
def goodRow (l : List TGroup) (r : TRow) : Int := bif goodP l != 0 then goodP l else bif r.key.size == 0 then 2 else bif decide (32 < r.key.size) then 3 else bif r.cells.length != l.length then 100 else bif (l.zip r.cells).all (fun x => goodC x.1.policy x.2) then 0 else 80
def row_Good_r2 (a0 : List TGroup) (a1 : TRow) : A := .v (.int .i64 (goodRow a0 a1))
def row_Good_o2 (_a0 : List TGroup) (_a1 : TRow) : Objs := []
def row_Good_ps2 (_a0 : List TGroup) (_a1 : TRow) : List Prop := []
theorem isEmpty_size (k : ByteArray) : k.toList.isEmpty = (k.size == 0) := by
 rw [ByteArray.toList_eq, Bool.eq_iff_iff, List.isEmpty_iff, beq_iff_eq, ← size_data]
 exact ⟨fun h => by rw [h]; rfl, fun h => List.eq_nil_of_length_eq_zero h⟩
theorem goodR_eq (l : List TGroup) (key : ByteArray) (cs : List TCell) : goodR (goodP l) goodC l key cs = goodRow l ⟨key, cs⟩ := by
 unfold goodR goodRow
 rw [isEmpty_size]
 have e3 : decide (32 < ((key.size : Nat) : Int)) = decide (32 < key.size) := decide_eq_decide.2 (by omega)
 have e4 : (((cs.length : Nat) : Int) != (l.length : Int)) = (cs.length != l.length) := by
  rw [Bool.eq_iff_iff, bne_iff_ne, bne_iff_ne]; omega
 simp only [Bool.cond_eq_ite, e4, decide_eq_true_eq, show (32 < ((key.size : Nat) : Int)) = (32 < key.size) from propext (by omega)]
theorem spot_none {R : World} {ad : Addr} {v : Value} (h : R.cell? ad = some v) : ad = ⟨ad.block, ad.off, none⟩ := by
 cases ad with | mk b o s =>
 cases s with
 | none => rfl
 | some q =>
  exfalso
  unfold World.cell? at h
  cases hb : R.heap[b]? with
  | none => simp only [hb] at h; cases h
  | some ob => cases ob <;> simp [hb] at h
theorem add_num (b o k j : Nat) : ((⟨b, o, none⟩ : Addr).add k).add j = ⟨b, o + k + j, none⟩ := by
 rw [add_mk, add_mk]
section
variable {F : Nat → Prop} {N : Nm} {nx : Nat} {R : World}
theorem HC.at0 {l : List A} {b o k j : Nat} {x : Value} (h : HC F N nx R l ((⟨b, o, none⟩ : Addr).add k)) (hx : l[j]? = some (.v x)) : R.cell? ⟨b, o + k + j, none⟩ = some x := by
 obtain ⟨y, h1, h2⟩ := h j _ hx
 rw [add_num] at h1
 rw [h1, h2.v_inv]
theorem gs_at {gs : List TGroup} {v : Value} (hF : ∀ g, F g → g < R.heap.size) (h : Hv F N nx R (.sl .group gs) v) :
  ∃ a cap, v = .slice a gs.length cap ∧ (0 < gs.length → ∃ b off, a = some ⟨b, off, none⟩ ∧ GsAt R.heap.size R.heap.size R b off gs) := by
 obtain ⟨a, cap, e, _, h2⟩ := h.sl_inv
 refine ⟨a, cap, e, fun hn => ?_⟩
 obtain ⟨ad, rfl, hb, h3⟩ := h2 hn
 have hlt := hF _ hb
 obtain ⟨y, hy, _⟩ := h3 0 gs[0] (List.getElem?_eq_getElem hn) 0 (.v (.string gs[0].name)) rfl
 rw [Nat.zero_mul, add_zero, add_zero] at hy
 have hs := spot_none hy
 rw [hs] at h3 ⊢
 refine ⟨ad.block, ad.off, rfl, ⟨hlt, Nat.ne_of_lt hlt⟩, fun j g hj => ?_⟩
 have h4 := h3 j g hj
 exact ⟨h4.at0 (j := 0) (x := .string g.name) rfl, h4.at0 (j := 1) (x := .int .i64 g.policy) rfl⟩
theorem cs_at {cs : List TCell} {v : Value} (hF : ∀ g, F g → g < R.heap.size) (h : Hv F N nx R (.sl .cell cs) v) :
  ∃ a cap, v = .slice a cs.length cap ∧ (0 < cs.length → ∃ b off, a = some ⟨b, off, none⟩ ∧ CsAt R.heap.size R.heap.size R b off cs) := by
 obtain ⟨a, cap, e, _, h2⟩ := h.sl_inv
 refine ⟨a, cap, e, fun hn => ?_⟩
 obtain ⟨ad, rfl, hb, h3⟩ := h2 hn
 have hlt := hF _ hb
 obtain ⟨y, hy, _⟩ := h3 0 cs[0] (List.getElem?_eq_getElem hn) 0 (.v (.int .i64 cs[0].stamp.n)) rfl
 rw [Nat.zero_mul, add_zero, add_zero] at hy
 have hs := spot_none hy
 rw [hs] at h3 ⊢
 refine ⟨ad.block, ad.off, rfl, ⟨hlt, Nat.ne_of_lt hlt⟩, fun j c hj => ?_⟩
 have h4 := h3 j c hj
 exact ⟨h4.at0 (j := 0) (x := .int .i64 c.stamp.n) rfl, h4.at0 (j := 1) (x := .int .i64 c.stamp.site) rfl, h4.at0 (j := 2) (x := .int .i64 c.vec.a) rfl, h4.at0 (j := 3) (x := .int .i64 c.vec.b) rfl, h4.at0 (j := 4) (x := .bool c.gone) rfl, h4.at0 (j := 5) (x := .string c.value) rfl, h4.at0 (j := 6) (x := .int .i64 c.dead.a) rfl, h4.at0 (j := 7) (x := .int .i64 c.dead.b) rfl⟩
theorem HRel.bare (hF : ∀ g, F g → g < R.heap.size) : HRel F N 0 [] R := ⟨hF, fun _ _ h => (by cases h), fun _ _ _ h => (by cases h), fun _ _ _ _ _ h => (by cases h)⟩
end
theorem CallOk.plain {P : Program} {f : FuncId} {args : List A} {x : Value} (h : CallOk P f args 0 [] 1 (.v x) 0 []) {F : Nat → Prop} {N : Nm} {R : World} {vs : List Value} (hF : ∀ g, F g → g < R.heap.size) (hv : HL F N 0 R args vs) :
  Calls P f vs.toArray R fun e R' => e = .returned x ∧ Below R.heap.size R R' :=
 (h F N R vs (HRel.bare hF) hv).mono fun e R' ⟨y, F', N', e1, _, _, h4, h5⟩ => ⟨by rw [e1, h4.v_inv], h5 (Nat.le_refl _)⟩
theorem row_Good_c2 (a0 : List TGroup) (a1 : TRow) (_hp : ∀ p ∈ row_Good_ps2 a0 a1, p) : CallOk Try.prog 65 [.sl .group a0, valA .row a1] 0 [] 1 (row_Good_r2 a0 a1) 0 (row_Good_o2 a0 a1) := by
 intro F N R vs hR hv
 obtain ⟨v0, vs, rfl, h0, hv⟩ := hv.inv
 obtain ⟨v1, vs, rfl, h1, hv⟩ := hv.inv
 rw [hv.inv0]
 obtain ⟨us, rfl, h2⟩ := Hv.agg_inv (xs := [.v (.string a1.key), .sl .cell a1.cells]) h1
 clear h1
 have h1 := h2
 obtain ⟨u0, us, rfl, k0, h1⟩ := h1.inv
 obtain ⟨u1, us, rfl, k1, h1⟩ := h1.inv
 rw [h1.inv0]
 rw [k0.v_inv]
 obtain ⟨aa, cap0, rfl, g0⟩ := gs_at hR.flt h0
 obtain ⟨ab, cap1, rfl, g1⟩ := cs_at hR.flt k1
 refine (rgood_calls R aa ab a0 a1.cells a1.key cap0 cap1 (goodP a0) goodC ?_ goodP_0 ?_ g0 g1).mono ?_
 ·intro W hW
  exact (policy_Good_c2 a0 (fun _ h => by cases h)).plain (F := F) (N := N) (vs := [_]) (fun g hg => Nat.lt_of_lt_of_le (hR.flt g hg) hW.size) (HL.cons (h0.step (hR.grow hW).2) HL.nil)
 ·intro q c W
  have h := (cell_Good_c q c (fun _ h => by cases h)).plain (F := fun _ => False) (N := N) (R := W) (vs := [.int .i64 q, cV c]) (fun g hg => hg.elim) (HL.cons (.v _) (HL.cons (.v _) HL.nil))
  rw [cell_Good_eq] at h
  exact h
 ·rintro e W ⟨rfl, hb⟩
  rw [goodR_eq]
  exact ⟨_, F, N, rfl, (hR.grow hb).1, Step.of_below hb, .v _, fun _ => hb⟩
def row_Good_t : List A → Nat → Objs → Option CRes
 | [y0, y1], nx, o => match argL .group y0, argU .row y1 with
  | some a0, some (a1, p1) => some (1, (row_Good_r2 a0 a1).pk (shiftR nx), nx + 0, shiftO nx (row_Good_o2 a0 a1) ++ o, p1 ++ (row_Good_ps2 a0 a1))
  | _, _ => none
 | _, _, _ => none
theorem row_Good_tok : TOk Try.prog 65 row_Good_t := fun args nx o k x nx' o' ps h => by
 unfold row_Good_t at h
 split at h <;> first | (cases h; done) | skip
 split at h <;> first | (cases h; done) | skip
 rename_i a0 a1 p1 e0 e1
 cases h
 refine ⟨fun hp => ?_, _, rfl⟩
 have q1 := fun p hm => hp p (List.mem_append.2 (.inl hm))
 have r1 := fun p hm => hp p (List.mem_append.2 (.inr hm))
 refine callOk_args (callOk_shift (row_Good_c2 a0 a1 r1) (Nat.le_refl _) (freeL_cons rfl (freeL_cons (valA_free _ _) freeL_nil)) nx o) fun F N R vs hl => ?_
 obtain ⟨v0, w0, rfl, h0, hl⟩ := hl.inv
 obtain ⟨v1, w1, rfl, h1, hl⟩ := hl.inv
 exact HL.cons (argL_ok e0 h0) (HL.cons (argU_ok e1 q1 h1) (hl))
noncomputable def Ci_1 := addC 65 row_Good_t Ch
theorem Ci_1_ok : COk Try.prog Ci_1 := addC_ok row_Good_tok Ch_ok
noncomputable def Ci := Ci_1
theorem Ci_ok : COk Try.prog Ci := Ci_1_ok
end Go.Proofs.Yteebobbhhgmeiaa
namespace Go.Proofs.Yteebobbhhgmeiaa
open Go.RowKit
def keyE (k : ByteArray) : Int := bif k.size == 0 then 2 else bif decide (32 < k.size) then 3 else 0
def eqC (a b : TCell) : Bool := a.stamp.n == b.stamp.n && a.stamp.site == b.stamp.site && (a.vec.a == b.vec.a && a.vec.b == b.vec.b) && a.gone == b.gone && a.value == b.value && (a.dead.a == b.dead.a && a.dead.b == b.dead.b)
def eqCs : List TCell → List TCell → Bool
 | [], [] => true
 | x :: xs, y :: ys => eqC x y && eqCs xs ys
 | _, _ => false
def eqRw (a b : TRow) : Bool := a.key == b.key && eqCs a.cells b.cells
def bareR (r : TRow) : Bool := r.cells.all fun c => eqC c zeroC
def r10_Key_0 (a0 : ByteArray) : Int := bif a0.toList == (ByteArray.mk #[]).toList then (2 : Int) else bif decide ((↑a0.size : Int) > (32 : Int)) then (3 : Int) else (0 : Int)
def r10_Key_r (a0 : ByteArray) : A := .v (.int .i64 (r10_Key_0 a0))
def r10_Key_o (_a0 : ByteArray) : Objs := []
def r10_Key_ps (_a0 : ByteArray) : List Prop := []
set_option maxRecDepth 100000 in
theorem r10_Key_ev (a0 : ByteArray) : evF (envT Ci L0) 9 129 [valA .str a0] 0 [] = some (1, r10_Key_r a0, 0, r10_Key_o a0, []) := by kernel_rfl
set_option maxRecDepth 100000 in
theorem r10_Key_c (a0 : ByteArray) (_hp : ∀ p ∈ r10_Key_ps a0, p) : CallOk Try.prog 129 [valA .str a0] 0 [] 1 (r10_Key_r a0) 0 (r10_Key_o a0) := by
 exact evF_ok (envP_ok Ci_ok L0_ok) (r10_Key_ev a0) needs_nil
def r10_Key_r2 (a0 : ByteArray) : A := .v (.int .i64 (keyE a0))
def r10_Key_o2 (_a0 : ByteArray) : Objs := []
def r10_Key_ps2 (_a0 : ByteArray) : List Prop := []
theorem eqC_iff {a b : TCell} : eqC a b = true ↔ a = b := by
 unfold eqC
 simp only [Bool.and_eq_true, beq_iff_eq]
 constructor
 ·rintro ⟨⟨⟨⟨⟨h1, h2⟩, h3, h4⟩, h5⟩, h6⟩, h7, h8⟩
  cases a with | mk s v g t d => cases b with | mk s' v' g' t' d' =>
  cases s; cases s'; cases v; cases v'; cases d; cases d'
  cases h1; cases h2; cases h3; cases h4; cases h5; cases h6; cases h7; cases h8
  rfl
 ·rintro rfl
  exact ⟨⟨⟨⟨⟨rfl, rfl⟩, rfl, rfl⟩, rfl⟩, rfl⟩, rfl, rfl⟩
theorem eqCs_iff : ∀ {a b : List TCell}, eqCs a b = true ↔ a = b
 | [], [] => by simp [eqCs]
 | [], _ :: _ => by simp [eqCs]
 | _ :: _, [] => by simp [eqCs]
 | x :: xs, y :: ys => by
  unfold eqCs
  rw [Bool.and_eq_true, eqC_iff, eqCs_iff]
  simp
theorem eqRw_iff {a b : TRow} : eqRw a b = true ↔ a = b := by
 unfold eqRw
 rw [Bool.and_eq_true, beq_iff_eq, eqCs_iff]
 cases a; cases b
 simp
theorem eqCs_N : ∀ (a b : List TCell), a.length = b.length → eqCs a b = allN a.length (fun i => eqC (a.getD i (dflt TC.cell)) (b.getD i (dflt TC.cell))) := fun a b h => by
 rw [Bool.eq_iff_iff, eqCs_iff, allN_iff]
 constructor
 ·rintro rfl i _
  exact eqC_iff.2 rfl
 ·intro g
  refine List.ext_getElem h fun i h1 h2 => ?_
  have := eqC_iff.1 (g i h1)
  rw [List.getD_eq_getElem?_getD, List.getD_eq_getElem?_getD, List.getElem?_eq_getElem h1, List.getElem?_eq_getElem h2] at this
  exact this
theorem r10_Key_eq (k : ByteArray) : r10_Key_0 k = keyE k := by
 unfold r10_Key_0 keyE
 rw [noB_eq]
 congr 2
 exact dgt k.size 32
theorem r10_Key_c2 (a0 : ByteArray) (_hp : ∀ p ∈ r10_Key_ps2 a0, p) : CallOk Try.prog 129 [valA .str a0] 0 [] 1 (r10_Key_r2 a0) 0 (r10_Key_o2 a0) := by
 have h := r10_Key_c a0 (fun _ h => by cases h)
 unfold r10_Key_r at h
 rw [r10_Key_eq] at h
 exact h
def r10_Key_t : List A → Nat → Objs → Option CRes
 | [y0], nx, o => match argU .str y0 with
  | some (a0, p0) => some (1, (r10_Key_r2 a0).pk (shiftR nx), nx + 0, shiftO nx (r10_Key_o2 a0) ++ o, p0 ++ (r10_Key_ps2 a0))
  | _ => none
 | _, _, _ => none
theorem r10_Key_tok : TOk Try.prog 129 r10_Key_t := fun args nx o k x nx' o' ps h => by
 unfold r10_Key_t at h
 split at h <;> first | (cases h; done) | skip
 split at h <;> first | (cases h; done) | skip
 rename_i a0 p0 e0
 cases h
 refine ⟨fun hp => ?_, _, rfl⟩
 have q0 := fun p hm => hp p (List.mem_append.2 (.inl hm))
 have r0 := fun p hm => hp p (List.mem_append.2 (.inr hm))
 refine callOk_args (callOk_shift (r10_Key_c2 a0 r0) (Nat.le_refl _) (freeL_cons (valA_free _ _) freeL_nil) nx o) fun F N R vs hl => ?_
 obtain ⟨v0, w0, rfl, h0, hl⟩ := hl.inv
 exact HL.cons (argU_ok e0 q0 h0) (hl)
noncomputable def Cj_1 := addC 129 r10_Key_t Ci
theorem Cj_1_ok : COk Try.prog Cj_1 := addC_ok r10_Key_tok Ci_ok
abbrev r10_Good_l0_X : Type := (List TGroup) × Int × TRow
def r10_Good_l0_T (x : r10_Good_l0_X) : St := ⟨42, 1, [(0, .sl .group x.1), (3, .own 0 0), (6, .v (.int .i64 x.2.1))], [(0, some (.box 71 [.v (.string x.2.2.key), .sl .cell x.2.2.cells]))]⟩
def r10_Good_l0_un : St → Option r10_Good_l0_X
 | ⟨42, 1, [(0, .sl .group z0), (3, .own 0 0), (6, .v (.int .i64 z1))], [(0, some (.box 71 [.v (.string z2), .sl .cell z3]))]⟩ => some (z0, z1, ⟨z2, z3⟩)
 | _ => none
theorem r10_Good_l0_unok : ∀ s x, r10_Good_l0_un s = some x → s = r10_Good_l0_T x := fun s x h => by
 unfold r10_Good_l0_un at h
 split at h
 ·cases h; rfl
 ·cases h
def r10_Good_l0_S : Shape := ⟨1, 1, [0, 3, 6], [], [(0, 0)], [0], [4], [0]⟩
def r10_Good_l0_E : Entry := ⟨[], [(0, 0)], [0, 3, 6], [0]⟩
def r10_Good_l0_f_k1 (a0 : List TGroup) (a1 : Int) (_a2 : TRow) : Bool := !!decide (a1 < (↑a0.length : Int))
def r10_Good_l0_f_k0 (a0 : List TGroup) (a1 : Int) (a2 : TRow) : Bool := (r10_Good_l0_f_k1 a0 a1 a2) && !r08_Good_0 (a0.getD a1.toNat (dflt TC.group)).2 (a2.2.getD a1.toNat (dflt TC.cell))
def r10_Good_l0_f_3 (a0 : List TGroup) (a1 : Int) (a2 : TRow) : Bool := (r10_Good_l0_f_k1 a0 a1 a2) && !(r10_Good_l0_f_k0 a0 a1 a2)
def r10_Good_l0_next (x : r10_Good_l0_X) : r10_Good_l0_X := (x.1, IntKind.i64.wrap (x.2.1 + (1 : Int)), x.2.2)
def r10_Good_l0_goes (x : r10_Good_l0_X) : Cnd := some (r10_Good_l0_f_3 x.1 x.2.1 x.2.2)
def r10_Good_l0_psA (x : r10_Good_l0_X) : List Prop := [((r10_Good_l0_f_k1 x.1 x.2.1 x.2.2) = true → (0 : Int) ≤ x.2.1 ∧ x.2.1 < (↑x.1.length : Int)), ((r10_Good_l0_f_k1 x.1 x.2.1 x.2.2) = true → (0 : Int) ≤ x.2.1 ∧ x.2.1 < (↑x.2.2.2.length : Int))]
def r10_Good_l0_ps (x : r10_Good_l0_X) : List Prop := [((r10_Good_l0_f_k1 x.1 x.2.1 x.2.2) = true → (0 : Int) ≤ x.2.1 ∧ x.2.1 < (↑x.1.length : Int)), ((r10_Good_l0_f_k1 x.1 x.2.1 x.2.2) = true → (0 : Int) ≤ x.2.1 ∧ x.2.1 < (↑x.2.2.2.length : Int))]
def r10_Good_l0_outs (x : r10_Good_l0_X) : Outs := [(some 0, some (!decide (x.2.1 < (↑x.1.length : Int))), ⟨42, 1, [(4, .dead)], [(0, some (.box 71 [.v (.string x.2.2.1), .sl .cell x.2.2.2]))]⟩), (none, some ((r10_Good_l0_f_k0 x.1 x.2.1 x.2.2)), ⟨42, 1, [(4, .v (.int .i64 ((80 : Int))))], [(0, some (.box 71 [.v (.string x.2.2.1), .sl .cell x.2.2.2]))]⟩)]
def r10_Good_l0_fuel (x : r10_Good_l0_X) : Nat := ((↑x.1.length : Int) - x.2.1).toNat
def r10_Good_l0_run (x : r10_Good_l0_X) : r10_Good_l0_X := iterX r10_Good_l0_next r10_Good_l0_goes (r10_Good_l0_fuel x) x
set_option maxRecDepth 100000 in
theorem r10_Good_l0_ev (a0 : List TGroup) (a1 : Int) (a2 : TRow) : roundE (envT Cj_1 L0) 9 (loopAt Try.prog 66 0) r10_Good_l0_S (r10_Good_l0_T (a0, a1, a2)) = some (r10_Good_l0_psA (a0, a1, a2), r10_Good_l0_outs (a0, a1, a2), r10_Good_l0_goes (a0, a1, a2), r10_Good_l0_T (r10_Good_l0_next (a0, a1, a2))) := by kernel_rfl
set_option maxRecDepth 100000 in
theorem r10_Good_l0_hA (a0 : List TGroup) (a1 : Int) (a2 : TRow) (hp : ∀ p ∈ r10_Good_l0_ps (a0, a1, a2), p) : ∀ p ∈ r10_Good_l0_psA (a0, a1, a2), p := by
 have n0 : ((r10_Good_l0_f_k1 a0 a1 a2) = true → (0 : Int) ≤ a1 ∧ a1 < (↑a0.length : Int)) := hp _ (List.mem_cons_self ..)
 have n1 : ((r10_Good_l0_f_k1 a0 a1 a2) = true → (0 : Int) ≤ a1 ∧ a1 < (↑a2.2.length : Int)) := hp _ (List.mem_cons_of_mem _ (List.mem_cons_self ..))
 exact (needs_cons n0 (needs_cons n1 needs_nil))
noncomputable def r10_Good_l0_row := rowL (envT Cj_1 L0) (loopAt Try.prog 66 0) r10_Good_l0_S r10_Good_l0_E r10_Good_l0_un r10_Good_l0_fuel r10_Good_l0_next r10_Good_l0_goes r10_Good_l0_ps r10_Good_l0_outs
theorem r10_Good_l0_rok : ∀ s b ps outs, r10_Good_l0_row s = some (b, ps, outs) → Wf s ⟨ps, outs, none⟩ ∧ LoopOk (envT C0 L0) b s ps outs :=
 rowP_ok (T := r10_Good_l0_T) Cj_1_ok L0_ok (u := 9) (by kernel_rfl) (by decide) (fun ⟨a0, a1, a2⟩ => r10_Good_l0_ev a0 a1 a2) (fun ⟨a0, a1, a2⟩ => r10_Good_l0_hA a0 a1 a2) r10_Good_l0_unok (fun _ => okOuts_ok (n := 42) rfl) fun _ _ => rfl
noncomputable def r10_Good_l0_L := addLp 0 r10_Good_l0_row L0
theorem r10_Good_l0_Lok : LpOk r10_Good_l0_L := addLp_ok r10_Good_l0_rok L0_ok
def r10_Good_k3 (_a0 : List TGroup) (a1 : TRow) : Bool := keyE a1.1 != (0 : Int)
def r10_Good_k2 (a0 : List TGroup) (_a1 : TRow) : Bool := goodP a0 != (0 : Int)
def r10_Good_k1 (a0 : List TGroup) (a1 : TRow) : r10_Good_l0_X := r10_Good_l0_run (a0, (0 : Int), a1)
def r10_Good_k0 (a0 : List TGroup) (a1 : TRow) : Bool := (↑a1.2.length : Int) != (↑a0.length : Int)
def r10_Good_0 (a0 : List TGroup) (a1 : TRow) : Int := bif (r10_Good_k2 a0 a1) then goodP a0 else bif (r10_Good_k3 a0 a1) then keyE a1.1 else bif (r10_Good_k0 a0 a1) then (100 : Int) else bif r10_Good_l0_f_k0 (r10_Good_k1 a0 a1).fst (r10_Good_k1 a0 a1).snd.fst (r10_Good_k1 a0 a1).snd.snd then (80 : Int) else (0 : Int)
def r10_Good_r (a0 : List TGroup) (a1 : TRow) : A := .v (.int .i64 (r10_Good_0 a0 a1))
def r10_Good_o (_a0 : List TGroup) (_a1 : TRow) : Objs := []
def r10_Good_ps (a0 : List TGroup) (a1 : TRow) : List Prop := [(∀ (g : TGroup), g ∈ a0 → wideN g.1.size), ((!(r10_Good_k2 a0 a1)) = true → (!(r10_Good_k3 a0 a1)) = true → (!(r10_Good_k0 a0 a1)) = true → needX r10_Good_l0_next r10_Good_l0_goes r10_Good_l0_ps (r10_Good_l0_fuel (a0, (0 : Int), a1)) (a0, (0 : Int), a1))]
set_option maxRecDepth 100000 in
theorem r10_Good_ev (a0 : List TGroup) (a1 : TRow) : evF (envT Cj_1 r10_Good_l0_L) 9 66 [.sl .group a0, valA .row a1] 0 [] = some (1, r10_Good_r a0 a1, 0, r10_Good_o a0 a1, [(∀ (g : TGroup), g ∈ a0 → wideN g.1.size), ((!(r10_Good_k2 a0 a1)) = true → (!(r10_Good_k3 a0 a1)) = true → (!(r10_Good_k0 a0 a1)) = true → loopAt Try.prog (66 : FuncId) (0 : Nat) = loopAt Try.prog (66 : FuncId) (0 : Nat)), ((!(r10_Good_k2 a0 a1)) = true → (!(r10_Good_k3 a0 a1)) = true → (!(r10_Good_k0 a0 a1)) = true → needX r10_Good_l0_next r10_Good_l0_goes r10_Good_l0_ps (r10_Good_l0_fuel (a0, (0 : Int), a1)) (a0, (0 : Int), a1))]) := by kernel_rfl
set_option maxRecDepth 100000 in
theorem r10_Good_c (a0 : List TGroup) (a1 : TRow) (hp : ∀ p ∈ r10_Good_ps a0 a1, p) : CallOk Try.prog 66 [.sl .group a0, valA .row a1] 0 [] 1 (r10_Good_r a0 a1) 0 (r10_Good_o a0 a1) := by
 have n0 : (∀ (g : TGroup), g ∈ a0 → wideN g.1.size) := hp _ (List.mem_cons_self ..)
 have n1 : ((!(r10_Good_k2 a0 a1)) = true → (!(r10_Good_k3 a0 a1)) = true → (!(r10_Good_k0 a0 a1)) = true → loopAt Try.prog (66 : FuncId) (0 : Nat) = loopAt Try.prog (66 : FuncId) (0 : Nat)) := by intros; rfl
 have n2 : ((!(r10_Good_k2 a0 a1)) = true → (!(r10_Good_k3 a0 a1)) = true → (!(r10_Good_k0 a0 a1)) = true → needX r10_Good_l0_next r10_Good_l0_goes r10_Good_l0_ps (r10_Good_l0_fuel (a0, (0 : Int), a1)) (a0, (0 : Int), a1)) := hp _ (List.mem_cons_of_mem _ (List.mem_cons_self ..))
 exact evF_ok (envP_ok Cj_1_ok r10_Good_l0_Lok) (r10_Good_ev a0 a1) (needs_cons n0 (needs_cons n1 (needs_cons n2 needs_nil)))
def r10_Good_r2 (a0 : List TGroup) (a1 : TRow) : A := .v (.int .i64 (goodRow a0 a1))
def r10_Good_o2 (_a0 : List TGroup) (_a1 : TRow) : Objs := []
def r10_Good_ps2 (a0 : List TGroup) (_a1 : TRow) : List Prop := [∀ g ∈ a0, wideN g.name.size]
theorem r10_Good_eq (l : List TGroup) (r : TRow) (hb : ∀ g ∈ l, wideN g.name.size) : (∀ p ∈ r10_Good_ps l r, p) ∧ r10_Good_0 l r = goodRow l r := by
 have hk2 : r10_Good_k2 l r = (goodP l != 0) := rfl
 have hk3 : r10_Good_k3 l r = (keyE r.key != 0) := rfl
 have hk0 : r10_Good_k0 l r = (r.cells.length != l.length) := by
  show ((r.cells.length : Int) != (l.length : Int)) = _
  rw [Bool.eq_iff_iff, bne_iff_ne, bne_iff_ne]; omega
 have main : r10_Good_k2 l r = false → r10_Good_k0 l r = false → needX r10_Good_l0_next r10_Good_l0_goes r10_Good_l0_ps (r10_Good_l0_fuel (l, 0, r)) (l, 0, r) ∧ r10_Good_l0_f_k0 (r10_Good_k1 l r).fst (r10_Good_k1 l r).snd.fst (r10_Good_k1 l r).snd.snd = !(l.zip r.cells).all (fun x => goodC x.1.policy x.2) := fun h2 h0 => by
  rw [hk0] at h0
  have hlen : r.cells.length = l.length := by simpa using h0
  have hl4 : l.length ≤ 4 := (goodP_0 (by rw [hk2] at h2; simpa using h2)).2
  have hf : ∀ i : Nat, r10_Good_l0_f_k0 l (i : Int) r = (decide (i < l.length) && !goodC (l.getD i (dflt TC.group)).2 (r.2.getD i (dflt TC.cell))) := fun i => by
   unfold r10_Good_l0_f_k0 r10_Good_l0_f_k1
   rw [nn, dlt, Int.toNat_natCast, r08_Good_eq]
  obtain ⟨h1, k, hk, hx, _, _, hb'⟩ := scanB (fun i => ((l, (i : Int), r) : r10_Good_l0_X)) l.length (fun i => !goodC (l.getD i (dflt TC.group)).2 (r.2.getD i (dflt TC.cell))) r10_Good_l0_next r10_Good_l0_goes r10_Good_l0_ps (r10_Good_l0_fuel (l, 0, r)) (l, 0, r) rfl (by show l.length ≤ ((l.length : Int) - 0).toNat; omega)
   (fun i _ _ => by
    show ((!!decide ((i : Int) < (l.length : Int))) && !r10_Good_l0_f_k0 l i r) = _
    rw [hf, nn, dlt]
    cases decide (i < l.length) <;> rfl)
   (fun i hi _ => by
    show (l, IntKind.i64.wrap ((i : Int) + 1), r) = (l, ((i + 1 : Nat) : Int), r)
    rw [wsucc (by omega)])
   (fun i _ _ => by
    have hin : (!!decide ((i : Int) < (l.length : Int))) = true → (i : Int) < (l.length : Int) := fun h => by rw [nn] at h; exact of_decide_eq_true h
    exact needs_cons (fun h => ⟨by show (0 : Int) ≤ (i : Int); omega, hin h⟩) (needs_cons (fun h => ⟨by show (0 : Int) ≤ (i : Int); omega, by have := hin h; show (i : Int) < (r.cells.length : Int); omega⟩) needs_nil))
  refine ⟨h1, ?_⟩
  have hr : r10_Good_k1 l r = (l, (k : Int), r) := hx
  rw [hr]
  show r10_Good_l0_f_k0 l (k : Int) r = _
  rw [hf, hb', zip_N l r.cells (dflt TC.group) (dflt TC.cell) (fun g c => goodC g.policy c) hlen]
  congr 1
  exact allN_congr fun i _ => Bool.not_not _
 refine ⟨needs_cons hb (needs_cons (fun h1 _ h3 => (main (by simpa using h1) (by simpa using h3)).1) needs_nil), ?_⟩
 unfold r10_Good_0 goodRow
 have ek : keyE r.key = bif r.key.size == 0 then 2 else bif decide (32 < r.key.size) then 3 else 0 := rfl
 cases h2 : r10_Good_k2 l r with
 | true => rw [hk2] at h2; rw [h2]; rfl
 | false =>
  rw [hk2] at h2
  rw [h2, cond_false, cond_false]
  cases h3 : r10_Good_k3 l r with
  | true =>
   rw [cond_true]
   rw [hk3, ek] at h3
   rw [ek]
   cases h5 : r.key.size == 0 with
   | true => rfl
   | false =>
    rw [h5] at h3
    cases h6 : decide (32 < r.key.size) with
    | true => rfl
    | false => rw [h6] at h3; cases h3
  | false =>
   rw [hk3, ek] at h3
   have h5 : (r.key.size == 0) = false := by
    cases h5 : r.key.size == 0 with
    | false => rfl
    | true => rw [h5] at h3; cases h3
   rw [h5] at h3
   have h6 : decide (32 < r.key.size) = false := by
    cases h6 : decide (32 < r.key.size) with
    | false => rfl
    | true => rw [h6] at h3; cases h3
   rw [h5, h6, cond_false, cond_false, cond_false]
   cases h0 : r10_Good_k0 l r with
   | true => rw [hk0] at h0; rw [h0]; rfl
   | false =>
    rw [cond_false, (main (by rw [hk2]; exact h2) h0).2]
    rw [hk0] at h0
    rw [h0, cond_false]
    cases (l.zip r.cells).all (fun x => goodC x.1.policy x.2) <;> rfl
theorem r10_Good_c2 (a0 : List TGroup) (a1 : TRow) (hp : ∀ p ∈ r10_Good_ps2 a0 a1, p) : CallOk Try.prog 66 [.sl .group a0, valA .row a1] 0 [] 1 (r10_Good_r2 a0 a1) 0 (r10_Good_o2 a0 a1) := by
 have hb : ∀ g ∈ a0, wideN g.name.size := hp _ (List.mem_cons_self ..)
 have h := r10_Good_c a0 a1 (r10_Good_eq a0 a1 hb).1
 unfold r10_Good_r at h
 rw [(r10_Good_eq a0 a1 hb).2] at h
 exact h
def r10_Good_t : List A → Nat → Objs → Option CRes
 | [y0, y1], nx, o => match argL .group y0, argU .row y1 with
  | some a0, some (a1, p1) => some (1, (r10_Good_r2 a0 a1).pk (shiftR nx), nx + 0, shiftO nx (r10_Good_o2 a0 a1) ++ o, p1 ++ (r10_Good_ps2 a0 a1))
  | _, _ => none
 | _, _, _ => none
theorem r10_Good_tok : TOk Try.prog 66 r10_Good_t := fun args nx o k x nx' o' ps h => by
 unfold r10_Good_t at h
 split at h <;> first | (cases h; done) | skip
 split at h <;> first | (cases h; done) | skip
 rename_i a0 a1 p1 e0 e1
 cases h
 refine ⟨fun hp => ?_, _, rfl⟩
 have q1 := fun p hm => hp p (List.mem_append.2 (.inl hm))
 have r1 := fun p hm => hp p (List.mem_append.2 (.inr hm))
 refine callOk_args (callOk_shift (r10_Good_c2 a0 a1 r1) (Nat.le_refl _) (freeL_cons rfl (freeL_cons (valA_free _ _) freeL_nil)) nx o) fun F N R vs hl => ?_
 obtain ⟨v0, w0, rfl, h0, hl⟩ := hl.inv
 obtain ⟨v1, w1, rfl, h1, hl⟩ := hl.inv
 exact HL.cons (argL_ok e0 h0) (HL.cons (argU_ok e1 q1 h1) (hl))
noncomputable def Cj_2 := addC 66 r10_Good_t Cj_1
theorem Cj_2_ok : COk Try.prog Cj_2 := addC_ok r10_Good_tok Cj_1_ok
def r08_Same_0 (a0 : TCell) (a1 : TCell) : Bool := a0.1.1 == a1.1.1 && a0.1.2 == a1.1.2 && (a0.2.1 == a1.2.1 && a0.2.2 == a1.2.2) && a0.3 == a1.3 && a0.4.toList == a1.4.toList && (a0.5.1 == a1.5.1 && a0.5.2 == a1.5.2)
def r08_Same_r (a0 : TCell) (a1 : TCell) : A := .v (.bool (r08_Same_0 a0 a1))
def r08_Same_o (_a0 : TCell) (_a1 : TCell) : Objs := []
def r08_Same_ps (_a0 : TCell) (_a1 : TCell) : List Prop := []
set_option maxRecDepth 100000 in
theorem r08_Same_ev (a0 : TCell) (a1 : TCell) : evF (envT Cj_2 L0) 9 76 [valA .cell a0, valA .cell a1] 0 [] = some (1, r08_Same_r a0 a1, 0, r08_Same_o a0 a1, []) := by kernel_rfl
set_option maxRecDepth 100000 in
theorem r08_Same_c (a0 : TCell) (a1 : TCell) (_hp : ∀ p ∈ r08_Same_ps a0 a1, p) : CallOk Try.prog 76 [valA .cell a0, valA .cell a1] 0 [] 1 (r08_Same_r a0 a1) 0 (r08_Same_o a0 a1) := by
 exact evF_ok (envP_ok Cj_2_ok L0_ok) (r08_Same_ev a0 a1) needs_nil
def r08_Same_r2 (a0 : TCell) (a1 : TCell) : A := .v (.bool (eqC a0 a1))
def r08_Same_o2 (_a0 : TCell) (_a1 : TCell) : Objs := []
def r08_Same_ps2 (_a0 : TCell) (_a1 : TCell) : List Prop := []
theorem r08_Same_c2 (a0 : TCell) (a1 : TCell) (_hp : ∀ p ∈ r08_Same_ps2 a0 a1, p) : CallOk Try.prog 76 [valA .cell a0, valA .cell a1] 0 [] 1 (r08_Same_r2 a0 a1) 0 (r08_Same_o2 a0 a1) := by
 have h := r08_Same_c a0 a1 (fun _ h => by cases h)
 have e : r08_Same_0 a0 a1 = eqC a0 a1 := by unfold r08_Same_0; rw [tlb]; rfl
 unfold r08_Same_r at h
 rw [e] at h
 exact h
def r08_Same_t : List A → Nat → Objs → Option CRes
 | [y0, y1], nx, o => match argU .cell y0, argU .cell y1 with
  | some (a0, p0), some (a1, p1) => some (1, (r08_Same_r2 a0 a1).pk (shiftR nx), nx + 0, shiftO nx (r08_Same_o2 a0 a1) ++ o, p0 ++ (p1 ++ (r08_Same_ps2 a0 a1)))
  | _, _ => none
 | _, _, _ => none
theorem r08_Same_tok : TOk Try.prog 76 r08_Same_t := fun args nx o k x nx' o' ps h => by
 unfold r08_Same_t at h
 split at h <;> first | (cases h; done) | skip
 split at h <;> first | (cases h; done) | skip
 rename_i a0 p0 a1 p1 e0 e1
 cases h
 refine ⟨fun hp => ?_, _, rfl⟩
 have q0 := fun p hm => hp p (List.mem_append.2 (.inl hm))
 have r0 := fun p hm => hp p (List.mem_append.2 (.inr hm))
 have q1 := fun p hm => r0 p (List.mem_append.2 (.inl hm))
 have r1 := fun p hm => r0 p (List.mem_append.2 (.inr hm))
 refine callOk_args (callOk_shift (r08_Same_c2 a0 a1 r1) (Nat.le_refl _) (freeL_cons (valA_free _ _) (freeL_cons (valA_free _ _) freeL_nil)) nx o) fun F N R vs hl => ?_
 obtain ⟨v0, w0, rfl, h0, hl⟩ := hl.inv
 obtain ⟨v1, w1, rfl, h1, hl⟩ := hl.inv
 exact HL.cons (argU_ok e0 q0 h0) (HL.cons (argU_ok e1 q1 h1) (hl))
noncomputable def Cj_3 := addC 76 r08_Same_t Cj_2
theorem Cj_3_ok : COk Try.prog Cj_3 := addC_ok r08_Same_tok Cj_2_ok
abbrev r10_Same_l0_X : Type := Int × TRow × TRow
def r10_Same_l0_T (x : r10_Same_l0_X) : St := ⟨39, 2, [(2, .own 0 0), (3, .own 1 0), (5, .v (.int .i64 x.1))], [(0, some (.box 71 [.v (.string x.2.1.key), .sl .cell x.2.1.cells])), (1, some (.box 71 [.v (.string x.2.2.key), .sl .cell x.2.2.cells]))]⟩
def r10_Same_l0_un : St → Option r10_Same_l0_X
 | ⟨39, 2, [(2, .own 0 0), (3, .own 1 0), (5, .v (.int .i64 z0))], [(0, some (.box 71 [.v (.string z1), .sl .cell z2])), (1, some (.box 71 [.v (.string z3), .sl .cell z4]))]⟩ => some (z0, ⟨z1, z2⟩, ⟨z3, z4⟩)
 | _ => none
theorem r10_Same_l0_unok : ∀ s x, r10_Same_l0_un s = some x → s = r10_Same_l0_T x := fun s x h => by
 unfold r10_Same_l0_un at h
 split at h
 ·cases h; rfl
 ·cases h
def r10_Same_l0_S : Shape := ⟨2, 2, [2, 3, 5], [], [(0, 0), (1, 1)], [0, 1], [4], [0, 1]⟩
def r10_Same_l0_E : Entry := ⟨[], [(0, 0), (1, 1)], [2, 3, 5], [0, 1]⟩
def r10_Same_l0_f_k1 (a0 : Int) (a1 : TRow) (_a2 : TRow) : Bool := !!decide (a0 < (↑a1.2.length : Int))
def r10_Same_l0_f_k0 (a0 : Int) (a1 : TRow) (a2 : TRow) : Bool := (r10_Same_l0_f_k1 a0 a1 a2) && !eqC (a1.2.getD a0.toNat (dflt TC.cell)) (a2.2.getD a0.toNat (dflt TC.cell))
def r10_Same_l0_f_3 (a0 : Int) (a1 : TRow) (a2 : TRow) : Bool := (r10_Same_l0_f_k1 a0 a1 a2) && !(r10_Same_l0_f_k0 a0 a1 a2)
def r10_Same_l0_next (x : r10_Same_l0_X) : r10_Same_l0_X := (IntKind.i64.wrap (x.1 + (1 : Int)), x.2.1, x.2.2)
def r10_Same_l0_goes (x : r10_Same_l0_X) : Cnd := some (r10_Same_l0_f_3 x.1 x.2.1 x.2.2)
def r10_Same_l0_psA (x : r10_Same_l0_X) : List Prop := [((r10_Same_l0_f_k1 x.1 x.2.1 x.2.2) = true → (0 : Int) ≤ x.1 ∧ x.1 < (↑x.2.1.2.length : Int)), ((r10_Same_l0_f_k1 x.1 x.2.1 x.2.2) = true → (0 : Int) ≤ x.1 ∧ x.1 < (↑x.2.2.2.length : Int))]
def r10_Same_l0_ps (x : r10_Same_l0_X) : List Prop := [((r10_Same_l0_f_k1 x.1 x.2.1 x.2.2) = true → (0 : Int) ≤ x.1 ∧ x.1 < (↑x.2.1.2.length : Int)), ((r10_Same_l0_f_k1 x.1 x.2.1 x.2.2) = true → (0 : Int) ≤ x.1 ∧ x.1 < (↑x.2.2.2.length : Int))]
def r10_Same_l0_outs (x : r10_Same_l0_X) : Outs := [(some 0, some (!decide (x.1 < (↑x.2.1.2.length : Int))), ⟨39, 2, [(4, .dead)], [(0, some (.box 71 [.v (.string x.2.1.1), .sl .cell x.2.1.2])), (1, some (.box 71 [.v (.string x.2.2.1), .sl .cell x.2.2.2]))]⟩), (none, some ((r10_Same_l0_f_k0 x.1 x.2.1 x.2.2)), ⟨39, 2, [(4, .v (.bool (false)))], [(0, some (.box 71 [.v (.string x.2.1.1), .sl .cell x.2.1.2])), (1, some (.box 71 [.v (.string x.2.2.1), .sl .cell x.2.2.2]))]⟩)]
def r10_Same_l0_fuel (x : r10_Same_l0_X) : Nat := ((↑x.2.1.2.length : Int) - x.1).toNat
def r10_Same_l0_run (x : r10_Same_l0_X) : r10_Same_l0_X := iterX r10_Same_l0_next r10_Same_l0_goes (r10_Same_l0_fuel x) x
set_option maxRecDepth 100000 in
theorem r10_Same_l0_ev (a0 : Int) (a1 : TRow) (a2 : TRow) : roundE (envT Cj_3 L0) 9 (loopAt Try.prog 67 0) r10_Same_l0_S (r10_Same_l0_T (a0, a1, a2)) = some (r10_Same_l0_psA (a0, a1, a2), r10_Same_l0_outs (a0, a1, a2), r10_Same_l0_goes (a0, a1, a2), r10_Same_l0_T (r10_Same_l0_next (a0, a1, a2))) := by kernel_rfl
set_option maxRecDepth 100000 in
theorem r10_Same_l0_hA (a0 : Int) (a1 : TRow) (a2 : TRow) (hp : ∀ p ∈ r10_Same_l0_ps (a0, a1, a2), p) : ∀ p ∈ r10_Same_l0_psA (a0, a1, a2), p := by
 have n0 : ((r10_Same_l0_f_k1 a0 a1 a2) = true → (0 : Int) ≤ a0 ∧ a0 < (↑a1.2.length : Int)) := hp _ (List.mem_cons_self ..)
 have n1 : ((r10_Same_l0_f_k1 a0 a1 a2) = true → (0 : Int) ≤ a0 ∧ a0 < (↑a2.2.length : Int)) := hp _ (List.mem_cons_of_mem _ (List.mem_cons_self ..))
 exact (needs_cons n0 (needs_cons n1 needs_nil))
noncomputable def r10_Same_l0_row := rowL (envT Cj_3 L0) (loopAt Try.prog 67 0) r10_Same_l0_S r10_Same_l0_E r10_Same_l0_un r10_Same_l0_fuel r10_Same_l0_next r10_Same_l0_goes r10_Same_l0_ps r10_Same_l0_outs
theorem r10_Same_l0_rok : ∀ s b ps outs, r10_Same_l0_row s = some (b, ps, outs) → Wf s ⟨ps, outs, none⟩ ∧ LoopOk (envT C0 L0) b s ps outs :=
 rowP_ok (T := r10_Same_l0_T) Cj_3_ok L0_ok (u := 9) (by kernel_rfl) (by decide) (fun ⟨a0, a1, a2⟩ => r10_Same_l0_ev a0 a1 a2) (fun ⟨a0, a1, a2⟩ => r10_Same_l0_hA a0 a1 a2) r10_Same_l0_unok (fun _ => okOuts_ok (n := 39) rfl) fun _ _ => rfl
noncomputable def r10_Same_l0_L := addLp 0 r10_Same_l0_row L0
theorem r10_Same_l0_Lok : LpOk r10_Same_l0_L := addLp_ok r10_Same_l0_rok L0_ok
def r10_Same_k1 (a0 : TRow) (a1 : TRow) : r10_Same_l0_X := r10_Same_l0_run ((0 : Int), a0, a1)
def r10_Same_k0 (a0 : TRow) (a1 : TRow) : Bool := !a0.1.toList == a1.1.toList || (↑a0.2.length : Int) != (↑a1.2.length : Int)
def r10_Same_0 (a0 : TRow) (a1 : TRow) : Bool := bif (r10_Same_k0 a0 a1) then false else bif r10_Same_l0_f_k0 (r10_Same_k1 a0 a1).fst (r10_Same_k1 a0 a1).snd.fst (r10_Same_k1 a0 a1).snd.snd then false else true
def r10_Same_r (a0 : TRow) (a1 : TRow) : A := .v (.bool (r10_Same_0 a0 a1))
def r10_Same_o (_a0 : TRow) (_a1 : TRow) : Objs := []
def r10_Same_ps (a0 : TRow) (a1 : TRow) : List Prop := [((!(r10_Same_k0 a0 a1)) = true → needX r10_Same_l0_next r10_Same_l0_goes r10_Same_l0_ps (r10_Same_l0_fuel ((0 : Int), a0, a1)) ((0 : Int), a0, a1))]
set_option maxRecDepth 100000 in
theorem r10_Same_ev (a0 : TRow) (a1 : TRow) : evF (envT Cj_3 r10_Same_l0_L) 9 67 [valA .row a0, valA .row a1] 0 [] = some (1, r10_Same_r a0 a1, 0, r10_Same_o a0 a1, [((!(r10_Same_k0 a0 a1)) = true → loopAt Try.prog (67 : FuncId) (0 : Nat) = loopAt Try.prog (67 : FuncId) (0 : Nat)), ((!(r10_Same_k0 a0 a1)) = true → needX r10_Same_l0_next r10_Same_l0_goes r10_Same_l0_ps (r10_Same_l0_fuel ((0 : Int), a0, a1)) ((0 : Int), a0, a1))]) := by kernel_rfl
set_option maxRecDepth 100000 in
theorem r10_Same_c (a0 : TRow) (a1 : TRow) (hp : ∀ p ∈ r10_Same_ps a0 a1, p) : CallOk Try.prog 67 [valA .row a0, valA .row a1] 0 [] 1 (r10_Same_r a0 a1) 0 (r10_Same_o a0 a1) := by
 have n0 : ((!(r10_Same_k0 a0 a1)) = true → loopAt Try.prog (67 : FuncId) (0 : Nat) = loopAt Try.prog (67 : FuncId) (0 : Nat)) := by intros; rfl
 have n1 : ((!(r10_Same_k0 a0 a1)) = true → needX r10_Same_l0_next r10_Same_l0_goes r10_Same_l0_ps (r10_Same_l0_fuel ((0 : Int), a0, a1)) ((0 : Int), a0, a1)) := hp _ (List.mem_cons_self ..)
 exact evF_ok (envP_ok Cj_3_ok r10_Same_l0_Lok) (r10_Same_ev a0 a1) (needs_cons n0 (needs_cons n1 needs_nil))
def r10_Same_r2 (a0 : TRow) (a1 : TRow) : A := .v (.bool (eqRw a0 a1))
def r10_Same_o2 (_a0 : TRow) (_a1 : TRow) : Objs := []
def r10_Same_ps2 (a0 : TRow) (_a1 : TRow) : List Prop := [boundP a0.cells.length]
theorem r10_Same_eq (a b : TRow) (hb : boundP a.cells.length) : (∀ p ∈ r10_Same_ps a b, p) ∧ r10_Same_0 a b = eqRw a b := by
 unfold boundP at hb
 have hk0 : r10_Same_k0 a b = (!(a.key == b.key) || a.cells.length != b.cells.length) := by
  show (!(a.key.toList == b.key.toList) || ((a.cells.length : Int) != (b.cells.length : Int))) = _
  rw [tlb]
  congr 1
  rw [Bool.eq_iff_iff, bne_iff_ne, bne_iff_ne]; omega
 have main : r10_Same_k0 a b = false → needX r10_Same_l0_next r10_Same_l0_goes r10_Same_l0_ps (r10_Same_l0_fuel (0, a, b)) (0, a, b) ∧ r10_Same_l0_f_k0 (r10_Same_k1 a b).fst (r10_Same_k1 a b).snd.fst (r10_Same_k1 a b).snd.snd = !eqCs a.cells b.cells := fun h0 => by
  rw [hk0] at h0
  have hlen : a.cells.length = b.cells.length := by simpa using (Bool.or_eq_false_iff.1 h0).2
  have hf : ∀ i : Nat, r10_Same_l0_f_k0 (i : Int) a b = (decide (i < a.cells.length) && !eqC (a.2.getD i (dflt TC.cell)) (b.2.getD i (dflt TC.cell))) := fun i => by
   unfold r10_Same_l0_f_k0 r10_Same_l0_f_k1
   rw [nn, dlt, Int.toNat_natCast]
  obtain ⟨h1, k, hk, hx, _, _, hb'⟩ := scanB (fun i => (((i : Int), a, b) : r10_Same_l0_X)) a.cells.length (fun i => !eqC (a.2.getD i (dflt TC.cell)) (b.2.getD i (dflt TC.cell))) r10_Same_l0_next r10_Same_l0_goes r10_Same_l0_ps (r10_Same_l0_fuel (0, a, b)) (0, a, b) rfl (by show a.cells.length ≤ ((a.cells.length : Int) - 0).toNat; omega)
   (fun i _ _ => by
    show ((!!decide ((i : Int) < (a.cells.length : Int))) && !r10_Same_l0_f_k0 i a b) = _
    rw [hf, nn, dlt]
    cases decide (i < a.cells.length) <;> rfl)
   (fun i hi _ => by
    show (IntKind.i64.wrap ((i : Int) + 1), a, b) = (((i + 1 : Nat) : Int), a, b)
    rw [wsucc (by omega)])
   (fun i _ _ => by
    have hin : (!!decide ((i : Int) < (a.cells.length : Int))) = true → (i : Int) < (a.cells.length : Int) := fun h => by rw [nn] at h; exact of_decide_eq_true h
    exact needs_cons (fun h => ⟨by show (0 : Int) ≤ (i : Int); omega, hin h⟩) (needs_cons (fun h => ⟨by show (0 : Int) ≤ (i : Int); omega, by have := hin h; show (i : Int) < (b.cells.length : Int); omega⟩) needs_nil))
  refine ⟨h1, ?_⟩
  have hr : r10_Same_k1 a b = ((k : Int), a, b) := hx
  rw [hr]
  show r10_Same_l0_f_k0 (k : Int) a b = _
  rw [hf, hb', eqCs_N _ _ hlen]
  congr 1
  exact allN_congr fun i _ => Bool.not_not _
 refine ⟨needs_cons (fun h => (main (by simpa using h)).1) needs_nil, ?_⟩
 unfold r10_Same_0 eqRw
 cases h0 : r10_Same_k0 a b with
 | true =>
  rw [hk0] at h0
  rw [cond_true]
  cases hk : a.key == b.key with
  | false => rfl
  | true =>
   rw [hk] at h0
   have hne : a.cells.length ≠ b.cells.length := by simpa using h0
   cases he : eqCs a.cells b.cells with
   | false => rfl
   | true => exact absurd (congrArg List.length (eqCs_iff.1 he)) hne
 | false =>
  rw [cond_false, (main h0).2]
  rw [hk0] at h0
  have : (a.key == b.key) = true := by simpa using (Bool.or_eq_false_iff.1 h0).1
  rw [this, Bool.true_and]
  cases eqCs a.cells b.cells <;> rfl
theorem r10_Same_c2 (a0 : TRow) (a1 : TRow) (hp : ∀ p ∈ r10_Same_ps2 a0 a1, p) : CallOk Try.prog 67 [valA .row a0, valA .row a1] 0 [] 1 (r10_Same_r2 a0 a1) 0 (r10_Same_o2 a0 a1) := by
 have hb : boundP a0.cells.length := hp _ (List.mem_cons_self ..)
 have h := r10_Same_c a0 a1 (r10_Same_eq a0 a1 hb).1
 unfold r10_Same_r at h
 rw [(r10_Same_eq a0 a1 hb).2] at h
 exact h
def r10_Same_t : List A → Nat → Objs → Option CRes
 | [y0, y1], nx, o => match argU .row y0, argU .row y1 with
  | some (a0, p0), some (a1, p1) => some (1, (r10_Same_r2 a0 a1).pk (shiftR nx), nx + 0, shiftO nx (r10_Same_o2 a0 a1) ++ o, p0 ++ (p1 ++ (r10_Same_ps2 a0 a1)))
  | _, _ => none
 | _, _, _ => none
theorem r10_Same_tok : TOk Try.prog 67 r10_Same_t := fun args nx o k x nx' o' ps h => by
 unfold r10_Same_t at h
 split at h <;> first | (cases h; done) | skip
 split at h <;> first | (cases h; done) | skip
 rename_i a0 p0 a1 p1 e0 e1
 cases h
 refine ⟨fun hp => ?_, _, rfl⟩
 have q0 := fun p hm => hp p (List.mem_append.2 (.inl hm))
 have r0 := fun p hm => hp p (List.mem_append.2 (.inr hm))
 have q1 := fun p hm => r0 p (List.mem_append.2 (.inl hm))
 have r1 := fun p hm => r0 p (List.mem_append.2 (.inr hm))
 refine callOk_args (callOk_shift (r10_Same_c2 a0 a1 r1) (Nat.le_refl _) (freeL_cons (valA_free _ _) (freeL_cons (valA_free _ _) freeL_nil)) nx o) fun F N R vs hl => ?_
 obtain ⟨v0, w0, rfl, h0, hl⟩ := hl.inv
 obtain ⟨v1, w1, rfl, h1, hl⟩ := hl.inv
 exact HL.cons (argU_ok e0 q0 h0) (HL.cons (argU_ok e1 q1 h1) (hl))
noncomputable def Cj_4 := addC 67 r10_Same_t Cj_3
theorem Cj_4_ok : COk Try.prog Cj_4 := addC_ok r10_Same_tok Cj_3_ok
abbrev r10_Bare_l0_X : Type := Int × TRow
def r10_Bare_l0_T (x : r10_Bare_l0_X) : St := ⟨19, 1, [(1, .own 0 0), (3, .v (.int .i64 x.1))], [(0, some (.box 71 [.v (.string x.2.key), .sl .cell x.2.cells]))]⟩
def r10_Bare_l0_un : St → Option r10_Bare_l0_X
 | ⟨19, 1, [(1, .own 0 0), (3, .v (.int .i64 z0))], [(0, some (.box 71 [.v (.string z1), .sl .cell z2]))]⟩ => some (z0, ⟨z1, z2⟩)
 | _ => none
theorem r10_Bare_l0_unok : ∀ s x, r10_Bare_l0_un s = some x → s = r10_Bare_l0_T x := fun s x h => by
 unfold r10_Bare_l0_un at h
 split at h
 ·cases h; rfl
 ·cases h
def r10_Bare_l0_S : Shape := ⟨1, 1, [1, 3], [], [(0, 0)], [0], [2], [0]⟩
def r10_Bare_l0_E : Entry := ⟨[], [(0, 0)], [1, 3], [0]⟩
def r10_Bare_l0_f_k1 (a0 : Int) (a1 : TRow) : Bool := !!decide (a0 < (↑a1.2.length : Int))
def r10_Bare_l0_f_k0 (a0 : Int) (a1 : TRow) : Bool := (r10_Bare_l0_f_k1 a0 a1) && !eqC (a1.2.getD a0.toNat (dflt TC.cell)) (TCell.mk (TStamp.mk (0 : Int) (0 : Int)) (TVec.mk (0 : Int) (0 : Int)) false (ByteArray.mk #[]) (TVec.mk (0 : Int) (0 : Int)))
def r10_Bare_l0_f_2 (a0 : Int) (a1 : TRow) : Bool := (r10_Bare_l0_f_k1 a0 a1) && !(r10_Bare_l0_f_k0 a0 a1)
def r10_Bare_l0_next (x : r10_Bare_l0_X) : r10_Bare_l0_X := (IntKind.i64.wrap (x.1 + (1 : Int)), x.2)
def r10_Bare_l0_goes (x : r10_Bare_l0_X) : Cnd := some (r10_Bare_l0_f_2 x.1 x.2)
def r10_Bare_l0_psA (x : r10_Bare_l0_X) : List Prop := [((r10_Bare_l0_f_k1 x.1 x.2) = true → (0 : Int) ≤ x.1 ∧ x.1 < (↑x.2.2.length : Int))]
def r10_Bare_l0_ps (x : r10_Bare_l0_X) : List Prop := [((r10_Bare_l0_f_k1 x.1 x.2) = true → (0 : Int) ≤ x.1 ∧ x.1 < (↑x.2.2.length : Int))]
def r10_Bare_l0_outs (x : r10_Bare_l0_X) : Outs := [(some 0, some (!decide (x.1 < (↑x.2.2.length : Int))), ⟨19, 1, [(2, .dead)], [(0, some (.box 71 [.v (.string x.2.1), .sl .cell x.2.2]))]⟩), (none, some ((r10_Bare_l0_f_k0 x.1 x.2)), ⟨19, 1, [(2, .v (.bool (false)))], [(0, some (.box 71 [.v (.string x.2.1), .sl .cell x.2.2]))]⟩)]
def r10_Bare_l0_fuel (x : r10_Bare_l0_X) : Nat := ((↑x.2.2.length : Int) - x.1).toNat
def r10_Bare_l0_run (x : r10_Bare_l0_X) : r10_Bare_l0_X := iterX r10_Bare_l0_next r10_Bare_l0_goes (r10_Bare_l0_fuel x) x
set_option maxRecDepth 100000 in
theorem r10_Bare_l0_ev (a0 : Int) (a1 : TRow) : roundE (envT Cj_4 L0) 9 (loopAt Try.prog 68 0) r10_Bare_l0_S (r10_Bare_l0_T (a0, a1)) = some (r10_Bare_l0_psA (a0, a1), r10_Bare_l0_outs (a0, a1), r10_Bare_l0_goes (a0, a1), r10_Bare_l0_T (r10_Bare_l0_next (a0, a1))) := by kernel_rfl
set_option maxRecDepth 100000 in
theorem r10_Bare_l0_hA (a0 : Int) (a1 : TRow) (hp : ∀ p ∈ r10_Bare_l0_ps (a0, a1), p) : ∀ p ∈ r10_Bare_l0_psA (a0, a1), p := by
 have n0 : ((r10_Bare_l0_f_k1 a0 a1) = true → (0 : Int) ≤ a0 ∧ a0 < (↑a1.2.length : Int)) := hp _ (List.mem_cons_self ..)
 exact (needs_cons n0 needs_nil)
noncomputable def r10_Bare_l0_row := rowL (envT Cj_4 L0) (loopAt Try.prog 68 0) r10_Bare_l0_S r10_Bare_l0_E r10_Bare_l0_un r10_Bare_l0_fuel r10_Bare_l0_next r10_Bare_l0_goes r10_Bare_l0_ps r10_Bare_l0_outs
theorem r10_Bare_l0_rok : ∀ s b ps outs, r10_Bare_l0_row s = some (b, ps, outs) → Wf s ⟨ps, outs, none⟩ ∧ LoopOk (envT C0 L0) b s ps outs :=
 rowP_ok (T := r10_Bare_l0_T) Cj_4_ok L0_ok (u := 9) (by kernel_rfl) (by decide) (fun ⟨a0, a1⟩ => r10_Bare_l0_ev a0 a1) (fun ⟨a0, a1⟩ => r10_Bare_l0_hA a0 a1) r10_Bare_l0_unok (fun _ => okOuts_ok (n := 19) rfl) fun _ _ => rfl
noncomputable def r10_Bare_l0_L := addLp 0 r10_Bare_l0_row L0
theorem r10_Bare_l0_Lok : LpOk r10_Bare_l0_L := addLp_ok r10_Bare_l0_rok L0_ok
def r10_Bare_0 (a0 : TRow) : Bool := bif r10_Bare_l0_f_k0 (r10_Bare_l0_run ((0 : Int), a0)).fst (r10_Bare_l0_run ((0 : Int), a0)).snd then false else true
def r10_Bare_r (a0 : TRow) : A := .v (.bool (r10_Bare_0 a0))
def r10_Bare_o (_a0 : TRow) : Objs := []
def r10_Bare_ps (a0 : TRow) : List Prop := [(needX r10_Bare_l0_next r10_Bare_l0_goes r10_Bare_l0_ps (r10_Bare_l0_fuel ((0 : Int), a0)) ((0 : Int), a0))]
set_option maxRecDepth 100000 in
theorem r10_Bare_ev (a0 : TRow) : evF (envT Cj_4 r10_Bare_l0_L) 9 68 [valA .row a0] 0 [] = some (1, r10_Bare_r a0, 0, r10_Bare_o a0, [(loopAt Try.prog (68 : FuncId) (0 : Nat) = loopAt Try.prog (68 : FuncId) (0 : Nat)), (needX r10_Bare_l0_next r10_Bare_l0_goes r10_Bare_l0_ps (r10_Bare_l0_fuel ((0 : Int), a0)) ((0 : Int), a0))]) := by kernel_rfl
set_option maxRecDepth 100000 in
theorem r10_Bare_c (a0 : TRow) (hp : ∀ p ∈ r10_Bare_ps a0, p) : CallOk Try.prog 68 [valA .row a0] 0 [] 1 (r10_Bare_r a0) 0 (r10_Bare_o a0) := by
 have n1 : (needX r10_Bare_l0_next r10_Bare_l0_goes r10_Bare_l0_ps (r10_Bare_l0_fuel ((0 : Int), a0)) ((0 : Int), a0)) := hp _ (List.mem_cons_self ..)
 exact evF_ok (envP_ok Cj_4_ok r10_Bare_l0_Lok) (r10_Bare_ev a0) (needs_cons rfl (needs_cons n1 needs_nil))
def r10_Bare_r2 (a0 : TRow) : A := .v (.bool (bareR a0))
def r10_Bare_o2 (_a0 : TRow) : Objs := []
def r10_Bare_ps2 (a0 : TRow) : List Prop := [boundP a0.cells.length]
theorem r10_Bare_eq (a : TRow) (hb : boundP a.cells.length) : (∀ p ∈ r10_Bare_ps a, p) ∧ r10_Bare_0 a = bareR a := by
 unfold boundP at hb
 have hf : ∀ i : Nat, r10_Bare_l0_f_k0 (i : Int) a = (decide (i < a.cells.length) && !eqC (a.2.getD i (dflt TC.cell)) zeroC) := fun i => by
  unfold r10_Bare_l0_f_k0 r10_Bare_l0_f_k1
  rw [nn, dlt, Int.toNat_natCast]
  rfl
 obtain ⟨h1, k, hk, hx, _, _, hb'⟩ := scanB (fun i => (((i : Int), a) : r10_Bare_l0_X)) a.cells.length (fun i => !eqC (a.2.getD i (dflt TC.cell)) zeroC) r10_Bare_l0_next r10_Bare_l0_goes r10_Bare_l0_ps (r10_Bare_l0_fuel (0, a)) (0, a) rfl (by show a.cells.length ≤ ((a.cells.length : Int) - 0).toNat; omega)
  (fun i _ _ => by
   show ((!!decide ((i : Int) < (a.cells.length : Int))) && !r10_Bare_l0_f_k0 i a) = _
   rw [hf, nn, dlt]
   cases decide (i < a.cells.length) <;> rfl)
  (fun i hi _ => by
   show (IntKind.i64.wrap ((i : Int) + 1), a) = (((i + 1 : Nat) : Int), a)
   rw [wsucc (by omega)])
  (fun i _ _ => needs_cons (fun h => ⟨by show (0 : Int) ≤ (i : Int); omega, by
   have h' : (!!decide ((i : Int) < (a.cells.length : Int))) = true := h
   rw [nn] at h'; exact of_decide_eq_true h'⟩) needs_nil)
 refine ⟨needs_cons h1 needs_nil, ?_⟩
 have hr : r10_Bare_l0_run (0, a) = ((k : Int), a) := hx
 unfold r10_Bare_0
 rw [hr]
 show (bif r10_Bare_l0_f_k0 (k : Int) a then false else true) = _
 rw [hf, hb']
 unfold bareR
 rw [all_N a.cells (dflt TC.cell)]
 rw [show allN a.cells.length (fun i => !!eqC (a.2.getD i (dflt TC.cell)) zeroC) = allN a.cells.length (fun i => eqC (a.cells.getD i (dflt TC.cell)) zeroC) from allN_congr fun i _ => Bool.not_not _]
 cases allN a.cells.length (fun i => eqC (a.cells.getD i (dflt TC.cell)) zeroC) <;> rfl
theorem r10_Bare_c2 (a0 : TRow) (hp : ∀ p ∈ r10_Bare_ps2 a0, p) : CallOk Try.prog 68 [valA .row a0] 0 [] 1 (r10_Bare_r2 a0) 0 (r10_Bare_o2 a0) := by
 have hb : boundP a0.cells.length := hp _ (List.mem_cons_self ..)
 have h := r10_Bare_c a0 (r10_Bare_eq a0 hb).1
 unfold r10_Bare_r at h
 rw [(r10_Bare_eq a0 hb).2] at h
 exact h
def r10_Bare_t : List A → Nat → Objs → Option CRes
 | [y0], nx, o => match argU .row y0 with
  | some (a0, p0) => some (1, (r10_Bare_r2 a0).pk (shiftR nx), nx + 0, shiftO nx (r10_Bare_o2 a0) ++ o, p0 ++ (r10_Bare_ps2 a0))
  | _ => none
 | _, _, _ => none
theorem r10_Bare_tok : TOk Try.prog 68 r10_Bare_t := fun args nx o k x nx' o' ps h => by
 unfold r10_Bare_t at h
 split at h <;> first | (cases h; done) | skip
 split at h <;> first | (cases h; done) | skip
 rename_i a0 p0 e0
 cases h
 refine ⟨fun hp => ?_, _, rfl⟩
 have q0 := fun p hm => hp p (List.mem_append.2 (.inl hm))
 have r0 := fun p hm => hp p (List.mem_append.2 (.inr hm))
 refine callOk_args (callOk_shift (r10_Bare_c2 a0 r0) (Nat.le_refl _) (freeL_cons (valA_free _ _) freeL_nil) nx o) fun F N R vs hl => ?_
 obtain ⟨v0, w0, rfl, h0, hl⟩ := hl.inv
 exact HL.cons (argU_ok e0 q0 h0) (hl)
noncomputable def Cj_5 := addC 68 r10_Bare_t Cj_4
theorem Cj_5_ok : COk Try.prog Cj_5 := addC_ok r10_Bare_tok Cj_4_ok
abbrev row_Bare_l0_X : Type := (List TCell) × Int × Int
def row_Bare_l0_T (x : row_Bare_l0_X) : St := ⟨16, 1, [(6, .sl .cell x.1), (7, .v (.int .i64 x.2.1)), (8, .v (.int .i64 x.2.2))], []⟩
def row_Bare_l0_un : St → Option row_Bare_l0_X
 | ⟨16, 1, [(6, .sl .cell z0), (7, .v (.int .i64 z1)), (8, .v (.int .i64 z2))], []⟩ => some (z0, z1, z2)
 | _ => none
theorem row_Bare_l0_unok : ∀ s x, row_Bare_l0_un s = some x → s = row_Bare_l0_T x := fun s x h => by
 unfold row_Bare_l0_un at h
 split at h
 ·cases h; rfl
 ·cases h
def row_Bare_l0_S : Shape := ⟨1, 1, [6, 7, 8], [], [], [], [2], []⟩
def row_Bare_l0_E : Entry := ⟨[], [], [6, 7, 8], []⟩
def row_Bare_l0_f_k0 (a0 : List TCell) (a1 : Int) (a2 : Int) : Bool := !!decide (a2 < a1) && !((a0.getD a2.toNat (dflt TC.cell)).1.1 == (0 : Int) && (a0.getD a2.toNat (dflt TC.cell)).1.2 == (0 : Int) && ((a0.getD a2.toNat (dflt TC.cell)).2.1 == (0 : Int) && (a0.getD a2.toNat (dflt TC.cell)).2.2 == (0 : Int) && ((a0.getD a2.toNat (dflt TC.cell)).3 == false && ((a0.getD a2.toNat (dflt TC.cell)).4.toList == (ByteArray.mk #[]).toList && ((a0.getD a2.toNat (dflt TC.cell)).5.1 == (0 : Int) && (a0.getD a2.toNat (dflt TC.cell)).5.2 == (0 : Int))))))
def row_Bare_l0_f_3 (a0 : List TCell) (a1 : Int) (a2 : Int) : Bool := !!decide (a2 < a1) && !(row_Bare_l0_f_k0 a0 a1 a2)
def row_Bare_l0_next (x : row_Bare_l0_X) : row_Bare_l0_X := (x.1, x.2.1, IntKind.i64.wrap (x.2.2 + (1 : Int)))
def row_Bare_l0_goes (x : row_Bare_l0_X) : Cnd := some (row_Bare_l0_f_3 x.1 x.2.1 x.2.2)
def row_Bare_l0_psA (x : row_Bare_l0_X) : List Prop := [((!!decide (x.2.2 < x.2.1)) = true → (0 : Int) ≤ x.2.2 ∧ x.2.2 < (↑x.1.length : Int))]
def row_Bare_l0_ps (x : row_Bare_l0_X) : List Prop := [((!!decide (x.2.2 < x.2.1)) = true → (0 : Int) ≤ x.2.2 ∧ x.2.2 < (↑x.1.length : Int))]
def row_Bare_l0_outs (x : row_Bare_l0_X) : Outs := [(some 0, some (!decide (x.2.2 < x.2.1)), ⟨16, 1, [(2, .dead)], []⟩), (none, some ((row_Bare_l0_f_k0 x.1 x.2.1 x.2.2)), ⟨16, 2, [(2, .v (.bool (false)))], []⟩)]
def row_Bare_l0_fuel (x : row_Bare_l0_X) : Nat := (x.2.1 - x.2.2).toNat
def row_Bare_l0_run (x : row_Bare_l0_X) : row_Bare_l0_X := iterX row_Bare_l0_next row_Bare_l0_goes (row_Bare_l0_fuel x) x
set_option maxRecDepth 100000 in
theorem row_Bare_l0_ev (a0 : List TCell) (a1 : Int) (a2 : Int) : roundE (envT Cj_5 L0) 9 (loopAt Try.prog 52 0) row_Bare_l0_S (row_Bare_l0_T (a0, a1, a2)) = some (row_Bare_l0_psA (a0, a1, a2), row_Bare_l0_outs (a0, a1, a2), row_Bare_l0_goes (a0, a1, a2), row_Bare_l0_T (row_Bare_l0_next (a0, a1, a2))) := by kernel_rfl
set_option maxRecDepth 100000 in
theorem row_Bare_l0_hA (a0 : List TCell) (a1 : Int) (a2 : Int) (hp : ∀ p ∈ row_Bare_l0_ps (a0, a1, a2), p) : ∀ p ∈ row_Bare_l0_psA (a0, a1, a2), p := by
 have n0 : ((!!decide (a2 < a1)) = true → (0 : Int) ≤ a2 ∧ a2 < (↑a0.length : Int)) := hp _ (List.mem_cons_self ..)
 exact (needs_cons n0 needs_nil)
noncomputable def row_Bare_l0_row := rowL (envT Cj_5 L0) (loopAt Try.prog 52 0) row_Bare_l0_S row_Bare_l0_E row_Bare_l0_un row_Bare_l0_fuel row_Bare_l0_next row_Bare_l0_goes row_Bare_l0_ps row_Bare_l0_outs
theorem row_Bare_l0_rok : ∀ s b ps outs, row_Bare_l0_row s = some (b, ps, outs) → Wf s ⟨ps, outs, none⟩ ∧ LoopOk (envT C0 L0) b s ps outs :=
 rowP_ok (T := row_Bare_l0_T) Cj_5_ok L0_ok (u := 9) (by kernel_rfl) (by decide) (fun ⟨a0, a1, a2⟩ => row_Bare_l0_ev a0 a1 a2) (fun ⟨a0, a1, a2⟩ => row_Bare_l0_hA a0 a1 a2) row_Bare_l0_unok (fun _ => okOuts_ok (n := 16) rfl) fun _ _ => rfl
noncomputable def row_Bare_l0_L := addLp 0 row_Bare_l0_row L0
theorem row_Bare_l0_Lok : LpOk row_Bare_l0_L := addLp_ok row_Bare_l0_rok L0_ok
def row_Bare_k0 (a0 : TRow) : row_Bare_l0_X := row_Bare_l0_run (a0.2, (↑a0.2.length : Int), (0 : Int))
def row_Bare_0 (a0 : TRow) : Bool := bif row_Bare_l0_f_k0 (row_Bare_k0 a0).fst (row_Bare_k0 a0).snd.fst (row_Bare_k0 a0).snd.snd then false else true
def row_Bare_r (a0 : TRow) : A := .v (.bool (row_Bare_0 a0))
def row_Bare_o (_a0 : TRow) : Objs := []
def row_Bare_ps (a0 : TRow) : List Prop := [(needX row_Bare_l0_next row_Bare_l0_goes row_Bare_l0_ps (row_Bare_l0_fuel (a0.2, (↑a0.2.length : Int), (0 : Int))) (a0.2, (↑a0.2.length : Int), (0 : Int)))]
set_option maxRecDepth 100000 in
theorem row_Bare_ev (a0 : TRow) : evF (envT Cj_5 row_Bare_l0_L) 9 52 [valA .row a0] 0 [] = some (1, row_Bare_r a0, 0, row_Bare_o a0, [(loopAt Try.prog (52 : FuncId) (0 : Nat) = loopAt Try.prog (52 : FuncId) (0 : Nat)), (needX row_Bare_l0_next row_Bare_l0_goes row_Bare_l0_ps (row_Bare_l0_fuel (a0.2, (↑a0.2.length : Int), (0 : Int))) (a0.2, (↑a0.2.length : Int), (0 : Int)))]) := by kernel_rfl
set_option maxRecDepth 100000 in
theorem row_Bare_c (a0 : TRow) (hp : ∀ p ∈ row_Bare_ps a0, p) : CallOk Try.prog 52 [valA .row a0] 0 [] 1 (row_Bare_r a0) 0 (row_Bare_o a0) := by
 have n1 : (needX row_Bare_l0_next row_Bare_l0_goes row_Bare_l0_ps (row_Bare_l0_fuel (a0.2, (↑a0.2.length : Int), (0 : Int))) (a0.2, (↑a0.2.length : Int), (0 : Int))) := hp _ (List.mem_cons_self ..)
 exact evF_ok (envP_ok Cj_5_ok row_Bare_l0_Lok) (row_Bare_ev a0) (needs_cons rfl (needs_cons n1 needs_nil))
def row_Bare_r2 (a0 : TRow) : A := .v (.bool (bareR a0))
def row_Bare_o2 (_a0 : TRow) : Objs := []
def row_Bare_ps2 (a0 : TRow) : List Prop := [boundP a0.cells.length]
theorem row_Bare_eq (a : TRow) (hb : boundP a.cells.length) : (∀ p ∈ row_Bare_ps a, p) ∧ row_Bare_0 a = bareR a := by
 unfold boundP at hb
 have hz : ∀ c : TCell, (c.1.1 == (0 : Int) && c.1.2 == (0 : Int) && (c.2.1 == (0 : Int) && c.2.2 == (0 : Int) && (c.3 == false && (c.4.toList == (ByteArray.mk #[]).toList && (c.5.1 == (0 : Int) && c.5.2 == (0 : Int)))))) = eqC c zeroC := fun c => by
  rw [tlb]
  unfold eqC zeroC
  simp only [Bool.and_assoc]
 have hf : ∀ i : Nat, row_Bare_l0_f_k0 a.2 (a.2.length : Int) (i : Int) = (decide (i < a.cells.length) && !eqC (a.2.getD i (dflt TC.cell)) zeroC) := fun i => by
  unfold row_Bare_l0_f_k0
  rw [nn, dlt, Int.toNat_natCast, hz]
 obtain ⟨h1, k, hk, hx, _, _, hb'⟩ := scanB (fun i => ((a.2, (a.2.length : Int), (i : Int)) : row_Bare_l0_X)) a.cells.length (fun i => !eqC (a.2.getD i (dflt TC.cell)) zeroC) row_Bare_l0_next row_Bare_l0_goes row_Bare_l0_ps (row_Bare_l0_fuel (a.2, (a.2.length : Int), 0)) (a.2, (a.2.length : Int), 0) rfl (by show a.cells.length ≤ ((a.cells.length : Int) - 0).toNat; omega)
  (fun i _ _ => by
   show ((!!decide ((i : Int) < (a.cells.length : Int))) && !row_Bare_l0_f_k0 a.2 (a.2.length : Int) i) = _
   rw [hf, nn, dlt]
   cases decide (i < a.cells.length) <;> rfl)
  (fun i hi _ => by
   show (a.2, (a.2.length : Int), IntKind.i64.wrap ((i : Int) + 1)) = (a.2, (a.2.length : Int), ((i + 1 : Nat) : Int))
   rw [wsucc (by omega)])
  (fun i _ _ => needs_cons (fun h => ⟨by show (0 : Int) ≤ (i : Int); omega, by
   have h' : (!!decide ((i : Int) < (a.cells.length : Int))) = true := h
   rw [nn] at h'; exact of_decide_eq_true h'⟩) needs_nil)
 refine ⟨needs_cons h1 needs_nil, ?_⟩
 have hr : row_Bare_k0 a = (a.2, (a.2.length : Int), (k : Int)) := hx
 unfold row_Bare_0
 rw [hr]
 show (bif row_Bare_l0_f_k0 a.2 (a.2.length : Int) (k : Int) then false else true) = _
 rw [hf, hb']
 unfold bareR
 rw [all_N a.cells (dflt TC.cell)]
 rw [show allN a.cells.length (fun i => !!eqC (a.2.getD i (dflt TC.cell)) zeroC) = allN a.cells.length (fun i => eqC (a.cells.getD i (dflt TC.cell)) zeroC) from allN_congr fun i _ => Bool.not_not _]
 cases allN a.cells.length (fun i => eqC (a.cells.getD i (dflt TC.cell)) zeroC) <;> rfl
theorem row_Bare_c2 (a0 : TRow) (hp : ∀ p ∈ row_Bare_ps2 a0, p) : CallOk Try.prog 52 [valA .row a0] 0 [] 1 (row_Bare_r2 a0) 0 (row_Bare_o2 a0) := by
 have hb : boundP a0.cells.length := hp _ (List.mem_cons_self ..)
 have h := row_Bare_c a0 (row_Bare_eq a0 hb).1
 unfold row_Bare_r at h
 rw [(row_Bare_eq a0 hb).2] at h
 exact h
def row_Bare_t : List A → Nat → Objs → Option CRes
 | [y0], nx, o => match argU .row y0 with
  | some (a0, p0) => some (1, (row_Bare_r2 a0).pk (shiftR nx), nx + 0, shiftO nx (row_Bare_o2 a0) ++ o, p0 ++ (row_Bare_ps2 a0))
  | _ => none
 | _, _, _ => none
theorem row_Bare_tok : TOk Try.prog 52 row_Bare_t := fun args nx o k x nx' o' ps h => by
 unfold row_Bare_t at h
 split at h <;> first | (cases h; done) | skip
 split at h <;> first | (cases h; done) | skip
 rename_i a0 p0 e0
 cases h
 refine ⟨fun hp => ?_, _, rfl⟩
 have q0 := fun p hm => hp p (List.mem_append.2 (.inl hm))
 have r0 := fun p hm => hp p (List.mem_append.2 (.inr hm))
 refine callOk_args (callOk_shift (row_Bare_c2 a0 r0) (Nat.le_refl _) (freeL_cons (valA_free _ _) freeL_nil) nx o) fun F N R vs hl => ?_
 obtain ⟨v0, w0, rfl, h0, hl⟩ := hl.inv
 exact HL.cons (argU_ok e0 q0 h0) (hl)
noncomputable def Cj_6 := addC 52 row_Bare_t Cj_5
theorem Cj_6_ok : COk Try.prog Cj_6 := addC_ok row_Bare_tok Cj_5_ok
noncomputable def Cj := Cj_6
theorem Cj_ok : COk Try.prog Cj := Cj_6_ok
end Go.Proofs.Yteebobbhhgmeiaa
