/- The bytes of stamps, counts, texts and cells: the plain law, both ways. -/
import Derived.Test.YteebobbhhgmeiaaNm
namespace Go.Proofs.Yteebobbhhgmeiaa
open Go.RowKit

def goodS (s : TStamp) : Bool := bif s.n == 0 && s.site == 0 then true else decide (1 ≤ s.n) && decide (s.n ≤ 281474976710656) && (s.site == 1 || s.site == 2)
def goodV (v : TVec) : Bool := decide (0 ≤ v.a) && decide (v.a ≤ 1099511627776) && (decide (0 ≤ v.b) && decide (v.b ≤ 1099511627776))
def zeroV (v : TVec) : Bool := v.a == 0 && v.b == 0
def codeS (s : TStamp) : Int := bif s.n == 0 then 0 else 2 * s.n + s.site - 1
def decS (n : Int) : TStamp := if n = 0 then ⟨0, 0⟩ else ⟨n / 2, 1 + n % 2⟩
def putS (s : TStamp) : List UInt8 := bif goodS s then putN (codeS s) else []
def putV (v : TVec) : List UInt8 := bif goodV v then putN v.a ++ putN v.b else []
def putT (t : ByteArray) : List UInt8 := putN (t.size : Int) ++ t.data.toList
def getS (b : List UInt8) : TStamp × Int × Int := if (getN b).2.2 ≠ 0 then (⟨0, 0⟩, 0, (getN b).2.2) else if goodS (decS (getN b).1) = true then (decS (getN b).1, (getN b).2.1, 0) else (⟨0, 0⟩, 0, 11)
def getV (b : List UInt8) : TVec × Int × Int := if (getN b).2.2 ≠ 0 then (⟨0, 0⟩, 0, (getN b).2.2) else
  if (getN (b.drop (getN b).2.1.toNat)).2.2 ≠ 0 then (⟨0, 0⟩, 0, (getN (b.drop (getN b).2.1.toNat)).2.2) else
  if goodV ⟨(getN b).1, (getN (b.drop (getN b).2.1.toNat)).1⟩ = true then (⟨(getN b).1, (getN (b.drop (getN b).2.1.toNat)).1⟩, (getN b).2.1 + (getN (b.drop (getN b).2.1.toNat)).2.1, 0) else (⟨0, 0⟩, 0, 11)
def getT (b : List UInt8) (m : Int) : ByteArray × Int × Int := if (getN b).2.2 ≠ 0 then (ByteArray.empty, 0, (getN b).2.2) else if (getN b).1 > m then (ByteArray.empty, 0, 3) else
  if (b.length : Int) - (getN b).2.1 < (getN b).1 then (ByteArray.empty, 0, 10) else (⟨((b.drop (getN b).2.1.toNat).take (getN b).1.toNat).toArray⟩, (getN b).2.1 + (getN b).1, 0)

/-- What is put comes back, whatever stands behind it; what is got is as it was put. -/
structure Rd {α : Type} (get : List UInt8 → α × Int × Int) (good : α → Prop) (put : α → List UInt8) : Prop where
  back : ∀ x r, good x → get (put x ++ r) = (x, ((put x).length : Int), 0)
  front : ∀ b x k, get b = (x, k, 0) → good x ∧ k = ((put x).length : Int) ∧ ∃ r, b = put x ++ r

theorem take_split {b p : List UInt8} (h : b.take p.length = p) : ∃ r, b = p ++ r := ⟨b.drop p.length, by
  conv => lhs; rw [← List.take_append_drop p.length b, h]⟩
def okN (n : Int) : Prop := 0 ≤ n ∧ n ≤ 4611686018427387903
theorem rdN : Rd getN okN putN where
  back := fun x r h => by rw [get_put h.1 h.2 r, putN_length]
  front := fun b x k h => by
    obtain ⟨h1, h2, h3, _, h5⟩ := put_get h
    exact ⟨⟨h1, h2⟩, by rw [h3, putN_length], take_split (by rw [putN_length]; exact h5)⟩
theorem getN_ok {b : List UInt8} (h : (getN b).2.2 = 0) : ∃ r, okN (getN b).1 ∧ (getN b).2.1 = ((putN (getN b).1).length : Int) ∧ b = putN (getN b).1 ++ r := by
  obtain ⟨h1, h2, r, h3⟩ := rdN.front b (getN b).1 (getN b).2.1 (by rw [← h])
  exact ⟨r, h1, h2, h3⟩
theorem getN_err (b : List UInt8) : (getN b).2.2 ≠ 0 → (getN b).1 = 0 ∧ (getN b).2.1 = 0 := fun h => by
  cases b with
  | nil => exact ⟨rfl, rfl⟩
  | cons x r =>
    rw [getN_cons] at h ⊢
    split
    · exact ⟨rfl, rfl⟩
    · split
      · exact ⟨rfl, rfl⟩
      · rename_i h1 h2
        rw [if_neg h1, if_neg h2] at h
        exact absurd rfl h
theorem getN_bounds (b : List UInt8) : 0 ≤ (getN b).2.1 ∧ (getN b).2.1 ≤ (b.length : Int) ∧ (getN b).2.1 ≤ 8 ∧ 0 ≤ (getN b).1 ∧ (getN b).1 ≤ 4611686018427387903 := by
  by_cases h : (getN b).2.2 = 0
  · obtain ⟨r, ⟨h1, h1'⟩, h2, h3⟩ := getN_ok h
    have hl := congrArg List.length h3
    rw [List.length_append] at hl
    have h8 : (putN (getN b).1).length ≤ 8 := by
      rw [putN_length]
      have := (sz_ok h1 h1').1
      unfold szs at this
      omega
    exact ⟨by omega, by omega, by omega, h1, h1'⟩
  · obtain ⟨h1, h2⟩ := getN_err b h
    rw [h1, h2]
    omega
theorem drop_put {p r : List UInt8} {k : Int} (h : k = (p.length : Int)) : (p ++ r).drop k.toNat = r := by
  subst h
  rw [Int.toNat_natCast, List.drop_left]

theorem goodS_iff {s : TStamp} : goodS s = true ↔ (s.n = 0 ∧ s.site = 0) ∨ (1 ≤ s.n ∧ s.n ≤ 281474976710656 ∧ (s.site = 1 ∨ s.site = 2)) := by
  unfold goodS
  rw [Bool.cond_eq_ite]
  split
  · rename_i h
    simp only [Bool.and_eq_true, beq_iff_eq] at h
    exact ⟨fun _ => .inl h, fun _ => rfl⟩
  · rename_i h
    simp only [Bool.and_eq_true, beq_iff_eq] at h
    simp only [Bool.and_eq_true, Bool.or_eq_true, beq_iff_eq, decide_eq_true_eq]
    constructor
    · intro h'; exact .inr ⟨h'.1.1, h'.1.2, h'.2⟩
    · rintro (h' | ⟨h1, h2, h3⟩)
      · exact absurd h' h
      · exact ⟨⟨h1, h2⟩, h3⟩
theorem goodV_iff {v : TVec} : goodV v = true ↔ 0 ≤ v.a ∧ v.a ≤ 1099511627776 ∧ 0 ≤ v.b ∧ v.b ≤ 1099511627776 := by
  unfold goodV
  simp only [Bool.and_eq_true, decide_eq_true_eq]
  omega
theorem stamp_ext {s t : TStamp} (h1 : s.n = t.n) (h2 : s.site = t.site) : s = t := by cases s; cases t; simp_all
theorem vec_ext {s t : TVec} (h1 : s.a = t.a) (h2 : s.b = t.b) : s = t := by cases s; cases t; simp_all
theorem codeS_ok {s : TStamp} (h : goodS s = true) : okN (codeS s) ∧ decS (codeS s) = s := by
  have h' := goodS_iff.1 h
  unfold codeS decS
  by_cases h0 : s.n = 0
  · have e : (s.n == 0) = true := by simpa using h0
    rw [e, cond_true, if_pos rfl]
    exact ⟨by unfold okN; omega, stamp_ext (by simp only; omega) (by simp only; omega)⟩
  · have e : (s.n == 0) = false := by simpa using h0
    rw [e, cond_false, if_neg (by omega)]
    exact ⟨by unfold okN; omega, stamp_ext (by simp only; omega) (by simp only; omega)⟩
theorem decS_ok {n : Int} (hn : okN n) (h : goodS (decS n) = true) : codeS (decS n) = n := by
  have h' := goodS_iff.1 h
  unfold okN at hn
  unfold codeS
  unfold decS at h' ⊢
  by_cases h0 : n = 0
  · rw [if_pos h0]
    subst h0
    rfl
  · rw [if_neg h0] at h' ⊢
    simp only at h' ⊢
    have hz : n / 2 ≠ 0 := by omega
    have e : (n / 2 == 0) = false := by simpa using hz
    rw [e, cond_false]
    omega
theorem putS_eq {s : TStamp} (h : goodS s = true) : putS s = putN (codeS s) := by unfold putS; rw [h]; rfl
theorem putV_eq {v : TVec} (h : goodV v = true) : putV v = putN v.a ++ putN v.b := by unfold putV; rw [h]; rfl
theorem rdS : Rd getS (fun s => goodS s = true) putS where
  back := fun s r h => by
    obtain ⟨h1, h2⟩ := codeS_ok h
    have hg := rdN.back (codeS s) r h1
    rw [putS_eq h]
    unfold getS
    rw [hg]
    simp only [ne_eq, not_true_eq_false, if_false]
    rw [h2, if_pos h]
  front := fun b s k h => by
    unfold getS at h
    by_cases he : (getN b).2.2 = 0
    · rw [if_neg (by simpa using he)] at h
      obtain ⟨r, h1, h2, h3⟩ := getN_ok he
      split at h
      · rename_i hg
        injection h with e1 e2
        injection e2 with e2 e3
        have hd := decS_ok h1 hg
        rw [e1] at hd hg
        refine ⟨hg, ?_, r, ?_⟩
        · rw [putS_eq hg, hd, ← e2]; exact h2
        · rw [putS_eq hg, hd]; exact h3
      · injection h with e1 e2
        injection e2 with e2 e3
        cases e3
    · rw [if_pos (by simpa using he)] at h
      injection h with e1 e2
      injection e2 with e2 e3
      exact absurd e3 he
theorem rdV : Rd getV (fun v => goodV v = true) putV where
  back := fun v r h => by
    obtain ⟨h1, h2, h3, h4⟩ := goodV_iff.1 h
    have hg := rdN.back v.a (putN v.b ++ r) (by unfold okN; omega)
    have hg2 := rdN.back v.b r (by unfold okN; omega)
    rw [putV_eq h, List.append_assoc]
    unfold getV
    rw [hg]
    simp only [not_true_eq_false, if_false, ne_eq]
    rw [drop_put rfl, hg2]
    simp only [not_true_eq_false, if_false]
    rw [if_pos h, List.length_append]
    rfl
  front := fun b v k h => by
    unfold getV at h
    by_cases he : (getN b).2.2 = 0
    · rw [if_neg (by simpa using he)] at h
      obtain ⟨r, h1, h2, h3⟩ := getN_ok he
      have hdr : b.drop (getN b).2.1.toNat = r := by
        generalize getN b = g at *
        subst h3
        exact drop_put h2
      rw [hdr] at h
      by_cases he2 : (getN r).2.2 = 0
      · rw [if_neg (by simpa using he2)] at h
        obtain ⟨r2, k1, k2, k3⟩ := getN_ok he2
        split at h
        · rename_i hg
          injection h with e1 e2
          injection e2 with e2 e3
          subst e1
          refine ⟨hg, ?_, r2, ?_⟩
          · rw [putV_eq hg, ← e2, h2, k2, List.length_append]
            exact (Int.natCast_add _ _).symm
          · rw [putV_eq hg, List.append_assoc]
            exact h3.trans (congrArg (putN (getN b).1 ++ ·) k3)
        · injection h with e1 e2
          injection e2 with e2 e3
          cases e3
      · rw [if_pos (by simpa using he2)] at h
        injection h with e1 e2
        injection e2 with e2 e3
        exact absurd e3 he2
    · rw [if_pos (by simpa using he)] at h
      injection h with e1 e2
      injection e2 with e2 e3
      exact absurd e3 he
theorem rdT {m : Int} (hm : m ≤ 4611686018427387903) : Rd (fun b => getT b m) (fun t => (t.size : Int) ≤ m) putT where
  back := fun t r h => by
    have hg := rdN.back (t.size : Int) (t.data.toList ++ r) (by unfold okN; omega)
    unfold putT
    rw [List.append_assoc]
    show getT _ m = _
    unfold getT
    rw [hg]
    simp only [ne_eq, not_true_eq_false, if_false]
    rw [if_neg (by omega), drop_put rfl]
    have hs : t.data.toList.length = t.size := Array.length_toList
    rw [if_neg (by rw [List.length_append, List.length_append, hs]; omega), Int.toNat_natCast]
    have ht : (t.data.toList ++ r).take t.size = t.data.toList := by rw [← hs]; exact List.take_left
    rw [ht, List.length_append, hs]
    congr 1
  front := fun b t k h => by
    have h' : getT b m = (t, k, 0) := h
    unfold getT at h'
    by_cases he : (getN b).2.2 = 0
    · rw [if_neg (by simpa using he)] at h'
      obtain ⟨r, ⟨h1, h1'⟩, h2, h3⟩ := getN_ok he
      have hdr : b.drop (getN b).2.1.toNat = r := by
        generalize getN b = g at *
        subst h3
        exact drop_put h2
      have hlen := congrArg List.length h3
      rw [List.length_append] at hlen
      rw [hdr] at h'
      by_cases hm2 : (getN b).1 > m
      · rw [if_pos hm2] at h'; injection h' with e1 e2; injection e2 with e2 e3; cases e3
      · rw [if_neg hm2] at h'
        by_cases hc : (b.length : Int) - (getN b).2.1 < (getN b).1
        · rw [if_pos hc] at h'; injection h' with e1 e2; injection e2 with e2 e3; cases e3
        · rw [if_neg hc] at h'
          injection h' with e1 e2
          injection e2 with e2 e3
          have hn : ((getN b).1.toNat : Int) = (getN b).1 := Int.toNat_of_nonneg h1
          have hr : (getN b).1.toNat ≤ r.length := by omega
          have hsz : (t.size : Int) = (getN b).1 := by
            rw [← e1]
            show ((List.toArray (List.take (getN b).1.toNat r)).size : Int) = _
            rw [List.size_toArray, List.length_take, Nat.min_eq_left hr]
            exact hn
          have hd : t.data.toList = r.take (getN b).1.toNat := by rw [← e1]
          refine ⟨by omega, ?_, r.drop (getN b).1.toNat, ?_⟩
          · unfold putT
            rw [List.length_append, hsz, hd, List.length_take, Nat.min_eq_left hr, ← e2, h2]
            omega
          · unfold putT
            rw [hsz, hd, List.append_assoc, List.take_append_drop]
            exact h3
    · rw [if_pos (by simpa using he)] at h'
      injection h' with e1 e2
      injection e2 with e2 e3
      exact absurd e3 he

/-! ### single bits -/
theorem and_two_pow (n i : Nat) : n &&& 2 ^ i = n / 2 ^ i % 2 * 2 ^ i := by
  rw [← Nat.toNat_testBit]
  apply Nat.eq_of_testBit_eq
  intro j
  rw [Nat.testBit_and, Nat.testBit_two_pow]
  cases hb : n.testBit i with
  | true =>
    by_cases hij : i = j
    · subst hij; simp [hb]
    · simp [hij]
  | false =>
    by_cases hij : i = j
    · subst hij; simp [hb]
    · simp [hij]
theorem and_bit {n : Int} (h : okN n) (k : Nat) (m : Int) (hm : m = ((2 ^ k : Nat) : Int)) (hk : k < 60) : (BitVec.ofInt 64 n &&& BitVec.ofInt 64 m).toNat = n.toNat / 2 ^ k % 2 * 2 ^ k := by
  obtain ⟨h0, h1⟩ := h
  have hp : 2 ^ k < 2 ^ 60 := Nat.pow_lt_pow_right (by decide) hk
  have e60 : (2 : Nat) ^ 60 = 1152921504606846976 := by decide
  rw [BitVec.toNat_and, BitVec.toNat_ofInt, BitVec.toNat_ofInt]
  have m1 : (n % ((2 ^ 64 : Nat) : Int)).toNat = n.toNat := by omega
  have m2 : (m % ((2 ^ 64 : Nat) : Int)).toNat = 2 ^ k := by
    subst hm
    generalize 2 ^ k = q at *
    omega
  rw [m1, m2, and_two_pow]
theorem bit_pos {n : Int} (h : okN n) (k : Nat) (m : Int) (hm : m = ((2 ^ k : Nat) : Int)) (hk : k < 60) : decide (IntKind.i64.wrap ((BitVec.ofInt 64 n &&& BitVec.ofInt 64 m).toNat : Int) > 0) = (n.toNat / 2 ^ k % 2 == 1) := by
  rw [and_bit h k m hm hk]
  have hp : 2 ^ k < 2 ^ 60 := Nat.pow_lt_pow_right (by decide) hk
  have hp0 : 0 < 2 ^ k := Nat.pow_pos (by decide)
  have e60 : (2 : Nat) ^ 60 = 1152921504606846976 := by decide
  generalize n.toNat / 2 ^ k = x
  generalize 2 ^ k = q at *
  rcases Nat.mod_two_eq_zero_or_one x with e | e
  · rw [e, Nat.zero_mul]
    rfl
  · rw [e, Nat.one_mul, i64_in (by omega)]
    have : (q : Int) > 0 := by omega
    rw [decide_eq_true this]
    rfl
theorem bit_low {n : Int} (h : okN n) : IntKind.i64.wrap (IntKind.i64.wrap ((BitVec.ofInt 64 n &&& BitVec.ofInt 64 1).toNat : Int) + 1) = 1 + n % 2 := by
  have e := and_bit h 0 1 rfl (by decide)
  rw [e]
  obtain ⟨h0, h1⟩ := h
  have e2 : n.toNat / 2 ^ 0 % 2 * 2 ^ 0 = n.toNat % 2 := by rw [Nat.pow_zero, Nat.div_one, Nat.mul_one]
  rw [e2, i64_in (n := ((n.toNat % 2 : Nat) : Int)) (by omega), i64_in (by omega)]
  omega
end Go.Proofs.Yteebobbhhgmeiaa
