/- Numbers of 1, 2, 4, 8 bytes: the plain law, both ways. -/
import Derived.Test.YteebobbhhgmeiaaTW
namespace Go.Proofs.Yteebobbhhgmeiaa
open Go.RowKit

def szN (n : Int) : Nat := if n < 0 ∨ n > 4611686018427387903 then 0 else if n ≥ 1073741824 then 8 else if n ≥ 16384 then 4 else if n ≥ 64 then 2 else 1
def be : Nat → Nat → List UInt8
  | 0, _ => []
  | k + 1, N => UInt8.ofNat (N / 256 ^ k) :: be k N
def tagN (k : Nat) : Nat := if k = 2 then 1 else if k = 4 then 2 else if k = 8 then 3 else 0
def putN (n : Int) : List UInt8 := be (szN n) (n.toNat + tagN (szN n) * (64 * 256 ^ (szN n - 1)))
def val (acc : Nat) (l : List UInt8) : Nat := l.foldl (fun a y => a * 256 + y.toNat) acc
def getN : List UInt8 → Int × Int × Int
  | [] => (0, 0, 10)
  | x :: r => if r.length + 1 < 2 ^ (x.toNat / 64) then (0, 0, 10) else if szN (val (x.toNat % 64) (r.take (2 ^ (x.toNat / 64) - 1))) < 2 ^ (x.toNat / 64) then (0, 0, 11) else ((val (x.toNat % 64) (r.take (2 ^ (x.toNat / 64) - 1)) : Int), ((2 ^ (x.toNat / 64) : Nat) : Int), 0)

theorem getN_cons (x : UInt8) (r : List UInt8) : getN (x :: r) = if r.length + 1 < 2 ^ (x.toNat / 64) then (0, 0, 10) else if szN (val (x.toNat % 64) (r.take (2 ^ (x.toNat / 64) - 1))) < 2 ^ (x.toNat / 64) then (0, 0, 11) else ((val (x.toNat % 64) (r.take (2 ^ (x.toNat / 64) - 1)) : Int), ((2 ^ (x.toNat / 64) : Nat) : Int), 0) := rfl
theorem be_length : ∀ (k N : Nat), (be k N).length = k
  | 0, _ => rfl
  | k + 1, N => by unfold be; rw [List.length_cons, be_length]
theorem val_cons (acc : Nat) (x : UInt8) (r : List UInt8) : val acc (x :: r) = val (acc * 256 + x.toNat) r := rfl
theorem val_acc : ∀ (l : List UInt8) (acc : Nat), val acc l = acc * 256 ^ l.length + val 0 l
  | [], acc => by show acc = acc * 256 ^ 0 + 0; omega
  | x :: r, acc => by
    rw [val_cons, val_cons, val_acc r, val_acc r (0 * 256 + x.toNat), List.length_cons, Nat.pow_succ, Nat.zero_mul, Nat.zero_add, Nat.add_mul, Nat.mul_assoc, Nat.mul_comm 256]
    omega
theorem val_lt : ∀ (l : List UInt8), val 0 l < 256 ^ l.length
  | [] => by show 0 < 256 ^ 0; decide
  | x :: r => by
    rw [val_cons, val_acc, List.length_cons, Nat.pow_succ, Nat.zero_mul, Nat.zero_add]
    have h1 := val_lt r
    have h2 : x.toNat + 1 ≤ 256 := x.toNat_lt
    have := Nat.mul_le_mul_right (256 ^ r.length) h2
    rw [Nat.add_mul, Nat.one_mul] at this
    rw [Nat.mul_comm (256 ^ r.length)]
    omega
theorem be_add : ∀ (k N a : Nat), be k (N + a * 256 ^ k) = be k N
  | 0, _, _ => rfl
  | k + 1, N, a => by
    unfold be
    have h : N + a * 256 ^ (k + 1) = N + a * 256 * 256 ^ k := by rw [Nat.pow_succ, Nat.mul_assoc, Nat.mul_comm (256 ^ k)]
    rw [h, be_add k N (a * 256), Nat.add_mul_div_right _ _ (Nat.pow_pos (by decide))]
    congr 1
    apply UInt8.toNat_inj.1
    rw [UInt8.toNat_ofNat', UInt8.toNat_ofNat']
    omega
theorem be_val : ∀ (l : List UInt8), be l.length (val 0 l) = l
  | [] => rfl
  | x :: r => by
    rw [List.length_cons]
    have e : val 0 (x :: r) = val 0 r + x.toNat * 256 ^ r.length := by
      rw [val_cons, val_acc, Nat.zero_mul, Nat.zero_add, Nat.add_comm]
    unfold be
    rw [e, be_add, be_val r, Nat.add_mul_div_right _ _ (Nat.pow_pos (by decide)), Nat.div_eq_of_lt (val_lt r), Nat.zero_add]
    congr 1
    exact UInt8.ofNat_toNat
theorem val_be : ∀ (k N acc : Nat), val acc (be k N) = acc * 256 ^ k + N % 256 ^ k
  | 0, N, acc => by show acc = acc * 256 ^ 0 + N % 256 ^ 0; omega
  | k + 1, N, acc => by
    unfold be
    have h8 : (UInt8.ofNat (N / 256 ^ k)).toNat = N / 256 ^ k % 256 := by rw [UInt8.toNat_ofNat']
    have hm := Nat.mod_pow_succ (x := N) (b := 256) (k := k)
    rw [val_cons, val_be k, h8, hm, Nat.pow_succ, Nat.add_mul, Nat.mul_assoc, Nat.mul_comm 256 (256 ^ k), Nat.mul_comm (256 ^ k) (N / 256 ^ k % 256)]
    omega

def szs (k : Nat) : Prop := k = 1 ∨ k = 2 ∨ k = 4 ∨ k = 8
theorem sz_ok {n : Int} (h0 : 0 ≤ n) (h1 : n ≤ 4611686018427387903) : szs (szN n) ∧ n.toNat < 64 * 256 ^ (szN n - 1) := by
  unfold szN szs
  rw [if_neg (by omega)]
  split
  · exact ⟨by decide, by show n.toNat < 64 * 256 ^ 7; omega⟩
  · split
    · exact ⟨by decide, by show n.toNat < 64 * 256 ^ 3; omega⟩
    · split
      · exact ⟨by decide, by show n.toNat < 64 * 256 ^ 1; omega⟩
      · exact ⟨by decide, by show n.toNat < 64 * 256 ^ 0; omega⟩
theorem sz_le {n k : Nat} (hk : szs k) (h : n < 64 * 256 ^ (k - 1)) : szN n ≤ k ∧ 1 ≤ szN n ∧ n ≤ 4611686018427387903 := by
  unfold szN
  rcases hk with rfl | rfl | rfl | rfl
  · have h' : n < 64 := h
    rw [if_neg (by omega), if_neg (by omega), if_neg (by omega), if_neg (by omega)]; omega
  · have h' : n < 64 * 256 := h
    rw [if_neg (by omega), if_neg (by omega), if_neg (by omega)]
    split <;> omega
  · have h' : n < 64 * 256 ^ 3 := h
    have h'' : n < 1073741824 := by omega
    rw [if_neg (by omega), if_neg (by omega)]
    split
    · omega
    · split <;> omega
  · have h' : n < 64 * 256 ^ 7 := h
    have h'' : n < 4611686018427387904 := by omega
    rw [if_neg (by omega)]
    split
    · omega
    · split
      · omega
      · split <;> omega
theorem tag_ok {k : Nat} (hk : szs k) : tagN k ≤ 3 ∧ 2 ^ tagN k = k := by
  rcases hk with rfl | rfl | rfl | rfl <;> decide
theorem tag_of {t : Nat} (h : t ≤ 3) : szs (2 ^ t) ∧ tagN (2 ^ t) = t := by
  match t, h with
  | 0, _ => exact ⟨by unfold szs; decide, rfl⟩
  | 1, _ => exact ⟨by unfold szs; decide, rfl⟩
  | 2, _ => exact ⟨by unfold szs; decide, rfl⟩
  | 3, _ => exact ⟨by unfold szs; decide, rfl⟩
  | n + 4, h => omega
theorem putN_length (n : Int) : (putN n).length = szN n := be_length _ _
/-- **What was put is got.** -/
theorem get_put {n : Int} (h0 : 0 ≤ n) (h1 : n ≤ 4611686018427387903) (r : List UInt8) : getN (putN n ++ r) = (n, (szN n : Int), 0) := by
  obtain ⟨hk, hn⟩ := sz_ok h0 h1
  unfold putN
  generalize hkk : szN n = k at *
  obtain ⟨m, rfl⟩ : ∃ m, k = m + 1 := ⟨k - 1, by unfold szs at hk; omega⟩
  obtain ⟨t1, t2⟩ := tag_ok hk
  generalize tagN (m + 1) = t at *
  rw [Nat.add_sub_cancel] at hn ⊢
  have hp : 0 < 256 ^ m := Nat.pow_pos (by decide)
  have e1 : (n.toNat + t * (64 * 256 ^ m)) / 256 ^ m = n.toNat / 256 ^ m + t * 64 := by rw [← Nat.mul_assoc, Nat.add_mul_div_right _ _ hp]
  have e2 : n.toNat / 256 ^ m < 64 := by rw [Nat.div_lt_iff_lt_mul hp]; exact hn
  have e3 : (n.toNat + t * (64 * 256 ^ m)) % 256 ^ m = n.toNat % 256 ^ m := by rw [← Nat.mul_assoc, Nat.add_mul_mod_self_right]
  unfold be
  rw [e1]
  have aux : ∀ q : Nat, q < 64 → (UInt8.ofNat (q + t * 64)).toNat = q + t * 64 ∧ (q + t * 64) / 64 = t ∧ (q + t * 64) % 64 = q := fun q hq => by
    rw [UInt8.toNat_ofNat']
    omega
  obtain ⟨hx, ht, hm⟩ := aux _ e2
  show getN (UInt8.ofNat (n.toNat / 256 ^ m + t * 64) :: (be m (n.toNat + t * (64 * 256 ^ m)) ++ r)) = _
  rw [getN_cons, hx, ht, hm, t2, Nat.add_sub_cancel]
  have hl : (be m (n.toNat + t * (64 * 256 ^ m)) ++ r).take m = be m (n.toNat + t * (64 * 256 ^ m)) := by
    rw [List.take_append_of_le_length (by rw [be_length]; exact Nat.le_refl _), List.take_of_length_le (by rw [be_length]; exact Nat.le_refl _)]
  rw [hl, val_be, e3]
  have hv : n.toNat / 256 ^ m * 256 ^ m + n.toNat % 256 ^ m = n.toNat := by rw [Nat.mul_comm]; exact Nat.div_add_mod _ _
  rw [hv, if_neg (by rw [List.length_append, be_length]; omega)]
  have hnn : (n.toNat : Int) = n := Int.toNat_of_nonneg h0
  rw [hnn, hkk, if_neg (by omega)]
/-- **What was got is as it was put.** -/
theorem put_get {b : List UInt8} {n k : Int} (h : getN b = (n, k, 0)) : 0 ≤ n ∧ n ≤ 4611686018427387903 ∧ k = (szN n : Int) ∧ szN n ≤ b.length ∧ b.take (szN n) = putN n := by
  cases b with
  | nil => cases h
  | cons x r =>
    rw [getN_cons] at h
    split at h
    · cases h
    · rename_i hlen
      split at h
      · cases h
      · rename_i hsz
        have hxl : x.toNat < 256 := x.toNat_lt
        obtain ⟨k1, k2⟩ := tag_of (t := x.toNat / 64) (by omega)
        generalize hK : 2 ^ (x.toNat / 64) = K at *
        obtain ⟨m, rfl⟩ : ∃ m, K = m + 1 := ⟨K - 1, by unfold szs at k1; omega⟩
        rw [Nat.add_sub_cancel] at *
        have hrl : (r.take m).length = m := by rw [List.length_take]; omega
        have hv := val_acc (r.take m) (x.toNat % 64)
        have hlt := val_lt (r.take m)
        rw [hrl] at hv hlt
        generalize hN : val (x.toNat % 64) (r.take m) = M at *
        have hM : M < 64 * 256 ^ m := by
          have : x.toNat % 64 + 1 ≤ 64 := by omega
          have := Nat.mul_le_mul_right (256 ^ m) this
          rw [Nat.add_mul, Nat.one_mul] at this
          omega
        obtain ⟨s1, s2, s3⟩ := sz_le k1 (by rw [Nat.add_sub_cancel]; exact hM)
        have hs : szN (M : Int) = m + 1 := by omega
        injection h with h1 h
        injection h with h2 h3
        subst h1
        refine ⟨by omega, by omega, by rw [hs, ← h2], by rw [hs, List.length_cons]; omega, ?_⟩
        rw [hs]
        unfold putN
        rw [hs, k2, Nat.add_sub_cancel, Int.toNat_natCast]
        have e : M + x.toNat / 64 * (64 * 256 ^ m) = val 0 (x :: r.take m) := by
          rw [val_cons, Nat.zero_mul, Nat.zero_add, val_acc, hrl, hv, ← Nat.mul_assoc]
          have hx := Nat.div_add_mod x.toNat 64
          have : x.toNat * 256 ^ m = (x.toNat / 64 * 64 + x.toNat % 64) * 256 ^ m := by congr 1; omega
          rw [this, Nat.add_mul]
          omega
        rw [e]
        have hb := be_val (x :: r.take m)
        rw [List.length_cons, hrl] at hb
        rw [hb]
        rfl

/-! ### what the code of Put and Get comes to -/
theorem be_get : ∀ (k N i : Nat), i < k → (be k N)[i]? = some (UInt8.ofNat (N / 256 ^ (k - 1 - i)))
  | 0, _, _, h => by omega
  | k + 1, N, 0, _ => by unfold be; rfl
  | k + 1, N, i + 1, h => by
    unfold be
    rw [List.getElem?_cons_succ, be_get k N i (by omega)]
    have : k - 1 - i = k + 1 - 1 - (i + 1) := by omega
    rw [this]
theorem be_take {k N i : Nat} (h : i < k) : (be k N).take (i + 1) = (be k N).take i ++ [UInt8.ofNat (N / 256 ^ (k - 1 - i))] := by
  rw [List.take_add_one, be_get k N i h]
  rfl
theorem pow_256 (j : Nat) : (2 : Int) ^ (8 * j) = ((256 ^ j : Nat) : Int) := by
  rw [Int.pow_mul]
  norm_cast
/-- The byte that Put's loop makes. -/
theorem put_byte {n : Int} {k i : Nat} (hn : 0 ≤ n) (hk : k ≤ 8) (hi : i < k) :
    UInt8.ofNat (IntKind.u8.wrap (n.fdiv ((2 : Int) ^ min (IntKind.u64.wrap (IntKind.i64.wrap ((8 : Int) * IntKind.i64.wrap (IntKind.i64.wrap ((k : Int) - (1 : Int)) - (i : Int))))).toNat (64 : Nat)))).toNat = UInt8.ofNat (n.toNat / 256 ^ (k - 1 - i)) := by
  have e1 : IntKind.u64.wrap (IntKind.i64.wrap ((8 : Int) * IntKind.i64.wrap (IntKind.i64.wrap ((k : Int) - (1 : Int)) - (i : Int)))) = ((8 * (k - 1 - i) : Nat) : Int) := by
    rw [i64_in (n := (k : Int) - 1) (by omega), i64_in (n := (k : Int) - 1 - (i : Int)) (by omega), i64_in (by omega), IntWalk.u64_in _ (by omega)]
    omega
  rw [e1, Int.toNat_natCast, Nat.min_eq_left (by omega), pow_256]
  have e2 : n = (n.toNat : Int) := (Int.toNat_of_nonneg hn).symm
  have e3 : n.fdiv ((256 ^ (k - 1 - i) : Nat) : Int) = ((n.toNat / 256 ^ (k - 1 - i) : Nat) : Int) := by
    rw [Int.fdiv_eq_ediv_of_nonneg _ (Int.natCast_nonneg _)]
    conv => lhs; rw [e2]
    exact (Int.natCast_ediv _ _).symm
  rw [e3]
  generalize n.toNat / 256 ^ (k - 1 - i) = q
  have e4 : IntKind.u8.wrap (q : Int) = ((q % 256 : Nat) : Int) := by
    rw [IntKind.wrap_u8]
    omega
  rw [e4, Int.toNat_natCast]
  apply UInt8.toNat_inj.1
  rw [UInt8.toNat_ofNat', UInt8.toNat_ofNat']
  omega
theorem or_tag : ∀ (t : Fin 4) (q : Fin 64), (BitVec.ofInt 8 (q.val : Int) ||| BitVec.ofInt 8 ((64 * t.val : Nat) : Int)).toNat = q.val + t.val * 64 := by decide +kernel
theorem or_byte {q t : Nat} (hq : q < 64) (ht : t < 4) : UInt8.ofNat (IntKind.u8.wrap ((BitVec.ofInt 8 (((UInt8.ofNat q).toNat : Nat) : Int) ||| BitVec.ofInt 8 ((64 * t : Nat) : Int)).toNat : Int)).toNat = UInt8.ofNat (q + t * 64) := by
  have h1 : (UInt8.ofNat q).toNat = q := by rw [UInt8.toNat_ofNat']; omega
  rw [h1, or_tag ⟨t, ht⟩ ⟨q, hq⟩, IntWalk.u8_in _ (by show 0 ≤ ((q + t * 64 : Nat) : Int) ∧ ((q + t * 64 : Nat) : Int) ≤ 255; omega), Int.toNat_natCast]
/-- The tag, put into the first byte. -/
theorem set_tag {m N t : Nat} (b : List UInt8) (hN : N < 64 * 256 ^ m) (ht : t < 4) (d : UInt8) :
    (b ++ be (m + 1) N).set b.length (UInt8.ofNat (IntKind.u8.wrap ((BitVec.ofInt 8 ((((b ++ be (m + 1) N).getD b.length d).toNat : Nat) : Int) ||| BitVec.ofInt 8 ((64 * t : Nat) : Int)).toNat : Int)).toNat) = b ++ be (m + 1) (N + t * (64 * 256 ^ m)) := by
  have hp : 0 < 256 ^ m := Nat.pow_pos (by decide)
  have e2 : N / 256 ^ m < 64 := by rw [Nat.div_lt_iff_lt_mul hp]; exact hN
  have e0 : be (m + 1) N = UInt8.ofNat (N / 256 ^ m) :: be m N := rfl
  have e1 : be (m + 1) (N + t * (64 * 256 ^ m)) = UInt8.ofNat (N / 256 ^ m + t * 64) :: be m N := by
    show UInt8.ofNat ((N + t * (64 * 256 ^ m)) / 256 ^ m) :: be m (N + t * (64 * 256 ^ m)) = _
    rw [← Nat.mul_assoc, be_add, Nat.add_mul_div_right _ _ hp]
  have hg : (b ++ be (m + 1) N).getD b.length d = UInt8.ofNat (N / 256 ^ m) := by
    rw [e0, List.getD_eq_getElem?_getD, List.getElem?_append_right (Nat.le_refl _), Nat.sub_self]
    rfl
  rw [hg, or_byte e2 ht, e0, e1, List.set_append_right _ _ (Nat.le_refl _), Nat.sub_self]
  rfl
/-- The number that Get's loop makes. -/
theorem or_next {a : Nat} (ha : a < 64 * 256 ^ 6) {y : UInt8} : IntKind.i64.wrap ((BitVec.ofInt 64 (IntKind.i64.wrap ((a : Int) * 256)) ||| BitVec.ofInt 64 (IntKind.i64.wrap ((y.toNat : Nat) : Int))).toNat : Int) = ((a * 256 + y.toNat : Nat) : Int) := by
  have hy : y.toNat < 256 := y.toNat_lt
  have h6 : 64 * 256 ^ 6 = 18014398509481984 := by decide
  rw [h6] at ha
  rw [i64_in (n := (a : Int) * 256) (by omega), i64_in (n := ((y.toNat : Nat) : Int)) (by omega)]
  have e1 : (a : Int) * 256 = ((a * 256 : Nat) : Int) := by omega
  have e2 : (BitVec.ofInt 64 ((a * 256 : Nat) : Int) ||| BitVec.ofInt 64 ((y.toNat : Nat) : Int)).toNat = a * 256 + y.toNat := by
    rw [BitVec.toNat_or, BitVec.toNat_ofInt, BitVec.toNat_ofInt]
    have m1 : (((a * 256 : Nat) : Int) % ((2 ^ 64 : Nat) : Int)).toNat = 2 ^ 8 * a := by omega
    have m2 : (((y.toNat : Nat) : Int) % ((2 ^ 64 : Nat) : Int)).toNat = y.toNat := by omega
    rw [m1, m2, ← Nat.two_pow_add_eq_or_of_lt hy]
    omega
  rw [e1, e2, i64_in (by omega)]
theorem val_take (a : Nat) (L : List UInt8) (i : Nat) (h : i < L.length) {d : UInt8} : ((val a (L.take i) * 256 + (L.getD i d).toNat : Nat) : Int) = (val a (L.take (i + 1)) : Int) := by
  have e : L.take (i + 1) = L.take i ++ [L.getD i d] := by
    rw [List.take_add_one, List.getD_eq_getElem?_getD, List.getElem?_eq_getElem h]
    rfl
  rw [e]
  unfold val
  rw [List.foldl_append]
  rfl
theorem get_k (x : UInt8) : IntKind.i64.wrap ((1 : Int) * (2 : Int) ^ min ((((x.toNat : Nat) : Int)).fdiv (64 : Int)).toNat (64 : Nat)) = ((2 ^ (x.toNat / 64) : Nat) : Int) := by
  have hx : x.toNat < 256 := x.toNat_lt
  have e : ((((x.toNat : Nat) : Int)).fdiv (64 : Int)).toNat = x.toNat / 64 := by
    rw [Int.fdiv_eq_ediv_of_nonneg _ (by decide)]
    omega
  rw [e, Nat.min_eq_left (by omega)]
  have : x.toNat / 64 ≤ 3 := by omega
  generalize x.toNat / 64 = t at *
  match t, this with
  | 0, _ => rfl
  | 1, _ => rfl
  | 2, _ => rfl
  | 3, _ => rfl
  | n + 4, h => omega
theorem low_bits : ∀ q : Fin 256, (BitVec.ofInt 8 (q.val : Int) &&& BitVec.ofInt 8 63).toNat = q.val % 64 := by decide +kernel
theorem get_low (x : UInt8) : IntKind.i64.wrap (IntKind.u8.wrap ((BitVec.ofInt 8 ((x.toNat : Nat) : Int) &&& BitVec.ofInt 8 63).toNat : Int)) = ((x.toNat % 64 : Nat) : Int) := by
  have hx : x.toNat < 256 := x.toNat_lt
  rw [low_bits ⟨x.toNat, hx⟩, IntWalk.u8_in _ (by show 0 ≤ ((x.toNat % 64 : Nat) : Int) ∧ ((x.toNat % 64 : Nat) : Int) ≤ 255; omega), i64_in (by show -9223372036854775808 ≤ ((x.toNat % 64 : Nat) : Int) ∧ ((x.toNat % 64 : Nat) : Int) ≤ 9223372036854775807; omega)]
end Go.Proofs.Yteebobbhhgmeiaa
