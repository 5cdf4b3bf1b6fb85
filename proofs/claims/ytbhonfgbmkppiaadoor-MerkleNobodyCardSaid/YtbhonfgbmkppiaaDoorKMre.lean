/- made by a program (rowgen.py): MerkleNobody: for every input the law returns true, and each argument reads behind the call as it read before. -/
import Derived.Test.YtbhonfgbmkppiaaDoorKMrd

set_option maxRecDepth 100000
namespace Go.Proofs.YtbhonfgbmkppiaaDoor
open Go.RowKit
def fold64 (s : List Int) (bs : List UInt8) : Nat → List Int
 | 0 => s
 | q + 1 => r04_block_0 (fold64 s bs q) ((bs.drop (64 * q)).take 64)
theorem fold64_append (s : List Int) (bs c : List UInt8) : ∀ q, 64 * q ≤ bs.length → fold64 s (bs ++ c) q = fold64 s bs q
 | 0, _ => rfl
 | q + 1, h => by
  show r04_block_0 (fold64 s (bs ++ c) q) _ = r04_block_0 (fold64 s bs q) _
  rw [fold64_append s bs c q (by omega), List.drop_append_of_le_length (by omega), List.take_append_of_le_length (by rw [List.length_drop]; omega)]
structure StR (s0 : List Int) (bs : List UInt8) (s : List Int) (w : List UInt8) (n : Int) : Prop where
 hn : n = (bs.length : Int)
 hs : s = fold64 s0 bs (bs.length / 64)
 hw : w.length = 64
 ht : w.take (bs.length % 64) = bs.drop (64 * (bs.length / 64))
theorem StR.more {s0 : List Int} {bs : List UInt8} {s : List Int} {w : List UInt8} {n : Int} (h : StR s0 bs s w n) {c : List UInt8} (hc : bs.length % 64 + c.length < 64) (w' : List UInt8) (hw : w'.length = 64) (ht : w'.take (bs.length % 64 + c.length) = w.take (bs.length % 64) ++ c) : StR s0 (bs ++ c) s w' (n + (c.length : Int)) := by
 have hl : (bs ++ c).length = bs.length + c.length := List.length_append
 have hq : (bs ++ c).length / 64 = bs.length / 64 := by rw [hl]; omega
 have hr : (bs ++ c).length % 64 = bs.length % 64 + c.length := by rw [hl]; omega
 refine ⟨by rw [h.hn, hl]; omega, by rw [hq, fold64_append s0 bs c _ (by omega)]; exact h.hs, hw, ?_⟩
 rw [hr, hq, ht, h.ht, List.drop_append_of_le_length (by omega)]
theorem StR.full {s0 : List Int} {bs : List UInt8} {s : List Int} {w : List UInt8} {n : Int} (h : StR s0 bs s w n) {c : List UInt8} (hc : bs.length % 64 + c.length = 64) (w' : List UInt8) (ht : w' = w.take (bs.length % 64) ++ c) : StR s0 (bs ++ c) (r04_block_0 s w') w' (n + (c.length : Int)) := by
 have hl : (bs ++ c).length = bs.length + c.length := List.length_append
 have hq : (bs ++ c).length / 64 = bs.length / 64 + 1 := by rw [hl]; omega
 have hr : (bs ++ c).length % 64 = 0 := by rw [hl]; omega
 have hd : (bs ++ c).drop (64 * (bs.length / 64)) = w' := by
  rw [List.drop_append_of_le_length (by omega), ht, h.ht]
 have hw : w'.length = 64 := by
  rw [← hd, List.length_drop, hl]; omega
 refine ⟨by rw [h.hn, hl]; omega, ?_, hw, ?_⟩
 ·rw [hq]
  show _ = r04_block_0 (fold64 s0 (bs ++ c) (bs.length / 64)) _
  rw [fold64_append s0 bs c _ (by omega), hd, List.take_of_length_le (by omega), h.hs]
 ·rw [hr, hq, List.take_zero, List.drop_of_length_le (by rw [hl]; omega)]
theorem add_next (s0 : List Int) (bs a : List UInt8) (s : List Int) (w : List UInt8) (n : Int) (h : StR s0 bs s w n) (hn : n + (a.length : Int) ≤ 4611686018427387904) (ha : 0 < a.length) :
  ∃ k, 0 < k ∧ k ≤ a.length ∧ StR s0 (bs ++ a.take k) (sha_Add_l0_f_2 a true s w n) (sha_Add_l0_f_3 a true s w n) (sha_Add_l0_f_4 a true s w n) ∧ sha_Add_l0_f_0 a true s w n = a.drop k ∧ sha_Add_l0_f_4 a true s w n = n + (k : Int) := by
 have hn0 : 0 ≤ n := by rw [h.hn]; omega
 have hm : n.tmod 64 = n % 64 := Int.tmod_eq_emod_of_nonneg hn0
 have hl := h.hn
 have hati : n.tmod 64 = ((bs.length % 64 : Nat) : Int) := by rw [hm]; omega
 have hat : (n.tmod 64).toNat = bs.length % 64 := by rw [hati]; omega
 have hk4 : sha_Add_l0_f_k4 a true s w n = ((min a.length (64 - bs.length % 64) : Nat) : Int) := by
  unfold sha_Add_l0_f_k4
  rw [hat]
 generalize hk : min a.length (64 - bs.length % 64) = k at hk4
 have hk0 : 0 < k := by omega
 have hka : k ≤ a.length := by omega
 have hw0 : sha_Add_l0_f_k0 a true s w n = w.take (bs.length % 64) ++ (a.take (64 - bs.length % 64) ++ w.drop (bs.length % 64 + k)) := by
  unfold sha_Add_l0_f_k0
  rw [hat, show a.length.min (64 - bs.length % 64) = k from hk]
 have htk : a.take (64 - bs.length % 64) = a.take k := by
  rcases Nat.le_total a.length (64 - bs.length % 64) with h1 | h1
  ·rw [List.take_of_length_le h1, List.take_of_length_le (by omega)]
  ·rw [show k = 64 - bs.length % 64 by omega]
 have hlk : (a.take k).length = k := by rw [List.length_take]; omega
 have hw1 : (sha_Add_l0_f_k0 a true s w n).length = 64 := by
  rw [hw0, htk]
  simp only [List.length_append, List.length_take, List.length_drop, h.hw]
  omega
 have hk2 : sha_Add_l0_f_k2 a true s w n = n + (k : Int) := by
  unfold sha_Add_l0_f_k2
  rw [hk4]
  exact i64_in ⟨by omega, by omega⟩
 have e3 : sha_Add_l0_f_3 a true s w n = sha_Add_l0_f_k0 a true s w n := by unfold sha_Add_l0_f_3; cases sha_Add_l0_f_k1 a true s w n <;> rfl
 have e4 : sha_Add_l0_f_4 a true s w n = n + (k : Int) := by unfold sha_Add_l0_f_4; rw [hk2]; cases sha_Add_l0_f_k1 a true s w n <;> rfl
 have e0 : sha_Add_l0_f_0 a true s w n = a.drop k := by
  unfold sha_Add_l0_f_0
  rw [hk4]
  exact List.take_of_length_le (by rw [List.length_drop]; simp)
 have hk1 : sha_Add_l0_f_k1 a true s w n = decide (bs.length % 64 + k = 64) := by
  unfold sha_Add_l0_f_k1
  rw [hk4, hati, i64_in ⟨by omega, by omega⟩]
  by_cases h5 : bs.length % 64 + k = 64
  ·rw [decide_eq_true h5]
   simp only [beq_iff_eq]
   omega
  ·rw [decide_eq_false h5]
   simp only [beq_eq_false_iff_ne, ne_eq]
   omega
 refine ⟨k, hk0, hka, ?_, e0, e4⟩
 rw [e3, e4]
 have hlk' : (n + (k : Int)) = n + ((a.take k).length : Int) := by rw [hlk]
 rw [hlk']
 by_cases h5 : bs.length % 64 + k = 64
 ·have e2 : sha_Add_l0_f_2 a true s w n = r04_block_0 s (sha_Add_l0_f_k0 a true s w n) := by unfold sha_Add_l0_f_2; rw [hk1, decide_eq_true h5]; rfl
  rw [e2]
  refine h.full (by rw [hlk]; exact h5) _ ?_
  rw [hw0, htk, List.drop_of_length_le (by rw [h.hw]; omega), List.append_nil]
 ·have e2 : sha_Add_l0_f_2 a true s w n = s := by unfold sha_Add_l0_f_2; rw [hk1, decide_eq_false h5]; rfl
  rw [e2]
  refine h.more (by rw [hlk]; omega) _ hw1 ?_
  rw [hw0, htk, hlk, ← List.append_assoc, List.take_append_of_le_length (by simp only [List.length_append, List.length_take, h.hw]; omega)]
  exact List.take_of_length_le (by simp only [List.length_append, List.length_take, h.hw]; omega)
theorem add_gen (a0 : List Int) (a1 : List UInt8) (a2 : Int) (a3 : List UInt8) (h0 : 0 ≤ a2) (hb : a2 + (a3.length : Int) ≤ 4611686018427387904) : (∀ p ∈ sha_Add_ps a0 a1 a2 a3, p) ∧ sha_Add_k3 a0 a1 a2 a3 = true := by
 have main := loop_inv (next := sha_Add_l0_next) (goes := sha_Add_l0_goes) (ps := sha_Add_l0_ps) (fun x => x.2.1 = true ∧ 0 ≤ x.2.2.2.2 ∧ x.2.2.2.2 + (x.1.length : Int) ≤ 4611686018427387904) (fun x => x.1.length) (fun x hx => by
  obtain ⟨a, t, s, w, n⟩ := x
  obtain ⟨ht, hn, hs⟩ := hx
  have ht : t = true := ht
  subst ht
  have hn : 0 ≤ n := hn
  have hs : n + (a.length : Int) ≤ 4611686018427387904 := hs
  have hm : n.tmod 64 = n % 64 := Int.tmod_eq_emod_of_nonneg hn
  have hk4 : sha_Add_l0_f_k4 a true s w n = ((min a.length (64 - (n.tmod 64).toNat) : Nat) : Int) := rfl
  have hr : (n.tmod 64).toNat < 64 := by rw [hm]; omega
  have g3 : sha_Add_l0_f_k3 a true s w n = true → 0 < a.length := fun h => by
   have : (!!decide ((a.length : Int) > 0)) = true := h
   simpa using this
  refine ⟨needs_cons (fun _ => ?_) (needs_cons (fun _ => ?_) (needs_cons (fun _ => ?_) needs_nil)), fun hg => ?_⟩
  ·show 0 ≤ n.tmod 64 ∧ n.tmod 64 ≤ 64
   rw [hm]; omega
  ·show 0 < 64 - (n.tmod 64).toNat
   omega
  ·show 0 ≤ sha_Add_l0_f_k4 a true s w n ∧ sha_Add_l0_f_k4 a true s w n ≤ (a.length : Int) ∧ (a.length : Int) ≤ (a.length : Int)
   rw [hk4]; omega
  ·have ha : 0 < a.length := g3 hg
   have e1 : sha_Add_l0_f_1 a true s w n = true := by unfold sha_Add_l0_f_1; cases sha_Add_l0_f_k1 a true s w n <;> rfl
   have e4 : sha_Add_l0_f_4 a true s w n = n + ((min a.length (64 - (n.tmod 64).toNat) : Nat) : Int) := by
    have e2 : sha_Add_l0_f_k2 a true s w n = n + ((min a.length (64 - (n.tmod 64).toNat) : Nat) : Int) := by
     unfold sha_Add_l0_f_k2
     rw [hk4]
     exact i64_in ⟨by omega, by omega⟩
    unfold sha_Add_l0_f_4
    rw [e2]
    cases sha_Add_l0_f_k1 a true s w n <;> rfl
   have e0 : (sha_Add_l0_f_0 a true s w n).length = a.length - min a.length (64 - (n.tmod 64).toNat) := by
    unfold sha_Add_l0_f_0
    rw [hk4]
    simp only [List.length_take, List.length_drop]
    omega
   refine ⟨⟨e1, ?_, ?_⟩, ?_⟩
   ·show 0 ≤ sha_Add_l0_f_4 a true s w n
    rw [e4]; omega
   ·show sha_Add_l0_f_4 a true s w n + ((sha_Add_l0_f_0 a true s w n).length : Int) ≤ _
    rw [e4, e0]; omega
   ·show (sha_Add_l0_f_0 a true s w n).length < a.length
    rw [e0]; omega) (sha_Add_l0_fuel (a3, true, a0, a1, a2)) (a3, true, a0, a1, a2) ⟨rfl, h0, hb⟩ (by show a3.length ≤ ((a3.length : Int) - 0).toNat; omega)
 exact ⟨needs_cons (fun _ => main.1) needs_nil, main.2.1.1⟩
theorem add_str (s0 : List Int) (bs : List UInt8) (a0 : List Int) (a1 : List UInt8) (a2 : Int) (a3 : List UInt8) (h : StR s0 bs a0 a1 a2) (hb : a2 + (a3.length : Int) ≤ 4611686018427387904) :
  StR s0 (bs ++ a3) (sha_Add_2 a0 a1 a2 a3) (sha_Add_3 a0 a1 a2 a3) (sha_Add_k1 a0 a1 a2 a3) := by
 have main := loop_inv (next := sha_Add_l0_next) (goes := sha_Add_l0_goes) (ps := fun _ => []) (fun x => x.2.1 = true ∧ x.2.2.2.2 + (x.1.length : Int) ≤ 4611686018427387904 ∧ ∃ d, d ++ x.1 = a3 ∧ StR s0 (bs ++ d) x.2.2.1 x.2.2.2.1 x.2.2.2.2) (fun x => x.1.length) (fun x hx => by
  obtain ⟨a, t, s, w, n⟩ := x
  obtain ⟨ht, hs, d, hd, hst⟩ := hx
  have ht : t = true := ht
  subst ht
  have hs : n + (a.length : Int) ≤ 4611686018427387904 := hs
  have hd : d ++ a = a3 := hd
  have hst : StR s0 (bs ++ d) s w n := hst
  refine ⟨needs_nil, fun hg => ?_⟩
  have ha : 0 < a.length := by
   have : (!!decide ((a.length : Int) > 0)) = true := hg
   simpa using this
  have e1 : sha_Add_l0_f_1 a true s w n = true := by unfold sha_Add_l0_f_1; cases sha_Add_l0_f_k1 a true s w n <;> rfl
  obtain ⟨k, k1, k2, k3, k4, k5⟩ := add_next s0 (bs ++ d) a s w n hst hs ha
  refine ⟨⟨e1, ?_, d ++ a.take k, ?_, ?_⟩, ?_⟩
  ·show sha_Add_l0_f_4 a true s w n + ((sha_Add_l0_f_0 a true s w n).length : Int) ≤ _
   rw [k5, k4, List.length_drop]; omega
  ·show (d ++ a.take k) ++ sha_Add_l0_f_0 a true s w n = a3
   rw [k4, List.append_assoc, List.take_append_drop, hd]
  ·rw [← List.append_assoc]
   exact k3
  ·show (sha_Add_l0_f_0 a true s w n).length < a.length
   rw [k4, List.length_drop]; omega) (sha_Add_l0_fuel (a3, true, a0, a1, a2)) (a3, true, a0, a1, a2) ⟨rfl, hb, [], rfl, by rw [List.append_nil]; exact h⟩ (by show a3.length ≤ ((a3.length : Int) - 0).toNat; omega)
 obtain ⟨_, ⟨_, _, d, hd, hst⟩, hg⟩ := main
 show StR s0 (bs ++ a3) (sha_Add_l0_run (a3, true, a0, a1, a2)).2.2.1 (sha_Add_l0_run (a3, true, a0, a1, a2)).2.2.2.1 (sha_Add_l0_run (a3, true, a0, a1, a2)).2.2.2.2
 unfold sha_Add_l0_run
 generalize iterX sha_Add_l0_next sha_Add_l0_goes (sha_Add_l0_fuel (a3, true, a0, a1, a2)) (a3, true, a0, a1, a2) = y at hd hst hg
 have he : y.1 = [] := by
  have : (!!decide ((y.1.length : Int) > 0)) = false := hg
  have : y.1.length = 0 := by simpa using this
  exact List.eq_nil_of_length_eq_zero this
 rw [he, List.append_nil] at hd
 rw [← hd]
 exact hst
def add_t : List A → Nat → Objs → Option CRes
 | [.own i 0, y], nx, o => match lookO i o, argL .u8 y with
  | some (.rcd 218 [.v (.bool true), .av .u32 8 s, .av .u8 64 w, .v (.int .i64 n)]), some b => some (2, .v (.int .i64 0), nx, (i, some (.rcd 218 [.v (.bool true), .av .u32 8 (sha_Add_2 s w n b), .av .u8 64 (sha_Add_3 s w n b), .v (.int .i64 (sha_Add_k1 s w n b))])) :: o, [0 ≤ n, n + (b.length : Int) ≤ 4611686018427387904])
  | _, _ => none
 | _, _, _ => none
theorem add_tok : TOk Tryd.prog 104 add_t := fun args nx o k x nx' o' ps h => by
 unfold add_t at h
 split at h <;> first | (cases h; done) | skip
 rename_i i y
 split at h <;> first | (cases h; done) | skip
 rename_i s w n b hl hb
 cases h
 refine ⟨fun hp => ?_, [_], rfl⟩
 obtain ⟨h1, h2⟩ := add_gen s w n b (N0 hp) (N0 (N1 hp))
 have h3 := sha_Add_c s w n b h1
 have h0 : lookO 0 (sha_Add_o s w n b) = some (.rcd 218 [.v (.bool true), .av .u32 8 (sha_Add_2 s w n b), .av .u8 64 (sha_Add_3 s w n b), .v (.int .i64 (sha_Add_k1 s w n b))]) := by
  show some (Ob.rcd 218 [.v (.bool (sha_Add_k3 s w n b)), _, _, _]) = _
  rw [h2]
 refine callOk_args (callOk_own h3 h0 (by rfl) (by rfl) (by rfl) (by rfl) hl) fun F N R vs hv => ?_
 obtain ⟨v, us, rfl, v1, v2⟩ := hv.inv
 obtain ⟨v', us', rfl, v3, v4⟩ := v2.inv
 exact HL.cons v1 (HL.cons (argL_ok hb v3) v4)
noncomputable def Csf := addC 104 add_t Csd
theorem Csf_ok : COk Tryd.prog Csf := addC_ok add_tok Csd_ok
end Go.Proofs.YtbhonfgbmkppiaaDoor
namespace Go.Proofs.YtbhonfgbmkppiaaDoor
open Go.RowKit
abbrev sha_Sum_l0_X : Type := Int × Int × (List UInt8)
def sha_Sum_l0_T (x : sha_Sum_l0_X) : St := ⟨60, 6, [(4, .v (.int .i64 x.1)), (5, .own 5 0), (26, .v (.int .i64 x.2.1))], [(5, some (.rcd 220 [.av .u8 8 x.2.2]))]⟩
def sha_Sum_l0_un : St → Option sha_Sum_l0_X
 | ⟨60, 6, [(4, .v (.int .i64 z0)), (5, .own 5 0), (26, .v (.int .i64 z1))], [(5, some (.rcd 220 [.av .u8 8 z2]))]⟩ => some (z0, z1, z2)
 | _ => none
theorem sha_Sum_l0_unok : ∀ s x, sha_Sum_l0_un s = some x → s = sha_Sum_l0_T x := fun s x h => by
 unfold sha_Sum_l0_un at h
 split at h
 ·cases h; rfl
 ·cases h
def sha_Sum_l0_S : Shape := ⟨6, 6, [4, 5, 26], [], [(5, 5)], [5], [], [5]⟩
def sha_Sum_l0_E : Entry := ⟨[.seg 5 [some (.u8, 8)]], [(5, 5)], [4, 5, 26], [5]⟩
def sha_Sum_l0_f_k1 (_a0 : Int) (a1 : Int) (_a2 : List UInt8) : Bool := !!decide (a1 < (8 : Int))
def sha_Sum_l0_f_k0 (a0 : Int) (a1 : Int) (_a2 : List UInt8) : Int := IntKind.u8.wrap (a0.fdiv ((2 : Int) ^ min (IntKind.u64.wrap (IntKind.i64.wrap ((56 : Int) - IntKind.i64.wrap ((8 : Int) * a1)))).toNat (64 : Nat)))
def sha_Sum_l0_f_2 (a0 : Int) (a1 : Int) (a2 : List UInt8) : List UInt8 := a2.set a1.toNat (UInt8.ofNat (sha_Sum_l0_f_k0 a0 a1 a2).toNat)
def sha_Sum_l0_next (x : sha_Sum_l0_X) : sha_Sum_l0_X := (x.1, IntKind.i64.wrap (x.2.1 + (1 : Int)), sha_Sum_l0_f_2 x.1 x.2.1 x.2.2)
def sha_Sum_l0_goes (x : sha_Sum_l0_X) : Cnd := some ((sha_Sum_l0_f_k1 x.1 x.2.1 x.2.2))
def sha_Sum_l0_psA (x : sha_Sum_l0_X) : List Prop := [((sha_Sum_l0_f_k1 x.1 x.2.1 x.2.2) = true → (0 : Int) ≤ IntKind.u64.wrap (IntKind.i64.wrap ((56 : Int) - IntKind.i64.wrap ((8 : Int) * x.2.1)))), ((sha_Sum_l0_f_k1 x.1 x.2.1 x.2.2) = true → (0 : Int) ≤ x.2.1 ∧ x.2.1 < (8 : Int)), ((sha_Sum_l0_f_k1 x.1 x.2.1 x.2.2) = true → x.2.1.toNat < (8 : Nat)), ((sha_Sum_l0_f_k1 x.1 x.2.1 x.2.2) = true → (0 : Int) ≤ (sha_Sum_l0_f_k0 x.1 x.2.1 x.2.2) ∧ (sha_Sum_l0_f_k0 x.1 x.2.1 x.2.2) < (256 : Int))]
def sha_Sum_l0_ps (x : sha_Sum_l0_X) : List Prop := [((sha_Sum_l0_f_k1 x.1 x.2.1 x.2.2) = true → (0 : Int) ≤ x.2.1 ∧ x.2.1 < (8 : Int))]
def sha_Sum_l0_outs (x : sha_Sum_l0_X) : Outs := [(some 0, some (!decide (x.2.1 < (8 : Int))), ⟨60, 6, [], [(5, some (.rcd 220 [.av .u8 8 x.2.2]))]⟩)]
def sha_Sum_l0_fuel (x : sha_Sum_l0_X) : Nat := ((8 : Int) - x.2.1).toNat
def sha_Sum_l0_run (x : sha_Sum_l0_X) : sha_Sum_l0_X := iterX sha_Sum_l0_next sha_Sum_l0_goes (sha_Sum_l0_fuel x) x
theorem sha_Sum_l0_ev (a0 : Int) (a1 : Int) (a2 : List UInt8) : roundE (envT Csf L0) 9 (loopAt Tryd.prog 105 0) sha_Sum_l0_S (sha_Sum_l0_T (a0, a1, a2)) = some (sha_Sum_l0_psA (a0, a1, a2), sha_Sum_l0_outs (a0, a1, a2), sha_Sum_l0_goes (a0, a1, a2), sha_Sum_l0_T (sha_Sum_l0_next (a0, a1, a2))) := by kernel_rfl
theorem sha_Sum_l0_hA (a0 : Int) (a1 : Int) (a2 : List UInt8) (hp : ∀ p ∈ sha_Sum_l0_ps (a0, a1, a2), p) : ∀ p ∈ sha_Sum_l0_psA (a0, a1, a2), p := by
 have n0 : ((sha_Sum_l0_f_k1 a0 a1 a2) = true → (0 : Int) ≤ IntKind.u64.wrap (IntKind.i64.wrap ((56 : Int) - IntKind.i64.wrap ((8 : Int) * a1)))) := by intros; exact wrapU64 _
 have n1 : ((sha_Sum_l0_f_k1 a0 a1 a2) = true → (0 : Int) ≤ a1 ∧ a1 < (8 : Int)) := N0 hp
 have n2 : ((sha_Sum_l0_f_k1 a0 a1 a2) = true → a1.toNat < (8 : Nat)) := by intro h0; have g := n1 h0; omega
 have n3 : ((sha_Sum_l0_f_k1 a0 a1 a2) = true → (0 : Int) ≤ (sha_Sum_l0_f_k0 a0 a1 a2) ∧ (sha_Sum_l0_f_k0 a0 a1 a2) < (256 : Int)) := by intros; exact wrapU8 _
 exact (needs_cons n0 (needs_cons n1 (needs_cons n2 (needs_cons n3 needs_nil))))
noncomputable def sha_Sum_l0_row := rowL (envT Csf L0) (loopAt Tryd.prog 105 0) sha_Sum_l0_S sha_Sum_l0_E sha_Sum_l0_un sha_Sum_l0_fuel sha_Sum_l0_next sha_Sum_l0_goes sha_Sum_l0_ps sha_Sum_l0_outs
theorem sha_Sum_l0_rok : ∀ s b ps outs, sha_Sum_l0_row s = some (b, ps, outs) → Wf s ⟨ps, outs, none⟩ ∧ LoopOk (envT C0 L0) b s ps outs :=
 rowP_ok (T := sha_Sum_l0_T) Csf_ok L0_ok (u := 9) (by kernel_rfl) (by decide) (fun ⟨a0, a1, a2⟩ => sha_Sum_l0_ev a0 a1 a2) (fun ⟨a0, a1, a2⟩ => sha_Sum_l0_hA a0 a1 a2) sha_Sum_l0_unok (fun _ => okOuts_ok (n := 60) rfl) fun _ _ => rfl
noncomputable def sha_Sum_l0_L := addLp 0 sha_Sum_l0_row L0
theorem sha_Sum_l0_Lok : LpOk sha_Sum_l0_L := addLp_ok sha_Sum_l0_rok L0_ok
abbrev sha_Sum_l2_X : Type := Int × (List UInt8) × Bool × (List Int) × (List UInt8) × Int
def sha_Sum_l2_T (x : sha_Sum_l2_X) : St := ⟨60, 6, [(2, .own 1 0), (3, .own 2 0), (41, .v (.int .i64 x.1))], [(1, some (.rcd 54 [.av .u8 32 x.2.1])), (2, some (.rcd 218 [.v (.bool x.2.2.1), .av .u32 8 x.2.2.2.1, .av .u8 64 x.2.2.2.2.1, .v (.int .i64 x.2.2.2.2.2)]))]⟩
def sha_Sum_l2_un : St → Option sha_Sum_l2_X
 | ⟨60, 6, [(2, .own 1 0), (3, .own 2 0), (41, .v (.int .i64 z0))], [(1, some (.rcd 54 [.av .u8 32 z1])), (2, some (.rcd 218 [.v (.bool z2), .av .u32 8 z3, .av .u8 64 z4, .v (.int .i64 z5)]))]⟩ => some (z0, z1, z2, z3, z4, z5)
 | _ => none
theorem sha_Sum_l2_unok : ∀ s x, sha_Sum_l2_un s = some x → s = sha_Sum_l2_T x := fun s x h => by
 unfold sha_Sum_l2_un at h
 split at h
 ·cases h; rfl
 ·cases h
def sha_Sum_l2_S : Shape := ⟨6, 6, [2, 3, 41], [], [(1, 1), (2, 2)], [1, 2], [], [1, 2]⟩
def sha_Sum_l2_E : Entry := ⟨[.seg 1 [some (.u8, 32)]], [(1, 1), (2, 2)], [2, 3, 41], [1, 2]⟩
def sha_Sum_l2_f_k1 (a0 : Int) (_a1 : List UInt8) (_a2 : Bool) (_a3 : List Int) (_a4 : List UInt8) (_a5 : Int) : Bool := !!decide (a0 < (32 : Int))
def sha_Sum_l2_f_k0 (a0 : Int) (_a1 : List UInt8) (_a2 : Bool) (a3 : List Int) (_a4 : List UInt8) (_a5 : Int) : Int := IntKind.u8.wrap (Int.fdiv (a3.getD (IntKind.i64.wrap (a0.tdiv (4 : Int))).toNat (dflt TC.u32)) ((2 : Int) ^ min (IntKind.u64.wrap (IntKind.i64.wrap ((24 : Int) - IntKind.i64.wrap (a0.tmod (4 : Int) * (8 : Int))))).toNat (32 : Nat)))
def sha_Sum_l2_f_1 (a0 : Int) (a1 : List UInt8) (a2 : Bool) (a3 : List Int) (a4 : List UInt8) (a5 : Int) : List UInt8 := a1.set a0.toNat (UInt8.ofNat (sha_Sum_l2_f_k0 a0 a1 a2 a3 a4 a5).toNat)
def sha_Sum_l2_next (x : sha_Sum_l2_X) : sha_Sum_l2_X := (IntKind.i64.wrap (x.1 + (1 : Int)), sha_Sum_l2_f_1 x.1 x.2.1 x.2.2.1 x.2.2.2.1 x.2.2.2.2.1 x.2.2.2.2.2, x.2.2.1, x.2.2.2.1, x.2.2.2.2.1, x.2.2.2.2.2)
def sha_Sum_l2_goes (x : sha_Sum_l2_X) : Cnd := some ((sha_Sum_l2_f_k1 x.1 x.2.1 x.2.2.1 x.2.2.2.1 x.2.2.2.2.1 x.2.2.2.2.2))
def sha_Sum_l2_psA (x : sha_Sum_l2_X) : List Prop := [((sha_Sum_l2_f_k1 x.1 x.2.1 x.2.2.1 x.2.2.2.1 x.2.2.2.2.1 x.2.2.2.2.2) = true → (0 : Int) ≤ IntKind.i64.wrap (x.1.tdiv (4 : Int)) ∧ IntKind.i64.wrap (x.1.tdiv (4 : Int)) < (8 : Int)), ((sha_Sum_l2_f_k1 x.1 x.2.1 x.2.2.1 x.2.2.2.1 x.2.2.2.2.1 x.2.2.2.2.2) = true → (IntKind.i64.wrap (x.1.tdiv (4 : Int))).toNat < (8 : Nat)), ((sha_Sum_l2_f_k1 x.1 x.2.1 x.2.2.1 x.2.2.2.1 x.2.2.2.2.1 x.2.2.2.2.2) = true → (0 : Int) ≤ IntKind.u64.wrap (IntKind.i64.wrap ((24 : Int) - IntKind.i64.wrap (x.1.tmod (4 : Int) * (8 : Int))))), ((sha_Sum_l2_f_k1 x.1 x.2.1 x.2.2.1 x.2.2.2.1 x.2.2.2.2.1 x.2.2.2.2.2) = true → (0 : Int) ≤ x.1 ∧ x.1 < (32 : Int)), ((sha_Sum_l2_f_k1 x.1 x.2.1 x.2.2.1 x.2.2.2.1 x.2.2.2.2.1 x.2.2.2.2.2) = true → x.1.toNat < (32 : Nat)), ((sha_Sum_l2_f_k1 x.1 x.2.1 x.2.2.1 x.2.2.2.1 x.2.2.2.2.1 x.2.2.2.2.2) = true → (0 : Int) ≤ (sha_Sum_l2_f_k0 x.1 x.2.1 x.2.2.1 x.2.2.2.1 x.2.2.2.2.1 x.2.2.2.2.2) ∧ (sha_Sum_l2_f_k0 x.1 x.2.1 x.2.2.1 x.2.2.2.1 x.2.2.2.2.1 x.2.2.2.2.2) < (256 : Int))]
def sha_Sum_l2_ps (x : sha_Sum_l2_X) : List Prop := [((sha_Sum_l2_f_k1 x.1 x.2.1 x.2.2.1 x.2.2.2.1 x.2.2.2.2.1 x.2.2.2.2.2) = true → (0 : Int) ≤ IntKind.i64.wrap (x.1.tdiv (4 : Int)) ∧ IntKind.i64.wrap (x.1.tdiv (4 : Int)) < (8 : Int)), ((sha_Sum_l2_f_k1 x.1 x.2.1 x.2.2.1 x.2.2.2.1 x.2.2.2.2.1 x.2.2.2.2.2) = true → (0 : Int) ≤ x.1 ∧ x.1 < (32 : Int))]
def sha_Sum_l2_outs (x : sha_Sum_l2_X) : Outs := [(some 2, some (!decide (x.1 < (32 : Int))), ⟨60, 6, [], [(1, some (.rcd 54 [.av .u8 32 x.2.1])), (2, some (.rcd 218 [.v (.bool x.2.2.1), .av .u32 8 x.2.2.2.1, .av .u8 64 x.2.2.2.2.1, .v (.int .i64 x.2.2.2.2.2)]))]⟩)]
def sha_Sum_l2_fuel (x : sha_Sum_l2_X) : Nat := ((32 : Int) - x.1).toNat
def sha_Sum_l2_run (x : sha_Sum_l2_X) : sha_Sum_l2_X := iterX sha_Sum_l2_next sha_Sum_l2_goes (sha_Sum_l2_fuel x) x
theorem sha_Sum_l2_ev (a0 : Int) (a1 : List UInt8) (a2 : Bool) (a3 : List Int) (a4 : List UInt8) (a5 : Int) : roundE (envT Csf sha_Sum_l0_L) 9 (loopAt Tryd.prog 105 2) sha_Sum_l2_S (sha_Sum_l2_T (a0, a1, a2, a3, a4, a5)) = some (sha_Sum_l2_psA (a0, a1, a2, a3, a4, a5), sha_Sum_l2_outs (a0, a1, a2, a3, a4, a5), sha_Sum_l2_goes (a0, a1, a2, a3, a4, a5), sha_Sum_l2_T (sha_Sum_l2_next (a0, a1, a2, a3, a4, a5))) := by kernel_rfl
theorem sha_Sum_l2_hA (a0 : Int) (a1 : List UInt8) (a2 : Bool) (a3 : List Int) (a4 : List UInt8) (a5 : Int) (hp : ∀ p ∈ sha_Sum_l2_ps (a0, a1, a2, a3, a4, a5), p) : ∀ p ∈ sha_Sum_l2_psA (a0, a1, a2, a3, a4, a5), p := by
 have n0 : ((sha_Sum_l2_f_k1 a0 a1 a2 a3 a4 a5) = true → (0 : Int) ≤ IntKind.i64.wrap (a0.tdiv (4 : Int)) ∧ IntKind.i64.wrap (a0.tdiv (4 : Int)) < (8 : Int)) := N0 hp
 have n1 : ((sha_Sum_l2_f_k1 a0 a1 a2 a3 a4 a5) = true → (IntKind.i64.wrap (a0.tdiv (4 : Int))).toNat < (8 : Nat)) := by intro h0; have g := n0 h0; omega
 have n2 : ((sha_Sum_l2_f_k1 a0 a1 a2 a3 a4 a5) = true → (0 : Int) ≤ IntKind.u64.wrap (IntKind.i64.wrap ((24 : Int) - IntKind.i64.wrap (a0.tmod (4 : Int) * (8 : Int))))) := by intros; exact wrapU64 _
 have n3 : ((sha_Sum_l2_f_k1 a0 a1 a2 a3 a4 a5) = true → (0 : Int) ≤ a0 ∧ a0 < (32 : Int)) := N0 (N1 hp)
 have n4 : ((sha_Sum_l2_f_k1 a0 a1 a2 a3 a4 a5) = true → a0.toNat < (32 : Nat)) := by intro h0; have g := n3 h0; omega
 have n5 : ((sha_Sum_l2_f_k1 a0 a1 a2 a3 a4 a5) = true → (0 : Int) ≤ (sha_Sum_l2_f_k0 a0 a1 a2 a3 a4 a5) ∧ (sha_Sum_l2_f_k0 a0 a1 a2 a3 a4 a5) < (256 : Int)) := by intros; exact wrapU8 _
 exact (needs_cons n0 (needs_cons n1 (needs_cons n2 (needs_cons n3 (needs_cons n4 (needs_cons n5 needs_nil))))))
noncomputable def sha_Sum_l2_row := rowL (envT Csf sha_Sum_l0_L) (loopAt Tryd.prog 105 2) sha_Sum_l2_S sha_Sum_l2_E sha_Sum_l2_un sha_Sum_l2_fuel sha_Sum_l2_next sha_Sum_l2_goes sha_Sum_l2_ps sha_Sum_l2_outs
theorem sha_Sum_l2_rok : ∀ s b ps outs, sha_Sum_l2_row s = some (b, ps, outs) → Wf s ⟨ps, outs, none⟩ ∧ LoopOk (envT C0 L0) b s ps outs :=
 rowP_ok (T := sha_Sum_l2_T) Csf_ok sha_Sum_l0_Lok (u := 9) (by kernel_rfl) (by decide) (fun ⟨a0, a1, a2, a3, a4, a5⟩ => sha_Sum_l2_ev a0 a1 a2 a3 a4 a5) (fun ⟨a0, a1, a2, a3, a4, a5⟩ => sha_Sum_l2_hA a0 a1 a2 a3 a4 a5) sha_Sum_l2_unok (fun _ => okOuts_ok (n := 60) rfl) fun _ _ => rfl
noncomputable def sha_Sum_l2_L := addLp 2 sha_Sum_l2_row sha_Sum_l0_L
theorem sha_Sum_l2_Lok : LpOk sha_Sum_l2_L := addLp_ok sha_Sum_l2_rok sha_Sum_l0_Lok
def sha_Sum_k6 (a0 : List Int) (a1 : List UInt8) (a2 : Int) : Int := sha_Add_k1 a0 a1 a2 [UInt8.ofNat (128 : Nat)]
def sha_Sum_k5 (a0 : List Int) (a1 : List UInt8) (a2 : Int) : Int := (IntKind.i64.wrap ((120 : Int) - (sha_Sum_k6 a0 a1 a2).tmod (64 : Int))).tmod (64 : Int)
def sha_Sum_k4 (_a0 : List Int) (_a1 : List UInt8) (_a2 : Int) : List UInt8 := [UInt8.ofNat (0 : Nat), UInt8.ofNat (0 : Nat), UInt8.ofNat (0 : Nat), UInt8.ofNat (0 : Nat), UInt8.ofNat (0 : Nat), UInt8.ofNat (0 : Nat), UInt8.ofNat (0 : Nat), UInt8.ofNat (0 : Nat)]
def sha_Sum_k3 (a0 : List Int) (a1 : List UInt8) (a2 : Int) : Int := sha_Add_k1 (sha_Add_2 a0 a1 a2 [UInt8.ofNat (128 : Nat)]) (sha_Add_3 a0 a1 a2 [UInt8.ofNat (128 : Nat)]) (sha_Sum_k6 a0 a1 a2) (List.replicate (sha_Sum_k5 a0 a1 a2).toNat (dflt TC.u8))
def sha_Sum_k2 (a0 : List Int) (a1 : List UInt8) (a2 : Int) : List UInt8 := sha_Add_3 (sha_Add_2 a0 a1 a2 [UInt8.ofNat (128 : Nat)]) (sha_Add_3 a0 a1 a2 [UInt8.ofNat (128 : Nat)]) (sha_Sum_k6 a0 a1 a2) (List.replicate (sha_Sum_k5 a0 a1 a2).toNat (dflt TC.u8))
def sha_Sum_k1 (a0 : List Int) (a1 : List UInt8) (a2 : Int) : List Int := sha_Add_2 (sha_Add_2 a0 a1 a2 [UInt8.ofNat (128 : Nat)]) (sha_Add_3 a0 a1 a2 [UInt8.ofNat (128 : Nat)]) (sha_Sum_k6 a0 a1 a2) (List.replicate (sha_Sum_k5 a0 a1 a2).toNat (dflt TC.u8))
def sha_Sum_k0 (a0 : List Int) (a1 : List UInt8) (a2 : Int) : List UInt8 := List.take (8 : Nat) (List.drop (0 : Nat) (sha_Sum_l0_run (IntKind.i64.wrap ((8 : Int) * a2), (0 : Int), (sha_Sum_k4 a0 a1 a2))).snd.snd)
def sha_Sum_0 (a0 : List Int) (a1 : List UInt8) (a2 : Int) : List UInt8 := (sha_Sum_l2_run ((0 : Int), UInt8.ofNat (0 : Nat) :: UInt8.ofNat (0 : Nat) :: UInt8.ofNat (0 : Nat) :: UInt8.ofNat (0 : Nat) :: UInt8.ofNat (0 : Nat) :: UInt8.ofNat (0 : Nat) :: UInt8.ofNat (0 : Nat) :: UInt8.ofNat (0 : Nat) :: UInt8.ofNat (0 : Nat) :: UInt8.ofNat (0 : Nat) :: UInt8.ofNat (0 : Nat) :: UInt8.ofNat (0 : Nat) :: UInt8.ofNat (0 : Nat) :: UInt8.ofNat (0 : Nat) :: UInt8.ofNat (0 : Nat) :: UInt8.ofNat (0 : Nat) :: UInt8.ofNat (0 : Nat) :: UInt8.ofNat (0 : Nat) :: UInt8.ofNat (0 : Nat) :: UInt8.ofNat (0 : Nat) :: UInt8.ofNat (0 : Nat) :: UInt8.ofNat (0 : Nat) :: UInt8.ofNat (0 : Nat) :: UInt8.ofNat (0 : Nat) :: (sha_Sum_k4 a0 a1 a2), true, sha_Add_2 (sha_Sum_k1 a0 a1 a2) (sha_Sum_k2 a0 a1 a2) (sha_Sum_k3 a0 a1 a2) (sha_Sum_k0 a0 a1 a2), sha_Add_3 (sha_Sum_k1 a0 a1 a2) (sha_Sum_k2 a0 a1 a2) (sha_Sum_k3 a0 a1 a2) (sha_Sum_k0 a0 a1 a2), sha_Add_k1 (sha_Sum_k1 a0 a1 a2) (sha_Sum_k2 a0 a1 a2) (sha_Sum_k3 a0 a1 a2) (sha_Sum_k0 a0 a1 a2))).snd.fst
def sha_Sum_r (a0 : List Int) (a1 : List UInt8) (a2 : Int) : A := .av .u8 32 (sha_Sum_0 a0 a1 a2)
def sha_Sum_o (a0 : List Int) (a1 : List UInt8) (a2 : Int) : Objs := [(0, some (.rcd 218 [.v (.bool true), .av .u32 8 a0, .av .u8 64 a1, .v (.int .i64 a2)])), (0, some (.rcd 218 [.v (.bool true), .av .u32 8 a0, .av .u8 64 a1, .v (.int .i64 a2)])), (0, some (.rcd 218 [.v (.bool true), .av .u32 8 a0, .av .u8 64 a1, .v (.int .i64 a2)])), (0, some (.rcd 218 [.v (.bool (true)), .av .u32 8 a0, .av .u8 64 a1, .v (.int .i64 a2)]))]
def sha_Sum_ps (a0 : List Int) (a1 : List UInt8) (a2 : Int) : List Prop := [(true = true → (0 : Int) ≤ a2), (true = true → a2 + (1 : Int) ≤ (4611686018427387904 : Int)), (true = true → (0 : Int) ≤ (sha_Sum_k5 a0 a1 a2) ∧ (sha_Sum_k5 a0 a1 a2) ≤ (sha_Sum_k5 a0 a1 a2) ∧ (sha_Sum_k5 a0 a1 a2) ≤ (549755813888 : Int)), (true = true → (0 : Int) ≤ (sha_Sum_k6 a0 a1 a2)), (true = true → (sha_Sum_k6 a0 a1 a2) + (↑(List.replicate (sha_Sum_k5 a0 a1 a2).toNat (dflt TC.u8)).length : Int) ≤ (4611686018427387904 : Int)), (true = true → needX sha_Sum_l0_next sha_Sum_l0_goes sha_Sum_l0_ps (8 : Nat) (IntKind.i64.wrap ((8 : Int) * a2), (0 : Int), (sha_Sum_k4 a0 a1 a2))), (true = true → (0 : Int) ≤ (sha_Sum_k3 a0 a1 a2)), (true = true → (sha_Sum_k3 a0 a1 a2) + (↑(8 : Nat) : Int) ≤ (4611686018427387904 : Int)), (true = true → needX sha_Sum_l2_next sha_Sum_l2_goes sha_Sum_l2_ps (32 : Nat) ((0 : Int), UInt8.ofNat (0 : Nat) :: UInt8.ofNat (0 : Nat) :: UInt8.ofNat (0 : Nat) :: UInt8.ofNat (0 : Nat) :: UInt8.ofNat (0 : Nat) :: UInt8.ofNat (0 : Nat) :: UInt8.ofNat (0 : Nat) :: UInt8.ofNat (0 : Nat) :: UInt8.ofNat (0 : Nat) :: UInt8.ofNat (0 : Nat) :: UInt8.ofNat (0 : Nat) :: UInt8.ofNat (0 : Nat) :: UInt8.ofNat (0 : Nat) :: UInt8.ofNat (0 : Nat) :: UInt8.ofNat (0 : Nat) :: UInt8.ofNat (0 : Nat) :: UInt8.ofNat (0 : Nat) :: UInt8.ofNat (0 : Nat) :: UInt8.ofNat (0 : Nat) :: UInt8.ofNat (0 : Nat) :: UInt8.ofNat (0 : Nat) :: UInt8.ofNat (0 : Nat) :: UInt8.ofNat (0 : Nat) :: UInt8.ofNat (0 : Nat) :: (sha_Sum_k4 a0 a1 a2), true, sha_Add_2 (sha_Sum_k1 a0 a1 a2) (sha_Sum_k2 a0 a1 a2) (sha_Sum_k3 a0 a1 a2) (sha_Sum_k0 a0 a1 a2), sha_Add_3 (sha_Sum_k1 a0 a1 a2) (sha_Sum_k2 a0 a1 a2) (sha_Sum_k3 a0 a1 a2) (sha_Sum_k0 a0 a1 a2), sha_Add_k1 (sha_Sum_k1 a0 a1 a2) (sha_Sum_k2 a0 a1 a2) (sha_Sum_k3 a0 a1 a2) (sha_Sum_k0 a0 a1 a2)))]
theorem sha_Sum_ev (a0 : List Int) (a1 : List UInt8) (a2 : Int) : evF (envT Csf sha_Sum_l2_L) 9 105 [.own 0 0] 1 [(0, some (.rcd 218 [.v (.bool true), .av .u32 8 a0, .av .u8 64 a1, .v (.int .i64 a2)]))] = some (2, sha_Sum_r a0 a1 a2, 1, sha_Sum_o a0 a1 a2, [(true = true → (0 : Int) ≤ (128 : Int) ∧ (128 : Int) < (256 : Int)), (true = true → (0 : Int) ≤ a2), (true = true → a2 + (1 : Int) ≤ (4611686018427387904 : Int)), (true = true → (0 : Int) ≤ (sha_Sum_k5 a0 a1 a2) ∧ (sha_Sum_k5 a0 a1 a2) ≤ (sha_Sum_k5 a0 a1 a2) ∧ (sha_Sum_k5 a0 a1 a2) ≤ (549755813888 : Int)), (true = true → (0 : Int) ≤ (sha_Sum_k6 a0 a1 a2)), (true = true → (sha_Sum_k6 a0 a1 a2) + (↑(List.replicate (sha_Sum_k5 a0 a1 a2).toNat (dflt TC.u8)).length : Int) ≤ (4611686018427387904 : Int)), (true = true → loopAt Tryd.prog (105 : FuncId) (0 : Nat) = loopAt Tryd.prog (105 : FuncId) (0 : Nat)), (true = true → (0 : Int) ≤ (0 : Int) ∧ (0 : Int) < (256 : Int)), (true = true → (0 : Int) ≤ (0 : Int) ∧ (0 : Int) < (256 : Int)), (true = true → (0 : Int) ≤ (0 : Int) ∧ (0 : Int) < (256 : Int)), (true = true → (0 : Int) ≤ (0 : Int) ∧ (0 : Int) < (256 : Int)), (true = true → (0 : Int) ≤ (0 : Int) ∧ (0 : Int) < (256 : Int)), (true = true → (0 : Int) ≤ (0 : Int) ∧ (0 : Int) < (256 : Int)), (true = true → (0 : Int) ≤ (0 : Int) ∧ (0 : Int) < (256 : Int)), (true = true → (0 : Int) ≤ (0 : Int) ∧ (0 : Int) < (256 : Int)), (true = true → needX sha_Sum_l0_next sha_Sum_l0_goes sha_Sum_l0_ps (8 : Nat) (IntKind.i64.wrap ((8 : Int) * a2), (0 : Int), (sha_Sum_k4 a0 a1 a2))), (true = true → (0 : Int) ≤ (0 : Int) ∧ (0 : Int) ≤ (8 : Int)), (true = true → (8 : Nat) ≤ (8 : Nat)), (true = true → (0 : Int) ≤ (sha_Sum_k3 a0 a1 a2)), (true = true → (sha_Sum_k3 a0 a1 a2) + (↑(8 : Nat) : Int) ≤ (4611686018427387904 : Int)), (true = true → loopAt Tryd.prog (105 : FuncId) (2 : Nat) = loopAt Tryd.prog (105 : FuncId) (2 : Nat)), (true = true → (0 : Int) ≤ (0 : Int) ∧ (0 : Int) < (256 : Int)), (true = true → (0 : Int) ≤ (0 : Int) ∧ (0 : Int) < (256 : Int)), (true = true → (0 : Int) ≤ (0 : Int) ∧ (0 : Int) < (256 : Int)), (true = true → (0 : Int) ≤ (0 : Int) ∧ (0 : Int) < (256 : Int)), (true = true → (0 : Int) ≤ (0 : Int) ∧ (0 : Int) < (256 : Int)), (true = true → (0 : Int) ≤ (0 : Int) ∧ (0 : Int) < (256 : Int)), (true = true → (0 : Int) ≤ (0 : Int) ∧ (0 : Int) < (256 : Int)), (true = true → (0 : Int) ≤ (0 : Int) ∧ (0 : Int) < (256 : Int)), (true = true → (0 : Int) ≤ (0 : Int) ∧ (0 : Int) < (256 : Int)), (true = true → (0 : Int) ≤ (0 : Int) ∧ (0 : Int) < (256 : Int)), (true = true → (0 : Int) ≤ (0 : Int) ∧ (0 : Int) < (256 : Int)), (true = true → (0 : Int) ≤ (0 : Int) ∧ (0 : Int) < (256 : Int)), (true = true → (0 : Int) ≤ (0 : Int) ∧ (0 : Int) < (256 : Int)), (true = true → (0 : Int) ≤ (0 : Int) ∧ (0 : Int) < (256 : Int)), (true = true → (0 : Int) ≤ (0 : Int) ∧ (0 : Int) < (256 : Int)), (true = true → (0 : Int) ≤ (0 : Int) ∧ (0 : Int) < (256 : Int)), (true = true → (0 : Int) ≤ (0 : Int) ∧ (0 : Int) < (256 : Int)), (true = true → (0 : Int) ≤ (0 : Int) ∧ (0 : Int) < (256 : Int)), (true = true → (0 : Int) ≤ (0 : Int) ∧ (0 : Int) < (256 : Int)), (true = true → (0 : Int) ≤ (0 : Int) ∧ (0 : Int) < (256 : Int)), (true = true → (0 : Int) ≤ (0 : Int) ∧ (0 : Int) < (256 : Int)), (true = true → (0 : Int) ≤ (0 : Int) ∧ (0 : Int) < (256 : Int)), (true = true → (0 : Int) ≤ (0 : Int) ∧ (0 : Int) < (256 : Int)), (true = true → (0 : Int) ≤ (0 : Int) ∧ (0 : Int) < (256 : Int)), (true = true → (0 : Int) ≤ (0 : Int) ∧ (0 : Int) < (256 : Int)), (true = true → (0 : Int) ≤ (0 : Int) ∧ (0 : Int) < (256 : Int)), (true = true → (0 : Int) ≤ (0 : Int) ∧ (0 : Int) < (256 : Int)), (true = true → (0 : Int) ≤ (0 : Int) ∧ (0 : Int) < (256 : Int)), (true = true → (0 : Int) ≤ (0 : Int) ∧ (0 : Int) < (256 : Int)), (true = true → (0 : Int) ≤ (0 : Int) ∧ (0 : Int) < (256 : Int)), (true = true → (0 : Int) ≤ (0 : Int) ∧ (0 : Int) < (256 : Int)), (true = true → (0 : Int) ≤ (0 : Int) ∧ (0 : Int) < (256 : Int)), (true = true → needX sha_Sum_l2_next sha_Sum_l2_goes sha_Sum_l2_ps (32 : Nat) ((0 : Int), UInt8.ofNat (0 : Nat) :: UInt8.ofNat (0 : Nat) :: UInt8.ofNat (0 : Nat) :: UInt8.ofNat (0 : Nat) :: UInt8.ofNat (0 : Nat) :: UInt8.ofNat (0 : Nat) :: UInt8.ofNat (0 : Nat) :: UInt8.ofNat (0 : Nat) :: UInt8.ofNat (0 : Nat) :: UInt8.ofNat (0 : Nat) :: UInt8.ofNat (0 : Nat) :: UInt8.ofNat (0 : Nat) :: UInt8.ofNat (0 : Nat) :: UInt8.ofNat (0 : Nat) :: UInt8.ofNat (0 : Nat) :: UInt8.ofNat (0 : Nat) :: UInt8.ofNat (0 : Nat) :: UInt8.ofNat (0 : Nat) :: UInt8.ofNat (0 : Nat) :: UInt8.ofNat (0 : Nat) :: UInt8.ofNat (0 : Nat) :: UInt8.ofNat (0 : Nat) :: UInt8.ofNat (0 : Nat) :: UInt8.ofNat (0 : Nat) :: (sha_Sum_k4 a0 a1 a2), true, sha_Add_2 (sha_Sum_k1 a0 a1 a2) (sha_Sum_k2 a0 a1 a2) (sha_Sum_k3 a0 a1 a2) (sha_Sum_k0 a0 a1 a2), sha_Add_3 (sha_Sum_k1 a0 a1 a2) (sha_Sum_k2 a0 a1 a2) (sha_Sum_k3 a0 a1 a2) (sha_Sum_k0 a0 a1 a2), sha_Add_k1 (sha_Sum_k1 a0 a1 a2) (sha_Sum_k2 a0 a1 a2) (sha_Sum_k3 a0 a1 a2) (sha_Sum_k0 a0 a1 a2)))]) := by kernel_rfl
theorem sha_Sum_c (a0 : List Int) (a1 : List UInt8) (a2 : Int) (hp : ∀ p ∈ sha_Sum_ps a0 a1 a2, p) : CallOk Tryd.prog 105 [.own 0 0] 1 [(0, some (.rcd 218 [.v (.bool true), .av .u32 8 a0, .av .u8 64 a1, .v (.int .i64 a2)]))] 2 (sha_Sum_r a0 a1 a2) 1 (sha_Sum_o a0 a1 a2) := by
 have n0 : (true = true → (0 : Int) ≤ (128 : Int) ∧ (128 : Int) < (256 : Int)) := by first | rfl | decide +kernel
 have n1 := N0 hp
 have n2 := N0 (N1 hp)
 have n3 := N0 (N1 (N1 hp))
 have n4 := N0 (N1 (N1 (N1 hp)))
 have n5 := N0 (N1 (N1 (N1 (N1 hp))))
 have n6 : (true = true → loopAt Tryd.prog (105 : FuncId) (0 : Nat) = loopAt Tryd.prog (105 : FuncId) (0 : Nat)) := by intros; rfl
 have n7 : (true = true → (0 : Int) ≤ (0 : Int) ∧ (0 : Int) < (256 : Int)) := by first | rfl | decide +kernel
 have n15 := N0 (N1 (N1 (N1 (N1 (N1 hp)))))
 have n16 : (true = true → (0 : Int) ≤ (0 : Int) ∧ (0 : Int) ≤ (8 : Int)) := by first | rfl | decide +kernel
 have n17 : (true = true → (8 : Nat) ≤ (8 : Nat)) := by first | rfl | decide +kernel
 have n18 := N0 (N1 (N1 (N1 (N1 (N1 (N1 hp))))))
 have n19 := N0 (N1 (N1 (N1 (N1 (N1 (N1 (N1 hp)))))))
 have n20 : (true = true → loopAt Tryd.prog (105 : FuncId) (2 : Nat) = loopAt Tryd.prog (105 : FuncId) (2 : Nat)) := by intros; rfl
 have n53 := N0 (N1 (N1 (N1 (N1 (N1 (N1 (N1 (N1 hp))))))))
 exact evF_ok (envP_ok Csf_ok sha_Sum_l2_Lok) (sha_Sum_ev a0 a1 a2) (needs_cons n0 (needs_cons n1 (needs_cons n2 (needs_cons n3 (needs_cons n4 (needs_cons n5 (needs_cons n6 (needs_cons n7 (needs_cons n7 (needs_cons n7 (needs_cons n7 (needs_cons n7 (needs_cons n7 (needs_cons n7 (needs_cons n7 (needs_cons n15 (needs_cons n16 (needs_cons n17 (needs_cons n18 (needs_cons n19 (needs_cons n20 (needs_cons n7 (needs_cons n7 (needs_cons n7 (needs_cons n7 (needs_cons n7 (needs_cons n7 (needs_cons n7 (needs_cons n7 (needs_cons n7 (needs_cons n7 (needs_cons n7 (needs_cons n7 (needs_cons n7 (needs_cons n7 (needs_cons n7 (needs_cons n7 (needs_cons n7 (needs_cons n7 (needs_cons n7 (needs_cons n7 (needs_cons n7 (needs_cons n7 (needs_cons n7 (needs_cons n7 (needs_cons n7 (needs_cons n7 (needs_cons n7 (needs_cons n7 (needs_cons n7 (needs_cons n7 (needs_cons n7 (needs_cons n7 (needs_cons n53 needs_nil))))))))))))))))))))))))))))))))))))))))))))))))))))))
noncomputable def Cse := Csf
theorem Cse_ok : COk Tryd.prog Cse := Csf_ok
end Go.Proofs.YtbhonfgbmkppiaaDoor
namespace Go.Proofs.YtbhonfgbmkppiaaDoor
open Go.RowKit
def r04_message_l2_f_k0 (a0 : Int) (a1 : Int) (_a2 : List UInt8) : Int := IntKind.u8.wrap (a0.fdiv ((2 : Int) ^ min (IntKind.u64.wrap (IntKind.i64.wrap ((8 : Int) * a1))).toNat (64 : Nat)))
end Go.Proofs.YtbhonfgbmkppiaaDoor
namespace Go.Proofs.YtbhonfgbmkppiaaDoor
open Go.RowKit
def byteOf (n i : Int) : UInt8 := UInt8.ofNat (r04_message_l2_f_k0 n i []).toNat
def be8 (n : Int) : List UInt8 := [byteOf n 7, byteOf n 6, byteOf n 5, byteOf n 4, byteOf n 3, byteOf n 2, byteOf n 1, byteOf n 0]
def padN (n : Nat) : Nat := (119 - n % 64) % 64
def msgN (b : List UInt8) : List UInt8 := b ++ [UInt8.ofNat 128] ++ List.replicate (padN b.length) (UInt8.ofNat 0) ++ be8 (8 * (b.length : Int))
end Go.Proofs.YtbhonfgbmkppiaaDoor
namespace Go.Proofs.YtbhonfgbmkppiaaDoor
open Go.RowKit
abbrev r04_Sum_l2_X : Type := Int × (List Int) × (List UInt8)
def r04_Sum_l2_f_k1 (a0 : Int) (_a1 : List Int) (_a2 : List UInt8) : Bool := !!decide (a0 < (32 : Int))
def r04_Sum_l2_f_k0 (a0 : Int) (a1 : List Int) (_a2 : List UInt8) : Int := IntKind.u8.wrap (Int.fdiv (a1.getD (IntKind.i64.wrap (a0.tdiv (4 : Int))).toNat (dflt TC.u32)) ((2 : Int) ^ min (IntKind.u64.wrap (IntKind.i64.wrap ((24 : Int) - IntKind.i64.wrap ((8 : Int) * a0.tmod (4 : Int))))).toNat (32 : Nat)))
def r04_Sum_l2_f_2 (a0 : Int) (a1 : List Int) (a2 : List UInt8) : List UInt8 := a2.set a0.toNat (UInt8.ofNat (r04_Sum_l2_f_k0 a0 a1 a2).toNat)
def r04_Sum_l2_next (x : r04_Sum_l2_X) : r04_Sum_l2_X := (IntKind.i64.wrap (x.1 + (1 : Int)), x.2.1, r04_Sum_l2_f_2 x.1 x.2.1 x.2.2)
def r04_Sum_l2_goes (x : r04_Sum_l2_X) : Cnd := some ((r04_Sum_l2_f_k1 x.1 x.2.1 x.2.2))
def r04_Sum_l2_fuel (x : r04_Sum_l2_X) : Nat := ((32 : Int) - x.1).toNat
def r04_Sum_l2_run (x : r04_Sum_l2_X) : r04_Sum_l2_X := iterX r04_Sum_l2_next r04_Sum_l2_goes (r04_Sum_l2_fuel x) x
end Go.Proofs.YtbhonfgbmkppiaaDoor
namespace Go.Proofs.YtbhonfgbmkppiaaDoor
open Go.RowKit
def iv0 : List Int := [1779033703, 3144134277, 1013904242, 2773480762, 1359893119, 2600822924, 528734635, 1541459225]
def digL (s : List Int) : List UInt8 := (r04_Sum_l2_run (0, s, List.replicate 32 (UInt8.ofNat 0))).2.2
def shaN (b : List UInt8) : List UInt8 := digL (fold64 iv0 (msgN b) ((msgN b).length / 64))
theorem z32 : List.replicate 32 (UInt8.ofNat 0) = [UInt8.ofNat 0, UInt8.ofNat 0, UInt8.ofNat 0, UInt8.ofNat 0, UInt8.ofNat 0, UInt8.ofNat 0, UInt8.ofNat 0, UInt8.ofNat 0, UInt8.ofNat 0, UInt8.ofNat 0, UInt8.ofNat 0, UInt8.ofNat 0, UInt8.ofNat 0, UInt8.ofNat 0, UInt8.ofNat 0, UInt8.ofNat 0, UInt8.ofNat 0, UInt8.ofNat 0, UInt8.ofNat 0, UInt8.ofNat 0, UInt8.ofNat 0, UInt8.ofNat 0, UInt8.ofNat 0, UInt8.ofNat 0, UInt8.ofNat 0, UInt8.ofNat 0, UInt8.ofNat 0, UInt8.ofNat 0, UInt8.ofNat 0, UInt8.ofNat 0, UInt8.ofNat 0, UInt8.ofNat 0] := rfl
def oByte (n i : Int) : UInt8 := UInt8.ofNat (sha_Sum_l0_f_k0 n i []).toNat
theorem oByte_eq (n i j : Int) (h : IntKind.u64.wrap (IntKind.i64.wrap (56 - IntKind.i64.wrap (8 * i))) = IntKind.u64.wrap (IntKind.i64.wrap (8 * j))) : oByte n i = byteOf n j := by
 unfold oByte byteOf sha_Sum_l0_f_k0 r04_message_l2_f_k0
 rw [h]
theorem end_run (n : Int) : (iterX sha_Sum_l0_next sha_Sum_l0_goes 8 (n, 0, List.replicate 8 (UInt8.ofNat 0))).2.2 = be8 n := by
 have st : ∀ (k : Nat) (i j : Int) (l : List UInt8), decide (i < 8) = true → IntKind.i64.wrap (i + 1) = j → iterX sha_Sum_l0_next sha_Sum_l0_goes (k + 1) (n, i, l) = iterX sha_Sum_l0_next sha_Sum_l0_goes k (n, j, l.set i.toNat (oByte n i)) := fun k i j l h1 h2 => by
  subst h2
  show (bif (!!decide (i < 8)) then iterX sha_Sum_l0_next sha_Sum_l0_goes k (sha_Sum_l0_next (n, i, l)) else (n, i, l)) = _
  rw [h1]
  rfl
 rw [st 7 0 1 _ (by decide) (by decide +kernel), st 6 1 2 _ (by decide) (by decide +kernel), st 5 2 3 _ (by decide) (by decide +kernel), st 4 3 4 _ (by decide) (by decide +kernel), st 3 4 5 _ (by decide) (by decide +kernel), st 2 5 6 _ (by decide) (by decide +kernel), st 1 6 7 _ (by decide) (by decide +kernel), st 0 7 8 _ (by decide) (by decide +kernel)]
 show [oByte n 0, oByte n 1, oByte n 2, oByte n 3, oByte n 4, oByte n 5, oByte n 6, oByte n 7] = be8 n
 rw [oByte_eq n 0 7 (by decide +kernel), oByte_eq n 1 6 (by decide +kernel), oByte_eq n 2 5 (by decide +kernel), oByte_eq n 3 4 (by decide +kernel), oByte_eq n 4 3 (by decide +kernel), oByte_eq n 5 2 (by decide +kernel), oByte_eq n 6 1 (by decide +kernel), oByte_eq n 7 0 (by decide +kernel)]
 rfl
theorem end_need (n : Int) (z : List UInt8) : needX sha_Sum_l0_next sha_Sum_l0_goes sha_Sum_l0_ps 8 (n, 0, z) := (loop_inv (next := sha_Sum_l0_next) (goes := sha_Sum_l0_goes) (ps := sha_Sum_l0_ps) (fun x => 0 ≤ x.2.1 ∧ x.2.1 ≤ 8) (fun x => (8 - x.2.1).toNat) (fun x hx => by
 obtain ⟨n, i, z⟩ := x
 have hi : 0 ≤ i ∧ i ≤ 8 := hx
 have g : sha_Sum_l0_f_k1 n i z = true → i < 8 := fun h => by
  have : (!!decide (i < 8)) = true := h
  simpa using this
 refine ⟨needs_cons (fun h => ⟨hi.1, g h⟩) needs_nil, fun hg => ?_⟩
 have := g hg
 have e1 : IntKind.i64.wrap (i + 1) = i + 1 := i64_in ⟨by omega, by omega⟩
 refine ⟨?_, ?_⟩
 ·show 0 ≤ IntKind.i64.wrap (i + 1) ∧ IntKind.i64.wrap (i + 1) ≤ 8
  rw [e1]; omega
 ·show (8 - IntKind.i64.wrap (i + 1)).toNat < (8 - i).toNat
  rw [e1]; omega) 8 (n, 0, z) (show (0 : Int) ≤ 0 ∧ (0 : Int) ≤ 8 from ⟨by omega, by omega⟩) (show ((8 : Int) - 0).toNat ≤ 8 by decide)).1
def chi (x : sha_Sum_l2_X) : r04_Sum_l2_X := (x.1, x.2.2.2.1, x.2.1)
theorem chi_next (x : sha_Sum_l2_X) : chi (sha_Sum_l2_next x) = r04_Sum_l2_next (chi x) := by
 obtain ⟨i, d, t, s, w, n⟩ := x
 show (IntKind.i64.wrap (i + 1), s, sha_Sum_l2_f_1 i d t s w n) = (IntKind.i64.wrap (i + 1), s, r04_Sum_l2_f_2 i s d)
 unfold sha_Sum_l2_f_1 r04_Sum_l2_f_2 sha_Sum_l2_f_k0 r04_Sum_l2_f_k0
 rw [Int.mul_comm (i.tmod 4) 8]
theorem own_need (s : List Int) (z : List UInt8) (t : Bool) (w : List UInt8) (n : Int) : needX sha_Sum_l2_next sha_Sum_l2_goes sha_Sum_l2_ps 32 (0, z, t, s, w, n) := (loop_inv (next := sha_Sum_l2_next) (goes := sha_Sum_l2_goes) (ps := sha_Sum_l2_ps) (fun x => 0 ≤ x.1 ∧ x.1 ≤ 32) (fun x => (32 - x.1).toNat) (fun x hx => by
 obtain ⟨i, z, t, s, w, n⟩ := x
 have hi : 0 ≤ i ∧ i ≤ 32 := hx
 have g : sha_Sum_l2_f_k1 i z t s w n = true → i < 32 := fun h => by
  have : (!!decide (i < 32)) = true := h
  simpa using this
 refine ⟨needs_cons (fun h => ?_) (needs_cons (fun h => ⟨hi.1, g h⟩) needs_nil), fun hg => ?_⟩
 ·have := g h
  show 0 ≤ IntKind.i64.wrap (i.tdiv 4) ∧ IntKind.i64.wrap (i.tdiv 4) < 8
  rw [Int.tdiv_eq_ediv_of_nonneg hi.1, i64_in ⟨by omega, by omega⟩]
  omega
 ·have := g hg
  have e1 : IntKind.i64.wrap (i + 1) = i + 1 := i64_in ⟨by omega, by omega⟩
  refine ⟨?_, ?_⟩
  ·show 0 ≤ IntKind.i64.wrap (i + 1) ∧ IntKind.i64.wrap (i + 1) ≤ 32
   rw [e1]; omega
  ·show (32 - IntKind.i64.wrap (i + 1)).toNat < (32 - i).toNat
   rw [e1]; omega) 32 (0, z, t, s, w, n) (show (0 : Int) ≤ 0 ∧ (0 : Int) ≤ 32 from ⟨by omega, by omega⟩) (show ((32 : Int) - 0).toNat ≤ 32 by decide)).1
theorem own_sum (bs : List UInt8) (s : List Int) (w : List UInt8) (n : Int) (h : StR iv0 bs s w n) (hb : bs.length ≤ 137438953472) : (∀ p ∈ sha_Sum_ps s w n, p) ∧ sha_Sum_0 s w n = shaN bs := by
 have hn := h.hn
 have a1 := add_str iv0 bs s w n [UInt8.ofNat 128] h (by show n + 1 ≤ _; omega)
 have k6 : sha_Sum_k6 s w n = (bs.length : Int) + 1 := by
  have := a1.hn
  rw [List.length_append] at this
  exact this
 have k5 : sha_Sum_k5 s w n = (padN bs.length : Int) := by
  unfold sha_Sum_k5
  rw [k6, show ((bs.length : Int) + 1).tmod 64 = ((bs.length : Int) + 1) % 64 from Int.tmod_eq_emod_of_nonneg (by omega), i64_in ⟨by omega, by omega⟩, Int.tmod_eq_emod_of_nonneg (by omega)]
  unfold padN
  omega
 have hp : padN bs.length < 64 := by unfold padN; omega
 have hrep : (List.replicate (sha_Sum_k5 s w n).toNat (dflt TC.u8)) = List.replicate (padN bs.length) (UInt8.ofNat 0) := by
  rw [k5, Int.toNat_natCast]
  rfl
 have hrl : (List.replicate (sha_Sum_k5 s w n).toNat (dflt TC.u8)).length = padN bs.length := by rw [hrep, List.length_replicate]
 have a2 := add_str iv0 (bs ++ [UInt8.ofNat 128]) _ _ _ (List.replicate (sha_Sum_k5 s w n).toNat (dflt TC.u8)) a1 (by
  show sha_Sum_k6 s w n + _ ≤ _
  rw [k6, hrl]; omega)
 have k3 : sha_Sum_k3 s w n = (bs.length : Int) + 1 + (padN bs.length : Int) := by
  have := a2.hn
  rw [List.length_append, List.length_append, hrl] at this
  have e : sha_Sum_k3 s w n = ((bs.length + [UInt8.ofNat 128].length + padN bs.length : Nat) : Int) := this
  rw [e]
  show ((bs.length + 1 + padN bs.length : Nat) : Int) = _
  omega
 have w8 : IntKind.i64.wrap (8 * n) = 8 * (bs.length : Int) := by rw [hn]; exact i64_in ⟨by omega, by omega⟩
 have k0 : sha_Sum_k0 s w n = be8 (8 * (bs.length : Int)) := by
  unfold sha_Sum_k0
  rw [w8]
  have e : sha_Sum_l0_run (8 * (bs.length : Int), 0, sha_Sum_k4 s w n) = iterX sha_Sum_l0_next sha_Sum_l0_goes 8 (8 * (bs.length : Int), 0, List.replicate 8 (UInt8.ofNat 0)) := rfl
  rw [e, end_run]
  rfl
 have a3 := add_str iv0 _ _ _ _ (sha_Sum_k0 s w n) a2 (by
  show sha_Sum_k3 s w n + _ ≤ _
  rw [k3, k0]
  show _ + ((8 : Nat) : Int) ≤ _
  omega)
 have hmsg : ((bs ++ [UInt8.ofNat 128]) ++ List.replicate (sha_Sum_k5 s w n).toNat (dflt TC.u8)) ++ sha_Sum_k0 s w n = msgN bs := by
  rw [hrep, k0]
  rfl
 rw [hmsg] at a3
 have hs := a3.hs
 refine ⟨needs_cons (fun _ => by omega) (needs_cons (fun _ => by omega) (needs_cons (fun _ => by rw [k5]; omega) (needs_cons (fun _ => by rw [k6]; omega) (needs_cons (fun _ => by rw [k6, hrl]; omega) (needs_cons (fun _ => end_need _ _) (needs_cons (fun _ => by rw [k3]; omega) (needs_cons (fun _ => by rw [k3]; omega) (needs_cons (fun _ => own_need _ _ _ _ _) needs_nil)))))))), ?_⟩
 have e : ∀ (z : List UInt8) (S : List Int) (W : List UInt8) (n' : Int), (sha_Sum_l2_run (0, z, true, S, W, n')).2.1 = (r04_Sum_l2_run (0, S, z)).2.2 := fun z S W n' => by
  have e1 : sha_Sum_l2_run (0, z, true, S, W, n') = iterX sha_Sum_l2_next sha_Sum_l2_goes 32 (0, z, true, S, W, n') := by
   unfold sha_Sum_l2_run
   rw [show sha_Sum_l2_fuel ((0 : Int), z, true, S, W, n') = 32 from rfl]
  have e2 : r04_Sum_l2_run (0, S, z) = iterX r04_Sum_l2_next r04_Sum_l2_goes 32 (0, S, z) := by
   unfold r04_Sum_l2_run
   rw [show r04_Sum_l2_fuel ((0 : Int), S, z) = 32 from rfl]
  rw [e1, e2]
  have hh := iterX_sim (nx := sha_Sum_l2_next) (gx := sha_Sum_l2_goes) (ny := r04_Sum_l2_next) (gy := r04_Sum_l2_goes) chi (fun _ => rfl) chi_next 32 (0, z, true, S, W, n')
  have hc : chi (0, z, true, S, W, n') = (0, S, z) := rfl
  rw [hc] at hh
  generalize iterX sha_Sum_l2_next sha_Sum_l2_goes 32 (0, z, true, S, W, n') = u at hh ⊢
  generalize iterX r04_Sum_l2_next r04_Sum_l2_goes 32 (0, S, z) = v at hh ⊢
  rw [← hh]
  rfl
 unfold sha_Sum_0
 rw [e]
 unfold shaN digL
 rw [← hs, z32]
 show _ = _
 kernel_rfl
end Go.Proofs.YtbhonfgbmkppiaaDoor
namespace Go.Proofs.YtbhonfgbmkppiaaDoor
open Go.RowKit
theorem callOk_seg {P : Program} {f : FuncId} {args : List A} {k m i : Nat} {x : A} {e : TypeId} {cs xs : List A} {p : List (Option (TC × Nat))} {ps : List Prop} (h : CallOk P f args 0 [] k x m [(i, some (.box e cs))]) (hs : segL p cs = some (xs, ps)) (hp : ∀ p ∈ ps, p) : CallOk P f args 0 [] k x m [(i, some (.rcd e xs))] := fun F N R vs hh ha =>
 Calls.mono (P := P) (h F N R vs hh ha) fun e0 R' ⟨y, F', N', e1, e2, e3, e4, e5⟩ => by
  obtain ⟨r1, r2⟩ := e2.less (o' := [(i, some (.rcd e xs))]) fun j ob hi => by
   rw [lookO_cons] at hi
   by_cases hib : j = i
   ·rw [if_pos hib] at hi
    cases hi
    subst hib
    exact ⟨.box e cs, by rw [lookO_cons, if_pos rfl], fun ⟨vs, k1, k2⟩ => ⟨vs, segL_ok k1 hs hp, k2⟩, fun g => Iff.rfl⟩
   ·rw [if_neg hib] at hi
    cases hi
  exact ⟨y, F', N', e1, r1, e3.trans r2, e4, e5⟩
def SumOk (s : List Int) (w : List UInt8) (n : Int) : Prop := ∀ p ∈ sha_Sum_ps s w n, p
def sum_t : List A → Nat → Objs → Option CRes
 | [.own i 0], nx, o => match lookO i o with
  | some (.rcd 218 [.v (.bool true), .av .u32 8 s, .av .u8 64 w, .v (.int .i64 n)]) => some (2, .av .u8 32 (sha_Sum_0 s w n), nx, (i, some (.rcd 218 [.v (.bool true), .av .u32 8 s, .av .u8 64 w, .v (.int .i64 n)])) :: o, [SumOk s w n])
  | _ => none
 | _, _, _ => none
theorem sum_tok : TOk Tryd.prog 105 sum_t := fun args nx o k x nx' o' ps h => by
 unfold sum_t at h
 split at h <;> first | (cases h; done) | skip
 rename_i i
 split at h <;> first | (cases h; done) | skip
 rename_i s w n hl
 cases h
 refine ⟨fun hp => ?_, [_], rfl⟩
 have h3 := sha_Sum_c s w n (N0 hp)
 exact callOk_own h3 (by rfl) (by rfl) (by rfl) (by rfl) (by rfl) hl
noncomputable def Csg := addC 105 sum_t Cse
theorem Csg_ok : COk Tryd.prog Csg := addC_ok sum_tok Cse_ok
end Go.Proofs.YtbhonfgbmkppiaaDoor
namespace Go.Proofs.YtbhonfgbmkppiaaDoor
open Go.RowKit
def sha_New_r  : A := .own 0 0
def sha_New_o  : Objs := [(0, some (.box 218 [.v (.bool (true)), .v (.int .u32 ((1779033703 : Int))), .v (.int .u32 ((3144134277 : Int))), .v (.int .u32 ((1013904242 : Int))), .v (.int .u32 ((2773480762 : Int))), .v (.int .u32 ((1359893119 : Int))), .v (.int .u32 ((2600822924 : Int))), .v (.int .u32 ((528734635 : Int))), .v (.int .u32 ((1541459225 : Int))), .v (.int .u8 ((0 : Int))), .v (.int .u8 ((0 : Int))), .v (.int .u8 ((0 : Int))), .v (.int .u8 ((0 : Int))), .v (.int .u8 ((0 : Int))), .v (.int .u8 ((0 : Int))), .v (.int .u8 ((0 : Int))), .v (.int .u8 ((0 : Int))), .v (.int .u8 ((0 : Int))), .v (.int .u8 ((0 : Int))), .v (.int .u8 ((0 : Int))), .v (.int .u8 ((0 : Int))), .v (.int .u8 ((0 : Int))), .v (.int .u8 ((0 : Int))), .v (.int .u8 ((0 : Int))), .v (.int .u8 ((0 : Int))), .v (.int .u8 ((0 : Int))), .v (.int .u8 ((0 : Int))), .v (.int .u8 ((0 : Int))), .v (.int .u8 ((0 : Int))), .v (.int .u8 ((0 : Int))), .v (.int .u8 ((0 : Int))), .v (.int .u8 ((0 : Int))), .v (.int .u8 ((0 : Int))), .v (.int .u8 ((0 : Int))), .v (.int .u8 ((0 : Int))), .v (.int .u8 ((0 : Int))), .v (.int .u8 ((0 : Int))), .v (.int .u8 ((0 : Int))), .v (.int .u8 ((0 : Int))), .v (.int .u8 ((0 : Int))), .v (.int .u8 ((0 : Int))), .v (.int .u8 ((0 : Int))), .v (.int .u8 ((0 : Int))), .v (.int .u8 ((0 : Int))), .v (.int .u8 ((0 : Int))), .v (.int .u8 ((0 : Int))), .v (.int .u8 ((0 : Int))), .v (.int .u8 ((0 : Int))), .v (.int .u8 ((0 : Int))), .v (.int .u8 ((0 : Int))), .v (.int .u8 ((0 : Int))), .v (.int .u8 ((0 : Int))), .v (.int .u8 ((0 : Int))), .v (.int .u8 ((0 : Int))), .v (.int .u8 ((0 : Int))), .v (.int .u8 ((0 : Int))), .v (.int .u8 ((0 : Int))), .v (.int .u8 ((0 : Int))), .v (.int .u8 ((0 : Int))), .v (.int .u8 ((0 : Int))), .v (.int .u8 ((0 : Int))), .v (.int .u8 ((0 : Int))), .v (.int .u8 ((0 : Int))), .v (.int .u8 ((0 : Int))), .v (.int .u8 ((0 : Int))), .v (.int .u8 ((0 : Int))), .v (.int .u8 ((0 : Int))), .v (.int .u8 ((0 : Int))), .v (.int .u8 ((0 : Int))), .v (.int .u8 ((0 : Int))), .v (.int .u8 ((0 : Int))), .v (.int .u8 ((0 : Int))), .v (.int .u8 ((0 : Int))), .v (.int .i64 ((0 : Int)))]))]
def sha_New_ps  : List Prop := []
theorem sha_New_ev  : evF (envT Csg L0) 9 103 [] 0 [] = some (1, sha_New_r , 1, sha_New_o , sha_New_ps ) := by kernel_rfl
theorem sha_New_c  (hp : ∀ p ∈ sha_New_ps , p) : CallOk Tryd.prog 103 [] 0 [] 1 (sha_New_r ) 1 (sha_New_o ) := evF_ok (envP_ok Csg_ok L0_ok) (sha_New_ev ) hp
def sha_New_r2 : A := .own 0 0
def sha_New_o2 : Objs := [(0, some (.rcd 218 [.v (.bool true), .av .u32 8 iv0, .av .u8 64 (List.replicate 64 0), .v (.int .i64 0)]))]
def sha_New_ps2 : List Prop := []
theorem sha_New_c2 (_hp : ∀ p ∈ sha_New_ps2, p) : CallOk Tryd.prog 103 [] 0 [] 1 sha_New_r2 1 sha_New_o2 :=
 callOk_seg (p := [none, some (.u32, 8), some (.u8, 64), none]) (ps := List.replicate 64 ((0 : Int) ≤ 0 ∧ (0 : Int) < 256)) (sha_New_c needs_nil) (by kernel_rfl) (fun p hp => by rw [List.eq_of_mem_replicate hp]; decide)
def sha_New_t : List A → Nat → Objs → Option CRes := rowK [] 1 sha_New_r2 sha_New_o2 sha_New_ps2
theorem sha_New_tok : TOk Tryd.prog 103 sha_New_t := rowK_ok (ks := []) sha_New_c2
noncomputable def Csn_1 := addC 103 sha_New_t Csg
theorem Csn_1_ok : COk Tryd.prog Csn_1 := addC_ok sha_New_tok Csg_ok
noncomputable def Csn_2 := addC 68 (inl (envT Csn_1 L0) 20 68) Csn_1
theorem Csn_2_ok : COk Tryd.prog Csn_2 := addC_ok (inl_ok (envP_ok Csn_1_ok L0_ok) 20 68) Csn_1_ok
def merkle_place_k2 (a0 : ByteArray) : Int := sha_Add_k1 iv0 (List.replicate (64 : Nat) (0 : U TC.u8)) (0 : Int) a0.data.toList
def merkle_place_k1 (a0 : ByteArray) : List UInt8 := sha_Add_3 iv0 (List.replicate (64 : Nat) (0 : U TC.u8)) (0 : Int) a0.data.toList
def merkle_place_k0 (a0 : ByteArray) : List Int := sha_Add_2 iv0 (List.replicate (64 : Nat) (0 : U TC.u8)) (0 : Int) a0.data.toList
def merkle_place_0 (a0 : ByteArray) : Int := IntKind.i64.wrap (↑(UInt8.toNat ((sha_Sum_0 (merkle_place_k0 a0) (merkle_place_k1 a0) (merkle_place_k2 a0)).getD (0 : Nat) (dflt TC.u8))) : Int)
def merkle_place_r (a0 : ByteArray) : A := .v (.int .i64 (merkle_place_0 a0))
def merkle_place_o (_a0 : ByteArray) : Objs := []
def merkle_place_ps (a0 : ByteArray) : List Prop := [((0 : Int) + (↑a0.data.toList.length : Int) ≤ (4611686018427387904 : Int)), (SumOk (merkle_place_k0 a0) (merkle_place_k1 a0) (merkle_place_k2 a0))]
theorem merkle_place_ev (a0 : ByteArray) : evF (envT Csn_2 L0) 9 32 [valA .str a0] 0 [] = some (1, merkle_place_r a0, 0, merkle_place_o a0, [((0 : Int) ≤ (0 : Int) ∧ (0 : Int) < (↑(1 : Nat) : Int)), ((0 : Nat) < (1 : Nat)), ((0 : Int) ≤ (0 : Int)), ((0 : Int) + (↑a0.data.toList.length : Int) ≤ (4611686018427387904 : Int)), (SumOk (merkle_place_k0 a0) (merkle_place_k1 a0) (merkle_place_k2 a0)), ((0 : Int) ≤ (0 : Int) ∧ (0 : Int) < (32 : Int))]) := by kernel_rfl
theorem merkle_place_c (a0 : ByteArray) (hp : ∀ p ∈ merkle_place_ps a0, p) : CallOk Tryd.prog 32 [valA .str a0] 0 [] 1 (merkle_place_r a0) 0 (merkle_place_o a0) := by
 have n0 : ((0 : Int) ≤ (0 : Int) ∧ (0 : Int) < (↑(1 : Nat) : Int)) := by first | rfl | decide +kernel
 have n1 : ((0 : Nat) < (1 : Nat)) := by first | rfl | decide +kernel
 have n2 : ((0 : Int) ≤ (0 : Int)) := by first | rfl | decide +kernel
 have n3 := N0 hp
 have n4 := N0 (N1 hp)
 have n5 : ((0 : Int) ≤ (0 : Int) ∧ (0 : Int) < (32 : Int)) := by first | rfl | decide +kernel
 exact evF_ok (envP_ok Csn_2_ok L0_ok) (merkle_place_ev a0) (needs_cons n0 (needs_cons n1 (needs_cons n2 (needs_cons n3 (needs_cons n4 (needs_cons n5 needs_nil))))))
end Go.Proofs.YtbhonfgbmkppiaaDoor
namespace Go.Proofs.YtbhonfgbmkppiaaDoor
open Go.RowKit
theorem init_str : StR iv0 [] iv0 (List.replicate 64 0) 0 := ⟨rfl, rfl, by simp, rfl⟩
def firstN (b : List UInt8) : Int := ((shaN b).getD 0 0).toNat
theorem firstN_lt (b : List UInt8) : 0 ≤ firstN b ∧ firstN b < 256 := by
 unfold firstN
 have := ((shaN b).getD 0 0).toNat_lt
 omega
theorem whole_sum (b : List UInt8) (hb : b.length ≤ 137438953472) : SumOk (sha_Add_2 iv0 (List.replicate 64 0) 0 b) (sha_Add_3 iv0 (List.replicate 64 0) 0 b) (sha_Add_k1 iv0 (List.replicate 64 0) 0 b) ∧ sha_Sum_0 (sha_Add_2 iv0 (List.replicate 64 0) 0 b) (sha_Add_3 iv0 (List.replicate 64 0) 0 b) (sha_Add_k1 iv0 (List.replicate 64 0) 0 b) = shaN b := by
 have h := add_str iv0 [] iv0 (List.replicate 64 0) 0 b init_str (by omega)
 rw [List.nil_append] at h
 exact own_sum b _ _ _ h hb
theorem place_eq (a : ByteArray) (hb : a.data.toList.length ≤ 137438953472) : (∀ p ∈ merkle_place_ps a, p) ∧ merkle_place_0 a = firstN a.data.toList := by
 obtain ⟨h1, h2⟩ := whole_sum a.data.toList hb
 refine ⟨needs_cons (by omega) (needs_cons h1 needs_nil), ?_⟩
 unfold merkle_place_0 merkle_place_k0 merkle_place_k1 merkle_place_k2
 rw [show sha_Sum_0 (sha_Add_2 iv0 (List.replicate 64 (0 : U TC.u8)) 0 a.data.toList) (sha_Add_3 iv0 (List.replicate 64 (0 : U TC.u8)) 0 a.data.toList) (sha_Add_k1 iv0 (List.replicate 64 (0 : U TC.u8)) 0 a.data.toList) = shaN a.data.toList from h2]
 have := firstN_lt a.data.toList
 exact i64_in ⟨by show -9223372036854775808 ≤ firstN a.data.toList; omega, by show firstN a.data.toList ≤ _; omega⟩
end Go.Proofs.YtbhonfgbmkppiaaDoor
namespace Go.Proofs.YtbhonfgbmkppiaaDoor
open Go.RowKit
def merkle_place_r2 (a0 : ByteArray) : A := .v (.int .i64 (firstN a0.data.toList))
def merkle_place_o2 (_a0 : ByteArray) : Objs := []
def merkle_place_ps2 (a0 : ByteArray) : List Prop := [a0.data.toList.length ≤ 137438953472]
theorem merkle_place_c2 (a0 : ByteArray) (hp : ∀ p ∈ merkle_place_ps2 a0, p) : CallOk Tryd.prog 32 [valA .str a0] 0 [] 1 (merkle_place_r2 a0) 0 (merkle_place_o2 a0) := by
 have h := place_eq a0 (N0 hp)
 have h1 := merkle_place_c a0 h.1
 unfold merkle_place_r at h1
 rw [h.2] at h1
 exact h1
end Go.Proofs.YtbhonfgbmkppiaaDoor
namespace Go.Proofs.YtbhonfgbmkppiaaDoor
open Go.RowKit
def szN (n : Int) : Nat := if n < 0 ∨ n > 4611686018427387903 then 0 else if n ≥ 1073741824 then 8 else if n ≥ 16384 then 4 else if n ≥ 64 then 2 else 1
def be : Nat → Nat → List UInt8
 | 0, _ => []
 | k + 1, N => UInt8.ofNat (N / 256 ^ k) :: be k N
def tagN (k : Nat) : Nat := if k = 2 then 1 else if k = 4 then 2 else if k = 8 then 3 else 0
def putN (n : Int) : List UInt8 := be (szN n) (n.toNat + tagN (szN n) * (64 * 256 ^ (szN n - 1)))
def val (acc : Nat) (l : List UInt8) : Nat := l.foldl (fun a y => a * 256 + y.toNat) acc
def getN : List UInt8 → Int × Int × Int
 | [] => (0, 0, 10)
 | x :: r => if r.length + 1 < 2 ^ (x.toNat / 64) then (0, 0, 10) else if szN (val (x.toNat % 64) (r.take (2 ^ (x.toNat / 64) - 1))) < 2 ^ (x.toNat / 64) then (0, 0, 11) else ((val (x.toNat % 64) (r.take (2 ^ (x.toNat / 64) - 1)) : Int), ((2 ^ (x.toNat / 64) : Nat) : Int), 0)
theorem getN_cons (x : UInt8) (r : List UInt8) : getN (x :: r) = if r.length + 1 < 2 ^ (x.toNat / 64) then (0, 0, 10) else if szN (val (x.toNat % 64) (r.take (2 ^ (x.toNat / 64) - 1))) < 2 ^ (x.toNat / 64) then (0, 0, 11) else ((val (x.toNat % 64) (r.take (2 ^ (x.toNat / 64) - 1)) : Int), ((2 ^ (x.toNat / 64) : Nat) : Int), 0) := rfl
theorem be_length : ∀ (k N : Nat), (be k N).length = k
 | 0, _ => rfl
 | k + 1, N => by unfold be; rw [List.length_cons, be_length]
theorem val_cons (acc : Nat) (x : UInt8) (r : List UInt8) : val acc (x :: r) = val (acc * 256 + x.toNat) r := rfl
theorem val_acc : ∀ (l : List UInt8) (acc : Nat), val acc l = acc * 256 ^ l.length + val 0 l
 | [], acc => by show acc = acc * 256 ^ 0 + 0; omega
 | x :: r, acc => by
  rw [val_cons, val_cons, val_acc r, val_acc r (0 * 256 + x.toNat), List.length_cons, Nat.pow_succ, Nat.zero_mul, Nat.zero_add, Nat.add_mul, Nat.mul_assoc, Nat.mul_comm 256]
  omega
theorem val_lt : ∀ (l : List UInt8), val 0 l < 256 ^ l.length
 | [] => by show 0 < 256 ^ 0; decide
 | x :: r => by
  rw [val_cons, val_acc, List.length_cons, Nat.pow_succ, Nat.zero_mul, Nat.zero_add]
  have h1 := val_lt r
  have h2 : x.toNat + 1 ≤ 256 := x.toNat_lt
  have := Nat.mul_le_mul_right (256 ^ r.length) h2
  rw [Nat.add_mul, Nat.one_mul] at this
  rw [Nat.mul_comm (256 ^ r.length)]
  omega
theorem be_add : ∀ (k N a : Nat), be k (N + a * 256 ^ k) = be k N
 | 0, _, _ => rfl
 | k + 1, N, a => by
  unfold be
  have h : N + a * 256 ^ (k + 1) = N + a * 256 * 256 ^ k := by rw [Nat.pow_succ, Nat.mul_assoc, Nat.mul_comm (256 ^ k)]
  rw [h, be_add k N (a * 256), Nat.add_mul_div_right _ _ (Nat.pow_pos (by decide))]
  congr 1
  apply UInt8.toNat_inj.1
  rw [UInt8.toNat_ofNat', UInt8.toNat_ofNat']
  omega
theorem be_val : ∀ (l : List UInt8), be l.length (val 0 l) = l
 | [] => rfl
 | x :: r => by
  rw [List.length_cons]
  have e : val 0 (x :: r) = val 0 r + x.toNat * 256 ^ r.length := by
   rw [val_cons, val_acc, Nat.zero_mul, Nat.zero_add, Nat.add_comm]
  unfold be
  rw [e, be_add, be_val r, Nat.add_mul_div_right _ _ (Nat.pow_pos (by decide)), Nat.div_eq_of_lt (val_lt r), Nat.zero_add]
  congr 1
  exact UInt8.ofNat_toNat
theorem val_be : ∀ (k N acc : Nat), val acc (be k N) = acc * 256 ^ k + N % 256 ^ k
 | 0, N, acc => by show acc = acc * 256 ^ 0 + N % 256 ^ 0; omega
 | k + 1, N, acc => by
  unfold be
  have h8 : (UInt8.ofNat (N / 256 ^ k)).toNat = N / 256 ^ k % 256 := by rw [UInt8.toNat_ofNat']
  have hm := Nat.mod_pow_succ (x := N) (b := 256) (k := k)
  rw [val_cons, val_be k, h8, hm, Nat.pow_succ, Nat.add_mul, Nat.mul_assoc, Nat.mul_comm 256 (256 ^ k), Nat.mul_comm (256 ^ k) (N / 256 ^ k % 256)]
  omega
def szs (k : Nat) : Prop := k = 1 ∨ k = 2 ∨ k = 4 ∨ k = 8
theorem sz_ok {n : Int} (h0 : 0 ≤ n) (h1 : n ≤ 4611686018427387903) : szs (szN n) ∧ n.toNat < 64 * 256 ^ (szN n - 1) := by
 unfold szN szs
 rw [if_neg (by omega)]
 split
 ·exact ⟨by decide, by show n.toNat < 64 * 256 ^ 7; omega⟩
 ·split
  ·exact ⟨by decide, by show n.toNat < 64 * 256 ^ 3; omega⟩
  ·split
   ·exact ⟨by decide, by show n.toNat < 64 * 256 ^ 1; omega⟩
   ·exact ⟨by decide, by show n.toNat < 64 * 256 ^ 0; omega⟩
theorem sz_le {n k : Nat} (hk : szs k) (h : n < 64 * 256 ^ (k - 1)) : szN n ≤ k ∧ 1 ≤ szN n ∧ n ≤ 4611686018427387903 := by
 unfold szN
 rcases hk with rfl | rfl | rfl | rfl
 ·have h' : n < 64 := h
  rw [if_neg (by omega), if_neg (by omega), if_neg (by omega), if_neg (by omega)]; omega
 ·have h' : n < 64 * 256 := h
  rw [if_neg (by omega), if_neg (by omega), if_neg (by omega)]
  split <;> omega
 ·have h' : n < 64 * 256 ^ 3 := h
  have h'' : n < 1073741824 := by omega
  rw [if_neg (by omega), if_neg (by omega)]
  split
  ·omega
  ·split <;> omega
 ·have h' : n < 64 * 256 ^ 7 := h
  have h'' : n < 4611686018427387904 := by omega
  rw [if_neg (by omega)]
  split
  ·omega
  ·split
   ·omega
   ·split <;> omega
theorem tag_ok {k : Nat} (hk : szs k) : tagN k ≤ 3 ∧ 2 ^ tagN k = k := by
 rcases hk with rfl | rfl | rfl | rfl <;> decide
theorem tag_of {t : Nat} (h : t ≤ 3) : szs (2 ^ t) ∧ tagN (2 ^ t) = t := by
 match t, h with
 | 0, _ => exact ⟨by unfold szs; decide, rfl⟩
 | 1, _ => exact ⟨by unfold szs; decide, rfl⟩
 | 2, _ => exact ⟨by unfold szs; decide, rfl⟩
 | 3, _ => exact ⟨by unfold szs; decide, rfl⟩
 | n + 4, h => omega
theorem putN_length (n : Int) : (putN n).length = szN n := be_length _ _
theorem get_put {n : Int} (h0 : 0 ≤ n) (h1 : n ≤ 4611686018427387903) (r : List UInt8) : getN (putN n ++ r) = (n, (szN n : Int), 0) := by
 obtain ⟨hk, hn⟩ := sz_ok h0 h1
 unfold putN
 generalize hkk : szN n = k at *
 obtain ⟨m, rfl⟩ : ∃ m, k = m + 1 := ⟨k - 1, by unfold szs at hk; omega⟩
 obtain ⟨t1, t2⟩ := tag_ok hk
 generalize tagN (m + 1) = t at *
 rw [Nat.add_sub_cancel] at hn ⊢
 have hp : 0 < 256 ^ m := Nat.pow_pos (by decide)
 have e1 : (n.toNat + t * (64 * 256 ^ m)) / 256 ^ m = n.toNat / 256 ^ m + t * 64 := by rw [← Nat.mul_assoc, Nat.add_mul_div_right _ _ hp]
 have e2 : n.toNat / 256 ^ m < 64 := by rw [Nat.div_lt_iff_lt_mul hp]; exact hn
 have e3 : (n.toNat + t * (64 * 256 ^ m)) % 256 ^ m = n.toNat % 256 ^ m := by rw [← Nat.mul_assoc, Nat.add_mul_mod_self_right]
 unfold be
 rw [e1]
 have aux : ∀ q : Nat, q < 64 → (UInt8.ofNat (q + t * 64)).toNat = q + t * 64 ∧ (q + t * 64) / 64 = t ∧ (q + t * 64) % 64 = q := fun q hq => by
  rw [UInt8.toNat_ofNat']
  omega
 obtain ⟨hx, ht, hm⟩ := aux _ e2
 show getN (UInt8.ofNat (n.toNat / 256 ^ m + t * 64) :: (be m (n.toNat + t * (64 * 256 ^ m)) ++ r)) = _
 rw [getN_cons, hx, ht, hm, t2, Nat.add_sub_cancel]
 have hl : (be m (n.toNat + t * (64 * 256 ^ m)) ++ r).take m = be m (n.toNat + t * (64 * 256 ^ m)) := by
  rw [List.take_append_of_le_length (by rw [be_length]; exact Nat.le_refl _), List.take_of_length_le (by rw [be_length]; exact Nat.le_refl _)]
 rw [hl, val_be, e3]
 have hv : n.toNat / 256 ^ m * 256 ^ m + n.toNat % 256 ^ m = n.toNat := by rw [Nat.mul_comm]; exact Nat.div_add_mod _ _
 rw [hv, if_neg (by rw [List.length_append, be_length]; omega)]
 have hnn : (n.toNat : Int) = n := Int.toNat_of_nonneg h0
 rw [hnn, hkk, if_neg (by omega)]
theorem put_get {b : List UInt8} {n k : Int} (h : getN b = (n, k, 0)) : 0 ≤ n ∧ n ≤ 4611686018427387903 ∧ k = (szN n : Int) ∧ szN n ≤ b.length ∧ b.take (szN n) = putN n := by
 cases b with
 | nil => cases h
 | cons x r =>
  rw [getN_cons] at h
  split at h
  ·cases h
  ·rename_i hlen
   split at h
   ·cases h
   ·rename_i hsz
    have hxl : x.toNat < 256 := x.toNat_lt
    obtain ⟨k1, k2⟩ := tag_of (t := x.toNat / 64) (by omega)
    generalize hK : 2 ^ (x.toNat / 64) = K at *
    obtain ⟨m, rfl⟩ : ∃ m, K = m + 1 := ⟨K - 1, by unfold szs at k1; omega⟩
    rw [Nat.add_sub_cancel] at *
    have hrl : (r.take m).length = m := by rw [List.length_take]; omega
    have hv := val_acc (r.take m) (x.toNat % 64)
    have hlt := val_lt (r.take m)
    rw [hrl] at hv hlt
    generalize hN : val (x.toNat % 64) (r.take m) = M at *
    have hM : M < 64 * 256 ^ m := by
     have : x.toNat % 64 + 1 ≤ 64 := by omega
     have := Nat.mul_le_mul_right (256 ^ m) this
     rw [Nat.add_mul, Nat.one_mul] at this
     omega
    obtain ⟨s1, s2, s3⟩ := sz_le k1 (by rw [Nat.add_sub_cancel]; exact hM)
    have hs : szN (M : Int) = m + 1 := by omega
    injection h with h1 h
    injection h with h2 h3
    subst h1
    refine ⟨by omega, by omega, by rw [hs, ← h2], by rw [hs, List.length_cons]; omega, ?_⟩
    rw [hs]
    unfold putN
    rw [hs, k2, Nat.add_sub_cancel, Int.toNat_natCast]
    have e : M + x.toNat / 64 * (64 * 256 ^ m) = val 0 (x :: r.take m) := by
     rw [val_cons, Nat.zero_mul, Nat.zero_add, val_acc, hrl, hv, ← Nat.mul_assoc]
     have hx := Nat.div_add_mod x.toNat 64
     have : x.toNat * 256 ^ m = (x.toNat / 64 * 64 + x.toNat % 64) * 256 ^ m := by congr 1; omega
     rw [this, Nat.add_mul]
     omega
    rw [e]
    have hb := be_val (x :: r.take m)
    rw [List.length_cons, hrl] at hb
    rw [hb]
    rfl
theorem be_get : ∀ (k N i : Nat), i < k → (be k N)[i]? = some (UInt8.ofNat (N / 256 ^ (k - 1 - i)))
 | 0, _, _, h => by omega
 | k + 1, N, 0, _ => by unfold be; rfl
 | k + 1, N, i + 1, h => by
  unfold be
  rw [List.getElem?_cons_succ, be_get k N i (by omega)]
  have : k - 1 - i = k + 1 - 1 - (i + 1) := by omega
  rw [this]
theorem be_take {k N i : Nat} (h : i < k) : (be k N).take (i + 1) = (be k N).take i ++ [UInt8.ofNat (N / 256 ^ (k - 1 - i))] := by
 rw [List.take_add_one, be_get k N i h]
 rfl
theorem pow_256 (j : Nat) : (2 : Int) ^ (8 * j) = ((256 ^ j : Nat) : Int) := by
 rw [Int.pow_mul]
 norm_cast
theorem put_byte {n : Int} {k i : Nat} (hn : 0 ≤ n) (hk : k ≤ 8) (hi : i < k) :
  UInt8.ofNat (IntKind.u8.wrap (n.fdiv ((2 : Int) ^ min (IntKind.u64.wrap (IntKind.i64.wrap ((8 : Int) * IntKind.i64.wrap (IntKind.i64.wrap ((k : Int) - (1 : Int)) - (i : Int))))).toNat (64 : Nat)))).toNat = UInt8.ofNat (n.toNat / 256 ^ (k - 1 - i)) := by
 have e1 : IntKind.u64.wrap (IntKind.i64.wrap ((8 : Int) * IntKind.i64.wrap (IntKind.i64.wrap ((k : Int) - (1 : Int)) - (i : Int)))) = ((8 * (k - 1 - i) : Nat) : Int) := by
  rw [i64_in (n := (k : Int) - 1) (by omega), i64_in (n := (k : Int) - 1 - (i : Int)) (by omega), i64_in (by omega), IntWalk.u64_in _ (by omega)]
  omega
 rw [e1, Int.toNat_natCast, Nat.min_eq_left (by omega), pow_256]
 have e2 : n = (n.toNat : Int) := (Int.toNat_of_nonneg hn).symm
 have e3 : n.fdiv ((256 ^ (k - 1 - i) : Nat) : Int) = ((n.toNat / 256 ^ (k - 1 - i) : Nat) : Int) := by
  rw [Int.fdiv_eq_ediv_of_nonneg _ (Int.natCast_nonneg _)]
  conv => lhs; rw [e2]
  exact (Int.natCast_ediv _ _).symm
 rw [e3]
 generalize n.toNat / 256 ^ (k - 1 - i) = q
 have e4 : IntKind.u8.wrap (q : Int) = ((q % 256 : Nat) : Int) := by
  rw [IntKind.wrap_u8]
  omega
 rw [e4, Int.toNat_natCast]
 apply UInt8.toNat_inj.1
 rw [UInt8.toNat_ofNat', UInt8.toNat_ofNat']
 omega
theorem or_tag : ∀ (t : Fin 4) (q : Fin 64), (BitVec.ofInt 8 (q.val : Int) ||| BitVec.ofInt 8 ((64 * t.val : Nat) : Int)).toNat = q.val + t.val * 64 := by decide +kernel
theorem or_byte {q t : Nat} (hq : q < 64) (ht : t < 4) : UInt8.ofNat (IntKind.u8.wrap ((BitVec.ofInt 8 (((UInt8.ofNat q).toNat : Nat) : Int) ||| BitVec.ofInt 8 ((64 * t : Nat) : Int)).toNat : Int)).toNat = UInt8.ofNat (q + t * 64) := by
 have h1 : (UInt8.ofNat q).toNat = q := by rw [UInt8.toNat_ofNat']; omega
 rw [h1, or_tag ⟨t, ht⟩ ⟨q, hq⟩, IntWalk.u8_in _ (by show 0 ≤ ((q + t * 64 : Nat) : Int) ∧ ((q + t * 64 : Nat) : Int) ≤ 255; omega), Int.toNat_natCast]
theorem set_tag {m N t : Nat} (b : List UInt8) (hN : N < 64 * 256 ^ m) (ht : t < 4) (d : UInt8) :
  (b ++ be (m + 1) N).set b.length (UInt8.ofNat (IntKind.u8.wrap ((BitVec.ofInt 8 ((((b ++ be (m + 1) N).getD b.length d).toNat : Nat) : Int) ||| BitVec.ofInt 8 ((64 * t : Nat) : Int)).toNat : Int)).toNat) = b ++ be (m + 1) (N + t * (64 * 256 ^ m)) := by
 have hp : 0 < 256 ^ m := Nat.pow_pos (by decide)
 have e2 : N / 256 ^ m < 64 := by rw [Nat.div_lt_iff_lt_mul hp]; exact hN
 have e0 : be (m + 1) N = UInt8.ofNat (N / 256 ^ m) :: be m N := rfl
 have e1 : be (m + 1) (N + t * (64 * 256 ^ m)) = UInt8.ofNat (N / 256 ^ m + t * 64) :: be m N := by
  show UInt8.ofNat ((N + t * (64 * 256 ^ m)) / 256 ^ m) :: be m (N + t * (64 * 256 ^ m)) = _
  rw [← Nat.mul_assoc, be_add, Nat.add_mul_div_right _ _ hp]
 have hg : (b ++ be (m + 1) N).getD b.length d = UInt8.ofNat (N / 256 ^ m) := by
  rw [e0, List.getD_eq_getElem?_getD, List.getElem?_append_right (Nat.le_refl _), Nat.sub_self]
  rfl
 rw [hg, or_byte e2 ht, e0, e1, List.set_append_right _ _ (Nat.le_refl _), Nat.sub_self]
 rfl
theorem or_next {a : Nat} (ha : a < 64 * 256 ^ 6) {y : UInt8} : IntKind.i64.wrap ((BitVec.ofInt 64 (IntKind.i64.wrap ((a : Int) * 256)) ||| BitVec.ofInt 64 (IntKind.i64.wrap ((y.toNat : Nat) : Int))).toNat : Int) = ((a * 256 + y.toNat : Nat) : Int) := by
 have hy : y.toNat < 256 := y.toNat_lt
 have h6 : 64 * 256 ^ 6 = 18014398509481984 := by decide
 rw [h6] at ha
 rw [i64_in (n := (a : Int) * 256) (by omega), i64_in (n := ((y.toNat : Nat) : Int)) (by omega)]
 have e1 : (a : Int) * 256 = ((a * 256 : Nat) : Int) := by omega
 have e2 : (BitVec.ofInt 64 ((a * 256 : Nat) : Int) ||| BitVec.ofInt 64 ((y.toNat : Nat) : Int)).toNat = a * 256 + y.toNat := by
  rw [BitVec.toNat_or, BitVec.toNat_ofInt, BitVec.toNat_ofInt]
  have m1 : (((a * 256 : Nat) : Int) % ((2 ^ 64 : Nat) : Int)).toNat = 2 ^ 8 * a := by omega
  have m2 : (((y.toNat : Nat) : Int) % ((2 ^ 64 : Nat) : Int)).toNat = y.toNat := by omega
  rw [m1, m2, ← Nat.two_pow_add_eq_or_of_lt hy]
  omega
 rw [e1, e2, i64_in (by omega)]
theorem val_take (a : Nat) (L : List UInt8) (i : Nat) (h : i < L.length) {d : UInt8} : ((val a (L.take i) * 256 + (L.getD i d).toNat : Nat) : Int) = (val a (L.take (i + 1)) : Int) := by
 have e : L.take (i + 1) = L.take i ++ [L.getD i d] := by
  rw [List.take_add_one, List.getD_eq_getElem?_getD, List.getElem?_eq_getElem h]
  rfl
 rw [e]
 unfold val
 rw [List.foldl_append]
 rfl
theorem get_k (x : UInt8) : IntKind.i64.wrap ((1 : Int) * (2 : Int) ^ min ((((x.toNat : Nat) : Int)).fdiv (64 : Int)).toNat (64 : Nat)) = ((2 ^ (x.toNat / 64) : Nat) : Int) := by
 have hx : x.toNat < 256 := x.toNat_lt
 have e : ((((x.toNat : Nat) : Int)).fdiv (64 : Int)).toNat = x.toNat / 64 := by
  rw [Int.fdiv_eq_ediv_of_nonneg _ (by decide)]
  omega
 rw [e, Nat.min_eq_left (by omega)]
 have : x.toNat / 64 ≤ 3 := by omega
 generalize x.toNat / 64 = t at *
 match t, this with
 | 0, _ => rfl
 | 1, _ => rfl
 | 2, _ => rfl
 | 3, _ => rfl
 | n + 4, h => omega
theorem low_bits : ∀ q : Fin 256, (BitVec.ofInt 8 (q.val : Int) &&& BitVec.ofInt 8 63).toNat = q.val % 64 := by decide +kernel
theorem get_low (x : UInt8) : IntKind.i64.wrap (IntKind.u8.wrap ((BitVec.ofInt 8 ((x.toNat : Nat) : Int) &&& BitVec.ofInt 8 63).toNat : Int)) = ((x.toNat % 64 : Nat) : Int) := by
 have hx : x.toNat < 256 := x.toNat_lt
 rw [low_bits ⟨x.toNat, hx⟩, IntWalk.u8_in _ (by show 0 ≤ ((x.toNat % 64 : Nat) : Int) ∧ ((x.toNat % 64 : Nat) : Int) ≤ 255; omega), i64_in (by show -9223372036854775808 ≤ ((x.toNat % 64 : Nat) : Int) ∧ ((x.toNat % 64 : Nat) : Int) ≤ 9223372036854775807; omega)]
end Go.Proofs.YtbhonfgbmkppiaaDoor
namespace Go.Proofs.YtbhonfgbmkppiaaDoor
open Go.RowKit
def num_Size_k2 (a0 : Int) : Bool := !(decide (a0 < (0 : Int)) || decide (a0 > (4611686018427387903 : Int))) && (!decide (a0 ≥ (1073741824 : Int)) && decide (a0 ≥ (16384 : Int)))
def num_Size_k1 (a0 : Int) : Bool := !(decide (a0 < (0 : Int)) || decide (a0 > (4611686018427387903 : Int))) && (!decide (a0 ≥ (1073741824 : Int)) && (!decide (a0 ≥ (16384 : Int)) && decide (a0 ≥ (64 : Int))))
def num_Size_k0 (a0 : Int) : Bool := !(decide (a0 < (0 : Int)) || decide (a0 > (4611686018427387903 : Int))) && (!(!(decide (a0 < (0 : Int)) || decide (a0 > (4611686018427387903 : Int))) && decide (a0 ≥ (1073741824 : Int))) && (!(num_Size_k2 a0) && !(num_Size_k1 a0)))
def num_Size_0 (a0 : Int) : Int := bif !(!(decide (a0 < (0 : Int)) || decide (a0 > (4611686018427387903 : Int))) && decide (a0 ≥ (1073741824 : Int))) && (!(num_Size_k2 a0) && (!(num_Size_k1 a0) && !(num_Size_k0 a0))) then (0 : Int) else IntKind.i64.wrap ((bif (num_Size_k0 a0) then (0 : Int) else IntKind.i64.wrap ((bif (num_Size_k1 a0) then (0 : Int) else IntKind.i64.wrap ((bif (num_Size_k2 a0) then (0 : Int) else (4 : Int)) + (2 : Int))) + (1 : Int))) + (1 : Int))
def num_Size_r (a0 : Int) : A := .v (.int .i64 (num_Size_0 a0))
def num_Size_o (_a0 : Int) : Objs := []
def num_Size_ps (_a0 : Int) : List Prop := []
theorem num_Size_ev (a0 : Int) : evF (envT C0 L0) 9 81 [valA .i64 a0] 0 [] = some (1, num_Size_r a0, 0, num_Size_o a0, num_Size_ps a0) := by kernel_rfl
theorem num_Size_c (a0 : Int) (hp : ∀ p ∈ num_Size_ps a0, p) : CallOk Tryd.prog 81 [valA .i64 a0] 0 [] 1 (num_Size_r a0) 0 (num_Size_o a0) := evF_ok (envP_ok C0_ok L0_ok) (num_Size_ev a0) hp
def num_Size_t : List A → Nat → Objs → Option CRes := rowK [.t .i64] 0 num_Size_r num_Size_o num_Size_ps
theorem num_Size_tok : TOk Tryd.prog 81 num_Size_t := rowK_ok (ks := [.t .i64]) num_Size_c
noncomputable def Ca_1 := addC 81 num_Size_t C0
theorem Ca_1_ok : COk Tryd.prog Ca_1 := addC_ok num_Size_tok C0_ok
abbrev num_Put_l0_X : Type := Int × Int × Int × Int × (List UInt8)
def num_Put_l0_T (x : num_Put_l0_X) : St := ⟨59, 2, [(1, .v (.int .i64 x.1)), (5, .sq 1), (6, .v (.int .i64 x.2.1)), (16, .v (.int .i64 x.2.2.1)), (17, .v (.int .i64 x.2.2.2.1))], [(1, some (.arr 5 1 (.ty .u8 x.2.2.2.2)))]⟩
def num_Put_l0_un : St → Option num_Put_l0_X
 | ⟨59, 2, [(1, .v (.int .i64 z0)), (5, .sq 1), (6, .v (.int .i64 z1)), (16, .v (.int .i64 z2)), (17, .v (.int .i64 z3))], [(1, some (.arr 5 1 (.ty .u8 z4)))]⟩ => some (z0, z1, z2, z3, z4)
 | _ => none
theorem num_Put_l0_unok : ∀ s x, num_Put_l0_un s = some x → s = num_Put_l0_T x := fun s x h => by
 unfold num_Put_l0_un at h
 split at h
 ·cases h; rfl
 ·cases h
def num_Put_l0_S : Shape := ⟨1, 2, [1, 5, 6, 16, 17], [], [(3, 1)], [3], [5], [1]⟩
def num_Put_l0_E : Entry := ⟨[], [(0, 1)], [1, 5, 6, 16, 17], [0]⟩
def num_Put_l0_f_k0 (a0 : Int) (a1 : Int) (_a2 : Int) (a3 : Int) (_a4 : List UInt8) : Int := IntKind.u8.wrap (a0.fdiv ((2 : Int) ^ min (IntKind.u64.wrap (IntKind.i64.wrap ((8 : Int) * IntKind.i64.wrap (IntKind.i64.wrap (a1 - (1 : Int)) - a3)))).toNat (64 : Nat)))
def num_Put_l0_f_4 (a0 : Int) (a1 : Int) (a2 : Int) (a3 : Int) (a4 : List UInt8) : List UInt8 := a4 ++ [UInt8.ofNat (num_Put_l0_f_k0 a0 a1 a2 a3 a4).toNat]
def num_Put_l0_next (x : num_Put_l0_X) : num_Put_l0_X := (x.1, x.2.1, x.2.2.1, IntKind.i64.wrap (x.2.2.2.1 + (1 : Int)), num_Put_l0_f_4 x.1 x.2.1 x.2.2.1 x.2.2.2.1 x.2.2.2.2)
def num_Put_l0_goes (x : num_Put_l0_X) : Cnd := some (!!decide (x.2.2.2.1 < x.2.2.1))
def num_Put_l0_psA (x : num_Put_l0_X) : List Prop := [((!!decide (x.2.2.2.1 < x.2.2.1)) = true → (0 : Int) ≤ IntKind.u64.wrap (IntKind.i64.wrap ((8 : Int) * IntKind.i64.wrap (IntKind.i64.wrap (x.2.1 - (1 : Int)) - x.2.2.2.1)))), ((!!decide (x.2.2.2.1 < x.2.2.1)) = true → boundP (x.2.2.2.2.length + (1 : Nat))), ((!!decide (x.2.2.2.1 < x.2.2.1)) = true → (0 : Int) ≤ (num_Put_l0_f_k0 x.1 x.2.1 x.2.2.1 x.2.2.2.1 x.2.2.2.2) ∧ (num_Put_l0_f_k0 x.1 x.2.1 x.2.2.1 x.2.2.2.1 x.2.2.2.2) < (256 : Int))]
def num_Put_l0_ps (x : num_Put_l0_X) : List Prop := [((!!decide (x.2.2.2.1 < x.2.2.1)) = true → boundP (x.2.2.2.2.length + (1 : Nat)))]
def num_Put_l0_outs (x : num_Put_l0_X) : Outs := [(some 0, some (!decide (x.2.2.2.1 < x.2.2.1)), ⟨59, 2, [(5, .sq 1)], [(1, some (.arr 5 1 (.ty .u8 x.2.2.2.2)))]⟩)]
def num_Put_l0_fuel (x : num_Put_l0_X) : Nat := (x.2.2.1 - x.2.2.2.1).toNat
def num_Put_l0_run (x : num_Put_l0_X) : num_Put_l0_X := iterX num_Put_l0_next num_Put_l0_goes (num_Put_l0_fuel x) x
theorem num_Put_l0_ev (a0 : Int) (a1 : Int) (a2 : Int) (a3 : Int) (a4 : List UInt8) : roundE (envT Ca_1 L0) 9 (loopAt Tryd.prog 45 0) num_Put_l0_S (num_Put_l0_T (a0, a1, a2, a3, a4)) = some (num_Put_l0_psA (a0, a1, a2, a3, a4), num_Put_l0_outs (a0, a1, a2, a3, a4), num_Put_l0_goes (a0, a1, a2, a3, a4), num_Put_l0_T (num_Put_l0_next (a0, a1, a2, a3, a4))) := by kernel_rfl
theorem num_Put_l0_hA (a0 : Int) (a1 : Int) (a2 : Int) (a3 : Int) (a4 : List UInt8) (hp : ∀ p ∈ num_Put_l0_ps (a0, a1, a2, a3, a4), p) : ∀ p ∈ num_Put_l0_psA (a0, a1, a2, a3, a4), p := by
 have n0 : ((!!decide (a3 < a2)) = true → (0 : Int) ≤ IntKind.u64.wrap (IntKind.i64.wrap ((8 : Int) * IntKind.i64.wrap (IntKind.i64.wrap (a1 - (1 : Int)) - a3)))) := by intros; exact wrapU64 _
 have n1 := N0 hp
 have n2 : ((!!decide (a3 < a2)) = true → (0 : Int) ≤ (num_Put_l0_f_k0 a0 a1 a2 a3 a4) ∧ (num_Put_l0_f_k0 a0 a1 a2 a3 a4) < (256 : Int)) := by intros; exact wrapU8 _
 exact (needs_cons n0 (needs_cons n1 (needs_cons n2 needs_nil)))
noncomputable def num_Put_l0_row := rowL (envT Ca_1 L0) (loopAt Tryd.prog 45 0) num_Put_l0_S num_Put_l0_E num_Put_l0_un num_Put_l0_fuel num_Put_l0_next num_Put_l0_goes num_Put_l0_ps num_Put_l0_outs
theorem num_Put_l0_rok : ∀ s b ps outs, num_Put_l0_row s = some (b, ps, outs) → Wf s ⟨ps, outs, none⟩ ∧ LoopOk (envT C0 L0) b s ps outs :=
 rowP_ok (T := num_Put_l0_T) Ca_1_ok L0_ok (u := 9) (by kernel_rfl) (by decide) (fun ⟨a0, a1, a2, a3, a4⟩ => num_Put_l0_ev a0 a1 a2 a3 a4) (fun ⟨a0, a1, a2, a3, a4⟩ => num_Put_l0_hA a0 a1 a2 a3 a4) num_Put_l0_unok (fun _ => okOuts_ok (n := 59) rfl) fun _ _ => rfl
noncomputable def num_Put_l0_L := addLp 0 num_Put_l0_row L0
theorem num_Put_l0_Lok : LpOk num_Put_l0_L := addLp_ok num_Put_l0_rok L0_ok
def num_Put_k7 (_a0 : List UInt8) (a1 : Int) : Bool := num_Size_0 a1 == (8 : Int)
def num_Put_k6 (_a0 : List UInt8) (a1 : Int) : Bool := num_Size_0 a1 == (4 : Int)
def num_Put_k5 (_a0 : List UInt8) (a1 : Int) : Bool := num_Size_0 a1 == (2 : Int)
def num_Put_k4 (a0 : List UInt8) (_a1 : Int) : Int := (↑([] ++ a0).length : Int)
def num_Put_k3 (a0 : List UInt8) (a1 : Int) : List UInt8 := (num_Put_l0_run (a1, num_Size_0 a1, num_Size_0 a1, (0 : Int), [] ++ a0)).snd.snd.snd.snd
def num_Put_k2 (a0 : List UInt8) (a1 : Int) : Int := IntKind.u8.wrap (↑(BitVec.ofInt (8 : Nat) (↑(UInt8.toNat ((num_Put_k3 a0 a1).getD (num_Put_k4 a0 a1).toNat (dflt TC.u8))) : Int) ||| BitVec.ofInt (8 : Nat) (192 : Int)).toNat : Int)
def num_Put_k1 (a0 : List UInt8) (a1 : Int) : Int := IntKind.u8.wrap (↑(BitVec.ofInt (8 : Nat) (↑(UInt8.toNat ((num_Put_k3 a0 a1).getD (num_Put_k4 a0 a1).toNat (dflt TC.u8))) : Int) ||| BitVec.ofInt (8 : Nat) (128 : Int)).toNat : Int)
def num_Put_k0 (a0 : List UInt8) (a1 : Int) : Int := IntKind.u8.wrap (↑(BitVec.ofInt (8 : Nat) (↑(UInt8.toNat ((num_Put_k3 a0 a1).getD (num_Put_k4 a0 a1).toNat (dflt TC.u8))) : Int) ||| BitVec.ofInt (8 : Nat) (64 : Int)).toNat : Int)
def num_Put_0 (a0 : List UInt8) (a1 : Int) : List UInt8 := bif (num_Put_k5 a0 a1) then (num_Put_k3 a0 a1).set (num_Put_k4 a0 a1).toNat (UInt8.ofNat (num_Put_k0 a0 a1).toNat) else bif (num_Put_k6 a0 a1) then (num_Put_k3 a0 a1).set (num_Put_k4 a0 a1).toNat (UInt8.ofNat (num_Put_k1 a0 a1).toNat) else bif (num_Put_k7 a0 a1) then (num_Put_k3 a0 a1).set (num_Put_k4 a0 a1).toNat (UInt8.ofNat (num_Put_k2 a0 a1).toNat) else (num_Put_k3 a0 a1)
def num_Put_r (_a0 : List UInt8) (_a1 : Int) : A := .sq 0
def num_Put_o (a0 : List UInt8) (a1 : Int) : Objs := [(0, some (.arr 5 1 (.ty .u8 (num_Put_0 a0 a1))))]
def num_Put_ps (a0 : List UInt8) (a1 : Int) : List Prop := [(boundP ((0 : Nat) + a0.length)), (needX num_Put_l0_next num_Put_l0_goes num_Put_l0_ps (num_Put_l0_fuel (a1, num_Size_0 a1, num_Size_0 a1, (0 : Int), [] ++ a0)) (a1, num_Size_0 a1, num_Size_0 a1, (0 : Int), [] ++ a0)), ((num_Put_k5 a0 a1) = true → (0 : Int) ≤ (num_Put_k4 a0 a1) ∧ (num_Put_k4 a0 a1) < (↑(num_Put_k3 a0 a1).length : Int)), ((num_Put_k5 a0 a1) = false → (num_Put_k6 a0 a1) = true → (0 : Int) ≤ (num_Put_k4 a0 a1) ∧ (num_Put_k4 a0 a1) < (↑(num_Put_k3 a0 a1).length : Int)), ((num_Put_k5 a0 a1) = false → (num_Put_k6 a0 a1) = false → (num_Put_k7 a0 a1) = true → (0 : Int) ≤ (num_Put_k4 a0 a1) ∧ (num_Put_k4 a0 a1) < (↑(num_Put_k3 a0 a1).length : Int))]
theorem num_Put_ev (a0 : List UInt8) (a1 : Int) : evF (envT Ca_1 num_Put_l0_L) 9 45 [valA .bytes a0, valA .i64 a1] 0 [] = some (1, num_Put_r a0 a1, 1, num_Put_o a0 a1, [(boundP ((0 : Nat) + a0.length)), (loopAt Tryd.prog (45 : FuncId) (0 : Nat) = loopAt Tryd.prog (45 : FuncId) (0 : Nat)), (needX num_Put_l0_next num_Put_l0_goes num_Put_l0_ps (num_Put_l0_fuel (a1, num_Size_0 a1, num_Size_0 a1, (0 : Int), [] ++ a0)) (a1, num_Size_0 a1, num_Size_0 a1, (0 : Int), [] ++ a0)), ((num_Put_k5 a0 a1) = true → (0 : Int) ≤ (num_Put_k4 a0 a1) ∧ (num_Put_k4 a0 a1) < (↑(num_Put_k3 a0 a1).length : Int)), ((num_Put_k5 a0 a1) = true → (num_Put_k4 a0 a1).toNat < (num_Put_k3 a0 a1).length), ((num_Put_k5 a0 a1) = true → (0 : Int) ≤ (num_Put_k4 a0 a1) ∧ (num_Put_k4 a0 a1) < (↑(num_Put_k3 a0 a1).length : Int)), ((num_Put_k5 a0 a1) = true → (num_Put_k4 a0 a1).toNat < (num_Put_k3 a0 a1).length), ((num_Put_k5 a0 a1) = true → (0 : Int) ≤ (num_Put_k0 a0 a1) ∧ (num_Put_k0 a0 a1) < (256 : Int)), ((num_Put_k5 a0 a1) = false → (num_Put_k6 a0 a1) = true → (0 : Int) ≤ (num_Put_k4 a0 a1) ∧ (num_Put_k4 a0 a1) < (↑(num_Put_k3 a0 a1).length : Int)), ((num_Put_k5 a0 a1) = false → (num_Put_k6 a0 a1) = true → (num_Put_k4 a0 a1).toNat < (num_Put_k3 a0 a1).length), ((num_Put_k5 a0 a1) = false → (num_Put_k6 a0 a1) = true → (0 : Int) ≤ (num_Put_k4 a0 a1) ∧ (num_Put_k4 a0 a1) < (↑(num_Put_k3 a0 a1).length : Int)), ((num_Put_k5 a0 a1) = false → (num_Put_k6 a0 a1) = true → (num_Put_k4 a0 a1).toNat < (num_Put_k3 a0 a1).length), ((num_Put_k5 a0 a1) = false → (num_Put_k6 a0 a1) = true → (0 : Int) ≤ (num_Put_k1 a0 a1) ∧ (num_Put_k1 a0 a1) < (256 : Int)), ((num_Put_k5 a0 a1) = false → (num_Put_k6 a0 a1) = false → (num_Put_k7 a0 a1) = true → (0 : Int) ≤ (num_Put_k4 a0 a1) ∧ (num_Put_k4 a0 a1) < (↑(num_Put_k3 a0 a1).length : Int)), ((num_Put_k5 a0 a1) = false → (num_Put_k6 a0 a1) = false → (num_Put_k7 a0 a1) = true → (num_Put_k4 a0 a1).toNat < (num_Put_k3 a0 a1).length), ((num_Put_k5 a0 a1) = false → (num_Put_k6 a0 a1) = false → (num_Put_k7 a0 a1) = true → (0 : Int) ≤ (num_Put_k4 a0 a1) ∧ (num_Put_k4 a0 a1) < (↑(num_Put_k3 a0 a1).length : Int)), ((num_Put_k5 a0 a1) = false → (num_Put_k6 a0 a1) = false → (num_Put_k7 a0 a1) = true → (num_Put_k4 a0 a1).toNat < (num_Put_k3 a0 a1).length), ((num_Put_k5 a0 a1) = false → (num_Put_k6 a0 a1) = false → (num_Put_k7 a0 a1) = true → (0 : Int) ≤ (num_Put_k2 a0 a1) ∧ (num_Put_k2 a0 a1) < (256 : Int))]) := by kernel_rfl
theorem num_Put_c (a0 : List UInt8) (a1 : Int) (hp : ∀ p ∈ num_Put_ps a0 a1, p) : CallOk Tryd.prog 45 [valA .bytes a0, valA .i64 a1] 0 [] 1 (num_Put_r a0 a1) 1 (num_Put_o a0 a1) := by
 have n0 := N0 hp
 have n2 := N0 (N1 hp)
 have n3 : ((num_Put_k5 a0 a1) = true → (0 : Int) ≤ (num_Put_k4 a0 a1) ∧ (num_Put_k4 a0 a1) < (↑(num_Put_k3 a0 a1).length : Int)) := N0 (N1 (N1 hp))
 have n4 : ((num_Put_k5 a0 a1) = true → (num_Put_k4 a0 a1).toNat < (num_Put_k3 a0 a1).length) := by intro h0; have g := n3 h0; omega
 have n7 : ((num_Put_k5 a0 a1) = true → (0 : Int) ≤ (num_Put_k0 a0 a1) ∧ (num_Put_k0 a0 a1) < (256 : Int)) := by intros; exact wrapU8 _
 have n8 : ((num_Put_k5 a0 a1) = false → (num_Put_k6 a0 a1) = true → (0 : Int) ≤ (num_Put_k4 a0 a1) ∧ (num_Put_k4 a0 a1) < (↑(num_Put_k3 a0 a1).length : Int)) := N0 (N1 (N1 (N1 hp)))
 have n9 : ((num_Put_k5 a0 a1) = false → (num_Put_k6 a0 a1) = true → (num_Put_k4 a0 a1).toNat < (num_Put_k3 a0 a1).length) := by intro h0 h1; have g := n8 h0 h1; omega
 have n12 : ((num_Put_k5 a0 a1) = false → (num_Put_k6 a0 a1) = true → (0 : Int) ≤ (num_Put_k1 a0 a1) ∧ (num_Put_k1 a0 a1) < (256 : Int)) := by intros; exact wrapU8 _
 have n13 : ((num_Put_k5 a0 a1) = false → (num_Put_k6 a0 a1) = false → (num_Put_k7 a0 a1) = true → (0 : Int) ≤ (num_Put_k4 a0 a1) ∧ (num_Put_k4 a0 a1) < (↑(num_Put_k3 a0 a1).length : Int)) := N0 (N1 (N1 (N1 (N1 hp))))
 have n14 : ((num_Put_k5 a0 a1) = false → (num_Put_k6 a0 a1) = false → (num_Put_k7 a0 a1) = true → (num_Put_k4 a0 a1).toNat < (num_Put_k3 a0 a1).length) := by intro h0 h1 h2; have g := n13 h0 h1 h2; omega
 have n17 : ((num_Put_k5 a0 a1) = false → (num_Put_k6 a0 a1) = false → (num_Put_k7 a0 a1) = true → (0 : Int) ≤ (num_Put_k2 a0 a1) ∧ (num_Put_k2 a0 a1) < (256 : Int)) := by intros; exact wrapU8 _
 exact evF_ok (envP_ok Ca_1_ok num_Put_l0_Lok) (num_Put_ev a0 a1) (needs_cons n0 (needs_cons rfl (needs_cons n2 (needs_cons n3 (needs_cons n4 (needs_cons n3 (needs_cons n4 (needs_cons n7 (needs_cons n8 (needs_cons n9 (needs_cons n8 (needs_cons n9 (needs_cons n12 (needs_cons n13 (needs_cons n14 (needs_cons n13 (needs_cons n14 (needs_cons n17 needs_nil))))))))))))))))))
def num_Put_r2 (_a0 : List UInt8) (_a1 : Int) : A := .sq 0
def num_Put_o2 (a0 : List UInt8) (a1 : Int) : Objs := [(0, some (.arr 5 1 (.ty .u8 (a0 ++ putN a1))))]
def num_Put_ps2 (a0 : List UInt8) (_a1 : Int) : List Prop := [boundP (a0.length + 8)]
theorem size_eq (n : Int) : num_Size_0 n = (szN n : Int) := by
 unfold num_Size_0 num_Size_k0 num_Size_k1 num_Size_k2 szN
 by_cases h0 : n < 0 ∨ n > 4611686018427387903
 ·have e : (decide (n < 0) || decide (n > 4611686018427387903)) = true := by simpa using h0
  rw [e, if_pos h0]; rfl
 ·have e : (decide (n < 0) || decide (n > 4611686018427387903)) = false := by
   rw [Bool.eq_false_iff]
   intro hh
   exact h0 (by simpa using hh)
  rw [e, if_neg h0]
  by_cases h1 : n ≥ 1073741824
  ·rw [if_pos h1, decide_eq_true h1]; rfl
  ·rw [if_neg h1, decide_eq_false h1]
   by_cases h2 : n ≥ 16384
   ·rw [if_pos h2, decide_eq_true h2]; rfl
   ·rw [if_neg h2, decide_eq_false h2]
    by_cases h3 : n ≥ 64
    ·rw [if_pos h3, decide_eq_true h3]; rfl
    ·rw [if_neg h3, decide_eq_false h3]; rfl
theorem sz_cases (n : Int) : szN n = 0 ∨ (0 ≤ n ∧ n ≤ 4611686018427387903 ∧ szs (szN n)) := by
 by_cases h : n < 0 ∨ n > 4611686018427387903
 ·left; unfold szN; rw [if_pos h]
 ·right; exact ⟨by omega, by omega, (sz_ok (by omega) (by omega)).1⟩
theorem put_loop (b : List UInt8) (n : Int) (hb : boundP (b.length + 8)) :
  needX num_Put_l0_next num_Put_l0_goes num_Put_l0_ps (num_Put_l0_fuel (n, num_Size_0 n, num_Size_0 n, 0, [] ++ b)) (n, num_Size_0 n, num_Size_0 n, 0, [] ++ b) ∧
  (num_Put_l0_run (n, num_Size_0 n, num_Size_0 n, 0, [] ++ b)).2.2.2.2 = b ++ be (szN n) n.toNat := by
 have hk8 : szN n ≤ 8 := by
  rcases sz_cases n with h | ⟨_, _, h⟩
  ·omega
  ·unfold szs at h; omega
 rw [size_eq]
 obtain ⟨h1, ⟨i, hi, h2⟩, h3⟩ := loop_inv (next := num_Put_l0_next) (goes := num_Put_l0_goes) (ps := num_Put_l0_ps)
  (fun x => ∃ i : Nat, i ≤ szN n ∧ x = (n, (szN n : Int), (szN n : Int), (i : Int), b ++ (be (szN n) n.toNat).take i)) num_Put_l0_fuel (by
   rintro x ⟨i, hi, rfl⟩
   refine ⟨needs_cons (fun hp => ?_) needs_nil, fun hg => ?_⟩
   ·have h' : (!!decide ((i : Int) < (szN n : Int))) = true := hp
    have hlt : i < szN n := by simpa using h'
    show boundP ((b ++ (be (szN n) n.toNat).take i).length + 1)
    unfold boundP at *
    rw [List.length_append, List.length_take, be_length]
    omega
   ·have h' : (!!decide ((i : Int) < (szN n : Int))) = true := hg
    have hlt : i < szN n := by simpa using h'
    have hw : IntKind.i64.wrap ((i : Int) + 1) = ((i + 1 : Nat) : Int) := by rw [i64_in (by omega)]; rfl
    have hn0 : 0 ≤ n := by rcases sz_cases n with h | ⟨h, _⟩ <;> omega
    refine ⟨⟨i + 1, hlt, ?_⟩, ?_⟩
    ·show (n, (szN n : Int), (szN n : Int), IntKind.i64.wrap ((i : Int) + 1), (b ++ (be (szN n) n.toNat).take i) ++ [UInt8.ofNat (IntKind.u8.wrap (n.fdiv ((2 : Int) ^ min (IntKind.u64.wrap (IntKind.i64.wrap ((8 : Int) * IntKind.i64.wrap (IntKind.i64.wrap ((szN n : Int) - (1 : Int)) - (i : Int))))).toNat (64 : Nat)))).toNat]) = _
     rw [hw, put_byte hn0 hk8 hlt, List.append_assoc, ← be_take hlt]
    ·show ((szN n : Int) - IntKind.i64.wrap ((i : Int) + 1)).toNat < ((szN n : Int) - (i : Int)).toNat
     rw [hw]
     omega) _ (n, (szN n : Int), (szN n : Int), 0, [] ++ b) ⟨0, Nat.zero_le _, by simp⟩ (Nat.le_refl _)
 refine ⟨h1, ?_⟩
 have h4 : num_Put_l0_run (n, (szN n : Int), (szN n : Int), 0, [] ++ b) = _ := h2
 rw [h2] at h3
 have h3' : (!!decide ((i : Int) < (szN n : Int))) = false := h3
 have hn : ¬ ((i : Int) < (szN n : Int)) := by simpa using h3'
 obtain rfl : i = szN n := by omega
 rw [h4, List.take_of_length_le (by rw [be_length]; exact Nat.le_refl _)]
theorem num_Put_eq (b : List UInt8) (n : Int) (hb : boundP (b.length + 8)) : (∀ p ∈ num_Put_ps b n, p) ∧ num_Put_0 b n = b ++ putN n := by
 obtain ⟨h1, h2⟩ := put_loop b n hb
 have h3 : num_Put_k3 b n = b ++ be (szN n) n.toNat := h2
 have h4 : (num_Put_k4 b n).toNat = b.length := rfl
 have hS := size_eq n
 have hlen : (b ++ be (szN n) n.toNat).length = b.length + szN n := by rw [List.length_append, be_length]
 have hpos : szN n ≠ 0 → (0 : Int) ≤ num_Put_k4 b n ∧ num_Put_k4 b n < ((num_Put_k3 b n).length : Int) := fun h0 => by
  rw [h3, hlen]
  show (0 : Int) ≤ (b.length : Int) ∧ (b.length : Int) < ((b.length + szN n : Nat) : Int)
  omega
 have sz2 : ∀ c : Int, c ≠ 0 → (num_Size_0 n == c) = true → szN n ≠ 0 := fun c hc h h0 => by
  rw [hS, h0] at h
  have h' : (0 : Int) = c := by simpa using h
  exact hc h'.symm
 refine ⟨needs_cons (by unfold boundP at *; omega) (needs_cons h1 (needs_cons (fun h => hpos (sz2 2 (by decide) h)) (needs_cons (fun _ h => hpos (sz2 4 (by decide) h)) (needs_cons (fun _ _ h => hpos (sz2 8 (by decide) h)) needs_nil)))), ?_⟩
 unfold num_Put_0
 rw [h3, h4]
 have k7 : num_Put_k5 b n = ((szN n : Int) == 2) := by show (num_Size_0 n == 2) = _; rw [hS]
 have k6 : num_Put_k6 b n = ((szN n : Int) == 4) := by show (num_Size_0 n == 4) = _; rw [hS]
 have k5 : num_Put_k7 b n = ((szN n : Int) == 8) := by show (num_Size_0 n == 8) = _; rw [hS]
 have b1 : num_Put_k0 b n = IntKind.u8.wrap ((BitVec.ofInt 8 ((((b ++ be (szN n) n.toNat).getD b.length (dflt TC.u8)).toNat : Nat) : Int) ||| BitVec.ofInt 8 ((64 * 1 : Nat) : Int)).toNat : Int) := by rw [← h3, ← h4]; rfl
 have b0 : num_Put_k1 b n = IntKind.u8.wrap ((BitVec.ofInt 8 ((((b ++ be (szN n) n.toNat).getD b.length (dflt TC.u8)).toNat : Nat) : Int) ||| BitVec.ofInt 8 ((64 * 2 : Nat) : Int)).toNat : Int) := by rw [← h3, ← h4]; rfl
 have b2 : num_Put_k2 b n = IntKind.u8.wrap ((BitVec.ofInt 8 ((((b ++ be (szN n) n.toNat).getD b.length (dflt TC.u8)).toNat : Nat) : Int) ||| BitVec.ofInt 8 ((64 * 3 : Nat) : Int)).toNat : Int) := by rw [← h3, ← h4]; rfl
 rw [k7, k6, k5, b1, b0, b2]
 unfold putN
 rcases sz_cases n with hz | ⟨g1, g2, g3⟩
 ·rw [hz]; rfl
 ·have hN := (sz_ok g1 g2).2
  generalize hk : szN n = k at *
  rcases g3 with rfl | rfl | rfl | rfl
  ·show b ++ be 1 n.toNat = b ++ be 1 (n.toNat + 0 * (64 * 256 ^ 0))
   rw [Nat.zero_mul, Nat.add_zero]
  ·exact set_tag (m := 1) (t := 1) b hN (by decide) _
  ·exact set_tag (m := 3) (t := 2) b hN (by decide) _
  ·exact set_tag (m := 7) (t := 3) b hN (by decide) _
theorem num_Put_c2 (a0 : List UInt8) (a1 : Int) (hp : ∀ p ∈ num_Put_ps2 a0 a1, p) : CallOk Tryd.prog 45 [valA .bytes a0, valA .i64 a1] 0 [] 1 (num_Put_r2 a0 a1) 1 (num_Put_o2 a0 a1) := by
 obtain ⟨h1, h2⟩ := num_Put_eq a0 a1 (hp _ (List.mem_cons_self ..))
 have h := num_Put_c a0 a1 h1
 have ho : num_Put_o a0 a1 = num_Put_o2 a0 a1 := by unfold num_Put_o num_Put_o2; rw [h2]
 rw [ho] at h
 exact h
def num_Put_t : List A → Nat → Objs → Option CRes := rowK [.t .bytes, .t .i64] 1 num_Put_r2 num_Put_o2 num_Put_ps2
theorem num_Put_tok : TOk Tryd.prog 45 num_Put_t := rowK_ok (ks := [.t .bytes, .t .i64]) num_Put_c2
noncomputable def Ca_2 := addC 45 num_Put_t Ca_1
theorem Ca_2_ok : COk Tryd.prog Ca_2 := addC_ok num_Put_tok Ca_1_ok
abbrev num_Get_l0_X : Type := Int × (List UInt8) × Int × Int
def num_Get_l0_T (x : num_Get_l0_X) : St := ⟨46, 0, [(6, .v (.int .i64 x.1)), (28, .sl .u8 x.2.1), (29, .v (.int .i64 x.2.2.1)), (30, .v (.int .i64 x.2.2.2))], []⟩
def num_Get_l0_un : St → Option num_Get_l0_X
 | ⟨46, 0, [(6, .v (.int .i64 z0)), (28, .sl .u8 z1), (29, .v (.int .i64 z2)), (30, .v (.int .i64 z3))], []⟩ => some (z0, z1, z2, z3)
 | _ => none
theorem num_Get_l0_unok : ∀ s x, num_Get_l0_un s = some x → s = num_Get_l0_T x := fun s x h => by
 unfold num_Get_l0_un at h
 split at h
 ·cases h; rfl
 ·cases h
def num_Get_l0_S : Shape := ⟨0, 0, [6, 28, 29, 30], [], [], [], [6], []⟩
def num_Get_l0_E : Entry := ⟨[], [], [6, 28, 29, 30], []⟩
def num_Get_l0_f_0 (a0 : Int) (a1 : List UInt8) (_a2 : Int) (a3 : Int) : Int := IntKind.i64.wrap (↑(BitVec.ofInt (64 : Nat) (IntKind.i64.wrap (a0 * (256 : Int))) ||| BitVec.ofInt (64 : Nat) (IntKind.i64.wrap (↑(UInt8.toNat (a1.getD a3.toNat (dflt TC.u8))) : Int))).toNat : Int)
def num_Get_l0_next (x : num_Get_l0_X) : num_Get_l0_X := (num_Get_l0_f_0 x.1 x.2.1 x.2.2.1 x.2.2.2, x.2.1, x.2.2.1, IntKind.i64.wrap (x.2.2.2 + (1 : Int)))
def num_Get_l0_goes (x : num_Get_l0_X) : Cnd := some (!!decide (x.2.2.2 < x.2.2.1))
def num_Get_l0_psA (x : num_Get_l0_X) : List Prop := [((!!decide (x.2.2.2 < x.2.2.1)) = true → (0 : Int) ≤ x.2.2.2 ∧ x.2.2.2 < (↑x.2.1.length : Int))]
abbrev num_Get_l0_ps : num_Get_l0_X → List Prop := num_Get_l0_psA
def num_Get_l0_outs (x : num_Get_l0_X) : Outs := [(some 0, some (!decide (x.2.2.2 < x.2.2.1)), ⟨46, 0, [(6, .v (.int .i64 x.1))], []⟩)]
def num_Get_l0_fuel (x : num_Get_l0_X) : Nat := (x.2.2.1 - x.2.2.2).toNat
def num_Get_l0_run (x : num_Get_l0_X) : num_Get_l0_X := iterX num_Get_l0_next num_Get_l0_goes (num_Get_l0_fuel x) x
theorem num_Get_l0_ev (a0 : Int) (a1 : List UInt8) (a2 : Int) (a3 : Int) : roundE (envT Ca_2 L0) 9 (loopAt Tryd.prog 88 0) num_Get_l0_S (num_Get_l0_T (a0, a1, a2, a3)) = some (num_Get_l0_psA (a0, a1, a2, a3), num_Get_l0_outs (a0, a1, a2, a3), num_Get_l0_goes (a0, a1, a2, a3), num_Get_l0_T (num_Get_l0_next (a0, a1, a2, a3))) := by kernel_rfl
theorem num_Get_l0_hA (a0 : Int) (a1 : List UInt8) (a2 : Int) (a3 : Int) (hp : ∀ p ∈ num_Get_l0_ps (a0, a1, a2, a3), p) : ∀ p ∈ num_Get_l0_psA (a0, a1, a2, a3), p := hp
noncomputable def num_Get_l0_row := rowL (envT Ca_2 L0) (loopAt Tryd.prog 88 0) num_Get_l0_S num_Get_l0_E num_Get_l0_un num_Get_l0_fuel num_Get_l0_next num_Get_l0_goes num_Get_l0_ps num_Get_l0_outs
theorem num_Get_l0_rok : ∀ s b ps outs, num_Get_l0_row s = some (b, ps, outs) → Wf s ⟨ps, outs, none⟩ ∧ LoopOk (envT C0 L0) b s ps outs :=
 rowP_ok (T := num_Get_l0_T) Ca_2_ok L0_ok (u := 9) (by kernel_rfl) (by decide) (fun ⟨a0, a1, a2, a3⟩ => num_Get_l0_ev a0 a1 a2 a3) (fun ⟨a0, a1, a2, a3⟩ => num_Get_l0_hA a0 a1 a2 a3) num_Get_l0_unok (fun _ => okOuts_ok (n := 46) rfl) fun _ _ => rfl
noncomputable def num_Get_l0_L := addLp 0 num_Get_l0_row L0
theorem num_Get_l0_Lok : LpOk num_Get_l0_L := addLp_ok num_Get_l0_rok L0_ok
def num_Get_k5 (a0 : List UInt8) : Int := (↑(UInt8.toNat (a0.getD (0 : Nat) (dflt TC.u8))) : Int)
def num_Get_k4 (a0 : List UInt8) : Bool := (↑a0.length : Int) == (0 : Int)
def num_Get_k3 (a0 : List UInt8) : Int := IntKind.i64.wrap ((1 : Int) * (2 : Int) ^ min ((num_Get_k5 a0).fdiv (64 : Int)).toNat (64 : Nat))
def num_Get_k2 (a0 : List UInt8) : List UInt8 := List.take ((num_Get_k3 a0).toNat - (1 : Nat)) (List.drop (1 : Nat) a0)
def num_Get_k1 (a0 : List UInt8) : Bool := decide ((↑a0.length : Int) < (num_Get_k3 a0))
def num_Get_k0 (a0 : List UInt8) : Bool := decide (num_Size_0 (num_Get_l0_run (IntKind.i64.wrap (IntKind.u8.wrap (↑(BitVec.ofInt (8 : Nat) (num_Get_k5 a0) &&& BitVec.ofInt (8 : Nat) (63 : Int)).toNat : Int)), (num_Get_k2 a0), (↑(num_Get_k2 a0).length : Int), (0 : Int))).fst < (num_Get_k3 a0))
def num_Get_0 (a0 : List UInt8) : Int := bif (num_Get_k4 a0) then (0 : Int) else bif (num_Get_k1 a0) then (0 : Int) else bif (num_Get_k0 a0) then (0 : Int) else (num_Get_l0_run (IntKind.i64.wrap (IntKind.u8.wrap (↑(BitVec.ofInt (8 : Nat) (num_Get_k5 a0) &&& BitVec.ofInt (8 : Nat) (63 : Int)).toNat : Int)), (num_Get_k2 a0), (↑(num_Get_k2 a0).length : Int), (0 : Int))).fst
def num_Get_1 (a0 : List UInt8) : Int := bif (num_Get_k4 a0) then (0 : Int) else bif (num_Get_k1 a0) then (0 : Int) else bif (num_Get_k0 a0) then (0 : Int) else (num_Get_k3 a0)
def num_Get_2 (a0 : List UInt8) : Int := bif (num_Get_k4 a0) then (10 : Int) else bif (num_Get_k1 a0) then (10 : Int) else bif (num_Get_k0 a0) then (11 : Int) else (0 : Int)
def num_Get_r (a0 : List UInt8) : A := .v (.tuple ⟨[.int .i64 (num_Get_0 a0), .int .i64 (num_Get_1 a0), .int .i64 (num_Get_2 a0)]⟩)
def num_Get_o (_a0 : List UInt8) : Objs := []
def num_Get_ps (a0 : List UInt8) : List Prop := [((!(num_Get_k4 a0)) = true → (0 : Int) ≤ (0 : Int) ∧ (0 : Int) < (↑a0.length : Int)), ((!(num_Get_k4 a0)) = true → (0 : Int) ≤ (num_Get_k5 a0).fdiv (64 : Int)), ((!(num_Get_k4 a0)) = true → (!(num_Get_k1 a0)) = true → (0 : Int) ≤ (0 : Int) ∧ (0 : Int) < (↑a0.length : Int)), ((!(num_Get_k4 a0)) = true → (!(num_Get_k1 a0)) = true → (0 : Int) ≤ (1 : Int) ∧ (1 : Int) ≤ (num_Get_k3 a0) ∧ (num_Get_k3 a0) ≤ (↑a0.length : Int)), ((!(num_Get_k4 a0)) = true → (!(num_Get_k1 a0)) = true → needX num_Get_l0_next num_Get_l0_goes num_Get_l0_ps (num_Get_l0_fuel (IntKind.i64.wrap (IntKind.u8.wrap (↑(BitVec.ofInt (8 : Nat) (num_Get_k5 a0) &&& BitVec.ofInt (8 : Nat) (63 : Int)).toNat : Int)), (num_Get_k2 a0), (↑(num_Get_k2 a0).length : Int), (0 : Int))) (IntKind.i64.wrap (IntKind.u8.wrap (↑(BitVec.ofInt (8 : Nat) (num_Get_k5 a0) &&& BitVec.ofInt (8 : Nat) (63 : Int)).toNat : Int)), (num_Get_k2 a0), (↑(num_Get_k2 a0).length : Int), (0 : Int)))]
theorem num_Get_ev (a0 : List UInt8) : evF (envT Ca_2 num_Get_l0_L) 9 88 [valA .bytes a0] 0 [] = some (1, num_Get_r a0, 0, num_Get_o a0, [((!(num_Get_k4 a0)) = true → (0 : Int) ≤ (0 : Int) ∧ (0 : Int) < (↑a0.length : Int)), ((!(num_Get_k4 a0)) = true → (0 : Int) ≤ (num_Get_k5 a0).fdiv (64 : Int)), ((!(num_Get_k4 a0)) = true → (!(num_Get_k1 a0)) = true → (0 : Int) ≤ (0 : Int) ∧ (0 : Int) < (↑a0.length : Int)), ((!(num_Get_k4 a0)) = true → (!(num_Get_k1 a0)) = true → (0 : Int) ≤ (1 : Int) ∧ (1 : Int) ≤ (num_Get_k3 a0) ∧ (num_Get_k3 a0) ≤ (↑a0.length : Int)), ((!(num_Get_k4 a0)) = true → (!(num_Get_k1 a0)) = true → loopAt Tryd.prog (88 : FuncId) (0 : Nat) = loopAt Tryd.prog (88 : FuncId) (0 : Nat)), ((!(num_Get_k4 a0)) = true → (!(num_Get_k1 a0)) = true → needX num_Get_l0_next num_Get_l0_goes num_Get_l0_ps (num_Get_l0_fuel (IntKind.i64.wrap (IntKind.u8.wrap (↑(BitVec.ofInt (8 : Nat) (num_Get_k5 a0) &&& BitVec.ofInt (8 : Nat) (63 : Int)).toNat : Int)), (num_Get_k2 a0), (↑(num_Get_k2 a0).length : Int), (0 : Int))) (IntKind.i64.wrap (IntKind.u8.wrap (↑(BitVec.ofInt (8 : Nat) (num_Get_k5 a0) &&& BitVec.ofInt (8 : Nat) (63 : Int)).toNat : Int)), (num_Get_k2 a0), (↑(num_Get_k2 a0).length : Int), (0 : Int)))]) := by kernel_rfl
theorem num_Get_c (a0 : List UInt8) (hp : ∀ p ∈ num_Get_ps a0, p) : CallOk Tryd.prog 88 [valA .bytes a0] 0 [] 1 (num_Get_r a0) 0 (num_Get_o a0) := by
 have n0 := N0 hp
 have n1 := N0 (N1 hp)
 have n2 := N0 (N1 (N1 hp))
 have n3 := N0 (N1 (N1 (N1 hp)))
 have n4 : ((!(num_Get_k4 a0)) = true → (!(num_Get_k1 a0)) = true → loopAt Tryd.prog (88 : FuncId) (0 : Nat) = loopAt Tryd.prog (88 : FuncId) (0 : Nat)) := by intros; rfl
 have n5 := N0 (N1 (N1 (N1 (N1 hp))))
 exact evF_ok (envP_ok Ca_2_ok num_Get_l0_Lok) (num_Get_ev a0) (needs_cons n0 (needs_cons n1 (needs_cons n2 (needs_cons n3 (needs_cons n4 (needs_cons n5 needs_nil))))))
def num_Get_r2 (a0 : List UInt8) : A := .v (.tuple ⟨[.int .i64 (getN a0).1, .int .i64 (getN a0).2.1, .int .i64 (getN a0).2.2]⟩)
def num_Get_o2 (_a0 : List UInt8) : Objs := []
def num_Get_ps2 (_a0 : List UInt8) : List Prop := []
theorem get_loop (L : List UInt8) (h7 : L.length ≤ 7) (a : Nat) (ha : a < 64) :
  needX num_Get_l0_next num_Get_l0_goes num_Get_l0_ps (num_Get_l0_fuel ((a : Int), L, (L.length : Int), 0)) ((a : Int), L, (L.length : Int), 0) ∧
  (num_Get_l0_run ((a : Int), L, (L.length : Int), 0)).1 = (val a L : Int) := by
 obtain ⟨h1, ⟨i, hi, h2⟩, h3⟩ := loop_inv (next := num_Get_l0_next) (goes := num_Get_l0_goes) (ps := num_Get_l0_ps)
  (fun x => ∃ i : Nat, i ≤ L.length ∧ x = ((val a (L.take i) : Int), L, (L.length : Int), (i : Int))) num_Get_l0_fuel (by
   rintro x ⟨i, hi, rfl⟩
   refine ⟨needs_cons (fun hp => ?_) needs_nil, fun hg => ?_⟩
   ·have h' : (!!decide ((i : Int) < (L.length : Int))) = true := hp
    have hlt : (i : Int) < (L.length : Int) := by simpa using h'
    show (0 : Int) ≤ (i : Int) ∧ (i : Int) < (L.length : Int)
    exact ⟨by omega, hlt⟩
   ·have h' : (!!decide ((i : Int) < (L.length : Int))) = true := hg
    have hlt : i < L.length := by simpa using h'
    have hw : IntKind.i64.wrap ((i : Int) + 1) = ((i + 1 : Nat) : Int) := by rw [i64_in (by omega)]; rfl
    have hb : val a (L.take i) < 64 * 256 ^ 6 := by
     have hv := val_acc (L.take i) a
     have hl := val_lt (L.take i)
     have e : (L.take i).length = i := by rw [List.length_take]; omega
     rw [e] at hv hl
     have hm : 256 ^ i ≤ 256 ^ 6 := Nat.pow_le_pow_right (by decide) (by omega)
     have hq := Nat.mul_le_mul_right (256 ^ i) (show a + 1 ≤ 64 by omega)
     rw [Nat.add_mul, Nat.one_mul] at hq
     have hq2 := Nat.mul_le_mul_left 64 hm
     omega
    refine ⟨⟨i + 1, hlt, ?_⟩, ?_⟩
    ·show (IntKind.i64.wrap ((BitVec.ofInt 64 (IntKind.i64.wrap ((val a (L.take i) : Int) * 256)) ||| BitVec.ofInt 64 (IntKind.i64.wrap (((L.getD (i : Int).toNat (dflt TC.u8)).toNat : Nat) : Int))).toNat : Int), L, (L.length : Int), IntKind.i64.wrap ((i : Int) + 1)) = _
     rw [hw, or_next hb, Int.toNat_natCast, val_take _ _ _ hlt]
    ·show ((L.length : Int) - IntKind.i64.wrap ((i : Int) + 1)).toNat < ((L.length : Int) - (i : Int)).toNat
     rw [hw]
     omega) _ ((a : Int), L, (L.length : Int), 0) ⟨0, Nat.zero_le _, rfl⟩ (Nat.le_refl _)
 refine ⟨h1, ?_⟩
 have h4 : num_Get_l0_run ((a : Int), L, (L.length : Int), 0) = _ := h2
 rw [h2] at h3
 have h3' : (!!decide ((i : Int) < (L.length : Int))) = false := h3
 have hn : ¬ ((i : Int) < (L.length : Int)) := by simpa using h3'
 obtain rfl : i = L.length := by omega
 rw [h4, List.take_length]
theorem num_Get_eq (b : List UInt8) : (∀ p ∈ num_Get_ps b, p) ∧ num_Get_0 b = (getN b).1 ∧ num_Get_1 b = (getN b).2.1 ∧ num_Get_2 b = (getN b).2.2 := by
 cases b with
 | nil =>
  have no : (!(num_Get_k4 [])) = true → False := by intro h; cases h
  exact ⟨needs_cons (fun h => (no h).elim) (needs_cons (fun h => (no h).elim) (needs_cons (fun h => (no h).elim) (needs_cons (fun h => (no h).elim) (needs_cons (fun h => (no h).elim) needs_nil)))), rfl, rfl, rfl⟩
 | cons x r =>
  have hx : x.toNat < 256 := x.toNat_lt
  have k4 : num_Get_k4 (x :: r) = false := by
   show (((r.length + 1 : Nat) : Int) == 0) = false
   rw [Bool.eq_false_iff]
   intro h
   have : ((r.length + 1 : Nat) : Int) = 0 := by simpa using h
   omega
  have k3 : num_Get_k3 (x :: r) = ((2 ^ (x.toNat / 64) : Nat) : Int) := get_k x
  have t3 : x.toNat / 64 ≤ 3 := by omega
  have hK := (tag_of t3).1
  have k2 : num_Get_k2 (x :: r) = r.take (2 ^ (x.toNat / 64) - 1) := by
   show List.take ((num_Get_k3 (x :: r)).toNat - 1) r = _
   rw [k3, Int.toNat_natCast]
  have k1 : num_Get_k1 (x :: r) = decide (r.length + 1 < 2 ^ (x.toNat / 64)) := by
   show decide (((r.length + 1 : Nat) : Int) < num_Get_k3 (x :: r)) = _
   rw [k3]
   exact decide_eq_decide.2 Int.ofNat_lt
  have k6 : IntKind.i64.wrap (IntKind.u8.wrap ((BitVec.ofInt 8 (num_Get_k5 (x :: r)) &&& BitVec.ofInt 8 63).toNat : Int)) = ((x.toNat % 64 : Nat) : Int) := get_low x
  generalize hKK : 2 ^ (x.toNat / 64) = K at *
  have hlen : (r.take (K - 1)).length ≤ 7 := by rw [List.length_take]; unfold szs at hK; omega
  obtain ⟨n1, n2⟩ := get_loop (r.take (K - 1)) hlen (x.toNat % 64) (by omega)
  have k0 : num_Get_k0 (x :: r) = decide (szN (val (x.toNat % 64) (r.take (K - 1))) < K) := by
   unfold num_Get_k0
   rw [k6, k2, n2, size_eq, k3]
   exact decide_eq_decide.2 Int.ofNat_lt
  refine ⟨needs_cons (fun _ => ?_) (needs_cons (fun _ => ?_) (needs_cons (fun _ _ => (by show (0 : Int) ≤ 0 ∧ (0 : Int) < ((r.length + 1 : Nat) : Int); omega)) (needs_cons (fun _ h => ?_) (needs_cons (fun _ _ => ?_) needs_nil)))), ?_⟩
  ·show (0 : Int) ≤ 0 ∧ (0 : Int) < ((r.length + 1 : Nat) : Int)
   omega
  ·show (0 : Int) ≤ ((x.toNat : Nat) : Int).fdiv 64
   rw [Int.fdiv_eq_ediv_of_nonneg _ (by decide)]
   omega
  ·rw [k1] at h
   have h' : ¬ (r.length + 1 < K) := by simpa using h
   rw [k3]
   show (0 : Int) ≤ 1 ∧ (1 : Int) ≤ (K : Int) ∧ (K : Int) ≤ ((r.length + 1 : Nat) : Int)
   unfold szs at hK
   omega
  ·rw [k6, k2]
   exact n1
  ·unfold num_Get_0 num_Get_1 num_Get_2
   rw [k4, k1, k0, k6, k2, n2, k3, getN_cons, hKK]
   by_cases c1 : r.length + 1 < K
   ·rw [if_pos c1, decide_eq_true c1]; exact ⟨rfl, rfl, rfl⟩
   ·rw [if_neg c1, decide_eq_false c1]
    by_cases c2 : szN (val (x.toNat % 64) (r.take (K - 1))) < K
    ·rw [if_pos c2, decide_eq_true c2]; exact ⟨rfl, rfl, rfl⟩
    ·rw [if_neg c2, decide_eq_false c2]; exact ⟨rfl, rfl, rfl⟩
theorem num_Get_c2 (a0 : List UInt8) (_hp : ∀ p ∈ num_Get_ps2 a0, p) : CallOk Tryd.prog 88 [valA .bytes a0] 0 [] 1 (num_Get_r2 a0) 0 (num_Get_o2 a0) := by
 obtain ⟨h1, h2, h3, h4⟩ := num_Get_eq a0
 have h := num_Get_c a0 h1
 have hr : num_Get_r a0 = num_Get_r2 a0 := by unfold num_Get_r num_Get_r2; rw [h2, h3, h4]
 rw [hr] at h
 exact h
def num_Get_t : List A → Nat → Objs → Option CRes := rowK [.t .bytes] 0 num_Get_r2 num_Get_o2 num_Get_ps2
theorem num_Get_tok : TOk Tryd.prog 88 num_Get_t := rowK_ok (ks := [.t .bytes]) num_Get_c2
noncomputable def Ca_3 := addC 88 num_Get_t Ca_2
theorem Ca_3_ok : COk Tryd.prog Ca_3 := addC_ok num_Get_tok Ca_2_ok
noncomputable def Ca := Ca_3
theorem Ca_ok : COk Tryd.prog Ca := Ca_3_ok
end Go.Proofs.YtbhonfgbmkppiaaDoor
namespace Go.Proofs.YtbhonfgbmkppiaaDoor
open Go.RowKit
def stamp_known_k0 (a0 : Int) : Bool := !a0 == (1 : Int)
def stamp_known_0 (a0 : Int) : Bool := bif !((stamp_known_k0 a0) && !((stamp_known_k0 a0) && a0 == (2 : Int))) then true else false
def stamp_known_r (a0 : Int) : A := .v (.bool (stamp_known_0 a0))
def stamp_known_o (_a0 : Int) : Objs := []
def stamp_known_ps (_a0 : Int) : List Prop := []
theorem stamp_known_ev (a0 : Int) : evF (envT Ca L0) 9 129 [valA .i64 a0] 0 [] = some (1, stamp_known_r a0, 0, stamp_known_o a0, stamp_known_ps a0) := by kernel_rfl
theorem stamp_known_c (a0 : Int) (hp : ∀ p ∈ stamp_known_ps a0, p) : CallOk Tryd.prog 129 [valA .i64 a0] 0 [] 1 (stamp_known_r a0) 0 (stamp_known_o a0) := evF_ok (envP_ok Ca_ok L0_ok) (stamp_known_ev a0) hp
def stamp_known_t : List A → Nat → Objs → Option CRes := rowK [.t .i64] 0 stamp_known_r stamp_known_o stamp_known_ps
theorem stamp_known_tok : TOk Tryd.prog 129 stamp_known_t := rowK_ok (ks := [.t .i64]) stamp_known_c
noncomputable def Cb_1 := addC 129 stamp_known_t Ca
theorem Cb_1_ok : COk Tryd.prog Cb_1 := addC_ok stamp_known_tok Ca_ok
def stamp_Good_0 (a0 : TStamp) : Bool := bif a0.1 == (0 : Int) && a0.2 == (0 : Int) then true else decide (a0.1 > (0 : Int)) && decide (a0.1 ≤ (281474976710656 : Int)) && stamp_known_0 a0.2
def stamp_Good_r (a0 : TStamp) : A := .v (.bool (stamp_Good_0 a0))
def stamp_Good_o (_a0 : TStamp) : Objs := []
def stamp_Good_ps (_a0 : TStamp) : List Prop := []
theorem stamp_Good_ev (a0 : TStamp) : evF (envT Cb_1 L0) 9 112 [valA .stamp a0] 0 [] = some (1, stamp_Good_r a0, 0, stamp_Good_o a0, stamp_Good_ps a0) := by kernel_rfl
theorem stamp_Good_c (a0 : TStamp) (hp : ∀ p ∈ stamp_Good_ps a0, p) : CallOk Tryd.prog 112 [valA .stamp a0] 0 [] 1 (stamp_Good_r a0) 0 (stamp_Good_o a0) := evF_ok (envP_ok Cb_1_ok L0_ok) (stamp_Good_ev a0) hp
def stamp_Good_t : List A → Nat → Objs → Option CRes := rowK [.t .stamp] 0 stamp_Good_r stamp_Good_o stamp_Good_ps
theorem stamp_Good_tok : TOk Tryd.prog 112 stamp_Good_t := rowK_ok (ks := [.t .stamp]) stamp_Good_c
noncomputable def Cb_2 := addC 112 stamp_Good_t Cb_1
theorem Cb_2_ok : COk Tryd.prog Cb_2 := addC_ok stamp_Good_tok Cb_1_ok
def vec_Good_f1_0 (a0 : Int) (_a1 : Int) : Int := min (max a0 (0 : Int)) (1099511627776 : Int)
def vec_Good_f1_r (a0 : Int) (a1 : Int) : A := .v (.int .i64 (vec_Good_f1_0 a0 a1))
def vec_Good_f1_o (_a0 : Int) (_a1 : Int) : Objs := []
def vec_Good_f1_ps (_a0 : Int) (_a1 : Int) : List Prop := []
theorem vec_Good_f1_ev (a0 : Int) (a1 : Int) : evF (envT Cb_2 L0) 9 99 [valA .i64 a0, valA .i64 a1] 0 [] = some (1, vec_Good_f1_r a0 a1, 0, vec_Good_f1_o a0 a1, vec_Good_f1_ps a0 a1) := by kernel_rfl
theorem vec_Good_f1_c (a0 : Int) (a1 : Int) (hp : ∀ p ∈ vec_Good_f1_ps a0 a1, p) : CallOk Tryd.prog 99 [valA .i64 a0, valA .i64 a1] 0 [] 1 (vec_Good_f1_r a0 a1) 0 (vec_Good_f1_o a0 a1) := evF_ok (envP_ok Cb_2_ok L0_ok) (vec_Good_f1_ev a0 a1) hp
def vec_Good_f1_t : List A → Nat → Objs → Option CRes := rowK [.t .i64, .t .i64] 0 vec_Good_f1_r vec_Good_f1_o vec_Good_f1_ps
theorem vec_Good_f1_tok : TOk Tryd.prog 99 vec_Good_f1_t := rowK_ok (ks := [.t .i64, .t .i64]) vec_Good_f1_c
noncomputable def Cb_3 := addC 99 vec_Good_f1_t Cb_2
theorem Cb_3_ok : COk Tryd.prog Cb_3 := addC_ok vec_Good_f1_tok Cb_2_ok
def vec_Meet_f1_r (a0 : Int) (a1 : Int) : A := .v (.int .i64 (min a0 a1))
def vec_Meet_f1_o (_a0 : Int) (_a1 : Int) : Objs := []
def vec_Meet_f1_ps (_a0 : Int) (_a1 : Int) : List Prop := []
theorem vec_Meet_f1_ev (a0 : Int) (a1 : Int) : evF (envT Cb_3 L0) 9 122 [valA .i64 a0, valA .i64 a1] 0 [] = some (1, vec_Meet_f1_r a0 a1, 0, vec_Meet_f1_o a0 a1, vec_Meet_f1_ps a0 a1) := by kernel_rfl
theorem vec_Meet_f1_c (a0 : Int) (a1 : Int) (hp : ∀ p ∈ vec_Meet_f1_ps a0 a1, p) : CallOk Tryd.prog 122 [valA .i64 a0, valA .i64 a1] 0 [] 1 (vec_Meet_f1_r a0 a1) 0 (vec_Meet_f1_o a0 a1) := evF_ok (envP_ok Cb_3_ok L0_ok) (vec_Meet_f1_ev a0 a1) hp
def vec_Meet_f1_t : List A → Nat → Objs → Option CRes := rowK [.t .i64, .t .i64] 0 vec_Meet_f1_r vec_Meet_f1_o vec_Meet_f1_ps
theorem vec_Meet_f1_tok : TOk Tryd.prog 122 vec_Meet_f1_t := rowK_ok (ks := [.t .i64, .t .i64]) vec_Meet_f1_c
noncomputable def Cb_4 := addC 122 vec_Meet_f1_t Cb_3
theorem Cb_4_ok : COk Tryd.prog Cb_4 := addC_ok vec_Meet_f1_tok Cb_3_ok
noncomputable def Cb_5 := addC 98 (inl (envT Cb_4 L0) 4 98) Cb_4
theorem Cb_5_ok : COk Tryd.prog Cb_5 := addC_ok (inl_ok (envP_ok Cb_4_ok L0_ok) 4 98) Cb_4_ok
def vec_Good_0 (a0 : TVec) : Bool := vec_Good_f1_0 a0.1 (0 : Int) == a0.1 && vec_Good_f1_0 a0.2 (0 : Int) == a0.2
def vec_Good_r (a0 : TVec) : A := .v (.bool (vec_Good_0 a0))
def vec_Good_o (_a0 : TVec) : Objs := []
def vec_Good_ps (_a0 : TVec) : List Prop := []
theorem vec_Good_ev (a0 : TVec) : evF (envT Cb_5 L0) 9 59 [valA .vec a0] 0 [] = some (1, vec_Good_r a0, 0, vec_Good_o a0, [((0 : Int) ≤ (0 : Int) ∧ (0 : Int) < (2 : Int)), ((0 : Nat) < (2 : Nat)), ((0 : Int) ≤ (0 : Int) ∧ (0 : Int) < (2 : Int)), ((0 : Nat) < (2 : Nat)), ((0 : Int) ≤ (0 : Int) ∧ (0 : Int) < (2 : Int)), ((0 : Nat) < (2 : Nat)), ((0 : Int) ≤ (1 : Int) ∧ (1 : Int) < (2 : Int)), ((1 : Nat) < (2 : Nat)), ((0 : Int) ≤ (1 : Int) ∧ (1 : Int) < (2 : Int)), ((1 : Nat) < (2 : Nat)), ((0 : Int) ≤ (1 : Int) ∧ (1 : Int) < (2 : Int)), ((1 : Nat) < (2 : Nat))]) := by kernel_rfl
theorem vec_Good_c (a0 : TVec) (_hp : ∀ p ∈ vec_Good_ps a0, p) : CallOk Tryd.prog 59 [valA .vec a0] 0 [] 1 (vec_Good_r a0) 0 (vec_Good_o a0) := by
 have n0 : ((0 : Int) ≤ (0 : Int) ∧ (0 : Int) < (2 : Int)) := by first | rfl | decide +kernel
 have n1 : ((0 : Nat) < (2 : Nat)) := by first | rfl | decide +kernel
 have n6 : ((0 : Int) ≤ (1 : Int) ∧ (1 : Int) < (2 : Int)) := by first | rfl | decide +kernel
 have n7 : ((1 : Nat) < (2 : Nat)) := by first | rfl | decide +kernel
 exact evF_ok (envP_ok Cb_5_ok L0_ok) (vec_Good_ev a0) (needs_cons n0 (needs_cons n1 (needs_cons n0 (needs_cons n1 (needs_cons n0 (needs_cons n1 (needs_cons n6 (needs_cons n7 (needs_cons n6 (needs_cons n7 (needs_cons n6 (needs_cons n7 needs_nil))))))))))))
def vec_Good_t : List A → Nat → Objs → Option CRes := rowK [.t .vec] 0 vec_Good_r vec_Good_o vec_Good_ps
theorem vec_Good_tok : TOk Tryd.prog 59 vec_Good_t := rowK_ok (ks := [.t .vec]) vec_Good_c
noncomputable def Cb_6 := addC 59 vec_Good_t Cb_5
theorem Cb_6_ok : COk Tryd.prog Cb_6 := addC_ok vec_Good_tok Cb_5_ok
def vec_Meet_0 (a0 : TVec) (a1 : TVec) : TVec := TVec.mk (min a0.1 a1.1) (min a0.2 a1.2)
def vec_Meet_r (a0 : TVec) (a1 : TVec) : A := .v (.agg ⟨[.int .i64 ((vec_Meet_0 a0 a1).a), .int .i64 ((vec_Meet_0 a0 a1).b)]⟩)
def vec_Meet_o (_a0 : TVec) (_a1 : TVec) : Objs := []
def vec_Meet_ps (_a0 : TVec) (_a1 : TVec) : List Prop := []
theorem vec_Meet_ev (a0 : TVec) (a1 : TVec) : evF (envT Cb_6 L0) 9 102 [valA .vec a0, valA .vec a1] 0 [] = some (1, vec_Meet_r a0 a1, 0, vec_Meet_o a0 a1, [((0 : Int) ≤ (0 : Int) ∧ (0 : Int) < (2 : Int)), ((0 : Nat) < (2 : Nat)), ((0 : Int) ≤ (0 : Int) ∧ (0 : Int) < (2 : Int)), ((0 : Nat) < (2 : Nat)), ((0 : Int) ≤ (0 : Int) ∧ (0 : Int) < (2 : Int)), ((0 : Nat) < (2 : Nat)), ((0 : Int) ≤ (1 : Int) ∧ (1 : Int) < (2 : Int)), ((1 : Nat) < (2 : Nat)), ((0 : Int) ≤ (1 : Int) ∧ (1 : Int) < (2 : Int)), ((1 : Nat) < (2 : Nat)), ((0 : Int) ≤ (1 : Int) ∧ (1 : Int) < (2 : Int)), ((1 : Nat) < (2 : Nat))]) := by kernel_rfl
theorem vec_Meet_c (a0 : TVec) (a1 : TVec) (_hp : ∀ p ∈ vec_Meet_ps a0 a1, p) : CallOk Tryd.prog 102 [valA .vec a0, valA .vec a1] 0 [] 1 (vec_Meet_r a0 a1) 0 (vec_Meet_o a0 a1) := by
 have n0 : ((0 : Int) ≤ (0 : Int) ∧ (0 : Int) < (2 : Int)) := by first | rfl | decide +kernel
 have n1 : ((0 : Nat) < (2 : Nat)) := by first | rfl | decide +kernel
 have n6 : ((0 : Int) ≤ (1 : Int) ∧ (1 : Int) < (2 : Int)) := by first | rfl | decide +kernel
 have n7 : ((1 : Nat) < (2 : Nat)) := by first | rfl | decide +kernel
 exact evF_ok (envP_ok Cb_6_ok L0_ok) (vec_Meet_ev a0 a1) (needs_cons n0 (needs_cons n1 (needs_cons n0 (needs_cons n1 (needs_cons n0 (needs_cons n1 (needs_cons n6 (needs_cons n7 (needs_cons n6 (needs_cons n7 (needs_cons n6 (needs_cons n7 needs_nil))))))))))))
def vec_Meet_t : List A → Nat → Objs → Option CRes := rowK [.t .vec, .t .vec] 0 vec_Meet_r vec_Meet_o vec_Meet_ps
theorem vec_Meet_tok : TOk Tryd.prog 102 vec_Meet_t := rowK_ok (ks := [.t .vec, .t .vec]) vec_Meet_c
noncomputable def Cb_7 := addC 102 vec_Meet_t Cb_6
theorem Cb_7_ok : COk Tryd.prog Cb_7 := addC_ok vec_Meet_tok Cb_6_ok
def vec_Covers_0 (a0 : TVec) (a1 : TVec) : Bool := (vec_Meet_0 a0 a1).1 == a1.1 && (vec_Meet_0 a0 a1).2 == a1.2
def vec_Covers_r (a0 : TVec) (a1 : TVec) : A := .v (.bool (vec_Covers_0 a0 a1))
def vec_Covers_o (_a0 : TVec) (_a1 : TVec) : Objs := []
def vec_Covers_ps (_a0 : TVec) (_a1 : TVec) : List Prop := []
theorem vec_Covers_ev (a0 : TVec) (a1 : TVec) : evF (envT Cb_7 L0) 9 67 [valA .vec a0, valA .vec a1] 0 [] = some (1, vec_Covers_r a0 a1, 0, vec_Covers_o a0 a1, vec_Covers_ps a0 a1) := by kernel_rfl
theorem vec_Covers_c (a0 : TVec) (a1 : TVec) (hp : ∀ p ∈ vec_Covers_ps a0 a1, p) : CallOk Tryd.prog 67 [valA .vec a0, valA .vec a1] 0 [] 1 (vec_Covers_r a0 a1) 0 (vec_Covers_o a0 a1) := evF_ok (envP_ok Cb_7_ok L0_ok) (vec_Covers_ev a0 a1) hp
def vec_Covers_t : List A → Nat → Objs → Option CRes := rowK [.t .vec, .t .vec] 0 vec_Covers_r vec_Covers_o vec_Covers_ps
theorem vec_Covers_tok : TOk Tryd.prog 67 vec_Covers_t := rowK_ok (ks := [.t .vec, .t .vec]) vec_Covers_c
noncomputable def Cb_8 := addC 67 vec_Covers_t Cb_7
theorem Cb_8_ok : COk Tryd.prog Cb_8 := addC_ok vec_Covers_tok Cb_7_ok
noncomputable def Cb := Cb_8
theorem Cb_ok : COk Tryd.prog Cb := Cb_8_ok
end Go.Proofs.YtbhonfgbmkppiaaDoor
namespace Go.Proofs.YtbhonfgbmkppiaaDoor
open Go.RowKit
def goodS (s : TStamp) : Bool := bif s.n == 0 && s.site == 0 then true else decide (1 ≤ s.n) && decide (s.n ≤ 281474976710656) && (s.site == 1 || s.site == 2)
def goodV (v : TVec) : Bool := decide (0 ≤ v.a) && decide (v.a ≤ 1099511627776) && (decide (0 ≤ v.b) && decide (v.b ≤ 1099511627776))
def zeroV (v : TVec) : Bool := v.a == 0 && v.b == 0
def codeS (s : TStamp) : Int := bif s.n == 0 then 0 else 2 * s.n + s.site - 1
def decS (n : Int) : TStamp := if n = 0 then ⟨0, 0⟩ else ⟨n / 2, 1 + n % 2⟩
def putS (s : TStamp) : List UInt8 := bif goodS s then putN (codeS s) else []
def putV (v : TVec) : List UInt8 := bif goodV v then putN v.a ++ putN v.b else []
def putT (t : ByteArray) : List UInt8 := putN (t.size : Int) ++ t.data.toList
def getS (b : List UInt8) : TStamp × Int × Int := if (getN b).2.2 ≠ 0 then (⟨0, 0⟩, 0, (getN b).2.2) else if goodS (decS (getN b).1) = true then (decS (getN b).1, (getN b).2.1, 0) else (⟨0, 0⟩, 0, 11)
def getV (b : List UInt8) : TVec × Int × Int := if (getN b).2.2 ≠ 0 then (⟨0, 0⟩, 0, (getN b).2.2) else
 if (getN (b.drop (getN b).2.1.toNat)).2.2 ≠ 0 then (⟨0, 0⟩, 0, (getN (b.drop (getN b).2.1.toNat)).2.2) else
 if goodV ⟨(getN b).1, (getN (b.drop (getN b).2.1.toNat)).1⟩ = true then (⟨(getN b).1, (getN (b.drop (getN b).2.1.toNat)).1⟩, (getN b).2.1 + (getN (b.drop (getN b).2.1.toNat)).2.1, 0) else (⟨0, 0⟩, 0, 11)
def getT (b : List UInt8) (m : Int) : ByteArray × Int × Int := if (getN b).2.2 ≠ 0 then (ByteArray.empty, 0, (getN b).2.2) else if (getN b).1 > m then (ByteArray.empty, 0, 3) else
 if (b.length : Int) - (getN b).2.1 < (getN b).1 then (ByteArray.empty, 0, 10) else (⟨((b.drop (getN b).2.1.toNat).take (getN b).1.toNat).toArray⟩, (getN b).2.1 + (getN b).1, 0)
structure Rd {α : Type} (get : List UInt8 → α × Int × Int) (good : α → Prop) (put : α → List UInt8) : Prop where
 back : ∀ x r, good x → get (put x ++ r) = (x, ((put x).length : Int), 0)
 front : ∀ b x k, get b = (x, k, 0) → good x ∧ k = ((put x).length : Int) ∧ ∃ r, b = put x ++ r
theorem take_split {b p : List UInt8} (h : b.take p.length = p) : ∃ r, b = p ++ r := ⟨b.drop p.length, by
 conv => lhs; rw [← List.take_append_drop p.length b, h]⟩
def okN (n : Int) : Prop := 0 ≤ n ∧ n ≤ 4611686018427387903
theorem rdN : Rd getN okN putN where
 back := fun x r h => by rw [get_put h.1 h.2 r, putN_length]
 front := fun b x k h => by
  obtain ⟨h1, h2, h3, _, h5⟩ := put_get h
  exact ⟨⟨h1, h2⟩, by rw [h3, putN_length], take_split (by rw [putN_length]; exact h5)⟩
theorem getN_ok {b : List UInt8} (h : (getN b).2.2 = 0) : ∃ r, okN (getN b).1 ∧ (getN b).2.1 = ((putN (getN b).1).length : Int) ∧ b = putN (getN b).1 ++ r := by
 obtain ⟨h1, h2, r, h3⟩ := rdN.front b (getN b).1 (getN b).2.1 (by rw [← h])
 exact ⟨r, h1, h2, h3⟩
theorem getN_err (b : List UInt8) : (getN b).2.2 ≠ 0 → (getN b).1 = 0 ∧ (getN b).2.1 = 0 := fun h => by
 cases b with
 | nil => exact ⟨rfl, rfl⟩
 | cons x r =>
  rw [getN_cons] at h ⊢
  split
  ·exact ⟨rfl, rfl⟩
  ·split
   ·exact ⟨rfl, rfl⟩
   ·rename_i h1 h2
    rw [if_neg h1, if_neg h2] at h
    exact absurd rfl h
theorem getN_bounds (b : List UInt8) : 0 ≤ (getN b).2.1 ∧ (getN b).2.1 ≤ (b.length : Int) ∧ (getN b).2.1 ≤ 8 ∧ 0 ≤ (getN b).1 ∧ (getN b).1 ≤ 4611686018427387903 := by
 by_cases h : (getN b).2.2 = 0
 ·obtain ⟨r, ⟨h1, h1'⟩, h2, h3⟩ := getN_ok h
  have hl := congrArg List.length h3
  rw [List.length_append] at hl
  have h8 : (putN (getN b).1).length ≤ 8 := by
   rw [putN_length]
   have := (sz_ok h1 h1').1
   unfold szs at this
   omega
  exact ⟨by omega, by omega, by omega, h1, h1'⟩
 ·obtain ⟨h1, h2⟩ := getN_err b h
  rw [h1, h2]
  omega
theorem goodS_iff {s : TStamp} : goodS s = true ↔ (s.n = 0 ∧ s.site = 0) ∨ (1 ≤ s.n ∧ s.n ≤ 281474976710656 ∧ (s.site = 1 ∨ s.site = 2)) := by
 unfold goodS
 rw [Bool.cond_eq_ite]
 split
 ·rename_i h
  simp only [Bool.and_eq_true, beq_iff_eq] at h
  exact ⟨fun _ => .inl h, fun _ => rfl⟩
 ·rename_i h
  simp only [Bool.and_eq_true, beq_iff_eq] at h
  simp only [Bool.and_eq_true, Bool.or_eq_true, beq_iff_eq, decide_eq_true_eq]
  constructor
  ·intro h'; exact .inr ⟨h'.1.1, h'.1.2, h'.2⟩
  ·rintro (h' | ⟨h1, h2, h3⟩)
   ·exact absurd h' h
   ·exact ⟨⟨h1, h2⟩, h3⟩
theorem vec_ext {s t : TVec} (h1 : s.a = t.a) (h2 : s.b = t.b) : s = t := by cases s; cases t; simp_all
theorem and_two_pow (n i : Nat) : n &&& 2 ^ i = n / 2 ^ i % 2 * 2 ^ i := by
 rw [← Nat.toNat_testBit]
 apply Nat.eq_of_testBit_eq
 intro j
 rw [Nat.testBit_and, Nat.testBit_two_pow]
 cases hb : n.testBit i with
 | true =>
  by_cases hij : i = j
  ·subst hij; simp [hb]
  ·simp [hij]
 | false =>
  by_cases hij : i = j
  ·subst hij; simp [hb]
  ·simp [hij]
theorem and_bit {n : Int} (h : okN n) (k : Nat) (m : Int) (hm : m = ((2 ^ k : Nat) : Int)) (hk : k < 60) : (BitVec.ofInt 64 n &&& BitVec.ofInt 64 m).toNat = n.toNat / 2 ^ k % 2 * 2 ^ k := by
 obtain ⟨h0, h1⟩ := h
 have hp : 2 ^ k < 2 ^ 60 := Nat.pow_lt_pow_right (by decide) hk
 have e60 : (2 : Nat) ^ 60 = 1152921504606846976 := by decide
 rw [BitVec.toNat_and, BitVec.toNat_ofInt, BitVec.toNat_ofInt]
 have m1 : (n % ((2 ^ 64 : Nat) : Int)).toNat = n.toNat := by omega
 have m2 : (m % ((2 ^ 64 : Nat) : Int)).toNat = 2 ^ k := by
  subst hm
  generalize 2 ^ k = q at *
  omega
 rw [m1, m2, and_two_pow]
theorem bit_pos {n : Int} (h : okN n) (k : Nat) (m : Int) (hm : m = ((2 ^ k : Nat) : Int)) (hk : k < 60) : decide (IntKind.i64.wrap ((BitVec.ofInt 64 n &&& BitVec.ofInt 64 m).toNat : Int) > 0) = (n.toNat / 2 ^ k % 2 == 1) := by
 rw [and_bit h k m hm hk]
 have hp : 2 ^ k < 2 ^ 60 := Nat.pow_lt_pow_right (by decide) hk
 have hp0 : 0 < 2 ^ k := Nat.pow_pos (by decide)
 have e60 : (2 : Nat) ^ 60 = 1152921504606846976 := by decide
 generalize n.toNat / 2 ^ k = x
 generalize 2 ^ k = q at *
 rcases Nat.mod_two_eq_zero_or_one x with e | e
 ·rw [e, Nat.zero_mul]
  rfl
 ·rw [e, Nat.one_mul, i64_in (by omega)]
  have : (q : Int) > 0 := by omega
  rw [decide_eq_true this]
  rfl
theorem bit_low {n : Int} (h : okN n) : IntKind.i64.wrap (IntKind.i64.wrap ((BitVec.ofInt 64 n &&& BitVec.ofInt 64 1).toNat : Int) + 1) = 1 + n % 2 := by
 have e := and_bit h 0 1 rfl (by decide)
 rw [e]
 obtain ⟨h0, h1⟩ := h
 have e2 : n.toNat / 2 ^ 0 % 2 * 2 ^ 0 = n.toNat % 2 := by rw [Nat.pow_zero, Nat.div_one, Nat.mul_one]
 rw [e2, i64_in (n := ((n.toNat % 2 : Nat) : Int)) (by omega), i64_in (by omega)]
 omega
end Go.Proofs.YtbhonfgbmkppiaaDoor
namespace Go.Proofs.YtbhonfgbmkppiaaDoor
open Go.RowKit
theorem eqB_iff {x y : ByteArray} : (x.toList == y.toList) = true ↔ x = y := by
 rw [beq_iff_eq, ByteArray.toList_eq, ByteArray.toList_eq]
 constructor
 ·intro h
  cases x; cases y
  simpa using h
 ·rintro rfl; rfl
theorem noB_iff {x : ByteArray} : (x.toList == (ByteArray.mk #[]).toList) = true ↔ x.size = 0 := by
 rw [eqB_iff]
 constructor
 ·rintro rfl; rfl
 ·intro h
  cases x with | mk d =>
  have : d.size = 0 := h
  rw [Array.eq_empty_of_size_eq_zero this]
theorem noB_eq (x : ByteArray) : (x.toList == (ByteArray.mk #[]).toList) = (x.size == 0) := by
 rw [Bool.eq_iff_iff, noB_iff, beq_iff_eq]
def written (c : TCell) : Bool := !(c.stamp.n == 0 && c.stamp.site == 0 && (c.vec.a == 0 && c.vec.b == 0) && (!c.gone && c.value.size == 0))
def goodC (p : Int) (c : TCell) : Bool :=
 bif p == 1 && !zeroV c.dead || (p == 2 && (c.gone || !goodV c.dead) || !(p == 1 || p == 2)) then false else
 bif !written c then true else goodS c.stamp && decide (0 < c.stamp.n) && goodV c.vec && decide ((c.value.size : Int) ≤ 64) && !(c.gone && !(c.value.size == 0))
def flagsC (c : TCell) : Int := (bif written c then 1 else 0) + (bif c.gone then 2 else 0) + (bif zeroV c.dead then 0 else 4)
def bodyC (c : TCell) : List UInt8 := (bif written c then putS c.stamp ++ putV c.vec ++ (bif c.gone then [] else putT c.value) else []) ++ (bif zeroV c.dead then [] else putV c.dead)
def putC (p : Int) (c : TCell) : List UInt8 := bif goodC p c then putN (flagsC c) ++ bodyC c else []
def zeroC : TCell := ⟨⟨0, 0⟩, ⟨0, 0⟩, false, ByteArray.mk #[], ⟨0, 0⟩⟩
theorem zeroV_iff {v : TVec} : zeroV v = true ↔ v = ⟨0, 0⟩ := by
 unfold zeroV
 simp only [Bool.and_eq_true, beq_iff_eq]
 constructor
 ·intro h; exact vec_ext h.1 h.2
 ·rintro rfl; exact ⟨rfl, rfl⟩
structure GoodC (p : Int) (c : TCell) : Prop where
 pol : p = 1 ∨ p = 2
 dead : goodV c.dead = true
 last : p = 1 → zeroV c.dead = true
 del : p = 2 → c.gone = false
 st : written c = true → goodS c.stamp = true ∧ 0 < c.stamp.n ∧ goodV c.vec = true ∧ (c.value.size : Int) ≤ 64 ∧ (c.gone = true → c.value.size = 0)
theorem goodC_iff {p : Int} {c : TCell} : goodC p c = true ↔ GoodC p c := by
 unfold goodC
 rw [Bool.cond_eq_ite]
 split
 ·rename_i h
  refine ⟨fun h => (by cases h), fun g => ?_⟩
  exfalso
  simp only [Bool.or_eq_true, Bool.and_eq_true, beq_iff_eq, Bool.not_eq_true'] at h
  rcases h with ⟨h1, h2⟩ | ⟨h1, h2⟩ | h1
  ·rw [g.last h1] at h2; cases h2
  ·rcases h2 with h2 | h2
   ·rw [g.del h1] at h2; cases h2
   ·rw [g.dead] at h2; cases h2
  ·rcases g.pol with h | h
   ·rw [h] at h1; cases h1
   ·rw [h] at h1; cases h1
 ·rename_i h
  have hh := Bool.eq_false_iff.2 h
  simp only [Bool.or_eq_false_iff] at hh
  obtain ⟨h1, h2, h3⟩ := hh
  have hp : p = 1 ∨ p = 2 := by
   have : (p == 1 || p == 2) = true := by
    cases hq : (p == 1 || p == 2) with
    | true => rfl
    | false => rw [hq] at h3; cases h3
   simpa using this
  have base : goodV c.dead = true ∧ (p = 1 → zeroV c.dead = true) ∧ (p = 2 → c.gone = false) := by
   rcases hp with rfl | rfl
   ·have hz : zeroV c.dead = true := by
     cases hz : zeroV c.dead with
     | true => rfl
     | false => rw [hz] at h1; cases h1
    refine ⟨by rw [zeroV_iff.1 hz]; rfl, fun _ => hz, fun h => by cases h⟩
   ·have : c.gone = false ∧ goodV c.dead = true := by
     cases hg : c.gone with
     | true => rw [hg] at h2; cases h2
     | false =>
      cases hv : goodV c.dead with
      | true => exact ⟨rfl, rfl⟩
      | false => rw [hg, hv] at h2; cases h2
    exact ⟨this.2, fun h => (by cases h), fun _ => this.1⟩
  cases hw : written c with
  | false => exact ⟨fun _ => ⟨hp, base.1, base.2.1, base.2.2, fun h => by rw [hw] at h; cases h⟩, fun _ => rfl⟩
  | true =>
   rw [Bool.not_true, cond_false]
   simp only [Bool.and_eq_true, decide_eq_true_eq, Bool.not_eq_true', Bool.and_eq_false_iff, Bool.not_eq_false', beq_iff_eq]
   constructor
   ·rintro ⟨⟨⟨⟨g1, g2⟩, g3⟩, g4⟩, g5⟩
    refine ⟨hp, base.1, base.2.1, base.2.2, fun _ => ⟨g1, g2, g3, g4, fun hg => ?_⟩⟩
    rcases g5 with g5 | g5
    ·rw [g5] at hg; cases hg
    ·exact g5
   ·intro g
    obtain ⟨g1, g2, g3, g4, g5⟩ := g.st hw
    refine ⟨⟨⟨⟨g1, g2⟩, g3⟩, g4⟩, ?_⟩
    cases hg : c.gone with
    | false => exact .inl rfl
    | true => exact .inr (g5 hg)
theorem flags_ok (c : TCell) : okN (flagsC c) ∧ flagsC c ≤ 7 ∧ ((flagsC c).toNat / 2 ^ 0 % 2 == 1) = written c ∧ ((flagsC c).toNat / 2 ^ 1 % 2 == 1) = c.gone ∧ ((flagsC c).toNat / 2 ^ 2 % 2 == 1) = !zeroV c.dead := by
 unfold flagsC okN
 cases written c <;> cases c.gone <;> cases zeroV c.dead <;> decide
def bitN (n : Int) (k : Nat) : Bool := n.toNat / 2 ^ k % 2 == 1
def stA (b : List UInt8) : Bool × TCell × Int :=
 bif (getN b).2.2 == 0 && bitN (getN b).1 0 then
  (bif !bitN (getN b).1 1 then
   ((getN b).2.2 == 0 && (getS (b.drop (getN b).2.1.toNat)).2.2 == 0 && (getV (b.drop ((getN b).2.1 + (getS (b.drop (getN b).2.1.toNat)).2.1).toNat)).2.2 == 0 && (getT (b.drop ((getN b).2.1 + (getS (b.drop (getN b).2.1.toNat)).2.1 + (getV (b.drop ((getN b).2.1 + (getS (b.drop (getN b).2.1.toNat)).2.1).toNat)).2.1).toNat) 64).2.2 == 0,
    ⟨(getS (b.drop (getN b).2.1.toNat)).1, (getV (b.drop ((getN b).2.1 + (getS (b.drop (getN b).2.1.toNat)).2.1).toNat)).1, bitN (getN b).1 1, (getT (b.drop ((getN b).2.1 + (getS (b.drop (getN b).2.1.toNat)).2.1 + (getV (b.drop ((getN b).2.1 + (getS (b.drop (getN b).2.1.toNat)).2.1).toNat)).2.1).toNat) 64).1, ⟨0, 0⟩⟩,
    (getN b).2.1 + (getS (b.drop (getN b).2.1.toNat)).2.1 + (getV (b.drop ((getN b).2.1 + (getS (b.drop (getN b).2.1.toNat)).2.1).toNat)).2.1 + (getT (b.drop ((getN b).2.1 + (getS (b.drop (getN b).2.1.toNat)).2.1 + (getV (b.drop ((getN b).2.1 + (getS (b.drop (getN b).2.1.toNat)).2.1).toNat)).2.1).toNat) 64).2.1)
  else
   ((getN b).2.2 == 0 && (getS (b.drop (getN b).2.1.toNat)).2.2 == 0 && (getV (b.drop ((getN b).2.1 + (getS (b.drop (getN b).2.1.toNat)).2.1).toNat)).2.2 == 0,
    ⟨(getS (b.drop (getN b).2.1.toNat)).1, (getV (b.drop ((getN b).2.1 + (getS (b.drop (getN b).2.1.toNat)).2.1).toNat)).1, bitN (getN b).1 1, ByteArray.mk #[], ⟨0, 0⟩⟩,
    (getN b).2.1 + (getS (b.drop (getN b).2.1.toNat)).2.1 + (getV (b.drop ((getN b).2.1 + (getS (b.drop (getN b).2.1.toNat)).2.1).toNat)).2.1))
 else ((getN b).2.2 == 0, zeroC, (getN b).2.1)
def stB (b : List UInt8) : Bool × TCell × Int :=
 bif (stA b).1 && bitN (getN b).1 2 then ((stA b).1 && (getV (b.drop (stA b).2.2.toNat)).2.2 == 0, { (stA b).2.1 with dead := (getV (b.drop (stA b).2.2.toNat)).1 }, (stA b).2.2 + (getV (b.drop (stA b).2.2.toNat)).2.1)
 else stA b
def rightC (n : Int) (c : TCell) : Bool := decide (n ≤ 7) && bitN n 0 == written c && bitN n 1 == c.gone && bitN n 2 == !zeroV c.dead
def getC (b : List UInt8) (p : Int) : TCell × Int × Int :=
 bif !(stB b).1 || !rightC (getN b).1 (stB b).2.1 || !goodC p (stB b).2.1 then (zeroC, 0, 80) else ((stB b).2.1, (stB b).2.2, 0)
end Go.Proofs.YtbhonfgbmkppiaaDoor
namespace Go.Proofs.YtbhonfgbmkppiaaDoor
open Go.RowKit
theorem stamp_known_eq (n : Int) : stamp_known_0 n = (n == 1 || n == 2) := by
 unfold stamp_known_0 stamp_known_k0
 cases n == 1 <;> cases n == 2 <;> rfl
theorem stamp_Good_eq (s : TStamp) : stamp_Good_0 s = goodS s := by
 unfold stamp_Good_0 goodS
 rw [stamp_known_eq]
 rfl
theorem vec_Good_f1_iff (x : Int) : (vec_Good_f1_0 x 0 == x) = (decide (0 ≤ x) && decide (x ≤ 1099511627776)) := by
 unfold vec_Good_f1_0
 rw [Bool.eq_iff_iff]
 simp only [beq_iff_eq, Bool.and_eq_true, decide_eq_true_eq]
 omega
theorem vec_Good_eq (v : TVec) : vec_Good_0 v = goodV v := by
 unfold vec_Good_0 goodV
 rw [vec_Good_f1_iff, vec_Good_f1_iff]
theorem putN_8 (n : Int) : (putN n).length ≤ 8 := by
 rw [putN_length]
 rcases sz_cases n with h | ⟨_, _, h⟩
 ·omega
 ·unfold szs at h; omega
theorem putS_8 (s : TStamp) : (putS s).length ≤ 8 := by
 unfold putS
 cases goodS s with
 | true => exact putN_8 _
 | false => exact Nat.zero_le _
theorem putV_16 (v : TVec) : (putV v).length ≤ 16 := by
 unfold putV
 cases goodV v with
 | true =>
  rw [cond_true, List.length_append]
  have h1 := putN_8 v.a
  have h2 := putN_8 v.b
  omega
 | false => exact Nat.zero_le _
theorem putT_8 (t : ByteArray) : (putT t).length ≤ 8 + t.size := by
 unfold putT
 rw [List.length_append]
 have h1 := putN_8 (t.size : Int)
 have hs : t.data.toList.length = t.size := Array.length_toList
 omega
def cell_written_0 (a0 : TCell) : Bool := !(a0.1.1 == (0 : Int) && a0.1.2 == (0 : Int) && (a0.2.1 == (0 : Int) && a0.2.2 == (0 : Int) && (a0.3 == false && (a0.4.toList == (ByteArray.mk #[]).toList && true))))
def cell_written_r (a0 : TCell) : A := .v (.bool (cell_written_0 a0))
def cell_written_o (_a0 : TCell) : Objs := []
def cell_written_ps (_a0 : TCell) : List Prop := []
theorem cell_written_ev (a0 : TCell) : evF (envT Cb L0) 9 116 [valA .cell a0] 0 [] = some (1, cell_written_r a0, 0, cell_written_o a0, cell_written_ps a0) := by kernel_rfl
theorem cell_written_c (a0 : TCell) (hp : ∀ p ∈ cell_written_ps a0, p) : CallOk Tryd.prog 116 [valA .cell a0] 0 [] 1 (cell_written_r a0) 0 (cell_written_o a0) := evF_ok (envP_ok Cb_ok L0_ok) (cell_written_ev a0) hp
def cell_written_t : List A → Nat → Objs → Option CRes := rowK [.t .cell] 0 cell_written_r cell_written_o cell_written_ps
theorem cell_written_tok : TOk Tryd.prog 116 cell_written_t := rowK_ok (ks := [.t .cell]) cell_written_c
noncomputable def Cd_1 := addC 116 cell_written_t Cb
theorem Cd_1_ok : COk Tryd.prog Cd_1 := addC_ok cell_written_tok Cb_ok
def cell_Good_0 (a0 : Int) (a1 : TCell) : Bool := bif bif a0 == (1 : Int) then !(a1.5.1 == (0 : Int) && a1.5.2 == (0 : Int)) else !a0 == (2 : Int) || (a1.3 || !vec_Good_0 a1.5) then bif a0 == (1 : Int) then false else bif a0 == (2 : Int) then false else false else bif !cell_written_0 a1 then true else decide (a1.1.1 > (0 : Int)) && stamp_Good_0 a1.1 && vec_Good_0 a1.2 && decide ((↑a1.4.size : Int) ≤ (64 : Int)) && !(a1.3 && !a1.4.toList == (ByteArray.mk #[]).toList)
def cell_Good_r (a0 : Int) (a1 : TCell) : A := .v (.bool (cell_Good_0 a0 a1))
def cell_Good_o (_a0 : Int) (_a1 : TCell) : Objs := []
def cell_Good_ps (_a0 : Int) (_a1 : TCell) : List Prop := []
theorem cell_Good_ev (a0 : Int) (a1 : TCell) : evF (envT Cd_1 L0) 9 109 [valA .i64 a0, valA .cell a1] 0 [] = some (1, cell_Good_r a0 a1, 0, cell_Good_o a0 a1, cell_Good_ps a0 a1) := by kernel_rfl
theorem cell_Good_c (a0 : Int) (a1 : TCell) (hp : ∀ p ∈ cell_Good_ps a0 a1, p) : CallOk Tryd.prog 109 [valA .i64 a0, valA .cell a1] 0 [] 1 (cell_Good_r a0 a1) 0 (cell_Good_o a0 a1) := evF_ok (envP_ok Cd_1_ok L0_ok) (cell_Good_ev a0 a1) hp
def cell_Good_t : List A → Nat → Objs → Option CRes := rowK [.t .i64, .t .cell] 0 cell_Good_r cell_Good_o cell_Good_ps
theorem cell_Good_tok : TOk Tryd.prog 109 cell_Good_t := rowK_ok (ks := [.t .i64, .t .cell]) cell_Good_c
noncomputable def Cd_2 := addC 109 cell_Good_t Cd_1
theorem Cd_2_ok : COk Tryd.prog Cd_2 := addC_ok cell_Good_tok Cd_1_ok
theorem cell_written_eq (c : TCell) : cell_written_0 c = written c := by
 unfold cell_written_0 written
 have hg : (c.3 == false) = !c.gone := by show (c.gone == false) = !c.gone; cases c.gone <;> rfl
 rw [noB_eq, Bool.and_true, hg]
 simp only [Bool.and_assoc]
theorem cell_Good_eq (p : Int) (c : TCell) : cell_Good_0 p c = goodC p c := by
 unfold cell_Good_0 goodC zeroV
 rw [cell_written_eq, vec_Good_eq, vec_Good_eq, stamp_Good_eq, noB_eq]
 have hw : (bif !written c then true else decide (c.1.1 > (0 : Int)) && goodS c.1 && goodV c.2 && decide (((c.4.size : Nat) : Int) ≤ (64 : Int)) && !(c.3 && !c.4.size == 0)) = bif !written c then true else goodS c.stamp && decide (0 < c.stamp.n) && goodV c.vec && decide ((c.value.size : Int) ≤ 64) && !(c.gone && !(c.value.size == 0)) := by
  rw [Bool.and_comm (decide (c.1.1 > (0 : Int)))]
 rw [hw]
 generalize (bif !written c then true else goodS c.stamp && decide (0 < c.stamp.n) && goodV c.vec && decide ((c.value.size : Int) ≤ 64) && !(c.gone && !(c.value.size == 0))) = X
 by_cases h1 : p = 1
 ·subst h1
  show (bif !(c.5.1 == (0 : Int) && c.5.2 == (0 : Int)) then false else X) = bif !(c.5.1 == (0 : Int) && c.5.2 == (0 : Int)) || false then false else X
  rw [Bool.or_false]
 ·have e1 : (p == 1) = false := by simpa using h1
  rw [e1]
  by_cases h2 : p = 2
  ·subst h2
   show (bif c.3 || !goodV c.5 then false else X) = bif (c.3 || !goodV c.5) || false then false else X
   rw [Bool.or_false]
  ·have e2 : (p == 2) = false := by simpa using h2
   rw [e2]
   rfl
def stamp_Put_0 (a0 : List UInt8) (a1 : TStamp) : List UInt8 := a0 ++ putN (bif a1.1 == (0 : Int) && a1.2 == (0 : Int) then (0 : Int) else bif stamp_Good_0 a1 then IntKind.i64.wrap (IntKind.i64.wrap (IntKind.i64.wrap (a1.1 * (2 : Int)) + a1.2) - (1 : Int)) else (-1 : Int))
def stamp_Put_r (_a0 : List UInt8) (_a1 : TStamp) : A := .sq 0
def stamp_Put_o (a0 : List UInt8) (a1 : TStamp) : Objs := [(0, some (.arr 5 1 (.ty .u8 (stamp_Put_0 a0 a1))))]
def stamp_Put_ps (a0 : List UInt8) (_a1 : TStamp) : List Prop := [(boundP (a0.length + (8 : Nat)))]
theorem stamp_Put_ev (a0 : List UInt8) (a1 : TStamp) : evF (envT Cd_2 L0) 9 82 [valA .bytes a0, valA .stamp a1] 0 [] = some (1, stamp_Put_r a0 a1, 1, stamp_Put_o a0 a1, stamp_Put_ps a0 a1) := by kernel_rfl
theorem stamp_Put_c (a0 : List UInt8) (a1 : TStamp) (hp : ∀ p ∈ stamp_Put_ps a0 a1, p) : CallOk Tryd.prog 82 [valA .bytes a0, valA .stamp a1] 0 [] 1 (stamp_Put_r a0 a1) 1 (stamp_Put_o a0 a1) := evF_ok (envP_ok Cd_2_ok L0_ok) (stamp_Put_ev a0 a1) hp
def stamp_Put_r2 (_a0 : List UInt8) (_a1 : TStamp) : A := .sq 0
def stamp_Put_o2 (a0 : List UInt8) (a1 : TStamp) : Objs := [(0, some (.arr 5 1 (.ty .u8 (a0 ++ putS a1))))]
def stamp_Put_ps2 (a0 : List UInt8) (_a1 : TStamp) : List Prop := [boundP (a0.length + 8)]
theorem stamp_Put_eq (a0 : List UInt8) (a1 : TStamp) : stamp_Put_0 a0 a1 = a0 ++ putS a1 := by
 unfold stamp_Put_0 putS codeS
 rw [stamp_Good_eq]
 congr 1
 cases hg : goodS a1 with
 | false =>
  have hz : (a1.1 == (0 : Int) && a1.2 == (0 : Int)) = false := by
   rw [Bool.eq_false_iff]
   intro h
   unfold goodS at hg
   rw [h] at hg
   cases hg
  rw [hz]
  rfl
 | true =>
  have h' := goodS_iff.1 hg
  rw [cond_true, cond_true]
  congr 1
  by_cases h0 : a1.n = 0
  ·have hz : (a1.1 == (0 : Int) && a1.2 == (0 : Int)) = true := by
    rcases h' with ⟨h1, h2⟩ | h1
    ·rw [h1, h2]; rfl
    ·omega
   have e : (a1.n == 0) = true := by simpa using h0
   rw [hz, e]
   rfl
  ·have hz : (a1.1 == (0 : Int) && a1.2 == (0 : Int)) = false := by
    have : (a1.1 == (0 : Int)) = false := by simpa using h0
    rw [this]; rfl
   have e : (a1.n == 0) = false := by simpa using h0
   rw [hz, e, cond_false, cond_false, i64_in (n := a1.1 * 2) (by omega), i64_in (n := a1.1 * 2 + a1.2) (by omega), i64_in (by omega)]
   omega
theorem stamp_Put_c2 (a0 : List UInt8) (a1 : TStamp) (hp : ∀ p ∈ stamp_Put_ps2 a0 a1, p) : CallOk Tryd.prog 82 [valA .bytes a0, valA .stamp a1] 0 [] 1 (stamp_Put_r2 a0 a1) 1 (stamp_Put_o2 a0 a1) := by
 have h := stamp_Put_c a0 a1 (needs_cons (hp _ (List.mem_cons_self ..)) needs_nil)
 have ho : stamp_Put_o a0 a1 = stamp_Put_o2 a0 a1 := by unfold stamp_Put_o stamp_Put_o2; rw [stamp_Put_eq]
 rw [ho] at h
 exact h
def stamp_Put_t : List A → Nat → Objs → Option CRes := rowK [.t .bytes, .t .stamp] 1 stamp_Put_r2 stamp_Put_o2 stamp_Put_ps2
theorem stamp_Put_tok : TOk Tryd.prog 82 stamp_Put_t := rowK_ok (ks := [.t .bytes, .t .stamp]) stamp_Put_c2
noncomputable def Cd_3 := addC 82 stamp_Put_t Cd_2
theorem Cd_3_ok : COk Tryd.prog Cd_3 := addC_ok stamp_Put_tok Cd_2_ok
def vec_Put_k0 (a0 : List UInt8) (a1 : TVec) : List UInt8 := a0 ++ putN a1.1
def vec_Put_0 (a0 : List UInt8) (a1 : TVec) : List UInt8 := bif !vec_Good_0 a1 then [] ++ a0 else (vec_Put_k0 a0 a1) ++ putN a1.2
def vec_Put_r (_a0 : List UInt8) (_a1 : TVec) : A := .sq 0
def vec_Put_o (a0 : List UInt8) (a1 : TVec) : Objs := [(0, some (.arr 5 1 (.ty .u8 (vec_Put_0 a0 a1))))]
def vec_Put_ps (a0 : List UInt8) (a1 : TVec) : List Prop := [((!vec_Good_0 a1) = true → boundP ((0 : Nat) + a0.length)), ((!!vec_Good_0 a1) = true → boundP (a0.length + (8 : Nat))), ((!!vec_Good_0 a1) = true → boundP ((vec_Put_k0 a0 a1).length + (8 : Nat)))]
theorem vec_Put_ev (a0 : List UInt8) (a1 : TVec) : evF (envT Cd_3 L0) 9 47 [valA .bytes a0, valA .vec a1] 0 [] = some (1, vec_Put_r a0 a1, 1, vec_Put_o a0 a1, vec_Put_ps a0 a1) := by kernel_rfl
theorem vec_Put_c (a0 : List UInt8) (a1 : TVec) (hp : ∀ p ∈ vec_Put_ps a0 a1, p) : CallOk Tryd.prog 47 [valA .bytes a0, valA .vec a1] 0 [] 1 (vec_Put_r a0 a1) 1 (vec_Put_o a0 a1) := evF_ok (envP_ok Cd_3_ok L0_ok) (vec_Put_ev a0 a1) hp
def vec_Put_r2 (_a0 : List UInt8) (_a1 : TVec) : A := .sq 0
def vec_Put_o2 (a0 : List UInt8) (a1 : TVec) : Objs := [(0, some (.arr 5 1 (.ty .u8 (a0 ++ putV a1))))]
def vec_Put_ps2 (a0 : List UInt8) (_a1 : TVec) : List Prop := [boundP (a0.length + 16)]
theorem vec_Put_eq (a0 : List UInt8) (a1 : TVec) : vec_Put_0 a0 a1 = a0 ++ putV a1 := by
 unfold vec_Put_0 vec_Put_k0 putV
 rw [vec_Good_eq]
 cases goodV a1 with
 | false => exact (List.append_nil a0).symm
 | true => exact List.append_assoc ..
theorem vec_Put_c2 (a0 : List UInt8) (a1 : TVec) (hp : ∀ p ∈ vec_Put_ps2 a0 a1, p) : CallOk Tryd.prog 47 [valA .bytes a0, valA .vec a1] 0 [] 1 (vec_Put_r2 a0 a1) 1 (vec_Put_o2 a0 a1) := by
 have hb : boundP (a0.length + 16) := hp _ (List.mem_cons_self ..)
 have h := vec_Put_c a0 a1 (needs_cons (fun _ => by unfold boundP at *; omega) (needs_cons (fun _ => by unfold boundP at *; omega) (needs_cons (fun _ => by
  have := putN_8 a1.1
  unfold vec_Put_k0 boundP at *
  rw [List.length_append]
  omega) needs_nil)))
 have ho : vec_Put_o a0 a1 = vec_Put_o2 a0 a1 := by unfold vec_Put_o vec_Put_o2; rw [vec_Put_eq]
 rw [ho] at h
 exact h
def vec_Put_t : List A → Nat → Objs → Option CRes := rowK [.t .bytes, .t .vec] 1 vec_Put_r2 vec_Put_o2 vec_Put_ps2
theorem vec_Put_tok : TOk Tryd.prog 47 vec_Put_t := rowK_ok (ks := [.t .bytes, .t .vec]) vec_Put_c2
noncomputable def Cd_4 := addC 47 vec_Put_t Cd_3
theorem Cd_4_ok : COk Tryd.prog Cd_4 := addC_ok vec_Put_tok Cd_3_ok
def num_PutText_k0 (a0 : List UInt8) (a1 : ByteArray) : List UInt8 := a0 ++ putN (↑a1.size : Int)
def num_PutText_0 (a0 : List UInt8) (a1 : ByteArray) : List UInt8 := (num_PutText_k0 a0 a1) ++ a1.data.toList
def num_PutText_r (_a0 : List UInt8) (_a1 : ByteArray) : A := .sq 0
def num_PutText_o (a0 : List UInt8) (a1 : ByteArray) : Objs := [(0, some (.arr 5 1 (.ty .u8 (num_PutText_0 a0 a1))))]
def num_PutText_ps (a0 : List UInt8) (a1 : ByteArray) : List Prop := [(boundP (a0.length + (8 : Nat))), (boundP ((num_PutText_k0 a0 a1).length + a1.data.toList.length))]
theorem num_PutText_ev (a0 : List UInt8) (a1 : ByteArray) : evF (envT Cd_4 L0) 9 83 [valA .bytes a0, valA .str a1] 0 [] = some (1, num_PutText_r a0 a1, 1, num_PutText_o a0 a1, num_PutText_ps a0 a1) := by kernel_rfl
theorem num_PutText_c (a0 : List UInt8) (a1 : ByteArray) (hp : ∀ p ∈ num_PutText_ps a0 a1, p) : CallOk Tryd.prog 83 [valA .bytes a0, valA .str a1] 0 [] 1 (num_PutText_r a0 a1) 1 (num_PutText_o a0 a1) := evF_ok (envP_ok Cd_4_ok L0_ok) (num_PutText_ev a0 a1) hp
def num_PutText_r2 (_a0 : List UInt8) (_a1 : ByteArray) : A := .sq 0
def num_PutText_o2 (a0 : List UInt8) (a1 : ByteArray) : Objs := [(0, some (.arr 5 1 (.ty .u8 (a0 ++ putT a1))))]
def num_PutText_ps2 (a0 : List UInt8) (a1 : ByteArray) : List Prop := [boundP (a0.length + 8 + a1.size)]
theorem num_PutText_c2 (a0 : List UInt8) (a1 : ByteArray) (hp : ∀ p ∈ num_PutText_ps2 a0 a1, p) : CallOk Tryd.prog 83 [valA .bytes a0, valA .str a1] 0 [] 1 (num_PutText_r2 a0 a1) 1 (num_PutText_o2 a0 a1) := by
 have hb : boundP (a0.length + 8 + a1.size) := hp _ (List.mem_cons_self ..)
 have h := num_PutText_c a0 a1 (needs_cons (by unfold boundP at *; omega) (needs_cons (by
  have := putN_8 (a1.size : Int)
  have hs : a1.data.toList.length = a1.size := Array.length_toList
  unfold num_PutText_k0 boundP at *
  rw [List.length_append, hs]
  omega) needs_nil))
 have ho : num_PutText_o a0 a1 = num_PutText_o2 a0 a1 := by unfold num_PutText_o num_PutText_o2 num_PutText_0 num_PutText_k0 putT; rw [List.append_assoc]
 rw [ho] at h
 exact h
def num_PutText_t : List A → Nat → Objs → Option CRes := rowK [.t .bytes, .t .str] 1 num_PutText_r2 num_PutText_o2 num_PutText_ps2
theorem num_PutText_tok : TOk Tryd.prog 83 num_PutText_t := rowK_ok (ks := [.t .bytes, .t .str]) num_PutText_c2
noncomputable def Cd_5 := addC 83 num_PutText_t Cd_4
theorem Cd_5_ok : COk Tryd.prog Cd_5 := addC_ok num_PutText_tok Cd_4_ok
def cell_Put_k4 (_a0 : List UInt8) (_a1 : Int) (a2 : TCell) : Int := bif a2.3 then IntKind.i64.wrap (↑(BitVec.ofInt (64 : Nat) (bif cell_written_0 a2 then (1 : Int) else (0 : Int)) ||| BitVec.ofInt (64 : Nat) (2 : Int)).toNat : Int) else bif cell_written_0 a2 then (1 : Int) else (0 : Int)
def cell_Put_k3 (a0 : List UInt8) (a1 : Int) (a2 : TCell) : List UInt8 := a0 ++ putN (bif !(a2.5.1 == (0 : Int) && a2.5.2 == (0 : Int)) then IntKind.i64.wrap (↑(BitVec.ofInt (64 : Nat) (cell_Put_k4 a0 a1 a2) ||| BitVec.ofInt (64 : Nat) (4 : Int)).toNat : Int) else (cell_Put_k4 a0 a1 a2)) ++ putS a2.1
def cell_Put_k2 (a0 : List UInt8) (a1 : Int) (a2 : TCell) : Bool := decide (IntKind.i64.wrap (↑(BitVec.ofInt (64 : Nat) (bif !(a2.5.1 == (0 : Int) && a2.5.2 == (0 : Int)) then IntKind.i64.wrap (↑(BitVec.ofInt (64 : Nat) (cell_Put_k4 a0 a1 a2) ||| BitVec.ofInt (64 : Nat) (4 : Int)).toNat : Int) else (cell_Put_k4 a0 a1 a2)) &&& BitVec.ofInt (64 : Nat) (1 : Int)).toNat : Int) > (0 : Int))
def cell_Put_k1 (a0 : List UInt8) (a1 : Int) (a2 : TCell) : Bool := decide (IntKind.i64.wrap (↑(BitVec.ofInt (64 : Nat) (bif !(a2.5.1 == (0 : Int) && a2.5.2 == (0 : Int)) then IntKind.i64.wrap (↑(BitVec.ofInt (64 : Nat) (cell_Put_k4 a0 a1 a2) ||| BitVec.ofInt (64 : Nat) (4 : Int)).toNat : Int) else (cell_Put_k4 a0 a1 a2)) &&& BitVec.ofInt (64 : Nat) (4 : Int)).toNat : Int) > (0 : Int))
def cell_Put_k0 (a0 : List UInt8) (a1 : Int) (a2 : TCell) : List UInt8 := bif (cell_Put_k2 a0 a1 a2) then bif !a2.3 then (cell_Put_k3 a0 a1 a2) ++ putV a2.2 ++ putT a2.4 else (cell_Put_k3 a0 a1 a2) ++ putV a2.2 else a0 ++ putN (bif !(a2.5.1 == (0 : Int) && a2.5.2 == (0 : Int)) then IntKind.i64.wrap (↑(BitVec.ofInt (64 : Nat) (cell_Put_k4 a0 a1 a2) ||| BitVec.ofInt (64 : Nat) (4 : Int)).toNat : Int) else (cell_Put_k4 a0 a1 a2))
def cell_Put_0 (a0 : List UInt8) (a1 : Int) (a2 : TCell) : List UInt8 := bif !cell_Good_0 a1 a2 then [] ++ a0 else bif (cell_Put_k1 a0 a1 a2) then (cell_Put_k0 a0 a1 a2) ++ putV (TVec.mk (bif (cell_Put_k2 a0 a1 a2) then bif !a2.3 then a2.5.1 else a2.5.1 else a2.5.1) (bif (cell_Put_k2 a0 a1 a2) then bif !a2.3 then a2.5.2 else a2.5.2 else a2.5.2)) else (cell_Put_k0 a0 a1 a2)
def cell_Put_r (_a0 : List UInt8) (_a1 : Int) (_a2 : TCell) : A := .sq 0
def cell_Put_o (a0 : List UInt8) (a1 : Int) (a2 : TCell) : Objs := [(0, some (.arr 5 1 (.ty .u8 (cell_Put_0 a0 a1 a2))))]
def cell_Put_ps (a0 : List UInt8) (a1 : Int) (a2 : TCell) : List Prop := [((!cell_Good_0 a1 a2) = true → boundP ((0 : Nat) + a0.length)), ((!!cell_Good_0 a1 a2) = true → boundP (a0.length + (8 : Nat))), ((!!cell_Good_0 a1 a2) = true → (cell_Put_k2 a0 a1 a2) = true → boundP ((a0 ++ putN (bif !(a2.5.1 == (0 : Int) && a2.5.2 == (0 : Int)) then IntKind.i64.wrap (↑(BitVec.ofInt (64 : Nat) (cell_Put_k4 a0 a1 a2) ||| BitVec.ofInt (64 : Nat) (4 : Int)).toNat : Int) else (cell_Put_k4 a0 a1 a2))).length + (8 : Nat))), ((!!cell_Good_0 a1 a2) = true → (cell_Put_k2 a0 a1 a2) = true → boundP ((cell_Put_k3 a0 a1 a2).length + (16 : Nat))), ((!!cell_Good_0 a1 a2) = true → (cell_Put_k2 a0 a1 a2) = true → (!a2.3) = true → boundP (((cell_Put_k3 a0 a1 a2) ++ putV a2.2).length + (8 : Nat) + a2.4.size)), ((!!cell_Good_0 a1 a2) = true → (cell_Put_k1 a0 a1 a2) = true → boundP ((cell_Put_k0 a0 a1 a2).length + (16 : Nat)))]
theorem cell_Put_ev (a0 : List UInt8) (a1 : Int) (a2 : TCell) : evF (envT Cd_5 L0) 9 85 [valA .bytes a0, valA .i64 a1, valA .cell a2] 0 [] = some (1, cell_Put_r a0 a1 a2, 1, cell_Put_o a0 a1 a2, cell_Put_ps a0 a1 a2) := by kernel_rfl
theorem cell_Put_c (a0 : List UInt8) (a1 : Int) (a2 : TCell) (hp : ∀ p ∈ cell_Put_ps a0 a1 a2, p) : CallOk Tryd.prog 85 [valA .bytes a0, valA .i64 a1, valA .cell a2] 0 [] 1 (cell_Put_r a0 a1 a2) 1 (cell_Put_o a0 a1 a2) := evF_ok (envP_ok Cd_5_ok L0_ok) (cell_Put_ev a0 a1 a2) hp
def cell_Put_r2 (_a0 : List UInt8) (_a1 : Int) (_a2 : TCell) : A := .sq 0
def cell_Put_o2 (a0 : List UInt8) (a1 : Int) (a2 : TCell) : Objs := [(0, some (.arr 5 1 (.ty .u8 (a0 ++ putC a1 a2))))]
def cell_Put_ps2 (a0 : List UInt8) (_a1 : Int) (_a2 : TCell) : List Prop := [boundP (a0.length + 128)]
theorem cell_Put_n (a0 : List UInt8) (a1 : Int) (c : TCell) : (bif !(c.5.1 == (0 : Int) && c.5.2 == (0 : Int)) then IntKind.i64.wrap (↑(BitVec.ofInt (64 : Nat) (cell_Put_k4 a0 a1 c) ||| BitVec.ofInt (64 : Nat) (4 : Int)).toNat : Int) else (cell_Put_k4 a0 a1 c)) = flagsC c := by
 unfold cell_Put_k4 flagsC
 rw [cell_written_eq]
 show (bif !(zeroV c.dead) then _ else _) = _
 cases written c <;> cases c.gone <;> cases zeroV c.dead <;> rfl
theorem cell_Put_b1 (a0 : List UInt8) (a1 : Int) (c : TCell) : cell_Put_k2 a0 a1 c = written c := by
 unfold cell_Put_k2
 obtain ⟨h1, _, h3, _⟩ := flags_ok c
 rw [cell_Put_n, bit_pos h1 0 1 rfl (by decide)]
 exact h3
theorem cell_Put_b4 (a0 : List UInt8) (a1 : Int) (c : TCell) : cell_Put_k1 a0 a1 c = !zeroV c.dead := by
 unfold cell_Put_k1
 obtain ⟨h1, _, _, _, h5⟩ := flags_ok c
 rw [cell_Put_n, bit_pos h1 2 4 rfl (by decide)]
 exact h5
theorem cell_Put_eq (a0 : List UInt8) (a1 : Int) (c : TCell) : cell_Put_0 a0 a1 c = a0 ++ putC a1 c := by
 unfold cell_Put_0 cell_Put_k0 cell_Put_k3 putC bodyC
 rw [cell_Good_eq, cell_Put_n, cell_Put_b1, cell_Put_b4]
 have hd : ∀ w g : Bool, (TVec.mk (bif w then bif !g then c.5.1 else c.5.1 else c.5.1) (bif w then bif !g then c.5.2 else c.5.2 else c.5.2)) = c.dead := by intro w g; cases w <;> cases g <;> rfl
 rw [hd]
 cases goodC a1 c <;> cases written c <;> cases c.gone <;> cases zeroV c.dead <;> simp
theorem cell_Put_c2 (a0 : List UInt8) (a1 : Int) (a2 : TCell) (hp : ∀ p ∈ cell_Put_ps2 a0 a1 a2, p) : CallOk Tryd.prog 85 [valA .bytes a0, valA .i64 a1, valA .cell a2] 0 [] 1 (cell_Put_r2 a0 a1 a2) 1 (cell_Put_o2 a0 a1 a2) := by
 have hb : boundP (a0.length + 128) := hp _ (List.mem_cons_self ..)
 unfold boundP at hb
 have n8 := putN_8 (flagsC a2)
 have s8 := putS_8 a2.stamp
 have v16 := putV_16 a2.vec
 have t8 := putT_8 a2.value
 have k3 : (cell_Put_k3 a0 a1 a2).length ≤ a0.length + 16 := by
  unfold cell_Put_k3
  rw [cell_Put_n, List.length_append, List.length_append]
  omega
 have sz : (!!cell_Good_0 a1 a2) = true → cell_Put_k2 a0 a1 a2 = true → a2.value.size ≤ 64 := fun h1 h2 => by
  rw [cell_Good_eq, Bool.not_not] at h1
  rw [cell_Put_b1] at h2
  have := ((goodC_iff.1 h1).st h2).2.2.2.1
  omega
 have h := cell_Put_c a0 a1 a2 (needs_cons (fun _ => by unfold boundP; omega) (needs_cons (fun _ => by unfold boundP; omega) (needs_cons (fun _ _ => by rw [cell_Put_n, List.length_append]; unfold boundP; omega) (needs_cons (fun _ _ => by unfold boundP; omega) (needs_cons (fun h1 h2 _ => by
   have := sz h1 h2
   rw [List.length_append]; unfold boundP; omega) (needs_cons (fun h1 _ => by
   have : (cell_Put_k0 a0 a1 a2).length ≤ a0.length + 112 := by
    unfold cell_Put_k0
    rw [cell_Put_n]
    cases hw : cell_Put_k2 a0 a1 a2 with
    | false => rw [cond_false, List.length_append]; omega
    | true =>
     have := sz h1 hw
     rw [cond_true]
     cases a2.3 with
     | true => simp only [Bool.not_true, cond_false, List.length_append]; omega
     | false => simp only [Bool.not_false, cond_true, List.length_append]; omega
   unfold boundP; omega) needs_nil))))))
 have ho : cell_Put_o a0 a1 a2 = cell_Put_o2 a0 a1 a2 := by unfold cell_Put_o cell_Put_o2; rw [cell_Put_eq]
 rw [ho] at h
 exact h
def cell_Put_t : List A → Nat → Objs → Option CRes := rowK [.t .bytes, .t .i64, .t .cell] 1 cell_Put_r2 cell_Put_o2 cell_Put_ps2
theorem cell_Put_tok : TOk Tryd.prog 85 cell_Put_t := rowK_ok (ks := [.t .bytes, .t .i64, .t .cell]) cell_Put_c2
noncomputable def Cd_6 := addC 85 cell_Put_t Cd_5
theorem Cd_6_ok : COk Tryd.prog Cd_6 := addC_ok cell_Put_tok Cd_5_ok
def stamp_Get_k2 (a0 : List UInt8) : Bool := (getN a0).fst == (0 : Int)
def stamp_Get_k1 (a0 : List UInt8) : Bool := (getN a0).snd.snd != (0 : Int)
def stamp_Get_k0 (a0 : List UInt8) : Bool := !stamp_Good_0 (TStamp.mk ((getN a0).fst.fdiv (2 : Int)) (IntKind.i64.wrap (IntKind.i64.wrap (↑(BitVec.ofInt (64 : Nat) (getN a0).fst &&& BitVec.ofInt (64 : Nat) (1 : Int)).toNat : Int) + (1 : Int))))
def stamp_Get_0 (a0 : List UInt8) : TStamp := TStamp.mk (bif (stamp_Get_k1 a0) then (0 : Int) else bif (stamp_Get_k2 a0) then (0 : Int) else bif (stamp_Get_k0 a0) then (0 : Int) else (getN a0).fst.fdiv (2 : Int)) (bif (stamp_Get_k1 a0) then (0 : Int) else bif (stamp_Get_k2 a0) then (0 : Int) else bif (stamp_Get_k0 a0) then (0 : Int) else IntKind.i64.wrap (IntKind.i64.wrap (↑(BitVec.ofInt (64 : Nat) (getN a0).fst &&& BitVec.ofInt (64 : Nat) (1 : Int)).toNat : Int) + (1 : Int)))
def stamp_Get_1 (a0 : List UInt8) : Int := bif (stamp_Get_k1 a0) then (0 : Int) else bif (stamp_Get_k2 a0) then (getN a0).snd.fst else bif (stamp_Get_k0 a0) then (0 : Int) else (getN a0).snd.fst
def stamp_Get_2 (a0 : List UInt8) : Int := bif (stamp_Get_k1 a0) then (getN a0).snd.snd else bif (stamp_Get_k2 a0) then (0 : Int) else bif (stamp_Get_k0 a0) then (11 : Int) else (0 : Int)
def stamp_Get_r (a0 : List UInt8) : A := .v (.tuple ⟨[.agg ⟨[.int .i64 ((stamp_Get_0 a0).n), .int .i64 ((stamp_Get_0 a0).site)]⟩, .int .i64 (stamp_Get_1 a0), .int .i64 (stamp_Get_2 a0)]⟩)
def stamp_Get_o (_a0 : List UInt8) : Objs := []
def stamp_Get_ps (_a0 : List UInt8) : List Prop := []
theorem stamp_Get_ev (a0 : List UInt8) : evF (envT Cd_6 L0) 9 91 [valA .bytes a0] 0 [] = some (1, stamp_Get_r a0, 0, stamp_Get_o a0, stamp_Get_ps a0) := by kernel_rfl
theorem stamp_Get_c (a0 : List UInt8) (hp : ∀ p ∈ stamp_Get_ps a0, p) : CallOk Tryd.prog 91 [valA .bytes a0] 0 [] 1 (stamp_Get_r a0) 0 (stamp_Get_o a0) := evF_ok (envP_ok Cd_6_ok L0_ok) (stamp_Get_ev a0) hp
def stamp_Get_r2 (a0 : List UInt8) : A := .v (.tuple ⟨[.agg ⟨[.int .i64 (getS a0).1.n, .int .i64 (getS a0).1.site]⟩, .int .i64 (getS a0).2.1, .int .i64 (getS a0).2.2]⟩)
def stamp_Get_o2 (_a0 : List UInt8) : Objs := []
def stamp_Get_ps2 (_a0 : List UInt8) : List Prop := []
theorem stamp_Get_eq (b : List UInt8) : (stamp_Get_0 b, stamp_Get_1 b, stamp_Get_2 b) = getS b := by
 obtain ⟨_, _, _, hn0, hn1⟩ := getN_bounds b
 have hok : okN (getN b).1 := ⟨hn0, hn1⟩
 unfold stamp_Get_0 stamp_Get_1 stamp_Get_2 stamp_Get_k0 stamp_Get_k1 stamp_Get_k2 getS decS
 rw [bit_low hok, stamp_Good_eq, Int.fdiv_eq_ediv_of_nonneg _ (by decide)]
 by_cases he : (getN b).2.2 = 0
 ·have e1 : ((getN b).2.2 != (0 : Int)) = false := by rw [he]; rfl
  rw [e1, if_neg (by rw [he]; simp)]
  by_cases hz : (getN b).1 = 0
  ·have e2 : ((getN b).1 == (0 : Int)) = true := by rw [hz]; rfl
   rw [e2, if_pos hz]
   rfl
  ·have e2 : ((getN b).1 == (0 : Int)) = false := by simpa using hz
   rw [e2, if_neg hz]
   cases hg : goodS ⟨(getN b).1 / 2, 1 + (getN b).1 % 2⟩ with
   | true => rfl
   | false => rfl
 ·have e1 : ((getN b).2.2 != (0 : Int)) = true := by simpa using he
  rw [e1, if_pos he]
  rfl
theorem stamp_Get_c2 (a0 : List UInt8) (_hp : ∀ p ∈ stamp_Get_ps2 a0, p) : CallOk Tryd.prog 91 [valA .bytes a0] 0 [] 1 (stamp_Get_r2 a0) 0 (stamp_Get_o2 a0) := by
 have h := stamp_Get_c a0 needs_nil
 have hr : stamp_Get_r a0 = stamp_Get_r2 a0 := by unfold stamp_Get_r stamp_Get_r2; rw [← stamp_Get_eq]
 rw [hr] at h
 exact h
def stamp_Get_t : List A → Nat → Objs → Option CRes := rowK [.t .bytes] 0 stamp_Get_r2 stamp_Get_o2 stamp_Get_ps2
theorem stamp_Get_tok : TOk Tryd.prog 91 stamp_Get_t := rowK_ok (ks := [.t .bytes]) stamp_Get_c2
noncomputable def Cd_7 := addC 91 stamp_Get_t Cd_6
theorem Cd_7_ok : COk Tryd.prog Cd_7 := addC_ok stamp_Get_tok Cd_6_ok
def vec_Get_k5 (a0 : List UInt8) : Bool := (getN (List.take ((↑a0.length : Int).toNat - (0 : Nat)) (List.drop (0 : Nat) a0))).snd.snd != (0 : Int)
def vec_Get_k4 (a0 : List UInt8) : Int := IntKind.i64.wrap ((0 : Int) + (getN (List.take ((↑a0.length : Int).toNat - (0 : Nat)) (List.drop (0 : Nat) a0))).snd.fst)
def vec_Get_k3 (a0 : List UInt8) : Int := bif (vec_Get_k5 a0) then (0 : Int) else (0 : Int)
def vec_Get_k2 (a0 : List UInt8) : Int := (getN (List.take ((↑a0.length : Int).toNat - (vec_Get_k4 a0).toNat) (List.drop (vec_Get_k4 a0).toNat a0))).snd.snd
def vec_Get_k1 (a0 : List UInt8) : Bool := !vec_Good_0 (TVec.mk (getN (List.take ((↑a0.length : Int).toNat - (0 : Nat)) (List.drop (0 : Nat) a0))).fst (getN (List.take ((↑a0.length : Int).toNat - (vec_Get_k4 a0).toNat) (List.drop (vec_Get_k4 a0).toNat a0))).fst)
def vec_Get_k0 (a0 : List UInt8) : Bool := (vec_Get_k5 a0) || (vec_Get_k2 a0) != (0 : Int)
def vec_Get_0 (a0 : List UInt8) : TVec := TVec.mk (bif (vec_Get_k0 a0) then (vec_Get_k3 a0) else bif (vec_Get_k1 a0) then (0 : Int) else (getN (List.take ((↑a0.length : Int).toNat - (0 : Nat)) (List.drop (0 : Nat) a0))).fst) (bif (vec_Get_k0 a0) then (vec_Get_k3 a0) else bif (vec_Get_k1 a0) then (0 : Int) else (getN (List.take ((↑a0.length : Int).toNat - (vec_Get_k4 a0).toNat) (List.drop (vec_Get_k4 a0).toNat a0))).fst)
def vec_Get_1 (a0 : List UInt8) : Int := bif (vec_Get_k0 a0) then (vec_Get_k3 a0) else bif (vec_Get_k1 a0) then (0 : Int) else IntKind.i64.wrap ((vec_Get_k4 a0) + (getN (List.take ((↑a0.length : Int).toNat - (vec_Get_k4 a0).toNat) (List.drop (vec_Get_k4 a0).toNat a0))).snd.fst)
def vec_Get_2 (a0 : List UInt8) : Int := bif (vec_Get_k0 a0) then bif (vec_Get_k5 a0) then (getN (List.take ((↑a0.length : Int).toNat - (0 : Nat)) (List.drop (0 : Nat) a0))).snd.snd else (vec_Get_k2 a0) else bif (vec_Get_k1 a0) then (11 : Int) else (0 : Int)
def vec_Get_r (a0 : List UInt8) : A := .v (.tuple ⟨[.agg ⟨[.int .i64 ((vec_Get_0 a0).a), .int .i64 ((vec_Get_0 a0).b)]⟩, .int .i64 (vec_Get_1 a0), .int .i64 (vec_Get_2 a0)]⟩)
def vec_Get_o (_a0 : List UInt8) : Objs := []
def vec_Get_ps (a0 : List UInt8) : List Prop := [((!(vec_Get_k5 a0)) = true → (0 : Int) ≤ (vec_Get_k4 a0) ∧ (vec_Get_k4 a0) ≤ (↑a0.length : Int) ∧ (↑a0.length : Int) ≤ (↑a0.length : Int))]
theorem vec_Get_ev (a0 : List UInt8) : evF (envT Cd_7 L0) 9 93 [valA .bytes a0] 0 [] = some (1, vec_Get_r a0, 0, vec_Get_o a0, [((0 : Int) ≤ (0 : Int) ∧ (0 : Int) ≤ (↑a0.length : Int) ∧ (↑a0.length : Int) ≤ (↑a0.length : Int)), ((!(vec_Get_k5 a0)) = true → (0 : Int) ≤ (0 : Int) ∧ (0 : Int) < (2 : Int)), ((!(vec_Get_k5 a0)) = true → (0 : Nat) < (2 : Nat)), ((!(vec_Get_k5 a0)) = true → (0 : Int) ≤ (vec_Get_k4 a0) ∧ (vec_Get_k4 a0) ≤ (↑a0.length : Int) ∧ (↑a0.length : Int) ≤ (↑a0.length : Int)), ((!(vec_Get_k5 a0)) = true → (!(vec_Get_k2 a0) != (0 : Int)) = true → (0 : Int) ≤ (1 : Int) ∧ (1 : Int) < (2 : Int)), ((!(vec_Get_k5 a0)) = true → (!(vec_Get_k2 a0) != (0 : Int)) = true → (1 : Nat) < (2 : Nat))]) := by kernel_rfl
theorem vec_Get_c (a0 : List UInt8) (hp : ∀ p ∈ vec_Get_ps a0, p) : CallOk Tryd.prog 93 [valA .bytes a0] 0 [] 1 (vec_Get_r a0) 0 (vec_Get_o a0) := by
 have n0 : ((0 : Int) ≤ (0 : Int) ∧ (0 : Int) ≤ (↑a0.length : Int) ∧ (↑a0.length : Int) ≤ (↑a0.length : Int)) := by omega
 have n1 : ((!(vec_Get_k5 a0)) = true → (0 : Int) ≤ (0 : Int) ∧ (0 : Int) < (2 : Int)) := by omega
 have n2 : ((!(vec_Get_k5 a0)) = true → (0 : Nat) < (2 : Nat)) := by omega
 have n3 := N0 hp
 have n4 : ((!(vec_Get_k5 a0)) = true → (!(vec_Get_k2 a0) != (0 : Int)) = true → (0 : Int) ≤ (1 : Int) ∧ (1 : Int) < (2 : Int)) := by omega
 have n5 : ((!(vec_Get_k5 a0)) = true → (!(vec_Get_k2 a0) != (0 : Int)) = true → (1 : Nat) < (2 : Nat)) := by omega
 exact evF_ok (envP_ok Cd_7_ok L0_ok) (vec_Get_ev a0) (needs_cons n0 (needs_cons n1 (needs_cons n2 (needs_cons n3 (needs_cons n4 (needs_cons n5 needs_nil))))))
def vec_Get_r2 (a0 : List UInt8) : A := .v (.tuple ⟨[.agg ⟨[.int .i64 (getV a0).1.a, .int .i64 (getV a0).1.b]⟩, .int .i64 (getV a0).2.1, .int .i64 (getV a0).2.2]⟩)
def vec_Get_o2 (_a0 : List UInt8) : Objs := []
def vec_Get_ps2 (_a0 : List UInt8) : List Prop := []
theorem slice_all {b : List UInt8} {k : Int} : List.take (((b.length : Nat) : Int).toNat - k.toNat) (List.drop k.toNat b) = b.drop k.toNat := by
 rw [Int.toNat_natCast]
 exact List.take_of_length_le (by rw [List.length_drop]; exact Nat.le_refl _)
theorem vec_Get_eq (b : List UInt8) : (∀ p ∈ vec_Get_ps b, p) ∧ (vec_Get_0 b, vec_Get_1 b, vec_Get_2 b) = getV b := by
 obtain ⟨hk0, hk1, hk2, hn0, hn1⟩ := getN_bounds b
 have e0 : List.take (((b.length : Nat) : Int).toNat - (0 : Nat)) (List.drop (0 : Nat) b) = b := by
  simp
 have k4 : vec_Get_k4 b = (getN b).2.1 := by
  unfold vec_Get_k4
  rw [e0, i64_in (by omega)]
  omega
 refine ⟨needs_cons (fun _ => ?_) needs_nil, ?_⟩
 ·rw [k4]; omega
 ·unfold vec_Get_0 vec_Get_1 vec_Get_2 vec_Get_k0 vec_Get_k1 vec_Get_k2 vec_Get_k3 vec_Get_k5 getV
  rw [k4, e0, slice_all, vec_Good_eq]
  obtain ⟨hj0, hj1, hj2, hm0, hm1⟩ := getN_bounds (b.drop (getN b).2.1.toNat)
  rw [i64_in (n := (getN b).2.1 + _) (by omega)]
  by_cases he : (getN b).2.2 = 0
  ·have e1 : ((getN b).2.2 != (0 : Int)) = false := by rw [he]; rfl
   rw [e1, if_neg (by rw [he]; simp)]
   by_cases he2 : (getN (b.drop (getN b).2.1.toNat)).2.2 = 0
   ·have e2 : ((getN (b.drop (getN b).2.1.toNat)).2.2 != (0 : Int)) = false := by rw [he2]; rfl
    rw [e2, if_neg (by rw [he2]; simp)]
    cases hg : goodV ⟨(getN b).1, (getN (b.drop (getN b).2.1.toNat)).1⟩ with
    | true => rfl
    | false => rfl
   ·have e2 : ((getN (b.drop (getN b).2.1.toNat)).2.2 != (0 : Int)) = true := by simpa using he2
    rw [e2, if_pos he2]
    rfl
  ·have e1 : ((getN b).2.2 != (0 : Int)) = true := by simpa using he
   rw [e1, if_pos he]
   rfl
theorem vec_Get_c2 (a0 : List UInt8) (_hp : ∀ p ∈ vec_Get_ps2 a0, p) : CallOk Tryd.prog 93 [valA .bytes a0] 0 [] 1 (vec_Get_r2 a0) 0 (vec_Get_o2 a0) := by
 obtain ⟨h1, h2⟩ := vec_Get_eq a0
 have h := vec_Get_c a0 h1
 have hr : vec_Get_r a0 = vec_Get_r2 a0 := by unfold vec_Get_r vec_Get_r2; rw [← h2]
 rw [hr] at h
 exact h
def vec_Get_t : List A → Nat → Objs → Option CRes := rowK [.t .bytes] 0 vec_Get_r2 vec_Get_o2 vec_Get_ps2
theorem vec_Get_tok : TOk Tryd.prog 93 vec_Get_t := rowK_ok (ks := [.t .bytes]) vec_Get_c2
noncomputable def Cd_8 := addC 93 vec_Get_t Cd_7
theorem Cd_8_ok : COk Tryd.prog Cd_8 := addC_ok vec_Get_tok Cd_7_ok
def num_GetText_k3 (a0 : List UInt8) (_a1 : Int) : Bool := (getN a0).snd.snd != (0 : Int)
def num_GetText_k2 (a0 : List UInt8) (_a1 : Int) : Int := IntKind.i64.wrap ((getN a0).snd.fst + (getN a0).fst)
def num_GetText_k1 (a0 : List UInt8) (a1 : Int) : Bool := decide ((getN a0).fst > a1)
def num_GetText_k0 (a0 : List UInt8) (a1 : Int) : Bool := (num_GetText_k3 a0 a1) || ((num_GetText_k1 a0 a1) || decide (IntKind.i64.wrap ((↑a0.length : Int) - (getN a0).snd.fst) < (getN a0).fst))
def num_GetText_0 (a0 : List UInt8) (a1 : Int) : ByteArray := bif (num_GetText_k0 a0 a1) then bif (num_GetText_k3 a0 a1) then ByteArray.mk #[] else bif (num_GetText_k1 a0 a1) then ByteArray.mk #[] else ByteArray.mk #[] else ByteArray.mk (List.take ((num_GetText_k2 a0 a1).toNat - (getN a0).snd.fst.toNat) (List.drop (getN a0).snd.fst.toNat a0)).toArray
def num_GetText_1 (a0 : List UInt8) (a1 : Int) : Int := bif (num_GetText_k0 a0 a1) then bif (num_GetText_k3 a0 a1) then (0 : Int) else bif (num_GetText_k1 a0 a1) then (0 : Int) else (0 : Int) else (num_GetText_k2 a0 a1)
def num_GetText_2 (a0 : List UInt8) (a1 : Int) : Int := bif (num_GetText_k0 a0 a1) then bif (num_GetText_k3 a0 a1) then (getN a0).snd.snd else bif (num_GetText_k1 a0 a1) then (3 : Int) else (10 : Int) else (0 : Int)
def num_GetText_r (a0 : List UInt8) (a1 : Int) : A := .v (.tuple ⟨[.string (num_GetText_0 a0 a1), .int .i64 (num_GetText_1 a0 a1), .int .i64 (num_GetText_2 a0 a1)]⟩)
def num_GetText_o (_a0 : List UInt8) (_a1 : Int) : Objs := []
def num_GetText_ps (a0 : List UInt8) (a1 : Int) : List Prop := [((!(num_GetText_k0 a0 a1)) = true → (0 : Int) ≤ (getN a0).snd.fst ∧ (getN a0).snd.fst ≤ (num_GetText_k2 a0 a1) ∧ (num_GetText_k2 a0 a1) ≤ (↑a0.length : Int))]
theorem num_GetText_ev (a0 : List UInt8) (a1 : Int) : evF (envT Cd_8 L0) 9 119 [valA .bytes a0, valA .i64 a1] 0 [] = some (1, num_GetText_r a0 a1, 0, num_GetText_o a0 a1, num_GetText_ps a0 a1) := by kernel_rfl
theorem num_GetText_c (a0 : List UInt8) (a1 : Int) (hp : ∀ p ∈ num_GetText_ps a0 a1, p) : CallOk Tryd.prog 119 [valA .bytes a0, valA .i64 a1] 0 [] 1 (num_GetText_r a0 a1) 0 (num_GetText_o a0 a1) := evF_ok (envP_ok Cd_8_ok L0_ok) (num_GetText_ev a0 a1) hp
def num_GetText_r2 (a0 : List UInt8) (a1 : Int) : A := .v (.tuple ⟨[.string (getT a0 a1).1, .int .i64 (getT a0 a1).2.1, .int .i64 (getT a0 a1).2.2]⟩)
def num_GetText_o2 (_a0 : List UInt8) (_a1 : Int) : Objs := []
def num_GetText_ps2 (a0 : List UInt8) (_a1 : Int) : List Prop := [boundP a0.length]
theorem num_GetText_eq (b : List UInt8) (m : Int) (hb : boundP b.length) : (∀ p ∈ num_GetText_ps b m, p) ∧ (num_GetText_0 b m, num_GetText_1 b m, num_GetText_2 b m) = getT b m := by
 obtain ⟨hk0, hk1, hk2, hn0, hn1⟩ := getN_bounds b
 unfold boundP at hb
 have k2 : num_GetText_k2 b m = (getN b).2.1 + (getN b).1 := by
  unfold num_GetText_k2
  exact i64_in (by omega)
 have k0 : num_GetText_k0 b m = ((getN b).2.2 != 0 || (decide ((getN b).1 > m) || decide ((b.length : Int) - (getN b).2.1 < (getN b).1))) := by
  unfold num_GetText_k0 num_GetText_k1 num_GetText_k3
  rw [i64_in (by omega)]
 refine ⟨needs_cons (fun h => ?_) needs_nil, ?_⟩
 ·rw [k0] at h
  rw [k2]
  simp only [Bool.not_eq_true', Bool.or_eq_false_iff, decide_eq_false_iff_not] at h
  omega
 ·unfold num_GetText_0 num_GetText_1 num_GetText_2 num_GetText_k1 num_GetText_k3 getT
  rw [k0, k2]
  by_cases he : (getN b).2.2 = 0
  ·have e1 : ((getN b).2.2 != (0 : Int)) = false := by rw [he]; rfl
   rw [e1, if_neg (by rw [he]; simp)]
   by_cases hm : (getN b).1 > m
   ·rw [decide_eq_true hm, if_pos hm]; rfl
   ·rw [decide_eq_false hm, if_neg hm]
    by_cases hc : (b.length : Int) - (getN b).2.1 < (getN b).1
    ·rw [decide_eq_true hc, if_pos hc]; rfl
    ·rw [decide_eq_false hc, if_neg hc]
     have e3 : ((getN b).2.1 + (getN b).1).toNat - (getN b).2.1.toNat = (getN b).1.toNat := by omega
     rw [e3]
     rfl
  ·have e1 : ((getN b).2.2 != (0 : Int)) = true := by simpa using he
   rw [e1, if_pos he]
   rfl
theorem num_GetText_c2 (a0 : List UInt8) (a1 : Int) (hp : ∀ p ∈ num_GetText_ps2 a0 a1, p) : CallOk Tryd.prog 119 [valA .bytes a0, valA .i64 a1] 0 [] 1 (num_GetText_r2 a0 a1) 0 (num_GetText_o2 a0 a1) := by
 obtain ⟨h1, h2⟩ := num_GetText_eq a0 a1 (hp _ (List.mem_cons_self ..))
 have h := num_GetText_c a0 a1 h1
 have hr : num_GetText_r a0 a1 = num_GetText_r2 a0 a1 := by unfold num_GetText_r num_GetText_r2; rw [← h2]
 rw [hr] at h
 exact h
def num_GetText_t : List A → Nat → Objs → Option CRes := rowK [.t .bytes, .t .i64] 0 num_GetText_r2 num_GetText_o2 num_GetText_ps2
theorem num_GetText_tok : TOk Tryd.prog 119 num_GetText_t := rowK_ok (ks := [.t .bytes, .t .i64]) num_GetText_c2
noncomputable def Cd_9 := addC 119 num_GetText_t Cd_8
theorem Cd_9_ok : COk Tryd.prog Cd_9 := addC_ok num_GetText_tok Cd_8_ok
noncomputable def Cd_10 := addC 131 (inl (envT Cd_9 L0) 9 131) Cd_9
theorem Cd_10_ok : COk Tryd.prog Cd_10 := addC_ok (inl_ok (envP_ok Cd_9_ok L0_ok) 9 131) Cd_9_ok
def cell_Get_k12 (a0 : List UInt8) (_a1 : Int) : Int := IntKind.i64.wrap ((0 : Int) + (getN a0).snd.fst)
def cell_Get_k11 (a0 : List UInt8) (a1 : Int) : Int := IntKind.i64.wrap ((cell_Get_k12 a0 a1) + (getS (List.take ((↑a0.length : Int).toNat - (cell_Get_k12 a0 a1).toNat) (List.drop (cell_Get_k12 a0 a1).toNat a0))).snd.fst)
def cell_Get_k10 (a0 : List UInt8) (a1 : Int) : Int := bif (getN a0).snd.snd == (0 : Int) && decide (IntKind.i64.wrap (↑(BitVec.ofInt (64 : Nat) (getN a0).fst &&& BitVec.ofInt (64 : Nat) (1 : Int)).toNat : Int) > (0 : Int)) then bif !decide (IntKind.i64.wrap (↑(BitVec.ofInt (64 : Nat) (getN a0).fst &&& BitVec.ofInt (64 : Nat) (2 : Int)).toNat : Int) > (0 : Int)) then (getV (List.take ((↑a0.length : Int).toNat - (cell_Get_k11 a0 a1).toNat) (List.drop (cell_Get_k11 a0 a1).toNat a0))).fst.2 else (getV (List.take ((↑a0.length : Int).toNat - (cell_Get_k11 a0 a1).toNat) (List.drop (cell_Get_k11 a0 a1).toNat a0))).fst.2 else (0 : Int)
def cell_Get_k9 (a0 : List UInt8) (a1 : Int) : Int := bif (getN a0).snd.snd == (0 : Int) && decide (IntKind.i64.wrap (↑(BitVec.ofInt (64 : Nat) (getN a0).fst &&& BitVec.ofInt (64 : Nat) (1 : Int)).toNat : Int) > (0 : Int)) then bif !decide (IntKind.i64.wrap (↑(BitVec.ofInt (64 : Nat) (getN a0).fst &&& BitVec.ofInt (64 : Nat) (2 : Int)).toNat : Int) > (0 : Int)) then (getV (List.take ((↑a0.length : Int).toNat - (cell_Get_k11 a0 a1).toNat) (List.drop (cell_Get_k11 a0 a1).toNat a0))).fst.1 else (getV (List.take ((↑a0.length : Int).toNat - (cell_Get_k11 a0 a1).toNat) (List.drop (cell_Get_k11 a0 a1).toNat a0))).fst.1 else (0 : Int)
def cell_Get_k8 (a0 : List UInt8) (a1 : Int) : Int := bif (getN a0).snd.snd == (0 : Int) && decide (IntKind.i64.wrap (↑(BitVec.ofInt (64 : Nat) (getN a0).fst &&& BitVec.ofInt (64 : Nat) (1 : Int)).toNat : Int) > (0 : Int)) then bif !decide (IntKind.i64.wrap (↑(BitVec.ofInt (64 : Nat) (getN a0).fst &&& BitVec.ofInt (64 : Nat) (2 : Int)).toNat : Int) > (0 : Int)) then (getS (List.take ((↑a0.length : Int).toNat - (cell_Get_k12 a0 a1).toNat) (List.drop (cell_Get_k12 a0 a1).toNat a0))).fst.2 else (getS (List.take ((↑a0.length : Int).toNat - (cell_Get_k12 a0 a1).toNat) (List.drop (cell_Get_k12 a0 a1).toNat a0))).fst.2 else (0 : Int)
def cell_Get_k7 (a0 : List UInt8) (a1 : Int) : Int := bif (getN a0).snd.snd == (0 : Int) && decide (IntKind.i64.wrap (↑(BitVec.ofInt (64 : Nat) (getN a0).fst &&& BitVec.ofInt (64 : Nat) (1 : Int)).toNat : Int) > (0 : Int)) then bif !decide (IntKind.i64.wrap (↑(BitVec.ofInt (64 : Nat) (getN a0).fst &&& BitVec.ofInt (64 : Nat) (2 : Int)).toNat : Int) > (0 : Int)) then (getS (List.take ((↑a0.length : Int).toNat - (cell_Get_k12 a0 a1).toNat) (List.drop (cell_Get_k12 a0 a1).toNat a0))).fst.1 else (getS (List.take ((↑a0.length : Int).toNat - (cell_Get_k12 a0 a1).toNat) (List.drop (cell_Get_k12 a0 a1).toNat a0))).fst.1 else (0 : Int)
def cell_Get_k6 (a0 : List UInt8) (_a1 : Int) : Int := bif (getN a0).snd.snd == (0 : Int) && decide (IntKind.i64.wrap (↑(BitVec.ofInt (64 : Nat) (getN a0).fst &&& BitVec.ofInt (64 : Nat) (1 : Int)).toNat : Int) > (0 : Int)) then bif !decide (IntKind.i64.wrap (↑(BitVec.ofInt (64 : Nat) (getN a0).fst &&& BitVec.ofInt (64 : Nat) (2 : Int)).toNat : Int) > (0 : Int)) then (0 : Int) else (0 : Int) else (0 : Int)
def cell_Get_k5 (a0 : List UInt8) (a1 : Int) : Int := IntKind.i64.wrap ((cell_Get_k11 a0 a1) + (getV (List.take ((↑a0.length : Int).toNat - (cell_Get_k11 a0 a1).toNat) (List.drop (cell_Get_k11 a0 a1).toNat a0))).snd.fst)
def cell_Get_k4 (a0 : List UInt8) (_a1 : Int) : Bool := bif (getN a0).snd.snd == (0 : Int) && decide (IntKind.i64.wrap (↑(BitVec.ofInt (64 : Nat) (getN a0).fst &&& BitVec.ofInt (64 : Nat) (1 : Int)).toNat : Int) > (0 : Int)) then bif !decide (IntKind.i64.wrap (↑(BitVec.ofInt (64 : Nat) (getN a0).fst &&& BitVec.ofInt (64 : Nat) (2 : Int)).toNat : Int) > (0 : Int)) then decide (IntKind.i64.wrap (↑(BitVec.ofInt (64 : Nat) (getN a0).fst &&& BitVec.ofInt (64 : Nat) (2 : Int)).toNat : Int) > (0 : Int)) else decide (IntKind.i64.wrap (↑(BitVec.ofInt (64 : Nat) (getN a0).fst &&& BitVec.ofInt (64 : Nat) (2 : Int)).toNat : Int) > (0 : Int)) else false
def cell_Get_k3 (a0 : List UInt8) (a1 : Int) : ByteArray := bif (getN a0).snd.snd == (0 : Int) && decide (IntKind.i64.wrap (↑(BitVec.ofInt (64 : Nat) (getN a0).fst &&& BitVec.ofInt (64 : Nat) (1 : Int)).toNat : Int) > (0 : Int)) then bif !decide (IntKind.i64.wrap (↑(BitVec.ofInt (64 : Nat) (getN a0).fst &&& BitVec.ofInt (64 : Nat) (2 : Int)).toNat : Int) > (0 : Int)) then (getT (List.take ((↑a0.length : Int).toNat - (cell_Get_k5 a0 a1).toNat) (List.drop (cell_Get_k5 a0 a1).toNat a0)) (64 : Int)).fst else ByteArray.mk #[] else ByteArray.mk #[]
def cell_Get_k2 (a0 : List UInt8) (a1 : Int) : Int := bif (getN a0).snd.snd == (0 : Int) && decide (IntKind.i64.wrap (↑(BitVec.ofInt (64 : Nat) (getN a0).fst &&& BitVec.ofInt (64 : Nat) (1 : Int)).toNat : Int) > (0 : Int)) then bif !decide (IntKind.i64.wrap (↑(BitVec.ofInt (64 : Nat) (getN a0).fst &&& BitVec.ofInt (64 : Nat) (2 : Int)).toNat : Int) > (0 : Int)) then IntKind.i64.wrap ((cell_Get_k5 a0 a1) + (getT (List.take ((↑a0.length : Int).toNat - (cell_Get_k5 a0 a1).toNat) (List.drop (cell_Get_k5 a0 a1).toNat a0)) (64 : Int)).snd.fst) else (cell_Get_k5 a0 a1) else (cell_Get_k12 a0 a1)
def cell_Get_k1 (a0 : List UInt8) (a1 : Int) : Bool := (bif (getN a0).snd.snd == (0 : Int) && decide (IntKind.i64.wrap (↑(BitVec.ofInt (64 : Nat) (getN a0).fst &&& BitVec.ofInt (64 : Nat) (1 : Int)).toNat : Int) > (0 : Int)) then bif !decide (IntKind.i64.wrap (↑(BitVec.ofInt (64 : Nat) (getN a0).fst &&& BitVec.ofInt (64 : Nat) (2 : Int)).toNat : Int) > (0 : Int)) then (getN a0).snd.snd == (0 : Int) && (getS (List.take ((↑a0.length : Int).toNat - (cell_Get_k12 a0 a1).toNat) (List.drop (cell_Get_k12 a0 a1).toNat a0))).snd.snd == (0 : Int) && (getV (List.take ((↑a0.length : Int).toNat - (cell_Get_k11 a0 a1).toNat) (List.drop (cell_Get_k11 a0 a1).toNat a0))).snd.snd == (0 : Int) && (getT (List.take ((↑a0.length : Int).toNat - (cell_Get_k5 a0 a1).toNat) (List.drop (cell_Get_k5 a0 a1).toNat a0)) (64 : Int)).snd.snd == (0 : Int) else (getN a0).snd.snd == (0 : Int) && (getS (List.take ((↑a0.length : Int).toNat - (cell_Get_k12 a0 a1).toNat) (List.drop (cell_Get_k12 a0 a1).toNat a0))).snd.snd == (0 : Int) && (getV (List.take ((↑a0.length : Int).toNat - (cell_Get_k11 a0 a1).toNat) (List.drop (cell_Get_k11 a0 a1).toNat a0))).snd.snd == (0 : Int) else (getN a0).snd.snd == (0 : Int)) && decide (IntKind.i64.wrap (↑(BitVec.ofInt (64 : Nat) (getN a0).fst &&& BitVec.ofInt (64 : Nat) (4 : Int)).toNat : Int) > (0 : Int))
def cell_Get_k0 (a0 : List UInt8) (a1 : Int) : Bool := (!bif (cell_Get_k1 a0 a1) then (bif (getN a0).snd.snd == (0 : Int) && decide (IntKind.i64.wrap (↑(BitVec.ofInt (64 : Nat) (getN a0).fst &&& BitVec.ofInt (64 : Nat) (1 : Int)).toNat : Int) > (0 : Int)) then bif !decide (IntKind.i64.wrap (↑(BitVec.ofInt (64 : Nat) (getN a0).fst &&& BitVec.ofInt (64 : Nat) (2 : Int)).toNat : Int) > (0 : Int)) then (getN a0).snd.snd == (0 : Int) && (getS (List.take ((↑a0.length : Int).toNat - (cell_Get_k12 a0 a1).toNat) (List.drop (cell_Get_k12 a0 a1).toNat a0))).snd.snd == (0 : Int) && (getV (List.take ((↑a0.length : Int).toNat - (cell_Get_k11 a0 a1).toNat) (List.drop (cell_Get_k11 a0 a1).toNat a0))).snd.snd == (0 : Int) && (getT (List.take ((↑a0.length : Int).toNat - (cell_Get_k5 a0 a1).toNat) (List.drop (cell_Get_k5 a0 a1).toNat a0)) (64 : Int)).snd.snd == (0 : Int) else (getN a0).snd.snd == (0 : Int) && (getS (List.take ((↑a0.length : Int).toNat - (cell_Get_k12 a0 a1).toNat) (List.drop (cell_Get_k12 a0 a1).toNat a0))).snd.snd == (0 : Int) && (getV (List.take ((↑a0.length : Int).toNat - (cell_Get_k11 a0 a1).toNat) (List.drop (cell_Get_k11 a0 a1).toNat a0))).snd.snd == (0 : Int) else (getN a0).snd.snd == (0 : Int)) && (getV (List.take ((↑a0.length : Int).toNat - (cell_Get_k2 a0 a1).toNat) (List.drop (cell_Get_k2 a0 a1).toNat a0))).snd.snd == (0 : Int) else bif (getN a0).snd.snd == (0 : Int) && decide (IntKind.i64.wrap (↑(BitVec.ofInt (64 : Nat) (getN a0).fst &&& BitVec.ofInt (64 : Nat) (1 : Int)).toNat : Int) > (0 : Int)) then bif !decide (IntKind.i64.wrap (↑(BitVec.ofInt (64 : Nat) (getN a0).fst &&& BitVec.ofInt (64 : Nat) (2 : Int)).toNat : Int) > (0 : Int)) then (getN a0).snd.snd == (0 : Int) && (getS (List.take ((↑a0.length : Int).toNat - (cell_Get_k12 a0 a1).toNat) (List.drop (cell_Get_k12 a0 a1).toNat a0))).snd.snd == (0 : Int) && (getV (List.take ((↑a0.length : Int).toNat - (cell_Get_k11 a0 a1).toNat) (List.drop (cell_Get_k11 a0 a1).toNat a0))).snd.snd == (0 : Int) && (getT (List.take ((↑a0.length : Int).toNat - (cell_Get_k5 a0 a1).toNat) (List.drop (cell_Get_k5 a0 a1).toNat a0)) (64 : Int)).snd.snd == (0 : Int) else (getN a0).snd.snd == (0 : Int) && (getS (List.take ((↑a0.length : Int).toNat - (cell_Get_k12 a0 a1).toNat) (List.drop (cell_Get_k12 a0 a1).toNat a0))).snd.snd == (0 : Int) && (getV (List.take ((↑a0.length : Int).toNat - (cell_Get_k11 a0 a1).toNat) (List.drop (cell_Get_k11 a0 a1).toNat a0))).snd.snd == (0 : Int) else (getN a0).snd.snd == (0 : Int)) || !((decide ((getN a0).fst ≤ (7 : Int)) && decide (IntKind.i64.wrap (↑(BitVec.ofInt (64 : Nat) (getN a0).fst &&& BitVec.ofInt (64 : Nat) (1 : Int)).toNat : Int) > (0 : Int)) == cell_written_0 (TCell.mk (TStamp.mk (bif (cell_Get_k1 a0 a1) then (cell_Get_k7 a0 a1) else (cell_Get_k7 a0 a1)) (bif (cell_Get_k1 a0 a1) then (cell_Get_k8 a0 a1) else (cell_Get_k8 a0 a1))) (TVec.mk (bif (cell_Get_k1 a0 a1) then (cell_Get_k9 a0 a1) else (cell_Get_k9 a0 a1)) (bif (cell_Get_k1 a0 a1) then (cell_Get_k10 a0 a1) else (cell_Get_k10 a0 a1))) (bif (cell_Get_k1 a0 a1) then (cell_Get_k4 a0 a1) else (cell_Get_k4 a0 a1)) (bif (cell_Get_k1 a0 a1) then (cell_Get_k3 a0 a1) else (cell_Get_k3 a0 a1)) (TVec.mk (bif (cell_Get_k1 a0 a1) then (getV (List.take ((↑a0.length : Int).toNat - (cell_Get_k2 a0 a1).toNat) (List.drop (cell_Get_k2 a0 a1).toNat a0))).fst.1 else (cell_Get_k6 a0 a1)) (bif (cell_Get_k1 a0 a1) then (getV (List.take ((↑a0.length : Int).toNat - (cell_Get_k2 a0 a1).toNat) (List.drop (cell_Get_k2 a0 a1).toNat a0))).fst.2 else (cell_Get_k6 a0 a1)))) && decide (IntKind.i64.wrap (↑(BitVec.ofInt (64 : Nat) (getN a0).fst &&& BitVec.ofInt (64 : Nat) (2 : Int)).toNat : Int) > (0 : Int)) == bif (cell_Get_k1 a0 a1) then (cell_Get_k4 a0 a1) else (cell_Get_k4 a0 a1)) && decide (IntKind.i64.wrap (↑(BitVec.ofInt (64 : Nat) (getN a0).fst &&& BitVec.ofInt (64 : Nat) (4 : Int)).toNat : Int) > (0 : Int)) == !((bif (cell_Get_k1 a0 a1) then (getV (List.take ((↑a0.length : Int).toNat - (cell_Get_k2 a0 a1).toNat) (List.drop (cell_Get_k2 a0 a1).toNat a0))).fst.1 else (cell_Get_k6 a0 a1)) == (0 : Int) && (bif (cell_Get_k1 a0 a1) then (getV (List.take ((↑a0.length : Int).toNat - (cell_Get_k2 a0 a1).toNat) (List.drop (cell_Get_k2 a0 a1).toNat a0))).fst.2 else (cell_Get_k6 a0 a1)) == (0 : Int))) || !cell_Good_0 a1 (TCell.mk (TStamp.mk (bif (cell_Get_k1 a0 a1) then (cell_Get_k7 a0 a1) else (cell_Get_k7 a0 a1)) (bif (cell_Get_k1 a0 a1) then (cell_Get_k8 a0 a1) else (cell_Get_k8 a0 a1))) (TVec.mk (bif (cell_Get_k1 a0 a1) then (cell_Get_k9 a0 a1) else (cell_Get_k9 a0 a1)) (bif (cell_Get_k1 a0 a1) then (cell_Get_k10 a0 a1) else (cell_Get_k10 a0 a1))) (bif (cell_Get_k1 a0 a1) then (cell_Get_k4 a0 a1) else (cell_Get_k4 a0 a1)) (bif (cell_Get_k1 a0 a1) then (cell_Get_k3 a0 a1) else (cell_Get_k3 a0 a1)) (TVec.mk (bif (cell_Get_k1 a0 a1) then (getV (List.take ((↑a0.length : Int).toNat - (cell_Get_k2 a0 a1).toNat) (List.drop (cell_Get_k2 a0 a1).toNat a0))).fst.1 else (cell_Get_k6 a0 a1)) (bif (cell_Get_k1 a0 a1) then (getV (List.take ((↑a0.length : Int).toNat - (cell_Get_k2 a0 a1).toNat) (List.drop (cell_Get_k2 a0 a1).toNat a0))).fst.2 else (cell_Get_k6 a0 a1))))
def cell_Get_0 (a0 : List UInt8) (a1 : Int) : TCell := TCell.mk (TStamp.mk (bif (cell_Get_k0 a0 a1) then (0 : Int) else bif (cell_Get_k1 a0 a1) then (cell_Get_k7 a0 a1) else (cell_Get_k7 a0 a1)) (bif (cell_Get_k0 a0 a1) then (0 : Int) else bif (cell_Get_k1 a0 a1) then (cell_Get_k8 a0 a1) else (cell_Get_k8 a0 a1))) (TVec.mk (bif (cell_Get_k0 a0 a1) then (0 : Int) else bif (cell_Get_k1 a0 a1) then (cell_Get_k9 a0 a1) else (cell_Get_k9 a0 a1)) (bif (cell_Get_k0 a0 a1) then (0 : Int) else bif (cell_Get_k1 a0 a1) then (cell_Get_k10 a0 a1) else (cell_Get_k10 a0 a1))) (bif (cell_Get_k0 a0 a1) then false else bif (cell_Get_k1 a0 a1) then (cell_Get_k4 a0 a1) else (cell_Get_k4 a0 a1)) (bif (cell_Get_k0 a0 a1) then ByteArray.mk #[] else bif (cell_Get_k1 a0 a1) then (cell_Get_k3 a0 a1) else (cell_Get_k3 a0 a1)) (TVec.mk (bif (cell_Get_k0 a0 a1) then (0 : Int) else bif (cell_Get_k1 a0 a1) then (getV (List.take ((↑a0.length : Int).toNat - (cell_Get_k2 a0 a1).toNat) (List.drop (cell_Get_k2 a0 a1).toNat a0))).fst.1 else (cell_Get_k6 a0 a1)) (bif (cell_Get_k0 a0 a1) then (0 : Int) else bif (cell_Get_k1 a0 a1) then (getV (List.take ((↑a0.length : Int).toNat - (cell_Get_k2 a0 a1).toNat) (List.drop (cell_Get_k2 a0 a1).toNat a0))).fst.2 else (cell_Get_k6 a0 a1)))
def cell_Get_1 (a0 : List UInt8) (a1 : Int) : Int := bif (cell_Get_k0 a0 a1) then (0 : Int) else bif (cell_Get_k1 a0 a1) then IntKind.i64.wrap ((cell_Get_k2 a0 a1) + (getV (List.take ((↑a0.length : Int).toNat - (cell_Get_k2 a0 a1).toNat) (List.drop (cell_Get_k2 a0 a1).toNat a0))).snd.fst) else (cell_Get_k2 a0 a1)
def cell_Get_2 (a0 : List UInt8) (a1 : Int) : Int := bif (cell_Get_k0 a0 a1) then (80 : Int) else (0 : Int)
def cell_Get_r (a0 : List UInt8) (a1 : Int) : A := .v (.tuple ⟨[.agg ⟨[.int .i64 ((cell_Get_0 a0 a1).stamp.n), .int .i64 ((cell_Get_0 a0 a1).stamp.site), .int .i64 ((cell_Get_0 a0 a1).vec.a), .int .i64 ((cell_Get_0 a0 a1).vec.b), .bool ((cell_Get_0 a0 a1).gone), .string ((cell_Get_0 a0 a1).value), .int .i64 ((cell_Get_0 a0 a1).dead.a), .int .i64 ((cell_Get_0 a0 a1).dead.b)]⟩, .int .i64 (cell_Get_1 a0 a1), .int .i64 (cell_Get_2 a0 a1)]⟩)
def cell_Get_o (_a0 : List UInt8) (_a1 : Int) : Objs := []
def cell_Get_ps (a0 : List UInt8) (a1 : Int) : List Prop := [(((getN a0).snd.snd == (0 : Int) && decide (IntKind.i64.wrap (↑(BitVec.ofInt (64 : Nat) (getN a0).fst &&& BitVec.ofInt (64 : Nat) (1 : Int)).toNat : Int) > (0 : Int))) = true → (0 : Int) ≤ (cell_Get_k12 a0 a1) ∧ (cell_Get_k12 a0 a1) ≤ (↑a0.length : Int) ∧ (↑a0.length : Int) ≤ (↑a0.length : Int)), (((getN a0).snd.snd == (0 : Int) && decide (IntKind.i64.wrap (↑(BitVec.ofInt (64 : Nat) (getN a0).fst &&& BitVec.ofInt (64 : Nat) (1 : Int)).toNat : Int) > (0 : Int))) = true → (0 : Int) ≤ (cell_Get_k11 a0 a1) ∧ (cell_Get_k11 a0 a1) ≤ (↑a0.length : Int) ∧ (↑a0.length : Int) ≤ (↑a0.length : Int)), (((getN a0).snd.snd == (0 : Int) && decide (IntKind.i64.wrap (↑(BitVec.ofInt (64 : Nat) (getN a0).fst &&& BitVec.ofInt (64 : Nat) (1 : Int)).toNat : Int) > (0 : Int))) = true → (!decide (IntKind.i64.wrap (↑(BitVec.ofInt (64 : Nat) (getN a0).fst &&& BitVec.ofInt (64 : Nat) (2 : Int)).toNat : Int) > (0 : Int))) = true → (0 : Int) ≤ (cell_Get_k5 a0 a1) ∧ (cell_Get_k5 a0 a1) ≤ (↑a0.length : Int) ∧ (↑a0.length : Int) ≤ (↑a0.length : Int)), (((getN a0).snd.snd == (0 : Int) && decide (IntKind.i64.wrap (↑(BitVec.ofInt (64 : Nat) (getN a0).fst &&& BitVec.ofInt (64 : Nat) (1 : Int)).toNat : Int) > (0 : Int))) = true → (!decide (IntKind.i64.wrap (↑(BitVec.ofInt (64 : Nat) (getN a0).fst &&& BitVec.ofInt (64 : Nat) (2 : Int)).toNat : Int) > (0 : Int))) = true → boundP (List.take ((↑a0.length : Int).toNat - (cell_Get_k5 a0 a1).toNat) (List.drop (cell_Get_k5 a0 a1).toNat a0)).length), ((cell_Get_k1 a0 a1) = true → (0 : Int) ≤ (cell_Get_k2 a0 a1) ∧ (cell_Get_k2 a0 a1) ≤ (↑a0.length : Int) ∧ (↑a0.length : Int) ≤ (↑a0.length : Int))]
theorem cell_Get_ev (a0 : List UInt8) (a1 : Int) : evF (envT Cd_10 L0) 9 120 [valA .bytes a0, valA .i64 a1] 0 [] = some (1, cell_Get_r a0 a1, 0, cell_Get_o a0 a1, cell_Get_ps a0 a1) := by kernel_rfl
theorem cell_Get_c (a0 : List UInt8) (a1 : Int) (hp : ∀ p ∈ cell_Get_ps a0 a1, p) : CallOk Tryd.prog 120 [valA .bytes a0, valA .i64 a1] 0 [] 1 (cell_Get_r a0 a1) 0 (cell_Get_o a0 a1) := evF_ok (envP_ok Cd_10_ok L0_ok) (cell_Get_ev a0 a1) hp
def cell_Get_r2 (a0 : List UInt8) (a1 : Int) : A := .v (.tuple ⟨[.agg ⟨[.int .i64 (getC a0 a1).1.stamp.n, .int .i64 (getC a0 a1).1.stamp.site, .int .i64 (getC a0 a1).1.vec.a, .int .i64 (getC a0 a1).1.vec.b, .bool (getC a0 a1).1.gone, .string (getC a0 a1).1.value, .int .i64 (getC a0 a1).1.dead.a, .int .i64 (getC a0 a1).1.dead.b]⟩, .int .i64 (getC a0 a1).2.1, .int .i64 (getC a0 a1).2.2]⟩)
def cell_Get_o2 (_a0 : List UInt8) (_a1 : Int) : Objs := []
def cell_Get_ps2 (a0 : List UInt8) (_a1 : Int) : List Prop := [boundP a0.length]
theorem getS_bounds (b : List UInt8) : 0 ≤ (getS b).2.1 ∧ (getS b).2.1 ≤ (b.length : Int) := by
 obtain ⟨h1, h2, _⟩ := getN_bounds b
 unfold getS
 split
 ·exact ⟨Int.le_refl _, by show (0 : Int) ≤ (b.length : Int); omega⟩
 ·split
  ·exact ⟨h1, h2⟩
  ·exact ⟨Int.le_refl _, by show (0 : Int) ≤ (b.length : Int); omega⟩
theorem getV_bounds (b : List UInt8) : 0 ≤ (getV b).2.1 ∧ (getV b).2.1 ≤ (b.length : Int) := by
 obtain ⟨h1, h2, _⟩ := getN_bounds b
 obtain ⟨h3, h4, _⟩ := getN_bounds (b.drop (getN b).2.1.toNat)
 rw [List.length_drop] at h4
 unfold getV
 split
 ·exact ⟨Int.le_refl _, by show (0 : Int) ≤ (b.length : Int); omega⟩
 ·split
  ·exact ⟨Int.le_refl _, by show (0 : Int) ≤ (b.length : Int); omega⟩
  ·split
   ·exact ⟨by show 0 ≤ (getN b).2.1 + _; omega, by show (getN b).2.1 + _ ≤ (b.length : Int); omega⟩
   ·exact ⟨Int.le_refl _, by show (0 : Int) ≤ (b.length : Int); omega⟩
theorem getT_bounds (b : List UInt8) (m : Int) : 0 ≤ (getT b m).2.1 ∧ (getT b m).2.1 ≤ (b.length : Int) := by
 obtain ⟨h1, h2, _, h3, _⟩ := getN_bounds b
 unfold getT
 split
 ·exact ⟨Int.le_refl _, by show (0 : Int) ≤ (b.length : Int); omega⟩
 ·split
  ·exact ⟨Int.le_refl _, by show (0 : Int) ≤ (b.length : Int); omega⟩
  ·split
   ·exact ⟨Int.le_refl _, by show (0 : Int) ≤ (b.length : Int); omega⟩
   ·exact ⟨by show 0 ≤ (getN b).2.1 + _; omega, by show (getN b).2.1 + _ ≤ (b.length : Int); omega⟩
theorem cell_Get_eq (b : List UInt8) (p : Int) (hb : boundP b.length) : (∀ q ∈ cell_Get_ps b p, q) ∧ (cell_Get_0 b p, cell_Get_1 b p, cell_Get_2 b p) = getC b p := by
 unfold boundP at hb
 obtain ⟨a1, a2, _, a3, a4⟩ := getN_bounds b
 have hok : okN (getN b).1 := ⟨a3, a4⟩
 have B1 := bit_pos hok 0 1 rfl (by decide)
 have B2 := bit_pos hok 1 2 rfl (by decide)
 have B4 := bit_pos hok 2 4 rfl (by decide)
 have e12 : cell_Get_k12 b p = (getN b).2.1 := by
  unfold cell_Get_k12
  rw [i64_in (by omega)]; omega
 obtain ⟨s1, s2⟩ := getS_bounds (b.drop (getN b).2.1.toNat)
 rw [List.length_drop] at s2
 have e11 : cell_Get_k11 b p = (getN b).2.1 + (getS (b.drop (getN b).2.1.toNat)).2.1 := by
  unfold cell_Get_k11
  rw [e12, slice_all, i64_in (by omega)]
 obtain ⟨v1, v2⟩ := getV_bounds (b.drop ((getN b).2.1 + (getS (b.drop (getN b).2.1.toNat)).2.1).toNat)
 rw [List.length_drop] at v2
 have e5 : cell_Get_k5 b p = (getN b).2.1 + (getS (b.drop (getN b).2.1.toNat)).2.1 + (getV (b.drop ((getN b).2.1 + (getS (b.drop (getN b).2.1.toNat)).2.1).toNat)).2.1 := by
  unfold cell_Get_k5
  rw [e11, slice_all, i64_in (by omega)]
 obtain ⟨t1, t2⟩ := getT_bounds (b.drop ((getN b).2.1 + (getS (b.drop (getN b).2.1.toNat)).2.1 + (getV (b.drop ((getN b).2.1 + (getS (b.drop (getN b).2.1.toNat)).2.1).toNat)).2.1).toNat) 64
 rw [List.length_drop] at t2
 have e2 : cell_Get_k2 b p = (stA b).2.2 ∧ 0 ≤ (stA b).2.2 ∧ (stA b).2.2 ≤ (b.length : Int) := by
  unfold cell_Get_k2 stA
  rw [e5, e12, slice_all, B1, B2]
  show (bif (getN b).2.2 == 0 && bitN (getN b).1 0 then bif !bitN (getN b).1 1 then _ else _ else _) = _ ∧ _
  rw [i64_in (by omega)]
  cases ((getN b).2.2 == 0 && bitN (getN b).1 0) <;> cases bitN (getN b).1 1 <;> refine ⟨rfl, ?_, ?_⟩ <;> (first | exact a1 | exact a2 | (simp only [cond_true, cond_false, Bool.not_true, Bool.not_false]; omega))
 obtain ⟨e2, e2a, e2b⟩ := e2
 obtain ⟨d1, d2⟩ := getV_bounds (b.drop (stA b).2.2.toNat)
 rw [List.length_drop] at d2
 have hcell : (stA b).2.1 = ⟨⟨cell_Get_k7 b p, cell_Get_k8 b p⟩, ⟨cell_Get_k9 b p, cell_Get_k10 b p⟩, cell_Get_k4 b p, cell_Get_k3 b p, ⟨0, 0⟩⟩ := by
  unfold cell_Get_k7 cell_Get_k8 cell_Get_k9 cell_Get_k10 cell_Get_k4 cell_Get_k3 stA
  rw [e11, e5, e12, slice_all, slice_all, slice_all, B1, B2]
  show _ = TCell.mk (TStamp.mk (bif (getN b).2.2 == 0 && bitN (getN b).1 0 then bif !bitN (getN b).1 1 then _ else _ else _) _) _ _ _ _
  show (bif (getN b).2.2 == 0 && bitN (getN b).1 0 then bif !bitN (getN b).1 1 then _ else _ else _ : Bool × TCell × Int).2.1 = TCell.mk (TStamp.mk (bif (getN b).2.2 == 0 && bitN (getN b).1 0 then bif !bitN (getN b).1 1 then _ else _ else _) (bif (getN b).2.2 == 0 && bitN (getN b).1 0 then bif !bitN (getN b).1 1 then _ else _ else _)) (TVec.mk (bif (getN b).2.2 == 0 && bitN (getN b).1 0 then bif !bitN (getN b).1 1 then _ else _ else _) (bif (getN b).2.2 == 0 && bitN (getN b).1 0 then bif !bitN (getN b).1 1 then _ else _ else _)) (bif (getN b).2.2 == 0 && bitN (getN b).1 0 then bif !bitN (getN b).1 1 then bitN (getN b).1 1 else bitN (getN b).1 1 else _) (bif (getN b).2.2 == 0 && bitN (getN b).1 0 then bif !bitN (getN b).1 1 then _ else _ else _) _
  cases ((getN b).2.2 == 0 && bitN (getN b).1 0) <;> cases bitN (getN b).1 1 <;> rfl
 have hok1 : (bif (getN b).2.2 == 0 && bitN (getN b).1 0 then bif !bitN (getN b).1 1 then (getN b).2.2 == 0 && (getS (b.drop (getN b).2.1.toNat)).2.2 == 0 && (getV (b.drop ((getN b).2.1 + (getS (b.drop (getN b).2.1.toNat)).2.1).toNat)).2.2 == 0 && (getT (b.drop ((getN b).2.1 + (getS (b.drop (getN b).2.1.toNat)).2.1 + (getV (b.drop ((getN b).2.1 + (getS (b.drop (getN b).2.1.toNat)).2.1).toNat)).2.1).toNat) 64).2.2 == 0
   else (getN b).2.2 == 0 && (getS (b.drop (getN b).2.1.toNat)).2.2 == 0 && (getV (b.drop ((getN b).2.1 + (getS (b.drop (getN b).2.1.toNat)).2.1).toNat)).2.2 == 0 else (getN b).2.2 == 0) = (stA b).1 := by
  unfold stA
  cases ((getN b).2.2 == 0 && bitN (getN b).1 0) <;> cases bitN (getN b).1 1 <;> rfl
 have e1 : cell_Get_k1 b p = ((stA b).1 && bitN (getN b).1 2) := by
  unfold cell_Get_k1
  rw [e11, e5, e12, slice_all, slice_all, slice_all, B1, B2, B4]
  show ((bif (getN b).2.2 == 0 && bitN (getN b).1 0 then bif !bitN (getN b).1 1 then _ else _ else _) && bitN (getN b).1 2) = _
  rw [hok1]
 have e6 : cell_Get_k6 b p = 0 := by
  unfold cell_Get_k6
  cases ((getN b).2.2 == 0 && decide (IntKind.i64.wrap (↑(BitVec.ofInt (64 : Nat) (getN b).1 &&& BitVec.ofInt (64 : Nat) (1 : Int)).toNat : Int) > (0 : Int))) <;> cases decide (IntKind.i64.wrap (↑(BitVec.ofInt (64 : Nat) (getN b).1 &&& BitVec.ofInt (64 : Nat) (2 : Int)).toNat : Int) > (0 : Int)) <;> rfl
 refine ⟨needs_cons (fun _ => by rw [e12]; omega) (needs_cons (fun _ => by rw [e11]; omega) (needs_cons (fun _ _ => by rw [e5]; omega) (needs_cons (fun _ _ => by rw [e5, slice_all, List.length_drop]; unfold boundP; omega) (needs_cons (fun _ => by rw [e2]; omega) needs_nil)))), ?_⟩
 have hB1 : (stB b).1 = bif (stA b).1 && bitN (getN b).1 2 then (stA b).1 && (getV (b.drop (stA b).2.2.toNat)).2.2 == 0 else (stA b).1 := by unfold stB; cases ((stA b).1 && bitN (getN b).1 2) <;> rfl
 have hB2 : (stB b).2.1 = TCell.mk (TStamp.mk (bif cell_Get_k1 b p then cell_Get_k7 b p else cell_Get_k7 b p) (bif cell_Get_k1 b p then cell_Get_k8 b p else cell_Get_k8 b p)) (TVec.mk (bif cell_Get_k1 b p then cell_Get_k9 b p else cell_Get_k9 b p) (bif cell_Get_k1 b p then cell_Get_k10 b p else cell_Get_k10 b p)) (bif cell_Get_k1 b p then cell_Get_k4 b p else cell_Get_k4 b p) (bif cell_Get_k1 b p then cell_Get_k3 b p else cell_Get_k3 b p) (TVec.mk (bif cell_Get_k1 b p then (getV (b.drop (stA b).2.2.toNat)).1.1 else cell_Get_k6 b p) (bif cell_Get_k1 b p then (getV (b.drop (stA b).2.2.toNat)).1.2 else cell_Get_k6 b p)) := by
  rw [e1]
  unfold stB
  cases ((stA b).1 && bitN (getN b).1 2) with
  | true => simp only [cond_true]; rw [hcell]
  | false => simp only [cond_false]; rw [hcell, e6]
 have hB3 : (stB b).2.2 = bif cell_Get_k1 b p then (stA b).2.2 + (getV (b.drop (stA b).2.2.toNat)).2.1 else (stA b).2.2 := by
  rw [e1]
  unfold stB
  cases ((stA b).1 && bitN (getN b).1 2) <;> rfl
 have e0 : cell_Get_k0 b p = (!(stB b).1 || !rightC (getN b).1 (stB b).2.1 || !goodC p (stB b).2.1) := by
  unfold cell_Get_k0
  rw [e2, e11, e5, e12, slice_all, slice_all, slice_all, slice_all, cell_Good_eq, cell_written_eq, ← hB2]
  rw [B1, B2, B4]
  show ((!bif cell_Get_k1 b p then (bif (getN b).2.2 == 0 && bitN (getN b).1 0 then bif !bitN (getN b).1 1 then _ else _ else _) && _ else (bif (getN b).2.2 == 0 && bitN (getN b).1 0 then bif !bitN (getN b).1 1 then _ else _ else _)) || _ || _) = _
  rw [hok1, hB1, ← e1]
  unfold rightC
  rw [hB2]
  rfl
 unfold cell_Get_0 cell_Get_1 cell_Get_2 getC
 rw [e0]
 cases (!(stB b).1 || !rightC (getN b).1 (stB b).2.1 || !goodC p (stB b).2.1) with
 | true => rfl
 | false =>
  simp only [cond_false]
  rw [hB3, e2, slice_all, hB2, i64_in (by omega)]
theorem cell_Get_c2 (a0 : List UInt8) (a1 : Int) (hp : ∀ p ∈ cell_Get_ps2 a0 a1, p) : CallOk Tryd.prog 120 [valA .bytes a0, valA .i64 a1] 0 [] 1 (cell_Get_r2 a0 a1) 0 (cell_Get_o2 a0 a1) := by
 obtain ⟨h1, h2⟩ := cell_Get_eq a0 a1 (hp _ (List.mem_cons_self ..))
 have h := cell_Get_c a0 a1 h1
 have hr : cell_Get_r a0 a1 = cell_Get_r2 a0 a1 := by unfold cell_Get_r cell_Get_r2; rw [← h2]
 rw [hr] at h
 exact h
def cell_Get_t : List A → Nat → Objs → Option CRes := rowK [.t .bytes, .t .i64] 0 cell_Get_r2 cell_Get_o2 cell_Get_ps2
theorem cell_Get_tok : TOk Tryd.prog 120 cell_Get_t := rowK_ok (ks := [.t .bytes, .t .i64]) cell_Get_c2
noncomputable def Cd_11 := addC 120 cell_Get_t Cd_10
theorem Cd_11_ok : COk Tryd.prog Cd_11 := addC_ok cell_Get_tok Cd_10_ok
noncomputable def Cd := Cd_11
theorem Cd_ok : COk Tryd.prog Cd := Cd_11_ok
end Go.Proofs.YtbhonfgbmkppiaaDoor
namespace Go.Proofs.YtbhonfgbmkppiaaDoor
open Go.RowKit
noncomputable def Cf := Cd
theorem Cf_ok : COk Tryd.prog Cf := Cd_ok
end Go.Proofs.YtbhonfgbmkppiaaDoor
namespace Go.Proofs.YtbhonfgbmkppiaaDoor
open Go.RowKit
theorem scan_from {X : Type} (mk : Nat → X) (n : Nat) (stop : Nat → Bool) (next : X → X) (goes : X → Cnd) (ps : X → List Prop)
  (hg : ∀ i, i ≤ n → (∀ j, j < i → stop j = false) → cval (goes (mk i)) = (decide (i < n) && !stop i)) (hn : ∀ i, i < n → (∀ j, j < i + 1 → stop j = false) → next (mk i) = mk (i + 1)) (hp : ∀ i, i ≤ n → (∀ j, j < i → stop j = false) → ∀ p ∈ ps (mk i), p) :
  ∀ (f i : Nat), i ≤ n → n ≤ i + f → (∀ j, j < i → stop j = false) →
  needX next goes ps f (mk i) ∧ ∃ k, k ≤ n ∧ iterX next goes f (mk i) = mk k ∧ (∀ j, j < k → stop j = false) ∧ (k < n → stop k = true)
 | 0, i, hi, hf, hs => by
  have hc := hg i hi hs
  have : i = n := by omega
  rw [decide_eq_false (by omega), Bool.false_and] at hc
  exact ⟨⟨hp i hi hs, hc⟩, i, hi, rfl, hs, fun h => by omega⟩
 | f + 1, i, hi, hf, hs => by
  have hc := hg i hi hs
  cases hb : cval (goes (mk i)) with
  | false =>
   have e : iterX next goes (f + 1) (mk i) = mk i := by
    show (bif cval (goes (mk i)) then _ else mk i) = mk i
    rw [hb]; rfl
   rw [e]
   refine ⟨⟨hp i hi hs, fun h => by rw [hb] at h; cases h⟩, i, hi, rfl, hs, fun h => ?_⟩
   rw [hb, decide_eq_true h, Bool.true_and] at hc
   cases hst : stop i with
   | true => rfl
   | false => rw [hst] at hc; cases hc
  | true =>
   rw [hb] at hc
   have h1 : i < n := by
    cases hd : decide (i < n) with
    | true => exact of_decide_eq_true hd
    | false => rw [hd] at hc; cases hc
   have h2 : stop i = false := by
    cases hst : stop i with
    | false => rfl
    | true => rw [hst, Bool.and_comm] at hc; cases hc
   have hs' : ∀ j, j < i + 1 → stop j = false := fun j hj => by
    by_cases h : j < i
    ·exact hs j h
    ·obtain rfl : j = i := by omega
     exact h2
   have e : iterX next goes (f + 1) (mk i) = iterX next goes f (mk (i + 1)) := by
    show (bif cval (goes (mk i)) then iterX next goes f (next (mk i)) else mk i) = _
    rw [hb, hn i h1 hs']; rfl
   obtain ⟨g1, g2⟩ := scan_from mk n stop next goes ps hg hn hp f (i + 1) h1 (by omega) hs'
   rw [e]
   exact ⟨⟨hp i hi hs, fun _ => by rw [hn i h1 hs']; exact g1⟩, g2⟩
theorem scan {X : Type} (mk : Nat → X) (n : Nat) (stop : Nat → Bool) (next : X → X) (goes : X → Cnd) (ps : X → List Prop) (f : Nat) (x : X) (hx : x = mk 0) (hf : n ≤ f)
  (hg : ∀ i, i ≤ n → (∀ j, j < i → stop j = false) → cval (goes (mk i)) = (decide (i < n) && !stop i)) (hn : ∀ i, i < n → (∀ j, j < i + 1 → stop j = false) → next (mk i) = mk (i + 1)) (hp : ∀ i, i ≤ n → (∀ j, j < i → stop j = false) → ∀ p ∈ ps (mk i), p) :
  needX next goes ps f x ∧ ∃ k, k ≤ n ∧ iterX next goes f x = mk k ∧ (∀ j, j < k → stop j = false) ∧ (k < n → stop k = true) := by
 subst hx
 exact scan_from mk n stop next goes ps hg hn hp f 0 (Nat.zero_le _) (by omega) fun j h => absurd h (Nat.not_lt_zero _)
theorem wsucc {i : Nat} (h : i < 9223372036854775807) : IntKind.i64.wrap ((i : Int) + 1) = ((i + 1 : Nat) : Int) := by rw [i64_in (by omega)]; omega
theorem dlt {i n : Nat} : decide ((i : Int) < (n : Int)) = decide (i < n) := by
 by_cases h : i < n
 ·rw [decide_eq_true h, decide_eq_true (by omega)]
 ·rw [decide_eq_false h, decide_eq_false (by omega)]
theorem nn (b : Bool) : (!!b) = b := Bool.not_not b
theorem all_scan {α : Type} (l : List α) (d : α) (p : α → Bool) (k : Nat) (hk : k ≤ l.length) (h1 : ∀ j, j < k → p (l.getD j d) = true) (h2 : k < l.length → p (l.getD k d) = false) : l.all p = decide (¬ k < l.length) := by
 by_cases h : k < l.length
 ·rw [decide_eq_false (by omega)]
  have := h2 h
  rw [List.getD_eq_getElem?_getD, List.getElem?_eq_getElem h, Option.getD_some] at this
  cases ha : l.all p with
  | false => rfl
  | true => rw [List.all_eq_true.1 ha _ (List.getElem_mem h)] at this; cases this
 ·rw [decide_eq_true (by omega)]
  refine List.all_eq_true.2 fun x hx => ?_
  obtain ⟨i, hi, rfl⟩ := List.mem_iff_getElem.1 hx
  have := h1 i (by omega)
  rw [List.getD_eq_getElem?_getD, List.getElem?_eq_getElem hi, Option.getD_some] at this
  exact this
theorem beq0 (n : Nat) : (n == 0) = !decide (1 ≤ n) := by cases n <;> simp
theorem beq0i (n : Nat) : ((n : Int) == 0) = (n == 0) := by cases n <;> simp; omega
theorem dgt (n k : Nat) : decide ((n : Int) > (k : Int)) = decide (k < n) := decide_eq_decide.2 (by omega)
instance : LawfulBEq ByteArray where
 rfl := fun {a} => by cases a with | mk a => exact beq_self_eq_true a
 eq_of_beq := fun {a b} h => by
  cases a with | mk a => cases b with | mk b => exact congrArg ByteArray.mk (eq_of_beq (α := Array UInt8) h)
theorem find_upd : ∀ (m : List (ByteArray × Int)) (b : ByteArray) (v : Int) (x : ByteArray), findM (updM m b v) x = if x = b then v else findM m x
 | [], b, v, x => by
  by_cases h : x = b
  ·subst h; simp [updM, findM]
  ·simp [updM, findM, h, show (x == b) = false from beq_eq_false_iff_ne.2 h]
 | (a, n) :: r, b, v, x => by
  unfold updM
  by_cases h : b = a
  ·subst h
   rw [show (b == b) = true from beq_self_eq_true b, cond_true]
   by_cases hx : x = b
   ·subst hx; simp [findM]
   ·simp [findM, hx, show (x == b) = false from beq_eq_false_iff_ne.2 hx]
  ·rw [show (b == a) = false from beq_eq_false_iff_ne.2 h, cond_false]
   by_cases hx : x = a
   ·subst hx
    rw [if_neg (fun e => h e.symm)]
    simp [findM]
   ·simp only [findM, show (x == a) = false from beq_eq_false_iff_ne.2 hx, cond_false]
    exact find_upd r b v x
def lowB (b : UInt8) : Bool := decide (97 ≤ b.toNat) && decide (b.toNat ≤ 122)
def nameB (s : ByteArray) : Bool := s.data.toList.all lowB && (decide (1 ≤ s.size) && decide (s.size ≤ 12))
def polB (p : Int) : Bool := p == 1 || p == 2
def goodPs : List ByteArray → List TGroup → Int
 | _, [] => 0
 | seen, g :: r => bif !(nameB g.name && polB g.policy) then 2 else bif seen.any (fun s => s == g.name) then 70 else goodPs (seen ++ [g.name]) r
def goodP (l : List TGroup) : Int := bif l.length == 0 then 2 else bif decide (4 < l.length) then 3 else goodPs [] l
theorem size_data (s : ByteArray) : s.data.toList.length = s.size := by show s.data.toList.length = s.data.size; exact Array.length_toList
theorem get_data (s : ByteArray) (i : Nat) (h : i < s.size) : s.data.toList.getD i 0 = s[i]'h := by
 rw [List.getD_eq_getElem?_getD, List.getElem?_eq_getElem (by rw [size_data]; exact h)]
 rfl
theorem rune_low (s : ByteArray) (i : Nat) (h : i < s.size) : (decide (((Utf8.decode s i).1 : Int) < 97) || decide (((Utf8.decode s i).1 : Int) > 122)) = !lowB (s.data.toList.getD i 0) ∧ (lowB (s.data.toList.getD i 0) = true → (Utf8.decode s i).2 = 1) := by
 rw [get_data s i h]
 by_cases hb : (s[i]'h).toNat < 128
 ·rw [decode_ascii s i h hb]
  refine ⟨?_, fun _ => rfl⟩
  unfold lowB
  rw [Bool.not_and, ← decide_not, ← decide_not]
  congr 1 <;> exact decide_eq_decide.2 (by omega)
 ·have h2 := (decode_high s i h (by omega)).1
  have hl : lowB (s[i]'h) = false := by unfold lowB; rw [decide_eq_false (p := (s[i]'h).toNat ≤ 122) (by omega), Bool.and_false]
  rw [hl]
  refine ⟨?_, fun h => by cases h⟩
  rw [decide_eq_true (p := ((Utf8.decode s i).1 : Int) > 122) (by omega), Bool.or_true]
  rfl
theorem goodP_0 {l : List TGroup} (h : goodP l = 0) : 1 ≤ l.length ∧ l.length ≤ 4 := by
 unfold goodP at h
 cases h1 : l.length == 0 with
 | true => rw [h1] at h; cases h
 | false =>
  rw [h1] at h
  cases h2 : decide (4 < l.length) with
  | true => rw [h2] at h; cases h
  | false =>
   have := of_decide_eq_false h2
   have h3 : l.length ≠ 0 := by simpa using h1
   omega
theorem goodPs_at (l : List TGroup) (k : Nat) (seen : List ByteArray) : (∀ j, j < k → j < l.length → (nameB (l.getD j (dflt TC.group)).name && polB (l.getD j (dflt TC.group)).policy) = true ∧ (seen ++ (l.take j).map (·.name)).any (fun s => s == (l.getD j (dflt TC.group)).name) = false) →
  goodPs seen l = goodPs (seen ++ (l.take k).map (·.name)) (l.drop k) := by
 induction l generalizing k seen with
 | nil => intro _; simp [goodPs]
 | cons g r ih =>
  intro h
  cases k with
  | zero => simp
  | succ k =>
   obtain ⟨h1, h2⟩ := h 0 (Nat.succ_pos _) (Nat.succ_pos _)
   have h1' : (nameB g.name && polB g.policy) = true := h1
   have h2' : seen.any (fun s => s == g.name) = false := by simpa using h2
   rw [goodPs, h1', h2', Bool.not_true, cond_false, cond_false]
   rw [ih k (seen ++ [g.name]) (fun j hj hl => by
    have := h (j + 1) (by omega) (by simpa using hl)
    simpa [List.append_assoc] using this)]
   simp [List.append_assoc]
def mapAt (l : List TGroup) : Nat → List (ByteArray × Int)
 | 0 => []
 | i + 1 => updM (mapAt l i) (l.getD i (dflt TC.group)).1 (IntKind.i64.wrap (findM (mapAt l i) (l.getD i (dflt TC.group)).1 + 1))
def stopG (l : List TGroup) (i : Nat) : Bool := !(nameB (l.getD i (dflt TC.group)).1 && polB (l.getD i (dflt TC.group)).2) || ((l.take i).map (·.name)).any (fun s => s == (l.getD i (dflt TC.group)).1)
theorem take_names (l : List TGroup) (i : Nat) (h : i < l.length) : (l.take (i + 1)).map (·.name) = (l.take i).map (·.name) ++ [(l.getD i (dflt TC.group)).1] := by
 rw [List.take_add_one, List.getD_eq_getElem?_getD, List.getElem?_eq_getElem h, List.map_append]
 rfl
theorem find_mapAt (l : List TGroup) : ∀ (i : Nat), i ≤ l.length → (∀ j, j < i → stopG l j = false) → ∀ x, findM (mapAt l i) x = bif ((l.take i).map (·.name)).any (fun s => s == x) then 1 else 0
 | 0, _, _, x => by simp [mapAt, findM]
 | i + 1, hi, hs, x => by
  have ih := find_mapAt l i (by omega) (fun j hj => hs j (by omega))
  have h := hs i (Nat.lt_succ_self i)
  unfold stopG at h
  have h2 := (Bool.or_eq_false_iff.1 h).2
  unfold mapAt
  rw [find_upd, ih, h2, take_names l i (by omega), List.any_append, ih]
  by_cases hx : x = (l.getD i (dflt TC.group)).1
  ·subst hx
   rw [if_pos rfl]
   simp
   decide
  ·rw [if_neg hx]
   have : ([(l.getD i (dflt TC.group)).1].any fun s => s == x) = false := by
    simp only [List.any_cons, List.any_nil, Bool.or_false]
    exact beq_eq_false_iff_ne.2 fun e => hx e.symm
   rw [this, Bool.or_false]
end Go.Proofs.YtbhonfgbmkppiaaDoor
namespace Go.Proofs.YtbhonfgbmkppiaaDoor
open Go.RowKit
abbrev policy_named_l0_X : Type := ByteArray × Nat
def policy_named_l0_T (x : policy_named_l0_X) : St := ⟨36, 2, [(26, .own 1 0)], [(1, some (.sit x.1 x.2))]⟩
def policy_named_l0_un : St → Option policy_named_l0_X
 | ⟨36, 2, [(26, .own 1 0)], [(1, some (.sit z0 z1))]⟩ => some (z0, z1)
 | _ => none
theorem policy_named_l0_unok : ∀ s x, policy_named_l0_un s = some x → s = policy_named_l0_T x := fun s x h => by
 unfold policy_named_l0_un at h
 split at h
 ·cases h; rfl
 ·cases h
def policy_named_l0_S : Shape := ⟨2, 2, [26], [], [(1, 1)], [1], [2], [1]⟩
def policy_named_l0_E : Entry := ⟨[], [(1, 1)], [26], [1]⟩
def policy_named_l0_f_k1 (a0 : ByteArray) (a1 : Nat) : Bool := !!decide (a1 < a0.size)
def policy_named_l0_f_k0 (a0 : ByteArray) (a1 : Nat) : Bool := (policy_named_l0_f_k1 a0 a1) && (decide ((↑(Utf8.decode a0 a1).fst : Int) < (97 : Int)) || decide ((↑(Utf8.decode a0 a1).fst : Int) > (122 : Int)))
def policy_named_l0_f_1 (a0 : ByteArray) (a1 : Nat) : Nat := bif decide (a1 < a0.size) then a1 + (Utf8.decode a0 a1).snd else a1
def policy_named_l0_f_2 (a0 : ByteArray) (a1 : Nat) : Bool := (policy_named_l0_f_k1 a0 a1) && !(policy_named_l0_f_k0 a0 a1)
def policy_named_l0_f_6 (a0 : ByteArray) (a1 : Nat) : Nat := bif decide (a1 < a0.size) then a1 + (Utf8.decode a0 a1).snd else a1
def policy_named_l0_f_9 (a0 : ByteArray) (a1 : Nat) : Nat := bif decide (a1 < a0.size) then a1 + (Utf8.decode a0 a1).snd else a1
def policy_named_l0_next (x : policy_named_l0_X) : policy_named_l0_X := (x.1, policy_named_l0_f_1 x.1 x.2)
def policy_named_l0_goes (x : policy_named_l0_X) : Cnd := some (policy_named_l0_f_2 x.1 x.2)
def policy_named_l0_psA (x : policy_named_l0_X) : List Prop := [((policy_named_l0_f_k1 x.1 x.2) = true → decide (x.2 < x.1.size) = true)]
def policy_named_l0_ps (_x : policy_named_l0_X) : List Prop := []
def policy_named_l0_outs (x : policy_named_l0_X) : Outs := [(some 0, some (!decide (x.2 < x.1.size)), ⟨36, 2, [(2, .dead)], [(1, some (.sit x.1 (policy_named_l0_f_6 x.1 x.2)))]⟩), (none, some ((policy_named_l0_f_k0 x.1 x.2)), ⟨36, 2, [(2, .v (.bool (false)))], [(1, some (.sit x.1 (policy_named_l0_f_9 x.1 x.2)))]⟩)]
def policy_named_l0_fuel (x : policy_named_l0_X) : Nat := x.1.size - x.2
def policy_named_l0_run (x : policy_named_l0_X) : policy_named_l0_X := iterX policy_named_l0_next policy_named_l0_goes (policy_named_l0_fuel x) x
theorem policy_named_l0_ev (a0 : ByteArray) (a1 : Nat) : roundE (envT Cf L0) 9 (loopAt Tryd.prog 87 0) policy_named_l0_S (policy_named_l0_T (a0, a1)) = some (policy_named_l0_psA (a0, a1), policy_named_l0_outs (a0, a1), policy_named_l0_goes (a0, a1), policy_named_l0_T (policy_named_l0_next (a0, a1))) := by kernel_rfl
theorem policy_named_l0_hA (a0 : ByteArray) (a1 : Nat) (_hp : ∀ p ∈ policy_named_l0_ps (a0, a1), p) : ∀ p ∈ policy_named_l0_psA (a0, a1), p := by
 have n0 : ((policy_named_l0_f_k1 a0 a1) = true → decide (a1 < a0.size) = true) := by intro h; exact (Bool.not_not _).symm.trans h
 exact (needs_cons n0 needs_nil)
noncomputable def policy_named_l0_row := rowL (envT Cf L0) (loopAt Tryd.prog 87 0) policy_named_l0_S policy_named_l0_E policy_named_l0_un policy_named_l0_fuel policy_named_l0_next policy_named_l0_goes policy_named_l0_ps policy_named_l0_outs
theorem policy_named_l0_rok : ∀ s b ps outs, policy_named_l0_row s = some (b, ps, outs) → Wf s ⟨ps, outs, none⟩ ∧ LoopOk (envT C0 L0) b s ps outs :=
 rowP_ok (T := policy_named_l0_T) Cf_ok L0_ok (u := 9) (by kernel_rfl) (by decide) (fun ⟨a0, a1⟩ => policy_named_l0_ev a0 a1) (fun ⟨a0, a1⟩ => policy_named_l0_hA a0 a1) policy_named_l0_unok (fun _ => okOuts_ok (n := 36) rfl) fun _ _ => rfl
noncomputable def policy_named_l0_L := addLp 0 policy_named_l0_row L0
theorem policy_named_l0_Lok : LpOk policy_named_l0_L := addLp_ok policy_named_l0_rok L0_ok
def policy_named_k0 (a0 : TGroup) : Bool := a0.1.toList == (ByteArray.mk #[]).toList || decide ((↑a0.1.size : Int) > (12 : Int)) || a0.2 != (1 : Int) && a0.2 != (2 : Int)
def policy_named_0 (a0 : TGroup) : Bool := bif (policy_named_k0 a0) then false else bif policy_named_l0_f_k0 (policy_named_l0_run (a0.1, (0 : Nat))).fst (policy_named_l0_run (a0.1, (0 : Nat))).snd then false else true
def policy_named_r (a0 : TGroup) : A := .v (.bool (policy_named_0 a0))
def policy_named_o (_a0 : TGroup) : Objs := []
def policy_named_ps (a0 : TGroup) : List Prop := [((!(policy_named_k0 a0)) = true → needX policy_named_l0_next policy_named_l0_goes policy_named_l0_ps (policy_named_l0_fuel (a0.1, (0 : Nat))) (a0.1, (0 : Nat)))]
theorem policy_named_ev (a0 : TGroup) : evF (envT Cf policy_named_l0_L) 9 87 [valA .group a0] 0 [] = some (1, policy_named_r a0, 0, policy_named_o a0, [((!(policy_named_k0 a0)) = true → loopAt Tryd.prog (87 : FuncId) (0 : Nat) = loopAt Tryd.prog (87 : FuncId) (0 : Nat)), ((!(policy_named_k0 a0)) = true → needX policy_named_l0_next policy_named_l0_goes policy_named_l0_ps (policy_named_l0_fuel (a0.1, (0 : Nat))) (a0.1, (0 : Nat)))]) := by kernel_rfl
theorem policy_named_c (a0 : TGroup) (hp : ∀ p ∈ policy_named_ps a0, p) : CallOk Tryd.prog 87 [valA .group a0] 0 [] 1 (policy_named_r a0) 0 (policy_named_o a0) := by
 have n0 : ((!(policy_named_k0 a0)) = true → loopAt Tryd.prog (87 : FuncId) (0 : Nat) = loopAt Tryd.prog (87 : FuncId) (0 : Nat)) := by intros; rfl
 have n1 := N0 hp
 exact evF_ok (envP_ok Cf_ok policy_named_l0_Lok) (policy_named_ev a0) (needs_cons n0 (needs_cons n1 needs_nil))
def policy_named_r2 (a0 : TGroup) : A := .v (.bool (nameB a0.name && polB a0.policy))
def policy_named_o2 (_a0 : TGroup) : Objs := []
def policy_named_ps2 (_a0 : TGroup) : List Prop := []
theorem policy_named_eq (g : TGroup) : (∀ p ∈ policy_named_ps g, p) ∧ policy_named_0 g = (nameB g.name && polB g.policy) := by
 have hk0 : ∀ i, policy_named_l0_f_k0 g.1 i = (decide (i < g.1.size) && !lowB (g.1.data.toList.getD i 0)) := fun i => by
  unfold policy_named_l0_f_k0 policy_named_l0_f_k1
  rw [nn]
  by_cases h : i < g.1.size
  ·rw [decide_eq_true h, Bool.true_and, Bool.true_and]; exact (rune_low g.1 i h).1
  ·rw [decide_eq_false h]; rfl
 obtain ⟨h1, k, hk, hx, hs, hst⟩ := scan (fun i => ((g.1, i) : ByteArray × Nat)) g.1.size (fun i => !lowB (g.1.data.toList.getD i 0)) policy_named_l0_next policy_named_l0_goes policy_named_l0_ps (policy_named_l0_fuel (g.1, 0)) (g.1, 0) rfl (Nat.le_refl _)
  (fun i _ _ => by
   show ((!!decide (i < g.1.size)) && !policy_named_l0_f_k0 g.1 i) = _
   rw [hk0, nn]
   cases decide (i < g.1.size) <;> rfl)
  (fun i hi hj => by
   show (g.1, (bif decide (i < g.1.size) then i + (Utf8.decode g.1 i).snd else i)) = (g.1, i + 1)
   have h2 := hj i (Nat.lt_succ_self i)
   rw [decide_eq_true hi, cond_true, (rune_low g.1 i hi).2 (by simpa using h2)])
  (fun _ _ _ => needs_nil)
 refine ⟨needs_cons (fun _ => h1) needs_nil, ?_⟩
 have hr : policy_named_l0_run (g.1, 0) = (g.1, k) := hx
 have ha : g.1.data.toList.all lowB = decide (¬ k < g.1.size) := by
  have := all_scan g.1.data.toList 0 lowB k (by rw [size_data]; exact hk) (fun j hj => by simpa using hs j hj) (fun h => by rw [size_data] at h; simpa using hst h)
  rw [size_data] at this
  exact this
 unfold policy_named_0
 rw [hr]
 show (bif policy_named_k0 g then false else bif policy_named_l0_f_k0 g.1 k then false else true) = _
 rw [hk0]
 unfold policy_named_k0 nameB polB
 rw [noB_eq]
 show _ = (g.1.data.toList.all lowB && (decide (1 ≤ g.1.size) && decide (g.1.size ≤ 12)) && (g.2 == 1 || g.2 == 2))
 rw [ha]
 have e1 : (g.1.size == 0) = !decide (1 ≤ g.1.size) := beq0 _
 have e2 : decide ((g.1.size : Int) > 12) = !decide (g.1.size ≤ 12) := by
  rw [← decide_not]; exact decide_eq_decide.2 (by generalize g.1.size = m; omega)
 have e3 : (g.2 != 1 && g.2 != 2) = !(g.2 == 1 || g.2 == 2) := by simp [bne]
 rw [e1, e2, e3]
 by_cases h : k < g.1.size
 ·have := hst h
  rw [this, decide_eq_true h, decide_eq_false (not_not_intro h)]
  simp
 ·rw [decide_eq_false h, decide_eq_true h]
  cases decide (1 ≤ g.1.size) <;> cases decide (g.1.size ≤ 12) <;> cases (g.2 == 1 || g.2 == 2) <;> rfl
theorem policy_named_c2 (a0 : TGroup) (_hp : ∀ p ∈ policy_named_ps2 a0, p) : CallOk Tryd.prog 87 [valA .group a0] 0 [] 1 (policy_named_r2 a0) 0 (policy_named_o2 a0) := by
 have h := policy_named_c a0 (policy_named_eq a0).1
 unfold policy_named_r at h
 rw [(policy_named_eq a0).2] at h
 exact h
def policy_named_t : List A → Nat → Objs → Option CRes := rowK [.t .group] 0 policy_named_r2 policy_named_o2 policy_named_ps2
theorem policy_named_tok : TOk Tryd.prog 87 policy_named_t := rowK_ok (ks := [.t .group]) policy_named_c2
noncomputable def Ch_1 := addC 87 policy_named_t Cf
theorem Ch_1_ok : COk Tryd.prog Ch_1 := addC_ok policy_named_tok Cf_ok
abbrev policy_Good_l1_X : Type := (List TGroup) × Int × Int × (List (U .str × U .i64))
def policy_Good_l1_T (x : policy_Good_l1_X) : St := ⟨35, 1, [(3, .mp 0), (15, .sl .group x.1), (16, .v (.int .i64 x.2.1)), (17, .v (.int .i64 x.2.2.1))], [(0, some (.map .str .i64 x.2.2.2))]⟩
def policy_Good_l1_un : St → Option policy_Good_l1_X
 | ⟨35, 1, [(3, .mp 0), (15, .sl .group z0), (16, .v (.int .i64 z1)), (17, .v (.int .i64 z2))], [(0, some (.map .str .i64 z3))]⟩ => some (z0, z1, z2, z3)
 | _ => none
theorem policy_Good_l1_unok : ∀ s x, policy_Good_l1_un s = some x → s = policy_Good_l1_T x := fun s x h => by
 unfold policy_Good_l1_un at h
 split at h
 ·cases h; rfl
 ·cases h
def policy_Good_l1_S : Shape := ⟨1, 1, [3, 15, 16, 17], [], [(0, 0)], [0], [2], [0]⟩
def policy_Good_l1_E : Entry := ⟨[], [(0, 0)], [3, 15, 16, 17], [0]⟩
def policy_Good_l1_f_k1 (a0 : List TGroup) (_a1 : Int) (a2 : Int) (a3 : List (U .str × U .i64)) : List (ByteArray × Int) := updM a3 (a0.getD a2.toNat (dflt TC.group)).1 (IntKind.i64.wrap (findM a3 (a0.getD a2.toNat (dflt TC.group)).1 + (1 : Int)))
def policy_Good_l1_f_k0 (a0 : List TGroup) (a1 : Int) (a2 : Int) (a3 : List (U .str × U .i64)) : Bool := !!decide (a2 < a1) && (!(nameB (a0.getD a2.toNat (dflt TC.group)).1 && polB (a0.getD a2.toNat (dflt TC.group)).2) || decide (findM (policy_Good_l1_f_k1 a0 a1 a2 a3) (a0.getD a2.toNat (dflt TC.group)).1 > (1 : Int)))
def policy_Good_l1_f_3 (a0 : List TGroup) (a1 : Int) (a2 : Int) (a3 : List (U .str × U .i64)) : List (U .str × U .i64) := (policy_Good_l1_f_k1 a0 a1 a2 a3)
def policy_Good_l1_f_4 (a0 : List TGroup) (a1 : Int) (a2 : Int) (a3 : List (U .str × U .i64)) : Bool := !!decide (a2 < a1) && !(policy_Good_l1_f_k0 a0 a1 a2 a3)
def policy_Good_l1_f_9 (a0 : List TGroup) (_a1 : Int) (a2 : Int) (_a3 : List (U .str × U .i64)) : Int := bif !(nameB (a0.getD a2.toNat (dflt TC.group)).1 && polB (a0.getD a2.toNat (dflt TC.group)).2) then (2 : Int) else (70 : Int)
def policy_Good_l1_f_10 (a0 : List TGroup) (a1 : Int) (a2 : Int) (a3 : List (U .str × U .i64)) : List (U .str × U .i64) := bif !(nameB (a0.getD a2.toNat (dflt TC.group)).1 && polB (a0.getD a2.toNat (dflt TC.group)).2) then a3 else (policy_Good_l1_f_k1 a0 a1 a2 a3)
def policy_Good_l1_next (x : policy_Good_l1_X) : policy_Good_l1_X := (x.1, x.2.1, IntKind.i64.wrap (x.2.2.1 + (1 : Int)), policy_Good_l1_f_3 x.1 x.2.1 x.2.2.1 x.2.2.2)
def policy_Good_l1_goes (x : policy_Good_l1_X) : Cnd := some (policy_Good_l1_f_4 x.1 x.2.1 x.2.2.1 x.2.2.2)
def policy_Good_l1_psA (x : policy_Good_l1_X) : List Prop := [((!!decide (x.2.2.1 < x.2.1)) = true → (0 : Int) ≤ x.2.2.1 ∧ x.2.2.1 < (↑x.1.length : Int))]
abbrev policy_Good_l1_ps : policy_Good_l1_X → List Prop := policy_Good_l1_psA
def policy_Good_l1_outs (x : policy_Good_l1_X) : Outs := [(some 1, some (!decide (x.2.2.1 < x.2.1)), ⟨35, 1, [(2, .dead)], [(0, some (.map .str .i64 x.2.2.2))]⟩), (none, some ((policy_Good_l1_f_k0 x.1 x.2.1 x.2.2.1 x.2.2.2)), ⟨35, 2, [(2, .v (.int .i64 (policy_Good_l1_f_9 x.1 x.2.1 x.2.2.1 x.2.2.2)))], [(0, some (.map .str .i64 (policy_Good_l1_f_10 x.1 x.2.1 x.2.2.1 x.2.2.2)))]⟩)]
def policy_Good_l1_fuel (x : policy_Good_l1_X) : Nat := (x.2.1 - x.2.2.1).toNat
def policy_Good_l1_run (x : policy_Good_l1_X) : policy_Good_l1_X := iterX policy_Good_l1_next policy_Good_l1_goes (policy_Good_l1_fuel x) x
theorem policy_Good_l1_ev (a0 : List TGroup) (a1 : Int) (a2 : Int) (a3 : List (U .str × U .i64)) : roundE (envT Ch_1 L0) 9 (loopAt Tryd.prog 50 1) policy_Good_l1_S (policy_Good_l1_T (a0, a1, a2, a3)) = some (policy_Good_l1_psA (a0, a1, a2, a3), policy_Good_l1_outs (a0, a1, a2, a3), policy_Good_l1_goes (a0, a1, a2, a3), policy_Good_l1_T (policy_Good_l1_next (a0, a1, a2, a3))) := by kernel_rfl
theorem policy_Good_l1_hA (a0 : List TGroup) (a1 : Int) (a2 : Int) (a3 : List (U .str × U .i64)) (hp : ∀ p ∈ policy_Good_l1_ps (a0, a1, a2, a3), p) : ∀ p ∈ policy_Good_l1_psA (a0, a1, a2, a3), p := hp
noncomputable def policy_Good_l1_row := rowL (envT Ch_1 L0) (loopAt Tryd.prog 50 1) policy_Good_l1_S policy_Good_l1_E policy_Good_l1_un policy_Good_l1_fuel policy_Good_l1_next policy_Good_l1_goes policy_Good_l1_ps policy_Good_l1_outs
theorem policy_Good_l1_rok : ∀ s b ps outs, policy_Good_l1_row s = some (b, ps, outs) → Wf s ⟨ps, outs, none⟩ ∧ LoopOk (envT C0 L0) b s ps outs :=
 rowP_ok (T := policy_Good_l1_T) Ch_1_ok L0_ok (u := 9) (by kernel_rfl) (by decide) (fun ⟨a0, a1, a2, a3⟩ => policy_Good_l1_ev a0 a1 a2 a3) (fun ⟨a0, a1, a2, a3⟩ => policy_Good_l1_hA a0 a1 a2 a3) policy_Good_l1_unok (fun _ => okOuts_ok (n := 35) rfl) fun _ _ => rfl
noncomputable def policy_Good_l1_L := addLp 1 policy_Good_l1_row L0
theorem policy_Good_l1_Lok : LpOk policy_Good_l1_L := addLp_ok policy_Good_l1_rok L0_ok
def policy_Good_k4 (a0 : List TGroup) : Bool := (↑a0.length : Int) == (0 : Int) || decide ((↑a0.length : Int) > (4 : Int))
def policy_Good_k3 (a0 : List TGroup) : List TGroup := (policy_Good_l1_run (a0, (↑a0.length : Int), (0 : Int), [])).fst
def policy_Good_k2 (a0 : List TGroup) : Int := (policy_Good_l1_run (a0, (↑a0.length : Int), (0 : Int), [])).snd.fst
def policy_Good_k1 (a0 : List TGroup) : List (U TC.str × U TC.i64) := (policy_Good_l1_run (a0, (↑a0.length : Int), (0 : Int), [])).snd.snd.snd
def policy_Good_k0 (a0 : List TGroup) : Int := (policy_Good_l1_run (a0, (↑a0.length : Int), (0 : Int), [])).snd.snd.fst
def policy_Good_0 (a0 : List TGroup) : Int := bif (policy_Good_k4 a0) then bif (↑a0.length : Int) == (0 : Int) then (2 : Int) else (3 : Int) else bif policy_Good_l1_f_k0 (policy_Good_k3 a0) (policy_Good_k2 a0) (policy_Good_k0 a0) (policy_Good_k1 a0) then policy_Good_l1_f_9 (policy_Good_k3 a0) (policy_Good_k2 a0) (policy_Good_k0 a0) (policy_Good_k1 a0) else (0 : Int)
def policy_Good_r (a0 : List TGroup) : A := .v (.int .i64 (policy_Good_0 a0))
def policy_Good_o (_a0 : List TGroup) : Objs := []
def policy_Good_ps (a0 : List TGroup) : List Prop := [((!(policy_Good_k4 a0)) = true → needX policy_Good_l1_next policy_Good_l1_goes policy_Good_l1_ps (policy_Good_l1_fuel (a0, (↑a0.length : Int), (0 : Int), [])) (a0, (↑a0.length : Int), (0 : Int), []))]
theorem policy_Good_ev (a0 : List TGroup) : evF (envT Ch_1 policy_Good_l1_L) 9 50 [.sl .group a0] 0 [] = some (1, policy_Good_r a0, 0, policy_Good_o a0, [((!(policy_Good_k4 a0)) = true → loopAt Tryd.prog (50 : FuncId) (1 : Nat) = loopAt Tryd.prog (50 : FuncId) (1 : Nat)), ((!(policy_Good_k4 a0)) = true → needX policy_Good_l1_next policy_Good_l1_goes policy_Good_l1_ps (policy_Good_l1_fuel (a0, (↑a0.length : Int), (0 : Int), [])) (a0, (↑a0.length : Int), (0 : Int), []))]) := by kernel_rfl
theorem policy_Good_c (a0 : List TGroup) (hp : ∀ p ∈ policy_Good_ps a0, p) : CallOk Tryd.prog 50 [.sl .group a0] 0 [] 1 (policy_Good_r a0) 0 (policy_Good_o a0) := by
 have n0 : ((!(policy_Good_k4 a0)) = true → loopAt Tryd.prog (50 : FuncId) (1 : Nat) = loopAt Tryd.prog (50 : FuncId) (1 : Nat)) := by intros; rfl
 have n1 := N0 hp
 exact evF_ok (envP_ok Ch_1_ok policy_Good_l1_Lok) (policy_Good_ev a0) (needs_cons n0 (needs_cons n1 needs_nil))
def policy_Good_r2 (a0 : List TGroup) : A := .v (.int .i64 (goodP a0))
def policy_Good_o2 (_a0 : List TGroup) : Objs := []
def policy_Good_ps2 (_a0 : List TGroup) : List Prop := []
theorem policy_Good_eq (l : List TGroup) : (∀ p ∈ policy_Good_ps l, p) ∧ policy_Good_0 l = goodP l := by
 have e4 : policy_Good_k4 l = (l.length == 0 || decide (4 < l.length)) := by
  unfold policy_Good_k4
  rw [beq0i]
  congr 1
  exact dgt l.length 4
 have main : policy_Good_k4 l = false → needX policy_Good_l1_next policy_Good_l1_goes policy_Good_l1_ps (policy_Good_l1_fuel (l, (l.length : Int), 0, [])) (l, (l.length : Int), 0, []) ∧ policy_Good_0 l = goodP l := fun h4 => by
  have hn4 : l.length ≤ 4 := by
   rw [e4] at h4
   have := of_decide_eq_false (Bool.or_eq_false_iff.1 h4).2
   omega
  have hk0 : ∀ i, i ≤ l.length → (∀ j, j < i → stopG l j = false) → policy_Good_l1_f_k0 l (l.length : Int) (i : Int) (mapAt l i) = (decide (i < l.length) && stopG l i) := fun i hi hs => by
   unfold policy_Good_l1_f_k0 policy_Good_l1_f_k1
   rw [Int.toNat_natCast, find_upd, if_pos rfl, find_mapAt l i hi hs, nn, dlt]
   unfold stopG
   congr 2
   cases ((l.take i).map (·.name)).any (fun s => s == (l.getD i (dflt TC.group)).1) <;> rfl
  obtain ⟨h1, k, hk, hx, hs, hst⟩ := scan (fun i => ((l, (l.length : Int), (i : Int), mapAt l i) : policy_Good_l1_X)) l.length (stopG l) policy_Good_l1_next policy_Good_l1_goes policy_Good_l1_ps (policy_Good_l1_fuel (l, (l.length : Int), 0, [])) ((l, (l.length : Int), 0, []) : policy_Good_l1_X) rfl
   (by show l.length ≤ ((l.length : Int) - 0).toNat; omega)
   (fun i hi hs => by
    show ((!!decide ((i : Int) < (l.length : Int))) && !policy_Good_l1_f_k0 l (l.length : Int) (i : Int) (mapAt l i)) = _
    rw [hk0 i hi hs, nn, dlt]
    cases decide (i < l.length) <;> rfl)
   (fun i hi hs => by
    show (l, (l.length : Int), IntKind.i64.wrap ((i : Int) + 1), policy_Good_l1_f_k1 l (l.length : Int) (i : Int) (mapAt l i)) = (l, (l.length : Int), ((i + 1 : Nat) : Int), mapAt l (i + 1))
    rw [wsucc (by omega)]
    unfold policy_Good_l1_f_k1
    rw [Int.toNat_natCast]
    rfl)
   (fun i hi hs => needs_cons (fun h => by
    have h' : (!!decide ((i : Int) < (l.length : Int))) = true := h
    rw [nn] at h'
    have := of_decide_eq_true h'
    show (0 : Int) ≤ (i : Int) ∧ (i : Int) < (l.length : Int)
    omega) needs_nil)
  refine ⟨h1, ?_⟩
  have hr : policy_Good_l1_run (l, (l.length : Int), 0, []) = (l, (l.length : Int), (k : Int), mapAt l k) := hx
  unfold policy_Good_0 policy_Good_k3 policy_Good_k2 policy_Good_k1 policy_Good_k0
  rw [hr, h4, cond_false]
  show (bif policy_Good_l1_f_k0 l (l.length : Int) (k : Int) (mapAt l k) then policy_Good_l1_f_9 l (l.length : Int) (k : Int) (mapAt l k) else 0) = _
  rw [hk0 k hk hs]
  rw [e4] at h4
  obtain ⟨h5, h6⟩ := Bool.or_eq_false_iff.1 h4
  unfold goodP
  rw [h5, h6, cond_false, cond_false, goodPs_at l k [] (fun j hj hl => by
   have := hs j hj
   unfold stopG at this
   obtain ⟨q1, q2⟩ := Bool.or_eq_false_iff.1 this
   exact ⟨by rw [Bool.not_eq_false'] at q1; exact q1, by simpa using q2⟩), List.nil_append]
  by_cases hkl : k < l.length
  ·have hst' := hst hkl
   rw [hst', decide_eq_true hkl, Bool.and_true, cond_true]
   have hd : l.drop k = l.getD k (dflt TC.group) :: l.drop (k + 1) := by
    rw [List.getD_eq_getElem?_getD, List.getElem?_eq_getElem hkl, Option.getD_some]
    exact List.drop_eq_getElem_cons hkl
   rw [hd]
   unfold goodPs policy_Good_l1_f_9
   rw [Int.toNat_natCast]
   unfold stopG at hst'
   show (bif !(nameB (l.getD k (dflt TC.group)).1 && polB (l.getD k (dflt TC.group)).2) then (2 : Int) else 70) = bif !(nameB (l.getD k (dflt TC.group)).1 && polB (l.getD k (dflt TC.group)).2) then 2 else _
   cases hq : !(nameB (l.getD k (dflt TC.group)).1 && polB (l.getD k (dflt TC.group)).2) with
   | true => rfl
   | false =>
    rw [hq, Bool.false_or] at hst'
    have hst2 : ((l.take k).map (·.name)).any (fun s => s == (l.getD k (dflt TC.group)).name) = true := hst'
    rw [cond_false, cond_false, hst2]
    rfl
  ·rw [decide_eq_false hkl, Bool.false_and, cond_false, List.drop_eq_nil_of_le (by omega)]
   rfl
 cases h4 : policy_Good_k4 l with
 | false =>
  obtain ⟨g1, g2⟩ := main h4
  exact ⟨needs_cons (fun _ => g1) needs_nil, g2⟩
 | true =>
  refine ⟨needs_cons (fun h => by rw [h4] at h; cases h) needs_nil, ?_⟩
  unfold policy_Good_0 goodP
  rw [h4, cond_true, beq0i]
  rw [e4] at h4
  cases h5 : l.length == 0 with
  | true => rfl
  | false =>
   rw [h5, Bool.false_or] at h4
   rw [h4]
   rfl
theorem policy_Good_c2 (a0 : List TGroup) (_hp : ∀ p ∈ policy_Good_ps2 a0, p) : CallOk Tryd.prog 50 [.sl .group a0] 0 [] 1 (policy_Good_r2 a0) 0 (policy_Good_o2 a0) := by
 have h := policy_Good_c a0 (policy_Good_eq a0).1
 unfold policy_Good_r at h
 rw [(policy_Good_eq a0).2] at h
 exact h
def policy_Good_t : List A → Nat → Objs → Option CRes := rowK [.l .group] 0 policy_Good_r2 policy_Good_o2 policy_Good_ps2
theorem policy_Good_tok : TOk Tryd.prog 50 policy_Good_t := rowK_ok (ks := [.l .group]) policy_Good_c2
noncomputable def Ch_2 := addC 50 policy_Good_t Ch_1
theorem Ch_2_ok : COk Tryd.prog Ch_2 := addC_ok policy_Good_tok Ch_1_ok
noncomputable def Ch := Ch_2
theorem Ch_ok : COk Tryd.prog Ch := Ch_2_ok
end Go.Proofs.YtbhonfgbmkppiaaDoor
namespace Go.Proofs.YtbhonfgbmkppiaaDoor
open Go.RowKit Go.Shelf
attribute [local go_sem] Oper.semAt_some
def gV (g : TGroup) : Value := .agg #[.string g.name, .int .i64 g.policy]
def cV (c : TCell) : Value := .agg #[.int .i64 c.stamp.n, .int .i64 c.stamp.site, .int .i64 c.vec.a, .int .i64 c.vec.b, .bool c.gone, .string c.value, .int .i64 c.dead.a, .int .i64 c.dead.b]
structure KB (n₀ X : Nat) (W W' : World) : Prop where
 os : W'.os = W.os
 tape : W'.tape = W.tape
 output : W'.output = W.output
 size : W.heap.size ≤ W'.heap.size
 block : ∀ k, k < n₀ → k ≠ X → W'.heap[k]? = W.heap[k]?
theorem KB.refl (n₀ X : Nat) (W : World) : KB n₀ X W W := ⟨rfl, rfl, rfl, Nat.le_refl _, fun _ _ _ => rfl⟩
theorem KB.trans {n₀ X : Nat} {A B C : World} (h : KB n₀ X A B) (k : KB n₀ X B C) : KB n₀ X A C :=
 ⟨k.os.trans h.os, k.tape.trans h.tape, k.output.trans h.output, Nat.le_trans h.size k.size, fun i h1 h2 => (k.block i h1 h2).trans (h.block i h1 h2)⟩
theorem KB.of_below {n₀ X : Nat} {A B : World} (h : Below n₀ A B) : KB n₀ X A B := ⟨h.os, h.tape, h.output, h.size, fun k hk _ => h.block k hk⟩
theorem KB.cell {n₀ X : Nat} {A B : World} {p : Addr} (h : KB n₀ X A B) (hp : p.block < n₀) (hx : p.block ≠ X) : B.cell? p = A.cell? p := World.cell?_of_block (h.block _ hp hx)
theorem KB.putObj {n₀ X : Nat} {w : World} (hn : n₀ ≤ w.heap.size) (W : World) (l : Nat) (o o' : Obj) (hl : w.heap.size ≤ l) (h : W.heap[l]? = some o) (h1 : o.isCells = false) (h2 : o.isWalk = false) : KB n₀ X W (W.putObj l o') :=
 KB.of_below (belowK_b hn W l o o' hl h h1 h2)
def GsAt (n₀ X : Nat) (W : World) (b off : Nat) (l : List TGroup) : Prop := (b < n₀ ∧ b ≠ X) ∧ ∀ j g, l[j]? = some g → W.cell? ⟨b, off + j * 2, none⟩ = some (.string g.name) ∧ W.cell? ⟨b, off + j * 2 + 1, none⟩ = some (.int .i64 g.policy)
def CsAt (n₀ X : Nat) (W : World) (b off : Nat) (l : List TCell) : Prop := (b < n₀ ∧ b ≠ X) ∧ ∀ j c, l[j]? = some c → W.cell? ⟨b, off + j * 8, none⟩ = some (.int .i64 c.stamp.n) ∧ W.cell? ⟨b, off + j * 8 + 1, none⟩ = some (.int .i64 c.stamp.site) ∧ W.cell? ⟨b, off + j * 8 + 2, none⟩ = some (.int .i64 c.vec.a) ∧ W.cell? ⟨b, off + j * 8 + 3, none⟩ = some (.int .i64 c.vec.b) ∧ W.cell? ⟨b, off + j * 8 + 4, none⟩ = some (.bool c.gone) ∧ W.cell? ⟨b, off + j * 8 + 5, none⟩ = some (.string c.value) ∧ W.cell? ⟨b, off + j * 8 + 6, none⟩ = some (.int .i64 c.dead.a) ∧ W.cell? ⟨b, off + j * 8 + 7, none⟩ = some (.int .i64 c.dead.b)
theorem GsAt.kept {n₀ X : Nat} {W W' : World} {b off : Nat} {l : List TGroup} (h : GsAt n₀ X W b off l) (hb : KB n₀ X W W') : GsAt n₀ X W' b off l :=
 ⟨h.1, fun j g hg => ⟨(hb.cell (p := ⟨b, _, none⟩) h.1.1 h.1.2).trans (h.2 j g hg).1, (hb.cell (p := ⟨b, _, none⟩) h.1.1 h.1.2).trans (h.2 j g hg).2⟩⟩
theorem CsAt.kept {n₀ X : Nat} {W W' : World} {b off : Nat} {l : List TCell} (h : CsAt n₀ X W b off l) (hb : KB n₀ X W W') : CsAt n₀ X W' b off l := by
 refine ⟨h.1, fun j c hc => ?_⟩
 obtain ⟨h0, h1, h2, h3, h4, h5, h6, h7⟩ := h.2 j c hc
 have k : ∀ o, W'.cell? ⟨b, o, none⟩ = W.cell? ⟨b, o, none⟩ := fun o => hb.cell (p := ⟨b, o, none⟩) h.1.1 h.1.2
 exact ⟨(k _).trans h0, (k _).trans h1, (k _).trans h2, (k _).trans h3, (k _).trans h4, (k _).trans h5, (k _).trans h6, (k _).trans h7⟩
theorem grown_none {W W' : World} (h : Below W.heap.size W W') : W.grownBy W' none := ⟨h.os, h.tape, h.output, h.size, fun k hk _ => h.block k hk⟩
def encP (x : TGroup × TCell) : Array Value := #[gV x.1, cV x.2]
theorem zip_take {α β : Type} (l : List α) (r : List β) (k : Nat) (x : α) (y : β) (hx : l[k]? = some x) (hy : r[k]? = some y) : (l.zip r).take (k + 1) = (l.zip r).take k ++ [(x, y)] := by
 rw [List.take_add_one, (List.getElem?_zip_eq_some (z := (x, y))).2 ⟨hx, hy⟩]
 rfl
set_option maxHeartbeats 4000000 in
theorem parts1_in (n : Nat) (hn : 1 ≤ n) (l B2 B3 n₀ b off cap b' off' cap' X : Nat) (gs : List TGroup) (cs : List TCell) (hlen : cs.length = gs.length) (hl4 : gs.length ≤ 4)
    (J Jx : List (TGroup × TCell) → World → Prop) (n1 : Nat) (hn1 : n₀ ≤ n1)
    (hJa : AbidesFrom n1 J)
    (hY : ∀ pre x W, J pre W → pre.length < gs.length → YieldAt Fence.wide (n - 1) Tryd.prog l (encP x) W fun e W' =>
      (e = .returned (.bool true) ∧ J (pre ++ [x]) W' ∧ KB n₀ X W W') ∨ (e = .returned (.bool false) ∧ Jx (pre ++ [x]) W'))
    (W : World) (hW1 : n1 = W.heap.size) (h2 : W.cell? ⟨B2, 0, none⟩ = some (.slice (some ⟨b, off, none⟩) gs.length cap)) (h3 : W.cell? ⟨B3, 1, none⟩ = some (.slice (some ⟨b', off', none⟩) cs.length cap')) (hB2 : B2 < n₀ ∧ B2 ≠ X) (hB3 : B3 < n₀ ∧ B3 ≠ X)
    (hg : GsAt n₀ X W b off gs) (hc : CsAt n₀ X W b' off' cs) (h0 : J [] W) :
    CallsIn Fence.wide n Tryd.prog 115 #[.func (.yield l) #[] #[], .pointer (some ⟨B2, 0, none⟩), .pointer (some ⟨B3, 0, none⟩)] W fun e W' => (∃ v, e = .returned v) ∧
      ((∃ ys, ys = gs.zip cs ∧ J ys W') ∨ (∃ pre, (∃ k, k ≤ gs.length ∧ pre = (gs.zip cs).take k) ∧ Jx pre W')) := by
  refine callsIn_of_wp Tryd.func115 rfl trivial ?_ rfl
  simp only [Tryd.ntmps115, List.size_toArray, List.length_cons, List.length_nil, Nat.reduceAdd, Nat.reduceSub, Array.replicate_succ, Array.replicate_zero, List.push_toArray, List.append_toArray, List.nil_append, List.cons_append]
  gi_wp2
  gi_loopw [8] (fun i wr => ∃ k : Nat, k ≤ gs.length ∧ i = .int .i64 k ∧ J ((gs.zip cs).take k) wr ∧ KB n₀ X W wr ∧ W.heap.size ≤ wr.heap.size) (fun i _ => gs.length - (intOf i).toNat)
  case atStart => exact ⟨0, Nat.zero_le _, rfl, h0, KB.refl _ _ _, Nat.le_refl _⟩
  case round =>
    obtain ⟨k, hk, rfl, hJs, hnx, hsz⟩ := hrel
    by_cases hlt : k < gs.length
    · have hlt' : k < cs.length := by omega
      obtain ⟨hg1, hg2⟩ := (hg.kept hnx).2 k gs[k] (List.getElem?_eq_getElem hlt)
      have h2' := (hnx.cell (p := ⟨B2, 0, none⟩) hB2.1 hB2.2).trans h2
      gi_wp2
      have hb3 : Below wr.heap.size wr (wr.alloc (.cells #[.string gs[k].name, .int .i64 gs[k].policy] 147)) := (Below.refl _ wr).alloc (Nat.le_refl _) _
      have hv : wr.heap.size = wr.heap.size := rfl
      have hn := World.alloc_heap_new wr (.cells #[.string gs[k].name, .int .i64 gs[k].policy] 147)
      generalize wr.alloc (.cells #[.string gs[k].name, .int .i64 gs[k].policy] 147) = W3 at hb3 hn ⊢
      have hb4 : KB n₀ X wr W3 := KB.of_below (hb3.mono (Nat.le_trans hn1 (by rw [hW1]; exact hsz)))
      have hb5 : KB n₀ X W3 W3.drew := KB.of_below ((Below.refl _ W3).drew)
      obtain ⟨hc0, hc1, hc2, hc3, hc4, hc5, hc6, hc7⟩ := ((hc.kept hnx).kept hb4).2 k cs[k] (List.getElem?_eq_getElem hlt')
      have h3' := ((hnx.trans hb4).cell (p := ⟨B3, 1, none⟩) hB3.1 hB3.2).trans h3
      have hz : ((gs.zip cs).take k).length < gs.length := by rw [List.length_take, List.length_zip]; omega
      have hJ3 : J ((gs.zip cs).take k) W3.drew := hJa _ wr _ none hJs (grown_none hb3.drew) (fun r e => by cases e)
      obtain ⟨fn, tmps, assign, body, hy, hR⟩ := hY _ (gs[k], cs[k]) _ hJ3 hz
      have hR2 : RoundIn Fence.wide (n - 1) Tryd.prog l fn tmps assign body W3.drew fun e W' => ∃ q : Bool, e = .returned (.bool q) ∧ (q = true → J ((gs.zip cs).take (k + 1)) W' ∧ KB n₀ X wr W') ∧ (q = false → Jx ((gs.zip cs).take (k + 1)) W') := by
        refine hR.mono ?_
        rw [← zip_take gs cs k gs[k] cs[k] (List.getElem?_eq_getElem hlt) (List.getElem?_eq_getElem hlt')]
        rintro e W' (⟨rfl, h1, h2⟩ | ⟨rfl, h1⟩)
        · exact ⟨true, rfl, ⟨fun _ => ⟨h1, (hb4.trans hb5).trans h2⟩, fun h => by cases h⟩⟩
        · exact ⟨false, rfl, ⟨fun h => (by cases h), fun _ => h1⟩⟩
      clear hR
      have hm : Tryd.prog.follows .mixedOrders = true := by kernel_rfl
      dsimp only [encP, gV, cV] at hy
      obtain ⟨hn0, hn1'⟩ := cb2 hn
      gi_region_with_o (refine hR2.mono ?_; rintro e W4 ⟨q, rfl, hq1, hq2⟩)
      all_goals (cases q)
      all_goals gi_wp2
      all_goals first
        | (refine bodyPost_ret (results_none rfl _ _ _) rfl ?_; exact ⟨⟨_, rfl⟩, .inr ⟨_, ⟨k + 1, by omega, rfl⟩, hq2 (by trivial)⟩⟩)
        | (obtain ⟨q1, q2⟩ := hq1 (by trivial)
           exact ⟨⟨k + 1, by omega, rfl, q1, hnx.trans q2, Nat.le_trans hsz q2.size⟩, by simp [intOf]; omega⟩)
    · obtain rfl : k = gs.length := by omega
      gi_wp2
      go_end0
      exact ⟨⟨_, rfl⟩, .inl ⟨_, rfl, by rw [List.take_of_length_le (by rw [List.length_zip]; omega)] at hJs; exact hJs⟩⟩
set_option maxHeartbeats 1000000 in
theorem parts_in (n : Nat) (a : Option Addr) (len cap : Nat) (v1 : Value) (key : ByteArray) (w : World) :
  CallsIn Fence.wide n Tryd.prog 84 #[.slice a len cap, .agg #[.string key, v1]] w fun e w' => e = .returned (.func (.func 115) #[] #[.pointer (some ⟨w.heap.size, 0, none⟩), .pointer (some ⟨w.heap.size + 1, 0, none⟩)]) ∧ w' = (w.alloc (.cells #[.slice a len cap] 27)).alloc (.cells #[.string key, v1] 38) := by
 refine callsIn_of_wp Tryd.func84 rfl trivial ?_ rfl
 simp only [Tryd.ntmps84, List.size_toArray, List.length_cons, List.length_nil, Nat.reduceAdd, Nat.reduceSub, Array.replicate_succ, Array.replicate_zero, List.push_toArray, List.append_toArray, List.nil_append, List.cons_append]
 gi_wp2
 go_ret
 exact ⟨rfl, rfl⟩
theorem parts_stops (n : Nat) (hn : 1 ≤ n) (B2 B3 n₀ X b off cap b' off' cap' : Nat) (gs : List TGroup) (cs : List TCell) (hlen : cs.length = gs.length) (hl4 : gs.length ≤ 4) (w : World) (hn₀ : n₀ ≤ w.heap.size)
  (h2 : w.cell? ⟨B2, 0, none⟩ = some (.slice (some ⟨b, off, none⟩) gs.length cap)) (h3 : w.cell? ⟨B3, 1, none⟩ = some (.slice (some ⟨b', off', none⟩) cs.length cap')) (hB2 : B2 < n₀ ∧ B2 ≠ X) (hB3 : B3 < n₀ ∧ B3 ≠ X)
  (hg : GsAt n₀ X w b off gs) (hc : CsAt n₀ X w b' off' cs) :
  SeqStopsK Fence.wide n Tryd.prog 115 #[.pointer (some ⟨B2, 0, none⟩), .pointer (some ⟨B3, 0, none⟩)] encP (KB n₀ X) (fun ys => ys = gs.zip cs) (fun pre => ∃ k, k ≤ gs.length ∧ pre = (gs.zip cs).take k) gs.length w := fun l J Jx W hW hJ _ hY h0 => by
 have hk : KB n₀ X w W := KB.of_below (hW.mono hn₀)
 exact parts1_in n hn l B2 B3 n₀ b off cap b' off' cap' X gs cs hlen hl4 J Jx W.heap.size (Nat.le_trans hn₀ hW.size) hJ hY W rfl ((hk.cell (p := ⟨B2, 0, none⟩) hB2.1 hB2.2).trans h2) ((hk.cell (p := ⟨B3, 1, none⟩) hB3.1 hB3.2).trans h3) hB2 hB3 (hg.kept hk) (hc.kept hk) h0
def goodR (p : Int) (G : Int → TCell → Bool) (gs : List TGroup) (key : ByteArray) (cs : List TCell) : Int :=
 if (p != 0) = true then p else if key.toList.isEmpty = true then 2 else if 32 < (key.size : Int) then 3 else if ((cs.length : Int) != (gs.length : Int)) = true then 100 else bif (gs.zip cs).all (fun x => G x.1.policy x.2) then 0 else 80
theorem blk_own {β : Type} (B : Nat) (cs : Array Value) (t : TypeId) : Own (fun (_ : β) W => W.heap[B]? = some (.cells cs t (0, 0))) := fun s W W' row hs hg hr => by
 refine (hg.block B (blk_lt hs) fun e => ?_).trans hs
 obtain ⟨o, h1, h2⟩ := hr B e.symm
 rw [hs] at h1
 cases h1
 cases h2
theorem keepsFrom_below (B : Nat) {W W' : World} (h : Below W.heap.size W W') : KeepsFrom B W W' := ⟨h.size, fun k _ _ hk _ => (h.block k (blk_lt hk)).trans hk⟩
theorem ownFrom_size {β : Type} (B n : Nat) : OwnFrom B (fun (_ : β) W => n ≤ W.heap.size) := fun _ _ _ _ hs hg _ => Nat.le_trans hs hg.size
set_option maxHeartbeats 4000000 in
theorem rgood_calls (w : World) (a0 a1 : Option Addr) (gs : List TGroup) (cs : List TCell) (key : ByteArray) (cap0 cap1 : Nat) (p : Int) (G : Int → TCell → Bool)
    (hP : ∀ W, Below w.heap.size w W → Calls Tryd.prog 50 #[.slice a0 gs.length cap0] W fun e W' => e = .returned (.int .i64 p) ∧ Below W.heap.size W W')
    (hp0 : p = 0 → 1 ≤ gs.length ∧ gs.length ≤ 4)
    (hC : ∀ (q : Int) (c : TCell) W, Below w.heap.size w W → Calls Tryd.prog 109 #[.int .i64 q, cV c] W fun e W' => e = .returned (.bool (G q c)) ∧ Below W.heap.size W W')
    (hG : 0 < gs.length → ∃ b off, a0 = some ⟨b, off, none⟩ ∧ GsAt w.heap.size w.heap.size w b off gs)
    (hS : 0 < cs.length → ∃ b off, a1 = some ⟨b, off, none⟩ ∧ CsAt w.heap.size w.heap.size w b off cs) :
    Calls Tryd.prog 71 #[.slice a0 gs.length cap0, .agg #[.string key, .slice a1 cs.length cap1]] w fun e W' => e = .returned (.int .i64 (goodR p G gs key cs)) ∧ Below w.heap.size w W' := by
  refine (callsIn_wide (n := 5)).1 ?_
  refine callsIn_of_wp_marks Tryd.func71 rfl trivial ?_ rfl
  simp only [Tryd.ntmps71, List.size_toArray, List.length_cons, List.length_nil, Nat.reduceAdd, Nat.reduceSub, Array.replicate_succ, Array.replicate_zero, List.push_toArray, List.append_toArray, List.nil_append, List.cons_append]
  have hw2 : Below w.heap.size w ((w.alloc (.cells #[.string key, .slice a1 cs.length cap1] 38)).alloc (.cells #[.int .i64 0] 31)) := ((Below.refl _ w).alloc (Nat.le_refl _) _).alloc (by simp) _
  have hr1 := alloc_old (.cells #[.int .i64 0] 31) (alloc_new (w := w) (.cells #[.string key, .slice a1 cs.length cap1] 38) rfl)
  have hr2 := alloc_new (w := w.alloc (.cells #[.string key, .slice a1 cs.length cap1] 38)) (.cells #[.int .i64 0] 31) (n := w.heap.size + 1) (by simp)
  gi_wp2_with (first
    | (refine ⟨trivial, ?_⟩; gi_at_call 50; refine (callsIn_wide.2 (hP _ hw2)).mono ?_; rintro e W1 ⟨rfl, hb1⟩; have hx1 := blk_next hr1 hb1; have hx2 := blk_next hr2 hb1; obtain ⟨c0, c1⟩ := cb2 hx1; have d0 := cb1 hx2; have f0 := fb1 hx2; have hB1 : Below w.heap.size w W1 := hw2.trans (hb1.mono (by simp; omega)); clear hr1 hr2 hb1)
    | (refine ⟨trivial, ?_⟩; gi_at_call 84; refine (parts_in _ _ _ _ _ _ _).mono ?_; rintro e W2 ⟨rfl, rfl⟩))
  · have h1 : (p != 0) = true := by assumption
    have e : goodR p G gs key cs = p := by unfold goodR; rw [if_pos h1]
    have hc := cb1 (set_same (i := 0) hx2 (.int .i64 p))
    exact ⟨.int .i64 p, by simp [results, Tryd.f71, go_sem, hc], by rw [e], hB1.setCell (p := ⟨w.heap.size + 1, 0, none⟩) (by simp) _⟩
  · have h1 : (p != 0) = false := by assumption
    have h2 : key.toList.isEmpty = true := by assumption
    have e : goodR p G gs key cs = 2 := by unfold goodR; rw [if_neg (by rw [h1]; simp), if_pos h2]
    have hc := cb1 (set_same (i := 0) hx2 (.int .i64 2))
    exact ⟨.int .i64 2, by simp [results, Tryd.f71, go_sem, hc], by rw [e], hB1.setCell (p := ⟨w.heap.size + 1, 0, none⟩) (by simp) _⟩
  · have h1 : (p != 0) = false := by assumption
    have h2 : key.toList.isEmpty = false := by assumption
    have h3 : 32 < (key.size : Int) := by assumption
    have e : goodR p G gs key cs = 3 := by unfold goodR; rw [if_neg (by rw [h1]; simp), if_neg (by rw [h2]; simp), if_pos h3]
    have hc := cb1 (set_same (i := 0) hx2 (.int .i64 3))
    exact ⟨.int .i64 3, by simp [results, Tryd.f71, go_sem, hc], by rw [e], hB1.setCell (p := ⟨w.heap.size + 1, 0, none⟩) (by simp) _⟩
  · have h1 : (p != 0) = false := by assumption
    have h2 : key.toList.isEmpty = false := by assumption
    have h3 : (key.size : Int) ≤ 32 := by assumption
    have h4 : ((cs.length : Int) != (gs.length : Int)) = true := by assumption
    have e : goodR p G gs key cs = 100 := by unfold goodR; rw [if_neg (by rw [h1]; simp), if_neg (by rw [h2]; simp), if_neg (by omega), if_pos h4]
    have hc := cb1 (set_same (i := 0) hx2 (.int .i64 100))
    exact ⟨.int .i64 100, by simp [results, Tryd.f71, go_sem, hc], by rw [e], hB1.setCell (p := ⟨w.heap.size + 1, 0, none⟩) (by simp) _⟩
  have h1 : (p != 0) = false := by assumption
  have h2 : key.toList.isEmpty = false := by assumption
  have h3 : (key.size : Int) ≤ 32 := by assumption
  have h4 : ((cs.length : Int) != (gs.length : Int)) = false := by assumption
  have e : goodR p G gs key cs = bif (gs.zip cs).all (fun x => G x.1.policy x.2) then 0 else 80 := by unfold goodR; rw [if_neg (by rw [h1]; simp), if_neg (by rw [h2]; simp), if_neg (by omega), if_neg (by rw [h4]; simp)]
  have hp : p = 0 := by simpa using h1
  clear h1
  subst hp
  have hlen : cs.length = gs.length := by have : (cs.length : Int) = gs.length := by simpa using h4
                                          omega
  obtain ⟨hl1, hl4⟩ := hp0 rfl
  obtain ⟨b, off, rfl, hg⟩ := hG (by omega)
  obtain ⟨b', off', rfl, hc⟩ := hS (by omega)
  have hW2 : Below W1.heap.size W1 ((W1.alloc (.cells #[.slice (some ⟨b, off, none⟩) gs.length cap0] 27)).alloc (.cells #[.string key, .slice (some ⟨b', off', none⟩) cs.length cap1] 38)) := ((Below.refl _ W1).alloc (Nat.le_refl _) _).alloc (by simp) _
  have hy2 := alloc_old (.cells #[.string key, .slice (some ⟨b', off', none⟩) cs.length cap1] 38) (alloc_new (w := W1) (.cells #[.slice (some ⟨b, off, none⟩) gs.length cap0] 27) rfl)
  have hy3 := alloc_new (w := W1.alloc (.cells #[.slice (some ⟨b, off, none⟩) gs.length cap0] 27)) (.cells #[.string key, .slice (some ⟨b', off', none⟩) cs.length cap1] 38) (n := W1.heap.size + 1) (by simp)
  have hz2 := blk_next hx2 hW2
  have hs1 := blk_lt hx2
  have hs2 := blk_lt hy3
  have hB2 := hB1.trans (hW2.mono hB1.size)
  generalize (W1.alloc (.cells #[.slice (some ⟨b, off, none⟩) gs.length cap0] 27)).alloc (.cells #[.string key, .slice (some ⟨b', off', none⟩) cs.length cap1] 38) = W2 at hW2 hy2 hy3 hz2 hs2 hB2 ⊢
  have hg2 : GsAt W2.heap.size W2.heap.size W2 b off gs := ⟨⟨by have := hg.1.1; omega, by have := hg.1.1; omega⟩, fun j g hj => ⟨(hB2.cell (p := ⟨b, _, none⟩) hg.1.1).trans (hg.2 j g hj).1, (hB2.cell (p := ⟨b, _, none⟩) hg.1.1).trans (hg.2 j g hj).2⟩⟩
  have hc2 : CsAt W2.heap.size W2.heap.size W2 b' off' cs := by
    refine ⟨⟨by have := hc.1.1; omega, by have := hc.1.1; omega⟩, fun j c hj => ?_⟩
    have k : ∀ o, W2.cell? ⟨b', o, none⟩ = w.cell? ⟨b', o, none⟩ := fun o => hB2.cell (p := ⟨b', o, none⟩) hc.1.1
    simp only [k]
    exact hc.2 j c hj
  refine wpIn_rangeFunc_ownH (F := Fence.wide) rfl (by omega) (gf := 115) (lb := #[.pointer (some ⟨W1.heap.size, 0, none⟩), .pointer (some ⟨W1.heap.size + 1, 0, none⟩)]) rfl trivial (enters_of Tryd.func115 (by kernel_rfl) rfl)
    (parts_stops _ (by omega) W1.heap.size (W1.heap.size + 1) W2.heap.size W2.heap.size b off cap0 b' off' cap1 gs cs hlen hl4 W2 (Nat.le_refl _) (cb1 hy2) (cb2 hy3).2 ⟨by omega, by omega⟩ ⟨by omega, by omega⟩ hg2 hc2)
    KB.trans (KB.putObj (Nat.le_refl _)) (Below.refl _ _) (fun _ => rfl)
    (fun pre W => ((∀ x ∈ pre, G x.1.policy x.2 = true) ∧ W.heap[w.heap.size + 1]? = some (.cells #[.int .i64 0] 31 (0, 0))) ∧ Below w.heap.size w W ∧ W2.heap.size ≤ W.heap.size)
    (fun c pre W => ((c = .ret ∧ ∃ x ∈ pre, G x.1.policy x.2 = false) ∧ W.heap[w.heap.size + 1]? = some (.cells #[.int .i64 80] 31 (0, 0))) ∧ Below w.heap.size w W ∧ W2.heap.size ≤ W.heap.size)
    (OwnFrom.and (OwnFrom.and (ownFrom_pure _ _) (Own.from (blk_own _ _ _) _)) (OwnFrom.and (ownFrom_below (Nat.le_refl _) hB2.size) (ownFrom_size _ _)))
    (fun c => OwnFrom.and (OwnFrom.and (ownFrom_pure _ _) (Own.from (blk_own _ _ _) _)) (OwnFrom.and (ownFrom_below (Nat.le_refl _) hB2.size) (ownFrom_size _ _)))
    ⟨⟨by simp, hz2⟩, hB2, Nat.le_refl _⟩
    (fun x a' W => (∃ B6 B7, a' = { tmps := #[Value.slice (some ⟨b, off, none⟩) gs.length cap0, Value.agg #[Value.string key, Value.slice (some ⟨b', off', none⟩) cs.length cap1], undef,
          Value.pointer (some { block := w.heap.size, off := 0 }),
          Value.pointer (some { block := w.heap.size + 1, off := 0 }), Value.int IntKind.i64 0, Value.pointer (some ⟨B6, 0, none⟩), Value.pointer (some ⟨B7, 0, none⟩),
          Value.slice (some ⟨b, off, none⟩) gs.length cap0, Value.int IntKind.i64 0, Value.int IntKind.i64 0, Value.bool false, undef,
          Value.bool false, Value.pointer (some { block := w.heap.size, off := 0 }), Value.string key, Value.bool false,
          Value.bool (decide (32 < (key.size : Int))), Value.pointer (some { block := w.heap.size, off := 0 }),
          Value.string key, Value.int IntKind.i64 key.size, Value.bool (decide (32 < (key.size : Int))), Value.bool false,
          Value.pointer (some { block := w.heap.size, off := 1 }), Value.slice (some ⟨b', off', none⟩) cs.length cap1,
          Value.int IntKind.i64 cs.length, Value.slice (some ⟨b, off, none⟩) gs.length cap0, Value.int IntKind.i64 gs.length,
          Value.bool false, Value.slice (some ⟨b, off, none⟩) gs.length cap0, Value.agg #[Value.string key, Value.slice (some ⟨b', off', none⟩) cs.length cap1],
          Value.func (Fn.func 115) #[] #[Value.pointer (some { block := W1.heap.size, off := 0 }), Value.pointer (some { block := W1.heap.size + 1, off := 0 })],
          gV x.1, cV x.2, undef, undef, undef, undef, undef], defers := [] } ∧
        (W.heap[B6]? = some (.cells #[.string x.1.name, .int .i64 x.1.policy] 147 (0, 0)) ∧ W.heap[B7]? = some (.cells #[.int .i64 x.2.stamp.n, .int .i64 x.2.stamp.site, .int .i64 x.2.vec.a, .int .i64 x.2.vec.b, .bool x.2.gone, .string x.2.value, .int .i64 x.2.dead.a, .int .i64 x.2.dead.b] 99 (0, 0)))))
    (fun x a' => Own.from (fun s X Y row hs hgr hr => by
      obtain ⟨B6, B7, e1, e2, e3⟩ := hs
      exact ⟨B6, B7, e1, blk_own B6 _ _ s X Y row e2 hgr hr, blk_own B7 _ _ s X Y row e3 hgr hr⟩) _) ?assign ?body ?done ?stop
  case assign =>
    rintro l pre x W K ⟨⟨i1, i2⟩, i3, i4⟩ hK
    clear hlen h4
    dsimp only [encP, gV, cV] at hK ⊢
    gi_wp2
    have hb : Below W.heap.size W ((W.alloc (.cells #[.string x.1.name, .int .i64 x.1.policy] 147)).alloc (.cells #[.int .i64 x.2.stamp.n, .int .i64 x.2.stamp.site, .int .i64 x.2.vec.a, .int .i64 x.2.vec.b, .bool x.2.gone, .string x.2.value, .int .i64 x.2.dead.a, .int .i64 x.2.dead.b] 99)) := ((Below.refl _ W).alloc (Nat.le_refl _) _).alloc (by simp) _
    exact hK _ _ (keepsFrom_below _ hb) (KB.of_below (hb.mono i4)) ⟨⟨i1, blk_next i2 hb⟩, i3.trans (hb.mono i3.size), Nat.le_trans i4 hb.size⟩ ⟨W.heap.size, W.heap.size + 1, rfl, alloc_old _ (alloc_new _ rfl), alloc_new _ (by simp)⟩
  case body =>
    rintro l pre x a' W hl hr ⟨⟨i1, i2⟩, i3, i5⟩ ⟨B6, B7, rfl, e6, e7⟩ hlt
    obtain ⟨k0, k1⟩ := cb2 e6
    obtain ⟨m0, m1, m2, m3, m4, m5, m6, m7⟩ := cb8 e7
    have d0 := cb1 i2
    have f0 := fb1 i2
    cases hGx : G x.1.policy x.2 with
    | true =>
      gi_wp2_with (refine ⟨trivial, ?_⟩; gi_at_call 109; refine (CallsIn.inRound l (callsIn_wide.2 (hC x.1.policy x.2 _ i3))).mono ?_; rw [hGx]; rintro e W' ⟨rfl, hb⟩)
      exact ⟨keepsFrom_below _ hb, KB.of_below (hb.mono i5), ⟨fun y hy => (List.mem_append.1 hy).elim (i1 y) (fun e => by simp at e; subst e; exact hGx), blk_next i2 hb⟩, i3.trans (hb.mono i3.size), Nat.le_trans i5 hb.size⟩
    | false =>
      gi_wp2_with (refine ⟨trivial, ?_⟩; gi_at_call 109; refine (CallsIn.inRound l (callsIn_wide.2 (hC x.1.policy x.2 _ i3))).mono ?_; rw [hGx]; rintro e W' ⟨rfl, hb⟩; have i4 := blk_next i2 hb; have d4 := cb1 i4; have f4 := fb1 i4)
      exact ⟨(keepsFrom_below _ hb).trans ((KeepsOthers.setCell _ _ _).from _), ⟨⟨rfl, x, by simp, hGx⟩, set_same (i := 0) i4 (.int .i64 80)⟩, (i3.trans (hb.mono i3.size)).setCell (p := ⟨w.heap.size + 1, 0, none⟩) (by simp) _, Nat.le_trans i5 (by rw [set_size]; exact hb.size)⟩
  case done =>
    rintro D ys W hD rfl ⟨⟨i1, i2⟩, i3, i5⟩ hK
    have d0 := cb1 i2
    have f0 := fb1 i2
    gi_wp2
    have hK' := (KeepsOthers.setCell W ⟨w.heap.size + 1, 0, none⟩ (.int .i64 0)).same D _ hK rfl
    refine ⟨by simp, .inl ⟨_, _, rfl, run_takeDeferred hK', ?_⟩⟩
    have hc5 := cell_kept (World.cell?_setCell_same' W ⟨w.heap.size + 1, 0, none⟩ (.int .i64 0) (by rw [d0]; rfl)) (grownBy_putObj' _ D (.deferred none)) (fun r e => by cases e; exact ⟨_, hK', rfl⟩)
    refine ⟨.int .i64 0, ?_, ?_, (i3.setCell (p := ⟨w.heap.size + 1, 0, none⟩) (by simp) _).trans (belowK_b (w := w) (Nat.le_refl _) _ D _ _ (by have := hB2.size; omega) hK' rfl rfl)⟩
    · simp [results, Tryd.f71, go_sem, hc5]
    · rw [List.all_eq_true.2 (fun x hx => i1 x hx)]; rfl
  case stop =>
    rintro D c pre W hD ⟨k, hk, rfl⟩ ⟨⟨⟨rfl, x, hx, hGx⟩, i2⟩, i3, i5⟩ hK
    gi_wp2
    refine ⟨by simp, .inl ⟨_, _, rfl, run_takeDeferred hK, ?_⟩⟩
    have hc5 := cell_kept (cb1 i2) (grownBy_putObj' _ D (.deferred none)) (fun r e => by cases e; exact ⟨_, hK, rfl⟩)
    refine ⟨.int .i64 80, ?_, ?_, i3.trans (belowK_b (w := w) (Nat.le_refl _) W D _ _ (by have := hB2.size; omega) hK rfl rfl)⟩
    · simp [results, Tryd.f71, go_sem, hc5]
    · have : (gs.zip cs).all (fun x => G x.1.policy x.2) = false := by
        cases ha : (gs.zip cs).all (fun x => G x.1.policy x.2) with
        | false => rfl
        | true => have := (List.all_eq_true.1 ha) x (List.mem_of_mem_take hx); rw [hGx] at this; cases this
      rw [this]; rfl
end Go.Proofs.YtbhonfgbmkppiaaDoor
