/- made by a program (rowgen.py): MerkleParts: for every input the law returns true, and each argument reads behind the call as it read before. -/
import Derived.Test.YtkknpeeccejppaaDoorKMsd

set_option maxRecDepth 100000
namespace Go.Proofs.YtkknpeeccejppaaDoor
open Go.RowKit
def phi (x : sha_mix_l0_X) : r04_block_l0_X := (x.2.2.2.2.2.2.2.2.2, [x.1, x.2.1, x.2.2.1, x.2.2.2.1, x.2.2.2.2.1, x.2.2.2.2.2.1, x.2.2.2.2.2.2.1, x.2.2.2.2.2.2.2.1], x.2.2.2.2.2.2.2.2.1)
theorem t1_eq (a b c d e f g h i : Int) (w : List Int) : sha_mix_l0_f_k0 a b c d e f g h w i = r04_block_l0_f_k0 i [a, b, c, d, e, f, g, h] w := by
 unfold sha_mix_l0_f_k0 r04_block_l0_f_k0
 have hc := ch_eq e f g
 unfold oB at hc
 rw [rot6, rot11, rot25, hc]
 rfl
theorem new_a (a b c d e f g h i : Int) (w : List Int) : sha_mix_l0_f_0 a b c d e f g h w i = (r04_block_l0_f_1 i [a, b, c, d, e, f, g, h] w).getD 0 0 := by
 unfold sha_mix_l0_f_0
 have hc := maj_eq a b c
 unfold oB at hc
 rw [t1_eq, rot2, rot13, rot22, hc]
 rfl
theorem phi_next (x : sha_mix_l0_X) : phi (sha_mix_l0_next x) = r04_block_l0_next (phi x) := by
 obtain ⟨a, b, c, d, e, f, g, h, w, i⟩ := x
 show (IntKind.i64.wrap (i + 1), [sha_mix_l0_f_0 a b c d e f g h w i, a, b, c, IntKind.u32.wrap (d + sha_mix_l0_f_k0 a b c d e f g h w i), e, f, g], w) = _
 rw [new_a, t1_eq]
 rfl
theorem phi_goes (x : sha_mix_l0_X) : cval (sha_mix_l0_goes x) = cval (r04_block_l0_goes (phi x)) := rfl
def psi (x : sha_mix_l2_X) : r04_block_l2_X := (x.2.1, x.2.2, x.1)
theorem eight {l : List Int} (h : l.length = 8) : [l.getD 0 0, l.getD 1 0, l.getD 2 0, l.getD 3 0, l.getD 4 0, l.getD 5 0, l.getD 6 0, l.getD 7 0] = l := by
 match l, h with
 | [_, _, _, _, _, _, _, _], _ => rfl
theorem mix_eq (s : List Int) (b : List UInt8) (hs : s.length = 8) (hb : b.length = 64) : sha_mix_0 s b = r04_block_0 s b := by
 have h1 : phi (sha_mix_k0 s b) = r04_block_l0_run ((0 : Int), s, r04_words_0 b) := by
  have e : phi (s.getD 0 (dflt TC.u32), s.getD 1 (dflt TC.u32), s.getD 2 (dflt TC.u32), s.getD 3 (dflt TC.u32), s.getD 4 (dflt TC.u32), s.getD 5 (dflt TC.u32), s.getD 6 (dflt TC.u32), s.getD 7 (dflt TC.u32), sha_spread_0 b, (0 : Int)) = ((0 : Int), s, r04_words_0 b) := by
   rw [(spread_w b).2, (words_run b hb).2]
   exact congrArg (fun l => ((0 : Int), l, shW b 64)) (eight hs)
  have e1 : sha_mix_k0 s b = iterX sha_mix_l0_next sha_mix_l0_goes 64 (s.getD 0 (dflt TC.u32), s.getD 1 (dflt TC.u32), s.getD 2 (dflt TC.u32), s.getD 3 (dflt TC.u32), s.getD 4 (dflt TC.u32), s.getD 5 (dflt TC.u32), s.getD 6 (dflt TC.u32), s.getD 7 (dflt TC.u32), sha_spread_0 b, (0 : Int)) := by
   unfold sha_mix_k0 sha_mix_l0_run
   rw [show sha_mix_l0_fuel (s.getD 0 (dflt TC.u32), s.getD 1 (dflt TC.u32), s.getD 2 (dflt TC.u32), s.getD 3 (dflt TC.u32), s.getD 4 (dflt TC.u32), s.getD 5 (dflt TC.u32), s.getD 6 (dflt TC.u32), s.getD 7 (dflt TC.u32), sha_spread_0 b, (0 : Int)) = 64 from rfl]
  have e2 : r04_block_l0_run ((0 : Int), s, r04_words_0 b) = iterX r04_block_l0_next r04_block_l0_goes 64 ((0 : Int), s, r04_words_0 b) := by
   unfold r04_block_l0_run
   rw [show r04_block_l0_fuel ((0 : Int), s, r04_words_0 b) = 64 from rfl]
  rw [e1, e2, iterX_sim phi phi_goes phi_next, e]
 unfold sha_mix_0 r04_block_0
 rw [← h1]
 generalize sha_mix_k0 s b = y
 have e : ∀ l : List Int, sha_mix_l2_run (l, 0, s) = iterX sha_mix_l2_next sha_mix_l2_goes 8 (l, 0, s) := fun l => by
  unfold sha_mix_l2_run
  rw [show sha_mix_l2_fuel (l, (0 : Int), s) = 8 from rfl]
 have e' : ∀ l : List Int, r04_block_l2_run (0, s, l) = iterX r04_block_l2_next r04_block_l2_goes 8 (0, s, l) := fun l => by
  unfold r04_block_l2_run
  rw [show r04_block_l2_fuel ((0 : Int), s, l) = 8 from rfl]
 rw [e]
 show _ = (r04_block_l2_run (0, s, [y.1, y.2.1, y.2.2.1, y.2.2.2.1, y.2.2.2.2.1, y.2.2.2.2.2.1, y.2.2.2.2.2.2.1, y.2.2.2.2.2.2.2.1])).2.1
 rw [e']
 exact congrArg (fun x : r04_block_l2_X => x.2.1) (iterX_sim (nx := sha_mix_l2_next) (gx := sha_mix_l2_goes) (ny := r04_block_l2_next) (gy := r04_block_l2_goes) psi (fun _ => rfl) (fun _ => rfl) 8 ([y.1, y.2.1, y.2.2.1, y.2.2.2.1, y.2.2.2.2.1, y.2.2.2.2.2.1, y.2.2.2.2.2.2.1, y.2.2.2.2.2.2.2.1], (0 : Int), s))
theorem mix_needs (s : List Int) (b : List UInt8) : ∀ p ∈ sha_mix_ps s b, p := by
 have wr : ∀ n : Int, 0 ≤ n → n ≤ 1000 → IntKind.i64.wrap n = n := fun n h1 h2 => i64_in ⟨by omega, by omega⟩
 have h0 : ∀ x : sha_mix_l0_X, x.2.2.2.2.2.2.2.2.2 = 0 → needX sha_mix_l0_next sha_mix_l0_goes sha_mix_l0_ps 64 x := fun x hx => (loop_inv (next := sha_mix_l0_next) (goes := sha_mix_l0_goes) (ps := sha_mix_l0_ps) (fun x : sha_mix_l0_X => 0 ≤ x.2.2.2.2.2.2.2.2.2 ∧ x.2.2.2.2.2.2.2.2.2 ≤ 64) (fun x => (64 - x.2.2.2.2.2.2.2.2.2).toNat) (fun x hx => by
  obtain ⟨a, b, c, d, e, f, g, h, w, i⟩ := x
  have hi : 0 ≤ i ∧ i ≤ 64 := hx
  refine ⟨needs_cons (fun hh => ?_) needs_nil, fun hg => ?_⟩
  ·have : i < 64 := by simpa [sha_mix_l0_f_k1] using hh
   exact ⟨hi.1, this⟩
  ·have : i < 64 := by simpa [sha_mix_l0_goes, sha_mix_l0_f_10, sha_mix_l0_f_k1, cval] using hg
   have e1 : IntKind.i64.wrap (i + 1) = i + 1 := wr _ (by omega) (by omega)
   refine ⟨?_, ?_⟩
   ·show 0 ≤ IntKind.i64.wrap (i + 1) ∧ IntKind.i64.wrap (i + 1) ≤ 64
    rw [e1]; omega
   ·show (64 - IntKind.i64.wrap (i + 1)).toNat < (64 - i).toNat
    rw [e1]; omega) 64 x (by rw [hx]; exact ⟨by omega, by omega⟩) (by rw [hx]; decide)).1
 have h2 : ∀ l : List Int, needX sha_mix_l2_next sha_mix_l2_goes sha_mix_l2_ps 8 (l, 0, s) := fun l => (loop_inv (next := sha_mix_l2_next) (goes := sha_mix_l2_goes) (ps := sha_mix_l2_ps) (fun x : sha_mix_l2_X => 0 ≤ x.2.1 ∧ x.2.1 ≤ 8) (fun x => (8 - x.2.1).toNat) (fun x hx => by
  obtain ⟨l, i, s⟩ := x
  have hi : 0 ≤ i ∧ i ≤ 8 := hx
  refine ⟨needs_cons (fun hh => ?_) needs_nil, fun hg => ?_⟩
  ·have : i < 8 := by simpa [sha_mix_l2_f_k0] using hh
   exact ⟨hi.1, this⟩
  ·have : i < 8 := by simpa [sha_mix_l2_goes, sha_mix_l2_f_k0, cval] using hg
   have e1 : IntKind.i64.wrap (i + 1) = i + 1 := wr _ (by omega) (by omega)
   refine ⟨?_, ?_⟩
   ·show 0 ≤ IntKind.i64.wrap (i + 1) ∧ IntKind.i64.wrap (i + 1) ≤ 8
    rw [e1]; omega
   ·show (8 - IntKind.i64.wrap (i + 1)).toNat < (8 - i).toNat
    rw [e1]; omega) 8 (l, 0, s) (show (0 : Int) ≤ 0 ∧ (0 : Int) ≤ 8 from ⟨by omega, by omega⟩) (show ((8 : Int) - 0).toNat ≤ 8 by decide)).1
 exact needs_cons (N0 (spread_w b).1) (needs_cons (N0 (N1 (spread_w b).1)) (needs_cons (h0 _ rfl) (needs_cons (h2 _) needs_nil)))
theorem block_needs (s : List Int) (b : List UInt8) (hb : b.length = 64) : ∀ p ∈ r04_block_ps s b, p := by
 have wr : ∀ n : Int, 0 ≤ n → n ≤ 1000 → IntKind.i64.wrap n = n := fun n h1 h2 => i64_in ⟨by omega, by omega⟩
 have hw := words_run b hb
 have hwl : (r04_words_0 b).length = 64 := by rw [hw.2, shW_length]
 have h0 : ∀ w : List Int, w.length = 64 → needX r04_block_l0_next r04_block_l0_goes r04_block_l0_ps 64 (0, s, w) := fun w hwl => (loop_inv (next := r04_block_l0_next) (goes := r04_block_l0_goes) (ps := r04_block_l0_ps) (fun x : r04_block_l0_X => (0 ≤ x.1 ∧ x.1 ≤ 64) ∧ x.2.2.length = 64) (fun x => (64 - x.1).toNat) (fun x hx => by
  obtain ⟨i, s, w⟩ := x
  obtain ⟨hi, hl⟩ := hx
  have hi : 0 ≤ i ∧ i ≤ 64 := hi
  have hl : w.length = 64 := hl
  refine ⟨needs_cons (fun hh => ?_) (needs_cons (fun hh => ?_) needs_nil), fun hg => ?_⟩
  ·have : i < 64 := by simpa [r04_block_l0_f_k1] using hh
   exact ⟨hi.1, this⟩
  ·have : i < 64 := by simpa [r04_block_l0_f_k1] using hh
   exact ⟨hi.1, show i < (w.length : Int) by omega⟩
  ·have : i < 64 := by simpa [r04_block_l0_goes, r04_block_l0_f_k1, cval] using hg
   have e1 : IntKind.i64.wrap (i + 1) = i + 1 := wr _ (by omega) (by omega)
   refine ⟨⟨?_, hl⟩, ?_⟩
   ·show 0 ≤ IntKind.i64.wrap (i + 1) ∧ IntKind.i64.wrap (i + 1) ≤ 64
    rw [e1]; omega
   ·show (64 - IntKind.i64.wrap (i + 1)).toNat < (64 - i).toNat
    rw [e1]; omega) 64 (0, s, w) ⟨(show (0 : Int) ≤ 0 ∧ (0 : Int) ≤ 64 from ⟨by omega, by omega⟩), hwl⟩ (show ((64 : Int) - 0).toNat ≤ 64 by decide)).1
 have h2 : ∀ l : List Int, needX r04_block_l2_next r04_block_l2_goes r04_block_l2_ps 8 (0, s, l) := fun l => (loop_inv (next := r04_block_l2_next) (goes := r04_block_l2_goes) (ps := r04_block_l2_ps) (fun x : r04_block_l2_X => 0 ≤ x.1 ∧ x.1 ≤ 8) (fun x => (8 - x.1).toNat) (fun x hx => by
  obtain ⟨i, s, l⟩ := x
  have hi : 0 ≤ i ∧ i ≤ 8 := hx
  refine ⟨needs_cons (fun hh => ?_) needs_nil, fun hg => ?_⟩
  ·have : i < 8 := by simpa [r04_block_l2_f_k0] using hh
   exact ⟨hi.1, this⟩
  ·have : i < 8 := by simpa [r04_block_l2_goes, r04_block_l2_f_k0, cval] using hg
   have e1 : IntKind.i64.wrap (i + 1) = i + 1 := wr _ (by omega) (by omega)
   refine ⟨?_, ?_⟩
   ·show 0 ≤ IntKind.i64.wrap (i + 1) ∧ IntKind.i64.wrap (i + 1) ≤ 8
    rw [e1]; omega
   ·show (8 - IntKind.i64.wrap (i + 1)).toNat < (8 - i).toNat
    rw [e1]; omega) 8 (0, s, l) (show (0 : Int) ≤ 0 ∧ (0 : Int) ≤ 8 from ⟨by omega, by omega⟩) (show ((8 : Int) - 0).toNat ≤ 8 by decide)).1
 exact needs_cons hw.1 (needs_cons (h0 _ hwl) (needs_cons (h2 _) needs_nil))
end Go.Proofs.YtkknpeeccejppaaDoor
namespace Go.Proofs.YtkknpeeccejppaaDoor
open Go.RowKit
def sha_mix_r2 (a0 : List Int) (a1 : List UInt8) : A := .av .u32 8 (r04_block_0 a0 a1)
def sha_mix_o2 (_a0 : List Int) (_a1 : List UInt8) : Objs := []
def sha_mix_ps2 (_a0 : List Int) (_a1 : List UInt8) : List Prop := []
theorem sha_mix_c2 (a0 : List Int) (a1 : List UInt8) (_hp : ∀ p ∈ sha_mix_ps2 a0 a1, p) : CallOk Tryd.prog 41 [.av .u32 8 a0, .av .u8 64 a1] 0 [] 1 (sha_mix_r2 a0 a1) 0 (sha_mix_o2 a0 a1) :=
 callOk_av 0 rfl fun h0 => callOk_av 1 rfl fun h1 => by
  have h := sha_mix_c a0 a1 (mix_needs a0 a1)
  have e : sha_mix_r a0 a1 = sha_mix_r2 a0 a1 := by
   show A.av .u32 8 (sha_mix_0 a0 a1) = _
   rw [mix_eq a0 a1 h0 h1]
   rfl
  rw [e] at h
  exact h
def sha_mix_t : List A → Nat → Objs → Option CRes := rowK [.a .u32 8, .a .u8 64] 0 sha_mix_r2 sha_mix_o2 sha_mix_ps2
theorem sha_mix_tok : TOk Tryd.prog 41 sha_mix_t := rowK_ok (ks := [.a .u32 8, .a .u8 64]) sha_mix_c2
noncomputable def Csd_1 := addC 41 sha_mix_t Csb
theorem Csd_1_ok : COk Tryd.prog Csd_1 := addC_ok sha_mix_tok Csb_ok
noncomputable def Csd_2 := addC 40 (inl (envT Csd_1 L0) 20 40) Csd_1
theorem Csd_2_ok : COk Tryd.prog Csd_2 := addC_ok (inl_ok (envP_ok Csd_1_ok L0_ok) 20 40) Csd_1_ok
abbrev sha_Add_l0_X : Type := (List UInt8) × Bool × (List Int) × (List UInt8) × Int
def sha_Add_l0_T (x : sha_Add_l0_X) : St := ⟨51, 1, [(0, .own 0 0), (1, .sl .u8 x.1)], [(0, some (.rcd 111 [.v (.bool x.2.1), .av .u32 8 x.2.2.1, .av .u8 64 x.2.2.2.1, .v (.int .i64 x.2.2.2.2)]))]⟩
def sha_Add_l0_un : St → Option sha_Add_l0_X
 | ⟨51, 1, [(0, .own 0 0), (1, .sl .u8 z0)], [(0, some (.rcd 111 [.v (.bool z1), .av .u32 8 z2, .av .u8 64 z3, .v (.int .i64 z4)]))]⟩ => some (z0, z1, z2, z3, z4)
 | _ => none
theorem sha_Add_l0_unok : ∀ s x, sha_Add_l0_un s = some x → s = sha_Add_l0_T x := fun s x h => by
 unfold sha_Add_l0_un at h
 split at h
 ·cases h; rfl
 ·cases h
def sha_Add_l0_S : Shape := ⟨1, 1, [0, 1], [], [(0, 0)], [0], [], [0]⟩
def sha_Add_l0_E : Entry := ⟨[], [(0, 0)], [0, 1], [0]⟩
def sha_Add_l0_f_k4 (a0 : List UInt8) (_a1 : Bool) (_a2 : List Int) (_a3 : List UInt8) (a4 : Int) : Int := (↑(a0.length.min ((64 : Nat) - (a4.tmod (64 : Int)).toNat)) : Int)
def sha_Add_l0_f_k3 (a0 : List UInt8) (_a1 : Bool) (_a2 : List Int) (_a3 : List UInt8) (_a4 : Int) : Bool := !!decide ((↑a0.length : Int) > (0 : Int))
def sha_Add_l0_f_k2 (a0 : List UInt8) (a1 : Bool) (a2 : List Int) (a3 : List UInt8) (a4 : Int) : Int := IntKind.i64.wrap (a4 + (sha_Add_l0_f_k4 a0 a1 a2 a3 a4))
def sha_Add_l0_f_k1 (a0 : List UInt8) (a1 : Bool) (a2 : List Int) (a3 : List UInt8) (a4 : Int) : Bool := IntKind.i64.wrap (a4.tmod (64 : Int) + (sha_Add_l0_f_k4 a0 a1 a2 a3 a4)) == (64 : Int)
def sha_Add_l0_f_k0 (a0 : List UInt8) (_a1 : Bool) (_a2 : List Int) (a3 : List UInt8) (a4 : Int) : List UInt8 := List.take (a4.tmod (64 : Int)).toNat a3 ++ (List.take ((64 : Nat) - (a4.tmod (64 : Int)).toNat) a0 ++ List.drop ((a4.tmod (64 : Int)).toNat + a0.length.min ((64 : Nat) - (a4.tmod (64 : Int)).toNat)) a3)
def sha_Add_l0_f_0 (a0 : List UInt8) (a1 : Bool) (a2 : List Int) (a3 : List UInt8) (a4 : Int) : List UInt8 := List.take ((↑a0.length : Int).toNat - (sha_Add_l0_f_k4 a0 a1 a2 a3 a4).toNat) (List.drop (sha_Add_l0_f_k4 a0 a1 a2 a3 a4).toNat a0)
def sha_Add_l0_f_1 (a0 : List UInt8) (a1 : Bool) (a2 : List Int) (a3 : List UInt8) (a4 : Int) : Bool := bif (sha_Add_l0_f_k1 a0 a1 a2 a3 a4) then a1 else a1
def sha_Add_l0_f_2 (a0 : List UInt8) (a1 : Bool) (a2 : List Int) (a3 : List UInt8) (a4 : Int) : List Int := bif (sha_Add_l0_f_k1 a0 a1 a2 a3 a4) then r04_block_0 a2 (sha_Add_l0_f_k0 a0 a1 a2 a3 a4) else a2
def sha_Add_l0_f_3 (a0 : List UInt8) (a1 : Bool) (a2 : List Int) (a3 : List UInt8) (a4 : Int) : List UInt8 := bif (sha_Add_l0_f_k1 a0 a1 a2 a3 a4) then (sha_Add_l0_f_k0 a0 a1 a2 a3 a4) else (sha_Add_l0_f_k0 a0 a1 a2 a3 a4)
def sha_Add_l0_f_4 (a0 : List UInt8) (a1 : Bool) (a2 : List Int) (a3 : List UInt8) (a4 : Int) : Int := bif (sha_Add_l0_f_k1 a0 a1 a2 a3 a4) then (sha_Add_l0_f_k2 a0 a1 a2 a3 a4) else (sha_Add_l0_f_k2 a0 a1 a2 a3 a4)
def sha_Add_l0_next (x : sha_Add_l0_X) : sha_Add_l0_X := (sha_Add_l0_f_0 x.1 x.2.1 x.2.2.1 x.2.2.2.1 x.2.2.2.2, sha_Add_l0_f_1 x.1 x.2.1 x.2.2.1 x.2.2.2.1 x.2.2.2.2, sha_Add_l0_f_2 x.1 x.2.1 x.2.2.1 x.2.2.2.1 x.2.2.2.2, sha_Add_l0_f_3 x.1 x.2.1 x.2.2.1 x.2.2.2.1 x.2.2.2.2, sha_Add_l0_f_4 x.1 x.2.1 x.2.2.1 x.2.2.2.1 x.2.2.2.2)
def sha_Add_l0_goes (x : sha_Add_l0_X) : Cnd := some ((sha_Add_l0_f_k3 x.1 x.2.1 x.2.2.1 x.2.2.2.1 x.2.2.2.2))
def sha_Add_l0_psA (x : sha_Add_l0_X) : List Prop := [((sha_Add_l0_f_k3 x.1 x.2.1 x.2.2.1 x.2.2.2.1 x.2.2.2.2) = true → (0 : Int) ≤ x.2.2.2.2.tmod (64 : Int) ∧ x.2.2.2.2.tmod (64 : Int) ≤ (64 : Int)), ((sha_Add_l0_f_k3 x.1 x.2.1 x.2.2.1 x.2.2.2.1 x.2.2.2.2) = true → (x.2.2.2.2.tmod (64 : Int)).toNat + ((64 : Nat) - (x.2.2.2.2.tmod (64 : Int)).toNat) ≤ (64 : Nat)), ((sha_Add_l0_f_k3 x.1 x.2.1 x.2.2.1 x.2.2.2.1 x.2.2.2.2) = true → (0 : Nat) < (64 : Nat) - (x.2.2.2.2.tmod (64 : Int)).toNat), ((sha_Add_l0_f_k3 x.1 x.2.1 x.2.2.1 x.2.2.2.1 x.2.2.2.2) = true → (0 : Int) ≤ (sha_Add_l0_f_k4 x.1 x.2.1 x.2.2.1 x.2.2.2.1 x.2.2.2.2) ∧ (sha_Add_l0_f_k4 x.1 x.2.1 x.2.2.1 x.2.2.2.1 x.2.2.2.2) ≤ (↑x.1.length : Int) ∧ (↑x.1.length : Int) ≤ (↑x.1.length : Int))]
def sha_Add_l0_ps (x : sha_Add_l0_X) : List Prop := [((sha_Add_l0_f_k3 x.1 x.2.1 x.2.2.1 x.2.2.2.1 x.2.2.2.2) = true → (0 : Int) ≤ x.2.2.2.2.tmod (64 : Int) ∧ x.2.2.2.2.tmod (64 : Int) ≤ (64 : Int)), ((sha_Add_l0_f_k3 x.1 x.2.1 x.2.2.1 x.2.2.2.1 x.2.2.2.2) = true → (0 : Nat) < (64 : Nat) - (x.2.2.2.2.tmod (64 : Int)).toNat), ((sha_Add_l0_f_k3 x.1 x.2.1 x.2.2.1 x.2.2.2.1 x.2.2.2.2) = true → (0 : Int) ≤ (sha_Add_l0_f_k4 x.1 x.2.1 x.2.2.1 x.2.2.2.1 x.2.2.2.2) ∧ (sha_Add_l0_f_k4 x.1 x.2.1 x.2.2.1 x.2.2.2.1 x.2.2.2.2) ≤ (↑x.1.length : Int) ∧ (↑x.1.length : Int) ≤ (↑x.1.length : Int))]
def sha_Add_l0_outs (x : sha_Add_l0_X) : Outs := [(some 0, some (!decide ((↑x.1.length : Int) > (0 : Int))), ⟨51, 1, [], [(0, some (.rcd 111 [.v (.bool x.2.1), .av .u32 8 x.2.2.1, .av .u8 64 x.2.2.2.1, .v (.int .i64 x.2.2.2.2)]))]⟩)]
def sha_Add_l0_fuel (x : sha_Add_l0_X) : Nat := ((↑x.1.length : Int) - (0 : Int)).toNat
def sha_Add_l0_run (x : sha_Add_l0_X) : sha_Add_l0_X := iterX sha_Add_l0_next sha_Add_l0_goes (sha_Add_l0_fuel x) x
theorem sha_Add_l0_ev (a0 : List UInt8) (a1 : Bool) (a2 : List Int) (a3 : List UInt8) (a4 : Int) : roundE (envT Csd_2 L0) 9 (loopAt Tryd.prog 32 0) sha_Add_l0_S (sha_Add_l0_T (a0, a1, a2, a3, a4)) = some (sha_Add_l0_psA (a0, a1, a2, a3, a4), sha_Add_l0_outs (a0, a1, a2, a3, a4), sha_Add_l0_goes (a0, a1, a2, a3, a4), sha_Add_l0_T (sha_Add_l0_next (a0, a1, a2, a3, a4))) := by kernel_rfl
theorem sha_Add_l0_hA (a0 : List UInt8) (a1 : Bool) (a2 : List Int) (a3 : List UInt8) (a4 : Int) (hp : ∀ p ∈ sha_Add_l0_ps (a0, a1, a2, a3, a4), p) : ∀ p ∈ sha_Add_l0_psA (a0, a1, a2, a3, a4), p := by
 have n0 : ((sha_Add_l0_f_k3 a0 a1 a2 a3 a4) = true → (0 : Int) ≤ a4.tmod (64 : Int) ∧ a4.tmod (64 : Int) ≤ (64 : Int)) := N0 hp
 have n1 : ((sha_Add_l0_f_k3 a0 a1 a2 a3 a4) = true → (a4.tmod (64 : Int)).toNat + ((64 : Nat) - (a4.tmod (64 : Int)).toNat) ≤ (64 : Nat)) := by intro h0; have g := n0 h0; omega
 have n2 := N0 (N1 hp)
 have n3 := N0 (N1 (N1 hp))
 exact (needs_cons n0 (needs_cons n1 (needs_cons n2 (needs_cons n3 needs_nil))))
noncomputable def sha_Add_l0_row := rowL (envT Csd_2 L0) (loopAt Tryd.prog 32 0) sha_Add_l0_S sha_Add_l0_E sha_Add_l0_un sha_Add_l0_fuel sha_Add_l0_next sha_Add_l0_goes sha_Add_l0_ps sha_Add_l0_outs
theorem sha_Add_l0_rok : ∀ s b ps outs, sha_Add_l0_row s = some (b, ps, outs) → Wf s ⟨ps, outs, none⟩ ∧ LoopOk (envT C0 L0) b s ps outs :=
 rowP_ok (T := sha_Add_l0_T) Csd_2_ok L0_ok (u := 9) (by kernel_rfl) (by decide) (fun ⟨a0, a1, a2, a3, a4⟩ => sha_Add_l0_ev a0 a1 a2 a3 a4) (fun ⟨a0, a1, a2, a3, a4⟩ => sha_Add_l0_hA a0 a1 a2 a3 a4) sha_Add_l0_unok (fun _ => okOuts_ok (n := 51) rfl) fun _ _ => rfl
noncomputable def sha_Add_l0_L := addLp 0 sha_Add_l0_row L0
theorem sha_Add_l0_Lok : LpOk sha_Add_l0_L := addLp_ok sha_Add_l0_rok L0_ok
def sha_Add_k3 (a0 : List Int) (a1 : List UInt8) (a2 : Int) (a3 : List UInt8) : Bool := (sha_Add_l0_run (a3, true, a0, a1, a2)).snd.fst
def sha_Add_k2 (a0 : List Int) (a1 : List UInt8) (a2 : Int) (a3 : List UInt8) : List Int := (sha_Add_l0_run (a3, true, a0, a1, a2)).snd.snd.fst
def sha_Add_k1 (a0 : List Int) (a1 : List UInt8) (a2 : Int) (a3 : List UInt8) : Int := (sha_Add_l0_run (a3, true, a0, a1, a2)).snd.snd.snd.snd
def sha_Add_k0 (a0 : List Int) (a1 : List UInt8) (a2 : Int) (a3 : List UInt8) : List UInt8 := (sha_Add_l0_run (a3, true, a0, a1, a2)).snd.snd.snd.fst
def sha_Add_2 (a0 : List Int) (a1 : List UInt8) (a2 : Int) (a3 : List UInt8) : List Int := (sha_Add_k2 a0 a1 a2 a3)
def sha_Add_3 (a0 : List Int) (a1 : List UInt8) (a2 : Int) (a3 : List UInt8) : List UInt8 := (sha_Add_k0 a0 a1 a2 a3)
def sha_Add_6 (a0 : List Int) (a1 : List UInt8) (a2 : Int) (a3 : List UInt8) : List Int := (sha_Add_k2 a0 a1 a2 a3)
def sha_Add_7 (a0 : List Int) (a1 : List UInt8) (a2 : Int) (a3 : List UInt8) : List UInt8 := (sha_Add_k0 a0 a1 a2 a3)
def sha_Add_r (_a0 : List Int) (_a1 : List UInt8) (_a2 : Int) (_a3 : List UInt8) : A := .v (.int .i64 ((0 : Int)))
def sha_Add_o (a0 : List Int) (a1 : List UInt8) (a2 : Int) (a3 : List UInt8) : Objs := [(0, some (.rcd 111 [.v (.bool ((sha_Add_k3 a0 a1 a2 a3))), .av .u32 8 (sha_Add_2 a0 a1 a2 a3), .av .u8 64 (sha_Add_3 a0 a1 a2 a3), .v (.int .i64 ((sha_Add_k1 a0 a1 a2 a3)))])), (0, some (.rcd 111 [.v (.bool ((sha_Add_k3 a0 a1 a2 a3))), .av .u32 8 (sha_Add_6 a0 a1 a2 a3), .av .u8 64 (sha_Add_7 a0 a1 a2 a3), .v (.int .i64 ((sha_Add_k1 a0 a1 a2 a3)))])), (0, some (.rcd 111 [.v (.bool (true)), .av .u32 8 a0, .av .u8 64 a1, .v (.int .i64 a2)]))]
def sha_Add_ps (a0 : List Int) (a1 : List UInt8) (a2 : Int) (a3 : List UInt8) : List Prop := [(true = true → needX sha_Add_l0_next sha_Add_l0_goes sha_Add_l0_ps (sha_Add_l0_fuel (a3, true, a0, a1, a2)) (a3, true, a0, a1, a2))]
theorem sha_Add_ev (a0 : List Int) (a1 : List UInt8) (a2 : Int) (a3 : List UInt8) : evF (envT Csd_2 sha_Add_l0_L) 9 32 [.own 0 0, .sl .u8 a3] 1 [(0, some (.rcd 111 [.v (.bool true), .av .u32 8 a0, .av .u8 64 a1, .v (.int .i64 a2)]))] = some (2, sha_Add_r a0 a1 a2 a3, 1, sha_Add_o a0 a1 a2 a3, [(true = true → loopAt Tryd.prog (32 : FuncId) (0 : Nat) = loopAt Tryd.prog (32 : FuncId) (0 : Nat)), (true = true → needX sha_Add_l0_next sha_Add_l0_goes sha_Add_l0_ps (sha_Add_l0_fuel (a3, true, a0, a1, a2)) (a3, true, a0, a1, a2))]) := by kernel_rfl
theorem sha_Add_c (a0 : List Int) (a1 : List UInt8) (a2 : Int) (a3 : List UInt8) (hp : ∀ p ∈ sha_Add_ps a0 a1 a2 a3, p) : CallOk Tryd.prog 32 [.own 0 0, .sl .u8 a3] 1 [(0, some (.rcd 111 [.v (.bool true), .av .u32 8 a0, .av .u8 64 a1, .v (.int .i64 a2)]))] 2 (sha_Add_r a0 a1 a2 a3) 1 (sha_Add_o a0 a1 a2 a3) := by
 have n0 : (true = true → loopAt Tryd.prog (32 : FuncId) (0 : Nat) = loopAt Tryd.prog (32 : FuncId) (0 : Nat)) := by intros; rfl
 have n1 := N0 hp
 exact evF_ok (envP_ok Csd_2_ok sha_Add_l0_Lok) (sha_Add_ev a0 a1 a2 a3) (needs_cons n0 (needs_cons n1 needs_nil))
noncomputable def Csd := Csd_2
theorem Csd_ok : COk Tryd.prog Csd := Csd_2_ok
end Go.Proofs.YtkknpeeccejppaaDoor
namespace Go.Proofs.YtkknpeeccejppaaDoor
open Go.RowKit
def fold64 (s : List Int) (bs : List UInt8) : Nat → List Int
 | 0 => s
 | q + 1 => r04_block_0 (fold64 s bs q) ((bs.drop (64 * q)).take 64)
theorem fold64_append (s : List Int) (bs c : List UInt8) : ∀ q, 64 * q ≤ bs.length → fold64 s (bs ++ c) q = fold64 s bs q
 | 0, _ => rfl
 | q + 1, h => by
  show r04_block_0 (fold64 s (bs ++ c) q) _ = r04_block_0 (fold64 s bs q) _
  rw [fold64_append s bs c q (by omega), List.drop_append_of_le_length (by omega), List.take_append_of_le_length (by rw [List.length_drop]; omega)]
structure StR (s0 : List Int) (bs : List UInt8) (s : List Int) (w : List UInt8) (n : Int) : Prop where
 hn : n = (bs.length : Int)
 hs : s = fold64 s0 bs (bs.length / 64)
 hw : w.length = 64
 ht : w.take (bs.length % 64) = bs.drop (64 * (bs.length / 64))
theorem StR.more {s0 : List Int} {bs : List UInt8} {s : List Int} {w : List UInt8} {n : Int} (h : StR s0 bs s w n) {c : List UInt8} (hc : bs.length % 64 + c.length < 64) (w' : List UInt8) (hw : w'.length = 64) (ht : w'.take (bs.length % 64 + c.length) = w.take (bs.length % 64) ++ c) : StR s0 (bs ++ c) s w' (n + (c.length : Int)) := by
 have hl : (bs ++ c).length = bs.length + c.length := List.length_append
 have hq : (bs ++ c).length / 64 = bs.length / 64 := by rw [hl]; omega
 have hr : (bs ++ c).length % 64 = bs.length % 64 + c.length := by rw [hl]; omega
 refine ⟨by rw [h.hn, hl]; omega, by rw [hq, fold64_append s0 bs c _ (by omega)]; exact h.hs, hw, ?_⟩
 rw [hr, hq, ht, h.ht, List.drop_append_of_le_length (by omega)]
theorem StR.full {s0 : List Int} {bs : List UInt8} {s : List Int} {w : List UInt8} {n : Int} (h : StR s0 bs s w n) {c : List UInt8} (hc : bs.length % 64 + c.length = 64) (w' : List UInt8) (ht : w' = w.take (bs.length % 64) ++ c) : StR s0 (bs ++ c) (r04_block_0 s w') w' (n + (c.length : Int)) := by
 have hl : (bs ++ c).length = bs.length + c.length := List.length_append
 have hq : (bs ++ c).length / 64 = bs.length / 64 + 1 := by rw [hl]; omega
 have hr : (bs ++ c).length % 64 = 0 := by rw [hl]; omega
 have hd : (bs ++ c).drop (64 * (bs.length / 64)) = w' := by
  rw [List.drop_append_of_le_length (by omega), ht, h.ht]
 have hw : w'.length = 64 := by
  rw [← hd, List.length_drop, hl]; omega
 refine ⟨by rw [h.hn, hl]; omega, ?_, hw, ?_⟩
 ·rw [hq]
  show _ = r04_block_0 (fold64 s0 (bs ++ c) (bs.length / 64)) _
  rw [fold64_append s0 bs c _ (by omega), hd, List.take_of_length_le (by omega), h.hs]
 ·rw [hr, hq, List.take_zero, List.drop_of_length_le (by rw [hl]; omega)]
theorem add_next (s0 : List Int) (bs a : List UInt8) (s : List Int) (w : List UInt8) (n : Int) (h : StR s0 bs s w n) (hn : n + (a.length : Int) ≤ 4611686018427387904) (ha : 0 < a.length) :
  ∃ k, 0 < k ∧ k ≤ a.length ∧ StR s0 (bs ++ a.take k) (sha_Add_l0_f_2 a true s w n) (sha_Add_l0_f_3 a true s w n) (sha_Add_l0_f_4 a true s w n) ∧ sha_Add_l0_f_0 a true s w n = a.drop k ∧ sha_Add_l0_f_4 a true s w n = n + (k : Int) := by
 have hn0 : 0 ≤ n := by rw [h.hn]; omega
 have hm : n.tmod 64 = n % 64 := Int.tmod_eq_emod_of_nonneg hn0
 have hl := h.hn
 have hati : n.tmod 64 = ((bs.length % 64 : Nat) : Int) := by rw [hm]; omega
 have hat : (n.tmod 64).toNat = bs.length % 64 := by rw [hati]; omega
 have hk4 : sha_Add_l0_f_k4 a true s w n = ((min a.length (64 - bs.length % 64) : Nat) : Int) := by
  unfold sha_Add_l0_f_k4
  rw [hat]
 generalize hk : min a.length (64 - bs.length % 64) = k at hk4
 have hk0 : 0 < k := by omega
 have hka : k ≤ a.length := by omega
 have hw0 : sha_Add_l0_f_k0 a true s w n = w.take (bs.length % 64) ++ (a.take (64 - bs.length % 64) ++ w.drop (bs.length % 64 + k)) := by
  unfold sha_Add_l0_f_k0
  rw [hat, show a.length.min (64 - bs.length % 64) = k from hk]
 have htk : a.take (64 - bs.length % 64) = a.take k := by
  rcases Nat.le_total a.length (64 - bs.length % 64) with h1 | h1
  ·rw [List.take_of_length_le h1, List.take_of_length_le (by omega)]
  ·rw [show k = 64 - bs.length % 64 by omega]
 have hlk : (a.take k).length = k := by rw [List.length_take]; omega
 have hw1 : (sha_Add_l0_f_k0 a true s w n).length = 64 := by
  rw [hw0, htk]
  simp only [List.length_append, List.length_take, List.length_drop, h.hw]
  omega
 have hk2 : sha_Add_l0_f_k2 a true s w n = n + (k : Int) := by
  unfold sha_Add_l0_f_k2
  rw [hk4]
  exact i64_in ⟨by omega, by omega⟩
 have e3 : sha_Add_l0_f_3 a true s w n = sha_Add_l0_f_k0 a true s w n := by unfold sha_Add_l0_f_3; cases sha_Add_l0_f_k1 a true s w n <;> rfl
 have e4 : sha_Add_l0_f_4 a true s w n = n + (k : Int) := by unfold sha_Add_l0_f_4; rw [hk2]; cases sha_Add_l0_f_k1 a true s w n <;> rfl
 have e0 : sha_Add_l0_f_0 a true s w n = a.drop k := by
  unfold sha_Add_l0_f_0
  rw [hk4]
  exact List.take_of_length_le (by rw [List.length_drop]; simp)
 have hk1 : sha_Add_l0_f_k1 a true s w n = decide (bs.length % 64 + k = 64) := by
  unfold sha_Add_l0_f_k1
  rw [hk4, hati, i64_in ⟨by omega, by omega⟩]
  by_cases h5 : bs.length % 64 + k = 64
  ·rw [decide_eq_true h5]
   simp only [beq_iff_eq]
   omega
  ·rw [decide_eq_false h5]
   simp only [beq_eq_false_iff_ne, ne_eq]
   omega
 refine ⟨k, hk0, hka, ?_, e0, e4⟩
 rw [e3, e4]
 have hlk' : (n + (k : Int)) = n + ((a.take k).length : Int) := by rw [hlk]
 rw [hlk']
 by_cases h5 : bs.length % 64 + k = 64
 ·have e2 : sha_Add_l0_f_2 a true s w n = r04_block_0 s (sha_Add_l0_f_k0 a true s w n) := by unfold sha_Add_l0_f_2; rw [hk1, decide_eq_true h5]; rfl
  rw [e2]
  refine h.full (by rw [hlk]; exact h5) _ ?_
  rw [hw0, htk, List.drop_of_length_le (by rw [h.hw]; omega), List.append_nil]
 ·have e2 : sha_Add_l0_f_2 a true s w n = s := by unfold sha_Add_l0_f_2; rw [hk1, decide_eq_false h5]; rfl
  rw [e2]
  refine h.more (by rw [hlk]; omega) _ hw1 ?_
  rw [hw0, htk, hlk, ← List.append_assoc, List.take_append_of_le_length (by simp only [List.length_append, List.length_take, h.hw]; omega)]
  exact List.take_of_length_le (by simp only [List.length_append, List.length_take, h.hw]; omega)
theorem add_gen (a0 : List Int) (a1 : List UInt8) (a2 : Int) (a3 : List UInt8) (h0 : 0 ≤ a2) (hb : a2 + (a3.length : Int) ≤ 4611686018427387904) : (∀ p ∈ sha_Add_ps a0 a1 a2 a3, p) ∧ sha_Add_k3 a0 a1 a2 a3 = true := by
 have main := loop_inv (next := sha_Add_l0_next) (goes := sha_Add_l0_goes) (ps := sha_Add_l0_ps) (fun x => x.2.1 = true ∧ 0 ≤ x.2.2.2.2 ∧ x.2.2.2.2 + (x.1.length : Int) ≤ 4611686018427387904) (fun x => x.1.length) (fun x hx => by
  obtain ⟨a, t, s, w, n⟩ := x
  obtain ⟨ht, hn, hs⟩ := hx
  have ht : t = true := ht
  subst ht
  have hn : 0 ≤ n := hn
  have hs : n + (a.length : Int) ≤ 4611686018427387904 := hs
  have hm : n.tmod 64 = n % 64 := Int.tmod_eq_emod_of_nonneg hn
  have hk4 : sha_Add_l0_f_k4 a true s w n = ((min a.length (64 - (n.tmod 64).toNat) : Nat) : Int) := rfl
  have hr : (n.tmod 64).toNat < 64 := by rw [hm]; omega
  have g3 : sha_Add_l0_f_k3 a true s w n = true → 0 < a.length := fun h => by
   have : (!!decide ((a.length : Int) > 0)) = true := h
   simpa using this
  refine ⟨needs_cons (fun _ => ?_) (needs_cons (fun _ => ?_) (needs_cons (fun _ => ?_) needs_nil)), fun hg => ?_⟩
  ·show 0 ≤ n.tmod 64 ∧ n.tmod 64 ≤ 64
   rw [hm]; omega
  ·show 0 < 64 - (n.tmod 64).toNat
   omega
  ·show 0 ≤ sha_Add_l0_f_k4 a true s w n ∧ sha_Add_l0_f_k4 a true s w n ≤ (a.length : Int) ∧ (a.length : Int) ≤ (a.length : Int)
   rw [hk4]; omega
  ·have ha : 0 < a.length := g3 hg
   have e1 : sha_Add_l0_f_1 a true s w n = true := by unfold sha_Add_l0_f_1; cases sha_Add_l0_f_k1 a true s w n <;> rfl
   have e4 : sha_Add_l0_f_4 a true s w n = n + ((min a.length (64 - (n.tmod 64).toNat) : Nat) : Int) := by
    have e2 : sha_Add_l0_f_k2 a true s w n = n + ((min a.length (64 - (n.tmod 64).toNat) : Nat) : Int) := by
     unfold sha_Add_l0_f_k2
     rw [hk4]
     exact i64_in ⟨by omega, by omega⟩
    unfold sha_Add_l0_f_4
    rw [e2]
    cases sha_Add_l0_f_k1 a true s w n <;> rfl
   have e0 : (sha_Add_l0_f_0 a true s w n).length = a.length - min a.length (64 - (n.tmod 64).toNat) := by
    unfold sha_Add_l0_f_0
    rw [hk4]
    simp only [List.length_take, List.length_drop]
    omega
   refine ⟨⟨e1, ?_, ?_⟩, ?_⟩
   ·show 0 ≤ sha_Add_l0_f_4 a true s w n
    rw [e4]; omega
   ·show sha_Add_l0_f_4 a true s w n + ((sha_Add_l0_f_0 a true s w n).length : Int) ≤ _
    rw [e4, e0]; omega
   ·show (sha_Add_l0_f_0 a true s w n).length < a.length
    rw [e0]; omega) (sha_Add_l0_fuel (a3, true, a0, a1, a2)) (a3, true, a0, a1, a2) ⟨rfl, h0, hb⟩ (by show a3.length ≤ ((a3.length : Int) - 0).toNat; omega)
 exact ⟨needs_cons (fun _ => main.1) needs_nil, main.2.1.1⟩
theorem add_str (s0 : List Int) (bs : List UInt8) (a0 : List Int) (a1 : List UInt8) (a2 : Int) (a3 : List UInt8) (h : StR s0 bs a0 a1 a2) (hb : a2 + (a3.length : Int) ≤ 4611686018427387904) :
  StR s0 (bs ++ a3) (sha_Add_2 a0 a1 a2 a3) (sha_Add_3 a0 a1 a2 a3) (sha_Add_k1 a0 a1 a2 a3) := by
 have main := loop_inv (next := sha_Add_l0_next) (goes := sha_Add_l0_goes) (ps := fun _ => []) (fun x => x.2.1 = true ∧ x.2.2.2.2 + (x.1.length : Int) ≤ 4611686018427387904 ∧ ∃ d, d ++ x.1 = a3 ∧ StR s0 (bs ++ d) x.2.2.1 x.2.2.2.1 x.2.2.2.2) (fun x => x.1.length) (fun x hx => by
  obtain ⟨a, t, s, w, n⟩ := x
  obtain ⟨ht, hs, d, hd, hst⟩ := hx
  have ht : t = true := ht
  subst ht
  have hs : n + (a.length : Int) ≤ 4611686018427387904 := hs
  have hd : d ++ a = a3 := hd
  have hst : StR s0 (bs ++ d) s w n := hst
  refine ⟨needs_nil, fun hg => ?_⟩
  have ha : 0 < a.length := by
   have : (!!decide ((a.length : Int) > 0)) = true := hg
   simpa using this
  have e1 : sha_Add_l0_f_1 a true s w n = true := by unfold sha_Add_l0_f_1; cases sha_Add_l0_f_k1 a true s w n <;> rfl
  obtain ⟨k, k1, k2, k3, k4, k5⟩ := add_next s0 (bs ++ d) a s w n hst hs ha
  refine ⟨⟨e1, ?_, d ++ a.take k, ?_, ?_⟩, ?_⟩
  ·show sha_Add_l0_f_4 a true s w n + ((sha_Add_l0_f_0 a true s w n).length : Int) ≤ _
   rw [k5, k4, List.length_drop]; omega
  ·show (d ++ a.take k) ++ sha_Add_l0_f_0 a true s w n = a3
   rw [k4, List.append_assoc, List.take_append_drop, hd]
  ·rw [← List.append_assoc]
   exact k3
  ·show (sha_Add_l0_f_0 a true s w n).length < a.length
   rw [k4, List.length_drop]; omega) (sha_Add_l0_fuel (a3, true, a0, a1, a2)) (a3, true, a0, a1, a2) ⟨rfl, hb, [], rfl, by rw [List.append_nil]; exact h⟩ (by show a3.length ≤ ((a3.length : Int) - 0).toNat; omega)
 obtain ⟨_, ⟨_, _, d, hd, hst⟩, hg⟩ := main
 show StR s0 (bs ++ a3) (sha_Add_l0_run (a3, true, a0, a1, a2)).2.2.1 (sha_Add_l0_run (a3, true, a0, a1, a2)).2.2.2.1 (sha_Add_l0_run (a3, true, a0, a1, a2)).2.2.2.2
 unfold sha_Add_l0_run
 generalize iterX sha_Add_l0_next sha_Add_l0_goes (sha_Add_l0_fuel (a3, true, a0, a1, a2)) (a3, true, a0, a1, a2) = y at hd hst hg
 have he : y.1 = [] := by
  have : (!!decide ((y.1.length : Int) > 0)) = false := hg
  have : y.1.length = 0 := by simpa using this
  exact List.eq_nil_of_length_eq_zero this
 rw [he, List.append_nil] at hd
 rw [← hd]
 exact hst
def add_t : List A → Nat → Objs → Option CRes
 | [.own i 0, y], nx, o => match lookO i o, argL .u8 y with
  | some (.rcd 111 [.v (.bool true), .av .u32 8 s, .av .u8 64 w, .v (.int .i64 n)]), some b => some (2, .v (.int .i64 0), nx, (i, some (.rcd 111 [.v (.bool true), .av .u32 8 (sha_Add_2 s w n b), .av .u8 64 (sha_Add_3 s w n b), .v (.int .i64 (sha_Add_k1 s w n b))])) :: o, [0 ≤ n, n + (b.length : Int) ≤ 4611686018427387904])
  | _, _ => none
 | _, _, _ => none
theorem add_tok : TOk Tryd.prog 32 add_t := fun args nx o k x nx' o' ps h => by
 unfold add_t at h
 split at h <;> first | (cases h; done) | skip
 rename_i i y
 split at h <;> first | (cases h; done) | skip
 rename_i s w n b hl hb
 cases h
 refine ⟨fun hp => ?_, [_], rfl⟩
 obtain ⟨h1, h2⟩ := add_gen s w n b (N0 hp) (N0 (N1 hp))
 have h3 := sha_Add_c s w n b h1
 have h0 : lookO 0 (sha_Add_o s w n b) = some (.rcd 111 [.v (.bool true), .av .u32 8 (sha_Add_2 s w n b), .av .u8 64 (sha_Add_3 s w n b), .v (.int .i64 (sha_Add_k1 s w n b))]) := by
  show some (Ob.rcd 111 [.v (.bool (sha_Add_k3 s w n b)), _, _, _]) = _
  rw [h2]
 refine callOk_args (callOk_own h3 h0 (by rfl) (by rfl) (by rfl) (by rfl) hl) fun F N R vs hv => ?_
 obtain ⟨v, us, rfl, v1, v2⟩ := hv.inv
 obtain ⟨v', us', rfl, v3, v4⟩ := v2.inv
 exact HL.cons v1 (HL.cons (argL_ok hb v3) v4)
noncomputable def Csf := addC 32 add_t Csd
theorem Csf_ok : COk Tryd.prog Csf := addC_ok add_tok Csd_ok
end Go.Proofs.YtkknpeeccejppaaDoor
namespace Go.Proofs.YtkknpeeccejppaaDoor
open Go.RowKit
abbrev sha_Sum_l0_X : Type := Int × Int × (List UInt8)
def sha_Sum_l0_T (x : sha_Sum_l0_X) : St := ⟨60, 6, [(4, .v (.int .i64 x.1)), (5, .own 5 0), (26, .v (.int .i64 x.2.1))], [(5, some (.rcd 113 [.av .u8 8 x.2.2]))]⟩
def sha_Sum_l0_un : St → Option sha_Sum_l0_X
 | ⟨60, 6, [(4, .v (.int .i64 z0)), (5, .own 5 0), (26, .v (.int .i64 z1))], [(5, some (.rcd 113 [.av .u8 8 z2]))]⟩ => some (z0, z1, z2)
 | _ => none
theorem sha_Sum_l0_unok : ∀ s x, sha_Sum_l0_un s = some x → s = sha_Sum_l0_T x := fun s x h => by
 unfold sha_Sum_l0_un at h
 split at h
 ·cases h; rfl
 ·cases h
def sha_Sum_l0_S : Shape := ⟨6, 6, [4, 5, 26], [], [(5, 5)], [5], [], [5]⟩
def sha_Sum_l0_E : Entry := ⟨[.seg 5 [some (.u8, 8)]], [(5, 5)], [4, 5, 26], [5]⟩
def sha_Sum_l0_f_k1 (_a0 : Int) (a1 : Int) (_a2 : List UInt8) : Bool := !!decide (a1 < (8 : Int))
def sha_Sum_l0_f_k0 (a0 : Int) (a1 : Int) (_a2 : List UInt8) : Int := IntKind.u8.wrap (a0.fdiv ((2 : Int) ^ min (IntKind.u64.wrap (IntKind.i64.wrap ((56 : Int) - IntKind.i64.wrap ((8 : Int) * a1)))).toNat (64 : Nat)))
def sha_Sum_l0_f_2 (a0 : Int) (a1 : Int) (a2 : List UInt8) : List UInt8 := a2.set a1.toNat (UInt8.ofNat (sha_Sum_l0_f_k0 a0 a1 a2).toNat)
def sha_Sum_l0_next (x : sha_Sum_l0_X) : sha_Sum_l0_X := (x.1, IntKind.i64.wrap (x.2.1 + (1 : Int)), sha_Sum_l0_f_2 x.1 x.2.1 x.2.2)
def sha_Sum_l0_goes (x : sha_Sum_l0_X) : Cnd := some ((sha_Sum_l0_f_k1 x.1 x.2.1 x.2.2))
def sha_Sum_l0_psA (x : sha_Sum_l0_X) : List Prop := [((sha_Sum_l0_f_k1 x.1 x.2.1 x.2.2) = true → (0 : Int) ≤ IntKind.u64.wrap (IntKind.i64.wrap ((56 : Int) - IntKind.i64.wrap ((8 : Int) * x.2.1)))), ((sha_Sum_l0_f_k1 x.1 x.2.1 x.2.2) = true → (0 : Int) ≤ x.2.1 ∧ x.2.1 < (8 : Int)), ((sha_Sum_l0_f_k1 x.1 x.2.1 x.2.2) = true → x.2.1.toNat < (8 : Nat)), ((sha_Sum_l0_f_k1 x.1 x.2.1 x.2.2) = true → (0 : Int) ≤ (sha_Sum_l0_f_k0 x.1 x.2.1 x.2.2) ∧ (sha_Sum_l0_f_k0 x.1 x.2.1 x.2.2) < (256 : Int))]
def sha_Sum_l0_ps (x : sha_Sum_l0_X) : List Prop := [((sha_Sum_l0_f_k1 x.1 x.2.1 x.2.2) = true → (0 : Int) ≤ x.2.1 ∧ x.2.1 < (8 : Int))]
def sha_Sum_l0_outs (x : sha_Sum_l0_X) : Outs := [(some 0, some (!decide (x.2.1 < (8 : Int))), ⟨60, 6, [], [(5, some (.rcd 113 [.av .u8 8 x.2.2]))]⟩)]
def sha_Sum_l0_fuel (x : sha_Sum_l0_X) : Nat := ((8 : Int) - x.2.1).toNat
def sha_Sum_l0_run (x : sha_Sum_l0_X) : sha_Sum_l0_X := iterX sha_Sum_l0_next sha_Sum_l0_goes (sha_Sum_l0_fuel x) x
theorem sha_Sum_l0_ev (a0 : Int) (a1 : Int) (a2 : List UInt8) : roundE (envT Csf L0) 9 (loopAt Tryd.prog 33 0) sha_Sum_l0_S (sha_Sum_l0_T (a0, a1, a2)) = some (sha_Sum_l0_psA (a0, a1, a2), sha_Sum_l0_outs (a0, a1, a2), sha_Sum_l0_goes (a0, a1, a2), sha_Sum_l0_T (sha_Sum_l0_next (a0, a1, a2))) := by kernel_rfl
theorem sha_Sum_l0_hA (a0 : Int) (a1 : Int) (a2 : List UInt8) (hp : ∀ p ∈ sha_Sum_l0_ps (a0, a1, a2), p) : ∀ p ∈ sha_Sum_l0_psA (a0, a1, a2), p := by
 have n0 : ((sha_Sum_l0_f_k1 a0 a1 a2) = true → (0 : Int) ≤ IntKind.u64.wrap (IntKind.i64.wrap ((56 : Int) - IntKind.i64.wrap ((8 : Int) * a1)))) := by intros; exact wrapU64 _
 have n1 : ((sha_Sum_l0_f_k1 a0 a1 a2) = true → (0 : Int) ≤ a1 ∧ a1 < (8 : Int)) := N0 hp
 have n2 : ((sha_Sum_l0_f_k1 a0 a1 a2) = true → a1.toNat < (8 : Nat)) := by intro h0; have g := n1 h0; omega
 have n3 : ((sha_Sum_l0_f_k1 a0 a1 a2) = true → (0 : Int) ≤ (sha_Sum_l0_f_k0 a0 a1 a2) ∧ (sha_Sum_l0_f_k0 a0 a1 a2) < (256 : Int)) := by intros; exact wrapU8 _
 exact (needs_cons n0 (needs_cons n1 (needs_cons n2 (needs_cons n3 needs_nil))))
noncomputable def sha_Sum_l0_row := rowL (envT Csf L0) (loopAt Tryd.prog 33 0) sha_Sum_l0_S sha_Sum_l0_E sha_Sum_l0_un sha_Sum_l0_fuel sha_Sum_l0_next sha_Sum_l0_goes sha_Sum_l0_ps sha_Sum_l0_outs
theorem sha_Sum_l0_rok : ∀ s b ps outs, sha_Sum_l0_row s = some (b, ps, outs) → Wf s ⟨ps, outs, none⟩ ∧ LoopOk (envT C0 L0) b s ps outs :=
 rowP_ok (T := sha_Sum_l0_T) Csf_ok L0_ok (u := 9) (by kernel_rfl) (by decide) (fun ⟨a0, a1, a2⟩ => sha_Sum_l0_ev a0 a1 a2) (fun ⟨a0, a1, a2⟩ => sha_Sum_l0_hA a0 a1 a2) sha_Sum_l0_unok (fun _ => okOuts_ok (n := 60) rfl) fun _ _ => rfl
noncomputable def sha_Sum_l0_L := addLp 0 sha_Sum_l0_row L0
theorem sha_Sum_l0_Lok : LpOk sha_Sum_l0_L := addLp_ok sha_Sum_l0_rok L0_ok
abbrev sha_Sum_l2_X : Type := Int × (List UInt8) × Bool × (List Int) × (List UInt8) × Int
def sha_Sum_l2_T (x : sha_Sum_l2_X) : St := ⟨60, 6, [(2, .own 1 0), (3, .own 2 0), (41, .v (.int .i64 x.1))], [(1, some (.rcd 51 [.av .u8 32 x.2.1])), (2, some (.rcd 111 [.v (.bool x.2.2.1), .av .u32 8 x.2.2.2.1, .av .u8 64 x.2.2.2.2.1, .v (.int .i64 x.2.2.2.2.2)]))]⟩
def sha_Sum_l2_un : St → Option sha_Sum_l2_X
 | ⟨60, 6, [(2, .own 1 0), (3, .own 2 0), (41, .v (.int .i64 z0))], [(1, some (.rcd 51 [.av .u8 32 z1])), (2, some (.rcd 111 [.v (.bool z2), .av .u32 8 z3, .av .u8 64 z4, .v (.int .i64 z5)]))]⟩ => some (z0, z1, z2, z3, z4, z5)
 | _ => none
theorem sha_Sum_l2_unok : ∀ s x, sha_Sum_l2_un s = some x → s = sha_Sum_l2_T x := fun s x h => by
 unfold sha_Sum_l2_un at h
 split at h
 ·cases h; rfl
 ·cases h
def sha_Sum_l2_S : Shape := ⟨6, 6, [2, 3, 41], [], [(1, 1), (2, 2)], [1, 2], [], [1, 2]⟩
def sha_Sum_l2_E : Entry := ⟨[.seg 1 [some (.u8, 32)]], [(1, 1), (2, 2)], [2, 3, 41], [1, 2]⟩
def sha_Sum_l2_f_k1 (a0 : Int) (_a1 : List UInt8) (_a2 : Bool) (_a3 : List Int) (_a4 : List UInt8) (_a5 : Int) : Bool := !!decide (a0 < (32 : Int))
def sha_Sum_l2_f_k0 (a0 : Int) (_a1 : List UInt8) (_a2 : Bool) (a3 : List Int) (_a4 : List UInt8) (_a5 : Int) : Int := IntKind.u8.wrap (Int.fdiv (a3.getD (IntKind.i64.wrap (a0.tdiv (4 : Int))).toNat (dflt TC.u32)) ((2 : Int) ^ min (IntKind.u64.wrap (IntKind.i64.wrap ((24 : Int) - IntKind.i64.wrap (a0.tmod (4 : Int) * (8 : Int))))).toNat (32 : Nat)))
def sha_Sum_l2_f_1 (a0 : Int) (a1 : List UInt8) (a2 : Bool) (a3 : List Int) (a4 : List UInt8) (a5 : Int) : List UInt8 := a1.set a0.toNat (UInt8.ofNat (sha_Sum_l2_f_k0 a0 a1 a2 a3 a4 a5).toNat)
def sha_Sum_l2_next (x : sha_Sum_l2_X) : sha_Sum_l2_X := (IntKind.i64.wrap (x.1 + (1 : Int)), sha_Sum_l2_f_1 x.1 x.2.1 x.2.2.1 x.2.2.2.1 x.2.2.2.2.1 x.2.2.2.2.2, x.2.2.1, x.2.2.2.1, x.2.2.2.2.1, x.2.2.2.2.2)
def sha_Sum_l2_goes (x : sha_Sum_l2_X) : Cnd := some ((sha_Sum_l2_f_k1 x.1 x.2.1 x.2.2.1 x.2.2.2.1 x.2.2.2.2.1 x.2.2.2.2.2))
def sha_Sum_l2_psA (x : sha_Sum_l2_X) : List Prop := [((sha_Sum_l2_f_k1 x.1 x.2.1 x.2.2.1 x.2.2.2.1 x.2.2.2.2.1 x.2.2.2.2.2) = true → (0 : Int) ≤ IntKind.i64.wrap (x.1.tdiv (4 : Int)) ∧ IntKind.i64.wrap (x.1.tdiv (4 : Int)) < (8 : Int)), ((sha_Sum_l2_f_k1 x.1 x.2.1 x.2.2.1 x.2.2.2.1 x.2.2.2.2.1 x.2.2.2.2.2) = true → (IntKind.i64.wrap (x.1.tdiv (4 : Int))).toNat < (8 : Nat)), ((sha_Sum_l2_f_k1 x.1 x.2.1 x.2.2.1 x.2.2.2.1 x.2.2.2.2.1 x.2.2.2.2.2) = true → (0 : Int) ≤ IntKind.u64.wrap (IntKind.i64.wrap ((24 : Int) - IntKind.i64.wrap (x.1.tmod (4 : Int) * (8 : Int))))), ((sha_Sum_l2_f_k1 x.1 x.2.1 x.2.2.1 x.2.2.2.1 x.2.2.2.2.1 x.2.2.2.2.2) = true → (0 : Int) ≤ x.1 ∧ x.1 < (32 : Int)), ((sha_Sum_l2_f_k1 x.1 x.2.1 x.2.2.1 x.2.2.2.1 x.2.2.2.2.1 x.2.2.2.2.2) = true → x.1.toNat < (32 : Nat)), ((sha_Sum_l2_f_k1 x.1 x.2.1 x.2.2.1 x.2.2.2.1 x.2.2.2.2.1 x.2.2.2.2.2) = true → (0 : Int) ≤ (sha_Sum_l2_f_k0 x.1 x.2.1 x.2.2.1 x.2.2.2.1 x.2.2.2.2.1 x.2.2.2.2.2) ∧ (sha_Sum_l2_f_k0 x.1 x.2.1 x.2.2.1 x.2.2.2.1 x.2.2.2.2.1 x.2.2.2.2.2) < (256 : Int))]
def sha_Sum_l2_ps (x : sha_Sum_l2_X) : List Prop := [((sha_Sum_l2_f_k1 x.1 x.2.1 x.2.2.1 x.2.2.2.1 x.2.2.2.2.1 x.2.2.2.2.2) = true → (0 : Int) ≤ IntKind.i64.wrap (x.1.tdiv (4 : Int)) ∧ IntKind.i64.wrap (x.1.tdiv (4 : Int)) < (8 : Int)), ((sha_Sum_l2_f_k1 x.1 x.2.1 x.2.2.1 x.2.2.2.1 x.2.2.2.2.1 x.2.2.2.2.2) = true → (0 : Int) ≤ x.1 ∧ x.1 < (32 : Int))]
def sha_Sum_l2_outs (x : sha_Sum_l2_X) : Outs := [(some 2, some (!decide (x.1 < (32 : Int))), ⟨60, 6, [], [(1, some (.rcd 51 [.av .u8 32 x.2.1])), (2, some (.rcd 111 [.v (.bool x.2.2.1), .av .u32 8 x.2.2.2.1, .av .u8 64 x.2.2.2.2.1, .v (.int .i64 x.2.2.2.2.2)]))]⟩)]
def sha_Sum_l2_fuel (x : sha_Sum_l2_X) : Nat := ((32 : Int) - x.1).toNat
def sha_Sum_l2_run (x : sha_Sum_l2_X) : sha_Sum_l2_X := iterX sha_Sum_l2_next sha_Sum_l2_goes (sha_Sum_l2_fuel x) x
theorem sha_Sum_l2_ev (a0 : Int) (a1 : List UInt8) (a2 : Bool) (a3 : List Int) (a4 : List UInt8) (a5 : Int) : roundE (envT Csf sha_Sum_l0_L) 9 (loopAt Tryd.prog 33 2) sha_Sum_l2_S (sha_Sum_l2_T (a0, a1, a2, a3, a4, a5)) = some (sha_Sum_l2_psA (a0, a1, a2, a3, a4, a5), sha_Sum_l2_outs (a0, a1, a2, a3, a4, a5), sha_Sum_l2_goes (a0, a1, a2, a3, a4, a5), sha_Sum_l2_T (sha_Sum_l2_next (a0, a1, a2, a3, a4, a5))) := by kernel_rfl
theorem sha_Sum_l2_hA (a0 : Int) (a1 : List UInt8) (a2 : Bool) (a3 : List Int) (a4 : List UInt8) (a5 : Int) (hp : ∀ p ∈ sha_Sum_l2_ps (a0, a1, a2, a3, a4, a5), p) : ∀ p ∈ sha_Sum_l2_psA (a0, a1, a2, a3, a4, a5), p := by
 have n0 : ((sha_Sum_l2_f_k1 a0 a1 a2 a3 a4 a5) = true → (0 : Int) ≤ IntKind.i64.wrap (a0.tdiv (4 : Int)) ∧ IntKind.i64.wrap (a0.tdiv (4 : Int)) < (8 : Int)) := N0 hp
 have n1 : ((sha_Sum_l2_f_k1 a0 a1 a2 a3 a4 a5) = true → (IntKind.i64.wrap (a0.tdiv (4 : Int))).toNat < (8 : Nat)) := by intro h0; have g := n0 h0; omega
 have n2 : ((sha_Sum_l2_f_k1 a0 a1 a2 a3 a4 a5) = true → (0 : Int) ≤ IntKind.u64.wrap (IntKind.i64.wrap ((24 : Int) - IntKind.i64.wrap (a0.tmod (4 : Int) * (8 : Int))))) := by intros; exact wrapU64 _
 have n3 : ((sha_Sum_l2_f_k1 a0 a1 a2 a3 a4 a5) = true → (0 : Int) ≤ a0 ∧ a0 < (32 : Int)) := N0 (N1 hp)
 have n4 : ((sha_Sum_l2_f_k1 a0 a1 a2 a3 a4 a5) = true → a0.toNat < (32 : Nat)) := by intro h0; have g := n3 h0; omega
 have n5 : ((sha_Sum_l2_f_k1 a0 a1 a2 a3 a4 a5) = true → (0 : Int) ≤ (sha_Sum_l2_f_k0 a0 a1 a2 a3 a4 a5) ∧ (sha_Sum_l2_f_k0 a0 a1 a2 a3 a4 a5) < (256 : Int)) := by intros; exact wrapU8 _
 exact (needs_cons n0 (needs_cons n1 (needs_cons n2 (needs_cons n3 (needs_cons n4 (needs_cons n5 needs_nil))))))
noncomputable def sha_Sum_l2_row := rowL (envT Csf sha_Sum_l0_L) (loopAt Tryd.prog 33 2) sha_Sum_l2_S sha_Sum_l2_E sha_Sum_l2_un sha_Sum_l2_fuel sha_Sum_l2_next sha_Sum_l2_goes sha_Sum_l2_ps sha_Sum_l2_outs
theorem sha_Sum_l2_rok : ∀ s b ps outs, sha_Sum_l2_row s = some (b, ps, outs) → Wf s ⟨ps, outs, none⟩ ∧ LoopOk (envT C0 L0) b s ps outs :=
 rowP_ok (T := sha_Sum_l2_T) Csf_ok sha_Sum_l0_Lok (u := 9) (by kernel_rfl) (by decide) (fun ⟨a0, a1, a2, a3, a4, a5⟩ => sha_Sum_l2_ev a0 a1 a2 a3 a4 a5) (fun ⟨a0, a1, a2, a3, a4, a5⟩ => sha_Sum_l2_hA a0 a1 a2 a3 a4 a5) sha_Sum_l2_unok (fun _ => okOuts_ok (n := 60) rfl) fun _ _ => rfl
noncomputable def sha_Sum_l2_L := addLp 2 sha_Sum_l2_row sha_Sum_l0_L
theorem sha_Sum_l2_Lok : LpOk sha_Sum_l2_L := addLp_ok sha_Sum_l2_rok sha_Sum_l0_Lok
def sha_Sum_k6 (a0 : List Int) (a1 : List UInt8) (a2 : Int) : Int := sha_Add_k1 a0 a1 a2 [UInt8.ofNat (128 : Nat)]
def sha_Sum_k5 (a0 : List Int) (a1 : List UInt8) (a2 : Int) : Int := (IntKind.i64.wrap ((120 : Int) - (sha_Sum_k6 a0 a1 a2).tmod (64 : Int))).tmod (64 : Int)
def sha_Sum_k4 (_a0 : List Int) (_a1 : List UInt8) (_a2 : Int) : List UInt8 := [UInt8.ofNat (0 : Nat), UInt8.ofNat (0 : Nat), UInt8.ofNat (0 : Nat), UInt8.ofNat (0 : Nat), UInt8.ofNat (0 : Nat), UInt8.ofNat (0 : Nat), UInt8.ofNat (0 : Nat), UInt8.ofNat (0 : Nat)]
def sha_Sum_k3 (a0 : List Int) (a1 : List UInt8) (a2 : Int) : Int := sha_Add_k1 (sha_Add_2 a0 a1 a2 [UInt8.ofNat (128 : Nat)]) (sha_Add_3 a0 a1 a2 [UInt8.ofNat (128 : Nat)]) (sha_Sum_k6 a0 a1 a2) (List.replicate (sha_Sum_k5 a0 a1 a2).toNat (dflt TC.u8))
def sha_Sum_k2 (a0 : List Int) (a1 : List UInt8) (a2 : Int) : List UInt8 := sha_Add_3 (sha_Add_2 a0 a1 a2 [UInt8.ofNat (128 : Nat)]) (sha_Add_3 a0 a1 a2 [UInt8.ofNat (128 : Nat)]) (sha_Sum_k6 a0 a1 a2) (List.replicate (sha_Sum_k5 a0 a1 a2).toNat (dflt TC.u8))
def sha_Sum_k1 (a0 : List Int) (a1 : List UInt8) (a2 : Int) : List Int := sha_Add_2 (sha_Add_2 a0 a1 a2 [UInt8.ofNat (128 : Nat)]) (sha_Add_3 a0 a1 a2 [UInt8.ofNat (128 : Nat)]) (sha_Sum_k6 a0 a1 a2) (List.replicate (sha_Sum_k5 a0 a1 a2).toNat (dflt TC.u8))
def sha_Sum_k0 (a0 : List Int) (a1 : List UInt8) (a2 : Int) : List UInt8 := List.take (8 : Nat) (List.drop (0 : Nat) (sha_Sum_l0_run (IntKind.i64.wrap ((8 : Int) * a2), (0 : Int), (sha_Sum_k4 a0 a1 a2))).snd.snd)
def sha_Sum_0 (a0 : List Int) (a1 : List UInt8) (a2 : Int) : List UInt8 := (sha_Sum_l2_run ((0 : Int), UInt8.ofNat (0 : Nat) :: UInt8.ofNat (0 : Nat) :: UInt8.ofNat (0 : Nat) :: UInt8.ofNat (0 : Nat) :: UInt8.ofNat (0 : Nat) :: UInt8.ofNat (0 : Nat) :: UInt8.ofNat (0 : Nat) :: UInt8.ofNat (0 : Nat) :: UInt8.ofNat (0 : Nat) :: UInt8.ofNat (0 : Nat) :: UInt8.ofNat (0 : Nat) :: UInt8.ofNat (0 : Nat) :: UInt8.ofNat (0 : Nat) :: UInt8.ofNat (0 : Nat) :: UInt8.ofNat (0 : Nat) :: UInt8.ofNat (0 : Nat) :: UInt8.ofNat (0 : Nat) :: UInt8.ofNat (0 : Nat) :: UInt8.ofNat (0 : Nat) :: UInt8.ofNat (0 : Nat) :: UInt8.ofNat (0 : Nat) :: UInt8.ofNat (0 : Nat) :: UInt8.ofNat (0 : Nat) :: UInt8.ofNat (0 : Nat) :: (sha_Sum_k4 a0 a1 a2), true, sha_Add_2 (sha_Sum_k1 a0 a1 a2) (sha_Sum_k2 a0 a1 a2) (sha_Sum_k3 a0 a1 a2) (sha_Sum_k0 a0 a1 a2), sha_Add_3 (sha_Sum_k1 a0 a1 a2) (sha_Sum_k2 a0 a1 a2) (sha_Sum_k3 a0 a1 a2) (sha_Sum_k0 a0 a1 a2), sha_Add_k1 (sha_Sum_k1 a0 a1 a2) (sha_Sum_k2 a0 a1 a2) (sha_Sum_k3 a0 a1 a2) (sha_Sum_k0 a0 a1 a2))).snd.fst
def sha_Sum_r (a0 : List Int) (a1 : List UInt8) (a2 : Int) : A := .av .u8 32 (sha_Sum_0 a0 a1 a2)
def sha_Sum_o (a0 : List Int) (a1 : List UInt8) (a2 : Int) : Objs := [(0, some (.rcd 111 [.v (.bool true), .av .u32 8 a0, .av .u8 64 a1, .v (.int .i64 a2)])), (0, some (.rcd 111 [.v (.bool true), .av .u32 8 a0, .av .u8 64 a1, .v (.int .i64 a2)])), (0, some (.rcd 111 [.v (.bool true), .av .u32 8 a0, .av .u8 64 a1, .v (.int .i64 a2)])), (0, some (.rcd 111 [.v (.bool (true)), .av .u32 8 a0, .av .u8 64 a1, .v (.int .i64 a2)]))]
def sha_Sum_ps (a0 : List Int) (a1 : List UInt8) (a2 : Int) : List Prop := [(true = true → (0 : Int) ≤ a2), (true = true → a2 + (1 : Int) ≤ (4611686018427387904 : Int)), (true = true → (0 : Int) ≤ (sha_Sum_k5 a0 a1 a2) ∧ (sha_Sum_k5 a0 a1 a2) ≤ (sha_Sum_k5 a0 a1 a2) ∧ (sha_Sum_k5 a0 a1 a2) ≤ (549755813888 : Int)), (true = true → (0 : Int) ≤ (sha_Sum_k6 a0 a1 a2)), (true = true → (sha_Sum_k6 a0 a1 a2) + (↑(List.replicate (sha_Sum_k5 a0 a1 a2).toNat (dflt TC.u8)).length : Int) ≤ (4611686018427387904 : Int)), (true = true → needX sha_Sum_l0_next sha_Sum_l0_goes sha_Sum_l0_ps (8 : Nat) (IntKind.i64.wrap ((8 : Int) * a2), (0 : Int), (sha_Sum_k4 a0 a1 a2))), (true = true → (0 : Int) ≤ (sha_Sum_k3 a0 a1 a2)), (true = true → (sha_Sum_k3 a0 a1 a2) + (↑(8 : Nat) : Int) ≤ (4611686018427387904 : Int)), (true = true → needX sha_Sum_l2_next sha_Sum_l2_goes sha_Sum_l2_ps (32 : Nat) ((0 : Int), UInt8.ofNat (0 : Nat) :: UInt8.ofNat (0 : Nat) :: UInt8.ofNat (0 : Nat) :: UInt8.ofNat (0 : Nat) :: UInt8.ofNat (0 : Nat) :: UInt8.ofNat (0 : Nat) :: UInt8.ofNat (0 : Nat) :: UInt8.ofNat (0 : Nat) :: UInt8.ofNat (0 : Nat) :: UInt8.ofNat (0 : Nat) :: UInt8.ofNat (0 : Nat) :: UInt8.ofNat (0 : Nat) :: UInt8.ofNat (0 : Nat) :: UInt8.ofNat (0 : Nat) :: UInt8.ofNat (0 : Nat) :: UInt8.ofNat (0 : Nat) :: UInt8.ofNat (0 : Nat) :: UInt8.ofNat (0 : Nat) :: UInt8.ofNat (0 : Nat) :: UInt8.ofNat (0 : Nat) :: UInt8.ofNat (0 : Nat) :: UInt8.ofNat (0 : Nat) :: UInt8.ofNat (0 : Nat) :: UInt8.ofNat (0 : Nat) :: (sha_Sum_k4 a0 a1 a2), true, sha_Add_2 (sha_Sum_k1 a0 a1 a2) (sha_Sum_k2 a0 a1 a2) (sha_Sum_k3 a0 a1 a2) (sha_Sum_k0 a0 a1 a2), sha_Add_3 (sha_Sum_k1 a0 a1 a2) (sha_Sum_k2 a0 a1 a2) (sha_Sum_k3 a0 a1 a2) (sha_Sum_k0 a0 a1 a2), sha_Add_k1 (sha_Sum_k1 a0 a1 a2) (sha_Sum_k2 a0 a1 a2) (sha_Sum_k3 a0 a1 a2) (sha_Sum_k0 a0 a1 a2)))]
theorem sha_Sum_ev (a0 : List Int) (a1 : List UInt8) (a2 : Int) : evF (envT Csf sha_Sum_l2_L) 9 33 [.own 0 0] 1 [(0, some (.rcd 111 [.v (.bool true), .av .u32 8 a0, .av .u8 64 a1, .v (.int .i64 a2)]))] = some (2, sha_Sum_r a0 a1 a2, 1, sha_Sum_o a0 a1 a2, [(true = true → (0 : Int) ≤ (128 : Int) ∧ (128 : Int) < (256 : Int)), (true = true → (0 : Int) ≤ a2), (true = true → a2 + (1 : Int) ≤ (4611686018427387904 : Int)), (true = true → (0 : Int) ≤ (sha_Sum_k5 a0 a1 a2) ∧ (sha_Sum_k5 a0 a1 a2) ≤ (sha_Sum_k5 a0 a1 a2) ∧ (sha_Sum_k5 a0 a1 a2) ≤ (549755813888 : Int)), (true = true → (0 : Int) ≤ (sha_Sum_k6 a0 a1 a2)), (true = true → (sha_Sum_k6 a0 a1 a2) + (↑(List.replicate (sha_Sum_k5 a0 a1 a2).toNat (dflt TC.u8)).length : Int) ≤ (4611686018427387904 : Int)), (true = true → loopAt Tryd.prog (33 : FuncId) (0 : Nat) = loopAt Tryd.prog (33 : FuncId) (0 : Nat)), (true = true → (0 : Int) ≤ (0 : Int) ∧ (0 : Int) < (256 : Int)), (true = true → (0 : Int) ≤ (0 : Int) ∧ (0 : Int) < (256 : Int)), (true = true → (0 : Int) ≤ (0 : Int) ∧ (0 : Int) < (256 : Int)), (true = true → (0 : Int) ≤ (0 : Int) ∧ (0 : Int) < (256 : Int)), (true = true → (0 : Int) ≤ (0 : Int) ∧ (0 : Int) < (256 : Int)), (true = true → (0 : Int) ≤ (0 : Int) ∧ (0 : Int) < (256 : Int)), (true = true → (0 : Int) ≤ (0 : Int) ∧ (0 : Int) < (256 : Int)), (true = true → (0 : Int) ≤ (0 : Int) ∧ (0 : Int) < (256 : Int)), (true = true → needX sha_Sum_l0_next sha_Sum_l0_goes sha_Sum_l0_ps (8 : Nat) (IntKind.i64.wrap ((8 : Int) * a2), (0 : Int), (sha_Sum_k4 a0 a1 a2))), (true = true → (0 : Int) ≤ (0 : Int) ∧ (0 : Int) ≤ (8 : Int)), (true = true → (8 : Nat) ≤ (8 : Nat)), (true = true → (0 : Int) ≤ (sha_Sum_k3 a0 a1 a2)), (true = true → (sha_Sum_k3 a0 a1 a2) + (↑(8 : Nat) : Int) ≤ (4611686018427387904 : Int)), (true = true → loopAt Tryd.prog (33 : FuncId) (2 : Nat) = loopAt Tryd.prog (33 : FuncId) (2 : Nat)), (true = true → (0 : Int) ≤ (0 : Int) ∧ (0 : Int) < (256 : Int)), (true = true → (0 : Int) ≤ (0 : Int) ∧ (0 : Int) < (256 : Int)), (true = true → (0 : Int) ≤ (0 : Int) ∧ (0 : Int) < (256 : Int)), (true = true → (0 : Int) ≤ (0 : Int) ∧ (0 : Int) < (256 : Int)), (true = true → (0 : Int) ≤ (0 : Int) ∧ (0 : Int) < (256 : Int)), (true = true → (0 : Int) ≤ (0 : Int) ∧ (0 : Int) < (256 : Int)), (true = true → (0 : Int) ≤ (0 : Int) ∧ (0 : Int) < (256 : Int)), (true = true → (0 : Int) ≤ (0 : Int) ∧ (0 : Int) < (256 : Int)), (true = true → (0 : Int) ≤ (0 : Int) ∧ (0 : Int) < (256 : Int)), (true = true → (0 : Int) ≤ (0 : Int) ∧ (0 : Int) < (256 : Int)), (true = true → (0 : Int) ≤ (0 : Int) ∧ (0 : Int) < (256 : Int)), (true = true → (0 : Int) ≤ (0 : Int) ∧ (0 : Int) < (256 : Int)), (true = true → (0 : Int) ≤ (0 : Int) ∧ (0 : Int) < (256 : Int)), (true = true → (0 : Int) ≤ (0 : Int) ∧ (0 : Int) < (256 : Int)), (true = true → (0 : Int) ≤ (0 : Int) ∧ (0 : Int) < (256 : Int)), (true = true → (0 : Int) ≤ (0 : Int) ∧ (0 : Int) < (256 : Int)), (true = true → (0 : Int) ≤ (0 : Int) ∧ (0 : Int) < (256 : Int)), (true = true → (0 : Int) ≤ (0 : Int) ∧ (0 : Int) < (256 : Int)), (true = true → (0 : Int) ≤ (0 : Int) ∧ (0 : Int) < (256 : Int)), (true = true → (0 : Int) ≤ (0 : Int) ∧ (0 : Int) < (256 : Int)), (true = true → (0 : Int) ≤ (0 : Int) ∧ (0 : Int) < (256 : Int)), (true = true → (0 : Int) ≤ (0 : Int) ∧ (0 : Int) < (256 : Int)), (true = true → (0 : Int) ≤ (0 : Int) ∧ (0 : Int) < (256 : Int)), (true = true → (0 : Int) ≤ (0 : Int) ∧ (0 : Int) < (256 : Int)), (true = true → (0 : Int) ≤ (0 : Int) ∧ (0 : Int) < (256 : Int)), (true = true → (0 : Int) ≤ (0 : Int) ∧ (0 : Int) < (256 : Int)), (true = true → (0 : Int) ≤ (0 : Int) ∧ (0 : Int) < (256 : Int)), (true = true → (0 : Int) ≤ (0 : Int) ∧ (0 : Int) < (256 : Int)), (true = true → (0 : Int) ≤ (0 : Int) ∧ (0 : Int) < (256 : Int)), (true = true → (0 : Int) ≤ (0 : Int) ∧ (0 : Int) < (256 : Int)), (true = true → (0 : Int) ≤ (0 : Int) ∧ (0 : Int) < (256 : Int)), (true = true → (0 : Int) ≤ (0 : Int) ∧ (0 : Int) < (256 : Int)), (true = true → needX sha_Sum_l2_next sha_Sum_l2_goes sha_Sum_l2_ps (32 : Nat) ((0 : Int), UInt8.ofNat (0 : Nat) :: UInt8.ofNat (0 : Nat) :: UInt8.ofNat (0 : Nat) :: UInt8.ofNat (0 : Nat) :: UInt8.ofNat (0 : Nat) :: UInt8.ofNat (0 : Nat) :: UInt8.ofNat (0 : Nat) :: UInt8.ofNat (0 : Nat) :: UInt8.ofNat (0 : Nat) :: UInt8.ofNat (0 : Nat) :: UInt8.ofNat (0 : Nat) :: UInt8.ofNat (0 : Nat) :: UInt8.ofNat (0 : Nat) :: UInt8.ofNat (0 : Nat) :: UInt8.ofNat (0 : Nat) :: UInt8.ofNat (0 : Nat) :: UInt8.ofNat (0 : Nat) :: UInt8.ofNat (0 : Nat) :: UInt8.ofNat (0 : Nat) :: UInt8.ofNat (0 : Nat) :: UInt8.ofNat (0 : Nat) :: UInt8.ofNat (0 : Nat) :: UInt8.ofNat (0 : Nat) :: UInt8.ofNat (0 : Nat) :: (sha_Sum_k4 a0 a1 a2), true, sha_Add_2 (sha_Sum_k1 a0 a1 a2) (sha_Sum_k2 a0 a1 a2) (sha_Sum_k3 a0 a1 a2) (sha_Sum_k0 a0 a1 a2), sha_Add_3 (sha_Sum_k1 a0 a1 a2) (sha_Sum_k2 a0 a1 a2) (sha_Sum_k3 a0 a1 a2) (sha_Sum_k0 a0 a1 a2), sha_Add_k1 (sha_Sum_k1 a0 a1 a2) (sha_Sum_k2 a0 a1 a2) (sha_Sum_k3 a0 a1 a2) (sha_Sum_k0 a0 a1 a2)))]) := by kernel_rfl
theorem sha_Sum_c (a0 : List Int) (a1 : List UInt8) (a2 : Int) (hp : ∀ p ∈ sha_Sum_ps a0 a1 a2, p) : CallOk Tryd.prog 33 [.own 0 0] 1 [(0, some (.rcd 111 [.v (.bool true), .av .u32 8 a0, .av .u8 64 a1, .v (.int .i64 a2)]))] 2 (sha_Sum_r a0 a1 a2) 1 (sha_Sum_o a0 a1 a2) := by
 have n0 : (true = true → (0 : Int) ≤ (128 : Int) ∧ (128 : Int) < (256 : Int)) := by first | rfl | decide +kernel
 have n1 := N0 hp
 have n2 := N0 (N1 hp)
 have n3 := N0 (N1 (N1 hp))
 have n4 := N0 (N1 (N1 (N1 hp)))
 have n5 := N0 (N1 (N1 (N1 (N1 hp))))
 have n6 : (true = true → loopAt Tryd.prog (33 : FuncId) (0 : Nat) = loopAt Tryd.prog (33 : FuncId) (0 : Nat)) := by intros; rfl
 have n7 : (true = true → (0 : Int) ≤ (0 : Int) ∧ (0 : Int) < (256 : Int)) := by first | rfl | decide +kernel
 have n15 := N0 (N1 (N1 (N1 (N1 (N1 hp)))))
 have n16 : (true = true → (0 : Int) ≤ (0 : Int) ∧ (0 : Int) ≤ (8 : Int)) := by first | rfl | decide +kernel
 have n17 : (true = true → (8 : Nat) ≤ (8 : Nat)) := by first | rfl | decide +kernel
 have n18 := N0 (N1 (N1 (N1 (N1 (N1 (N1 hp))))))
 have n19 := N0 (N1 (N1 (N1 (N1 (N1 (N1 (N1 hp)))))))
 have n20 : (true = true → loopAt Tryd.prog (33 : FuncId) (2 : Nat) = loopAt Tryd.prog (33 : FuncId) (2 : Nat)) := by intros; rfl
 have n53 := N0 (N1 (N1 (N1 (N1 (N1 (N1 (N1 (N1 hp))))))))
 exact evF_ok (envP_ok Csf_ok sha_Sum_l2_Lok) (sha_Sum_ev a0 a1 a2) (needs_cons n0 (needs_cons n1 (needs_cons n2 (needs_cons n3 (needs_cons n4 (needs_cons n5 (needs_cons n6 (needs_cons n7 (needs_cons n7 (needs_cons n7 (needs_cons n7 (needs_cons n7 (needs_cons n7 (needs_cons n7 (needs_cons n7 (needs_cons n15 (needs_cons n16 (needs_cons n17 (needs_cons n18 (needs_cons n19 (needs_cons n20 (needs_cons n7 (needs_cons n7 (needs_cons n7 (needs_cons n7 (needs_cons n7 (needs_cons n7 (needs_cons n7 (needs_cons n7 (needs_cons n7 (needs_cons n7 (needs_cons n7 (needs_cons n7 (needs_cons n7 (needs_cons n7 (needs_cons n7 (needs_cons n7 (needs_cons n7 (needs_cons n7 (needs_cons n7 (needs_cons n7 (needs_cons n7 (needs_cons n7 (needs_cons n7 (needs_cons n7 (needs_cons n7 (needs_cons n7 (needs_cons n7 (needs_cons n7 (needs_cons n7 (needs_cons n7 (needs_cons n7 (needs_cons n7 (needs_cons n53 needs_nil))))))))))))))))))))))))))))))))))))))))))))))))))))))
noncomputable def Cse := Csf
theorem Cse_ok : COk Tryd.prog Cse := Csf_ok
end Go.Proofs.YtkknpeeccejppaaDoor
namespace Go.Proofs.YtkknpeeccejppaaDoor
open Go.RowKit
abbrev r04_message_l0_X : Type := (List UInt8)
def r04_message_l0_T (x : r04_message_l0_X) : St := ⟨35, 4, [(3, .sq 3)], [(3, some (.arr 5 1 (.ty .u8 x)))]⟩
def r04_message_l0_un : St → Option r04_message_l0_X
 | ⟨35, 4, [(3, .sq 3)], [(3, some (.arr 5 1 (.ty .u8 z0)))]⟩ => some z0
 | _ => none
theorem r04_message_l0_unok : ∀ s x, r04_message_l0_un s = some x → s = r04_message_l0_T x := fun s x h => by
 unfold r04_message_l0_un at h
 split at h
 ·cases h; rfl
 ·cases h
def r04_message_l0_S : Shape := ⟨3, 4, [3], [], [(5, 3)], [5], [3], [3]⟩
def r04_message_l0_E : Entry := ⟨[], [(2, 3)], [3], [2]⟩
def r04_message_l0_f_k0 (a0 : List UInt8) : Bool := !!(↑a0.length : Int).tmod (64 : Int) != (56 : Int)
def r04_message_l0_f_0 (a0 : List UInt8) : List UInt8 := a0 ++ [UInt8.ofNat (0 : Nat)]
def r04_message_l0_f_4 (a0 : List UInt8) : Bool := !(↑a0.length : Int).tmod (64 : Int) != (56 : Int)
def r04_message_l0_next (x : r04_message_l0_X) : r04_message_l0_X := r04_message_l0_f_0 x
def r04_message_l0_goes (x : r04_message_l0_X) : Cnd := some ((r04_message_l0_f_k0 x))
def r04_message_l0_psA (x : r04_message_l0_X) : List Prop := [((r04_message_l0_f_k0 x) = true → boundP (x.length + (1 : Nat))), ((r04_message_l0_f_k0 x) = true → (0 : Int) ≤ (0 : Int) ∧ (0 : Int) < (256 : Int))]
def r04_message_l0_ps (x : r04_message_l0_X) : List Prop := [((r04_message_l0_f_k0 x) = true → boundP (x.length + (1 : Nat)))]
def r04_message_l0_outs (x : r04_message_l0_X) : Outs := [(some 0, some (r04_message_l0_f_4 x), ⟨35, 4, [(3, .sq 3)], [(3, some (.arr 5 1 (.ty .u8 x)))]⟩)]
def r04_message_l0_fuel (_x : r04_message_l0_X) : Nat := 64
def r04_message_l0_run (x : r04_message_l0_X) : r04_message_l0_X := iterX r04_message_l0_next r04_message_l0_goes (r04_message_l0_fuel x) x
theorem r04_message_l0_ev (a0 : List UInt8) : roundE (envT Csh L0) 9 (loopAt Tryd.prog 25 0) r04_message_l0_S (r04_message_l0_T a0) = some (r04_message_l0_psA a0, r04_message_l0_outs a0, r04_message_l0_goes a0, r04_message_l0_T (r04_message_l0_next a0)) := by kernel_rfl
theorem r04_message_l0_hA (a0 : List UInt8) (hp : ∀ p ∈ r04_message_l0_ps a0, p) : ∀ p ∈ r04_message_l0_psA a0, p := by
 have n0 := N0 hp
 have n1 : ((r04_message_l0_f_k0 a0) = true → (0 : Int) ≤ (0 : Int) ∧ (0 : Int) < (256 : Int)) := by omega
 exact (needs_cons n0 (needs_cons n1 needs_nil))
noncomputable def r04_message_l0_row := rowL (envT Csh L0) (loopAt Tryd.prog 25 0) r04_message_l0_S r04_message_l0_E r04_message_l0_un r04_message_l0_fuel r04_message_l0_next r04_message_l0_goes r04_message_l0_ps r04_message_l0_outs
theorem r04_message_l0_rok : ∀ s b ps outs, r04_message_l0_row s = some (b, ps, outs) → Wf s ⟨ps, outs, none⟩ ∧ LoopOk (envT C0 L0) b s ps outs :=
 rowP_ok (T := r04_message_l0_T) Csh_ok L0_ok (u := 9) (by kernel_rfl) (by decide) (fun a0 => r04_message_l0_ev a0) (fun a0 => r04_message_l0_hA a0) r04_message_l0_unok (fun _ => okOuts_ok (n := 35) rfl) fun _ _ => rfl
noncomputable def r04_message_l0_L := addLp 0 r04_message_l0_row L0
theorem r04_message_l0_Lok : LpOk r04_message_l0_L := addLp_ok r04_message_l0_rok L0_ok
abbrev r04_message_l2_X : Type := Int × Int × (List UInt8)
def r04_message_l2_T (x : r04_message_l2_X) : St := ⟨35, 5, [(3, .sq 4), (4, .v (.int .i64 x.1)), (5, .v (.int .i64 x.2.1))], [(4, some (.arr 5 1 (.ty .u8 x.2.2)))]⟩
def r04_message_l2_un : St → Option r04_message_l2_X
 | ⟨35, 5, [(3, .sq 4), (4, .v (.int .i64 z0)), (5, .v (.int .i64 z1))], [(4, some (.arr 5 1 (.ty .u8 z2)))]⟩ => some (z0, z1, z2)
 | _ => none
theorem r04_message_l2_unok : ∀ s x, r04_message_l2_un s = some x → s = r04_message_l2_T x := fun s x h => by
 unfold r04_message_l2_un at h
 split at h
 ·cases h; rfl
 ·cases h
def r04_message_l2_S : Shape := ⟨4, 5, [3, 4, 5], [], [(6, 4)], [6], [3], [4]⟩
def r04_message_l2_E : Entry := ⟨[], [(3, 4)], [3, 4, 5], [3]⟩
def r04_message_l2_f_k1 (_a0 : Int) (a1 : Int) (_a2 : List UInt8) : Bool := !!decide (a1 ≥ (0 : Int))
def r04_message_l2_f_k0 (a0 : Int) (a1 : Int) (_a2 : List UInt8) : Int := IntKind.u8.wrap (a0.fdiv ((2 : Int) ^ min (IntKind.u64.wrap (IntKind.i64.wrap ((8 : Int) * a1))).toNat (64 : Nat)))
def r04_message_l2_f_2 (a0 : Int) (a1 : Int) (a2 : List UInt8) : List UInt8 := a2 ++ [UInt8.ofNat (r04_message_l2_f_k0 a0 a1 a2).toNat]
def r04_message_l2_next (x : r04_message_l2_X) : r04_message_l2_X := (x.1, IntKind.i64.wrap (x.2.1 - (1 : Int)), r04_message_l2_f_2 x.1 x.2.1 x.2.2)
def r04_message_l2_goes (x : r04_message_l2_X) : Cnd := some ((r04_message_l2_f_k1 x.1 x.2.1 x.2.2))
def r04_message_l2_psA (x : r04_message_l2_X) : List Prop := [((r04_message_l2_f_k1 x.1 x.2.1 x.2.2) = true → (0 : Int) ≤ IntKind.u64.wrap (IntKind.i64.wrap ((8 : Int) * x.2.1))), ((r04_message_l2_f_k1 x.1 x.2.1 x.2.2) = true → boundP (x.2.2.length + (1 : Nat))), ((r04_message_l2_f_k1 x.1 x.2.1 x.2.2) = true → (0 : Int) ≤ (r04_message_l2_f_k0 x.1 x.2.1 x.2.2) ∧ (r04_message_l2_f_k0 x.1 x.2.1 x.2.2) < (256 : Int))]
def r04_message_l2_ps (x : r04_message_l2_X) : List Prop := [((r04_message_l2_f_k1 x.1 x.2.1 x.2.2) = true → boundP (x.2.2.length + (1 : Nat)))]
def r04_message_l2_outs (x : r04_message_l2_X) : Outs := [(some 2, some (!decide (x.2.1 ≥ (0 : Int))), ⟨35, 5, [(3, .sq 4)], [(4, some (.arr 5 1 (.ty .u8 x.2.2)))]⟩)]
def r04_message_l2_fuel (_x : r04_message_l2_X) : Nat := 9
def r04_message_l2_run (x : r04_message_l2_X) : r04_message_l2_X := iterX r04_message_l2_next r04_message_l2_goes (r04_message_l2_fuel x) x
theorem r04_message_l2_ev (a0 : Int) (a1 : Int) (a2 : List UInt8) : roundE (envT Csh r04_message_l0_L) 9 (loopAt Tryd.prog 25 2) r04_message_l2_S (r04_message_l2_T (a0, a1, a2)) = some (r04_message_l2_psA (a0, a1, a2), r04_message_l2_outs (a0, a1, a2), r04_message_l2_goes (a0, a1, a2), r04_message_l2_T (r04_message_l2_next (a0, a1, a2))) := by kernel_rfl
theorem r04_message_l2_hA (a0 : Int) (a1 : Int) (a2 : List UInt8) (hp : ∀ p ∈ r04_message_l2_ps (a0, a1, a2), p) : ∀ p ∈ r04_message_l2_psA (a0, a1, a2), p := by
 have n0 : ((r04_message_l2_f_k1 a0 a1 a2) = true → (0 : Int) ≤ IntKind.u64.wrap (IntKind.i64.wrap ((8 : Int) * a1))) := by intros; exact wrapU64 _
 have n1 := N0 hp
 have n2 : ((r04_message_l2_f_k1 a0 a1 a2) = true → (0 : Int) ≤ (r04_message_l2_f_k0 a0 a1 a2) ∧ (r04_message_l2_f_k0 a0 a1 a2) < (256 : Int)) := by intros; exact wrapU8 _
 exact (needs_cons n0 (needs_cons n1 (needs_cons n2 needs_nil)))
noncomputable def r04_message_l2_row := rowL (envT Csh r04_message_l0_L) (loopAt Tryd.prog 25 2) r04_message_l2_S r04_message_l2_E r04_message_l2_un r04_message_l2_fuel r04_message_l2_next r04_message_l2_goes r04_message_l2_ps r04_message_l2_outs
theorem r04_message_l2_rok : ∀ s b ps outs, r04_message_l2_row s = some (b, ps, outs) → Wf s ⟨ps, outs, none⟩ ∧ LoopOk (envT C0 L0) b s ps outs :=
 rowP_ok (T := r04_message_l2_T) Csh_ok r04_message_l0_Lok (u := 9) (by kernel_rfl) (by decide) (fun ⟨a0, a1, a2⟩ => r04_message_l2_ev a0 a1 a2) (fun ⟨a0, a1, a2⟩ => r04_message_l2_hA a0 a1 a2) r04_message_l2_unok (fun _ => okOuts_ok (n := 35) rfl) fun _ _ => rfl
noncomputable def r04_message_l2_L := addLp 2 r04_message_l2_row r04_message_l0_L
theorem r04_message_l2_Lok : LpOk r04_message_l2_L := addLp_ok r04_message_l2_rok r04_message_l0_Lok
def r04_message_k0 (a0 : List UInt8) : List UInt8 := [] ++ a0 ++ [UInt8.ofNat (128 : Nat)]
def r04_message_0 (a0 : List UInt8) : List UInt8 := (r04_message_l2_run (IntKind.i64.wrap ((8 : Int) * (↑a0.length : Int)), (7 : Int), r04_message_l0_run (r04_message_k0 a0))).snd.snd
def r04_message_r (_a0 : List UInt8) : A := .sq 0
def r04_message_o (a0 : List UInt8) : Objs := [(0, some (.arr 5 1 (.ty .u8 (r04_message_0 a0))))]
def r04_message_ps (a0 : List UInt8) : List Prop := [(boundP ((0 : Nat) + a0.length)), (boundP (([] ++ a0).length + (1 : Nat))), (needX r04_message_l0_next r04_message_l0_goes r04_message_l0_ps (64 : Nat) (r04_message_k0 a0)), (needX r04_message_l2_next r04_message_l2_goes r04_message_l2_ps (9 : Nat) (IntKind.i64.wrap ((8 : Int) * (↑a0.length : Int)), (7 : Int), r04_message_l0_run (r04_message_k0 a0)))]
theorem r04_message_ev (a0 : List UInt8) : evF (envT Csh r04_message_l2_L) 9 25 [valA .bytes a0] 0 [] = some (1, r04_message_r a0, 1, r04_message_o a0, [(boundP ((0 : Nat) + a0.length)), (boundP (([] ++ a0).length + (1 : Nat))), ((0 : Int) ≤ (128 : Int) ∧ (128 : Int) < (256 : Int)), (loopAt Tryd.prog (25 : FuncId) (0 : Nat) = loopAt Tryd.prog (25 : FuncId) (0 : Nat)), (needX r04_message_l0_next r04_message_l0_goes r04_message_l0_ps (64 : Nat) (r04_message_k0 a0)), (loopAt Tryd.prog (25 : FuncId) (2 : Nat) = loopAt Tryd.prog (25 : FuncId) (2 : Nat)), (needX r04_message_l2_next r04_message_l2_goes r04_message_l2_ps (9 : Nat) (IntKind.i64.wrap ((8 : Int) * (↑a0.length : Int)), (7 : Int), r04_message_l0_run (r04_message_k0 a0)))]) := by kernel_rfl
theorem r04_message_c (a0 : List UInt8) (hp : ∀ p ∈ r04_message_ps a0, p) : CallOk Tryd.prog 25 [valA .bytes a0] 0 [] 1 (r04_message_r a0) 1 (r04_message_o a0) := by
 have n0 := N0 hp
 have n1 := N0 (N1 hp)
 have n2 : ((0 : Int) ≤ (128 : Int) ∧ (128 : Int) < (256 : Int)) := by first | rfl | decide +kernel
 have n4 := N0 (N1 (N1 hp))
 have n6 := N0 (N1 (N1 (N1 hp)))
 exact evF_ok (envP_ok Csh_ok r04_message_l2_Lok) (r04_message_ev a0) (needs_cons n0 (needs_cons n1 (needs_cons n2 (needs_cons rfl (needs_cons n4 (needs_cons rfl (needs_cons n6 needs_nil)))))))
end Go.Proofs.YtkknpeeccejppaaDoor
namespace Go.Proofs.YtkknpeeccejppaaDoor
open Go.RowKit
theorem callOk_sl {P : Program} {f : FuncId} {args : List A} {k : Nat} {e : TypeId} {c : TC} {l : List (U c)} (h : CallOk P f args 0 [] k (.sq 0) 1 [(0, some (.arr e (size c) (.ty c l)))]) : CallOk P f args 0 [] k (.sl c l) 0 [] := fun F N R vs hh ha =>
 Calls.mono (P := P) (h F N R vs hh ha) fun e0 R' ⟨y, F', N', e1, e2, e3, e4, e5⟩ => by
  obtain ⟨_, rfl⟩ := e4.sq_inv
  have hob := e2.ob 0 _ rfl
  obtain ⟨_, zs, g1, g2⟩ := id hob
  have hn : ∀ i j, i < 1 → (fun _ => none : Nat → Option Nat) i = some j → j < 0 ∧ N'.b j = N'.b i ∧ N'.q j = N'.q i := fun i j _ hj => by cases hj
  have hw : Ext F' N' 1 R' (fun g => F' g ∨ blkOf (N'.q 0) = some g) N' 1 R' := Ext.wide fun g hg => .inl hg
  have q1 := (sl_of_own (F' := fun g => F' g ∨ blkOf (N'.q 0) = some g) (N := N') (nx := 1) g1 (fun k hk => (g2 k hk).step hw) (fun g hg => .inr hg)).1
  have q2 := Hv.pk (N' := N') (nx' := 0) (ρ := fun _ => none) hn q1
  refine ⟨N'.q 0, fun g => F' g ∨ blkOf (N'.q 0) = some g, N', e1, ⟨fun g hg => ?_, fun i ob hi => (by cases hi), fun i ob g hi => (by cases hi), fun i j x y g hi => (by cases hi), fun x hx => ⟨.inl (e2.gl x hx).1, (e2.gl x hx).2⟩⟩, ⟨Nat.le_refl _, fun i hi => absurd hi (Nat.not_lt_zero _), fun i hi => absurd hi (Nat.not_lt_zero _), fun g hg => .inl (e3.f g hg), fun g hg => ?_, fun g ⟨i, ob, hi, _⟩ => (by cases hi), e3.os, e3.tape, e3.output, e3.size, e3.keep⟩, q2, e5⟩
  ·rcases hg with hg | hg
   ·exact e2.flt g hg
   ·exact hob.2.lt hg
  ·rcases hg with hg | hg
   ·exact e3.fnew g hg
   ·rcases e3.foot g ⟨0, _, rfl, hg⟩ with h | h
    ·exact .inr (.inl h)
    ·exact .inr (.inr h)
end Go.Proofs.YtkknpeeccejppaaDoor
namespace Go.Proofs.YtkknpeeccejppaaDoor
open Go.RowKit
def byteOf (n i : Int) : UInt8 := UInt8.ofNat (r04_message_l2_f_k0 n i []).toNat
def be8 (n : Int) : List UInt8 := [byteOf n 7, byteOf n 6, byteOf n 5, byteOf n 4, byteOf n 3, byteOf n 2, byteOf n 1, byteOf n 0]
def padN (n : Nat) : Nat := (119 - n % 64) % 64
def msgN (b : List UInt8) : List UInt8 := b ++ [UInt8.ofNat 128] ++ List.replicate (padN b.length) (UInt8.ofNat 0) ++ be8 (8 * (b.length : Int))
theorem msgN_length (b : List UInt8) : (msgN b).length = b.length + 1 + padN b.length + 8 := by
 unfold msgN be8
 simp only [List.length_append, List.length_replicate, List.length_cons, List.length_nil]
theorem msgN_mod (b : List UInt8) : (msgN b).length % 64 = 0 := by
 rw [msgN_length]
 unfold padN
 omega
theorem be8_run (n : Int) (m : List UInt8) : (iterX r04_message_l2_next r04_message_l2_goes 9 (n, 7, m)).2.2 = m ++ be8 n := by
 have st : ∀ (k : Nat) (i j : Int) (m : List UInt8), decide (i ≥ 0) = true → IntKind.i64.wrap (i - 1) = j → iterX r04_message_l2_next r04_message_l2_goes (k + 1) (n, i, m) = iterX r04_message_l2_next r04_message_l2_goes k (n, j, m ++ [byteOf n i]) := fun k i j m h1 h2 => by
  subst h2
  show (bif (!!decide (i ≥ 0)) then iterX r04_message_l2_next r04_message_l2_goes k (r04_message_l2_next (n, i, m)) else (n, i, m)) = _
  rw [h1]
  rfl
 rw [st 8 7 6 m (by decide) (by decide +kernel), st 7 6 5 _ (by decide) (by decide +kernel), st 6 5 4 _ (by decide) (by decide +kernel), st 5 4 3 _ (by decide) (by decide +kernel), st 4 3 2 _ (by decide) (by decide +kernel), st 3 2 1 _ (by decide) (by decide +kernel),
  st 2 1 0 _ (by decide) (by decide +kernel), st 1 0 (-1) _ (by decide) (by decide +kernel)]
 show (((((((m ++ [byteOf n 7]) ++ [byteOf n 6]) ++ [byteOf n 5]) ++ [byteOf n 4]) ++ [byteOf n 3]) ++ [byteOf n 2]) ++ [byteOf n 1]) ++ [byteOf n 0] = m ++ be8 n
 simp only [List.append_assoc]
 rfl
theorem message_ok (b : List UInt8) (hb : b.length ≤ 137438953472) : (∀ p ∈ r04_message_ps b, p) ∧ r04_message_0 b = msgN b := by
 have hk0 : r04_message_k0 b = b ++ [UInt8.ofNat 128] := rfl
 have hl0 : (r04_message_k0 b).length = b.length + 1 := by rw [hk0, List.length_append]; rfl
 have m0 := loop_inv (next := r04_message_l0_next) (goes := r04_message_l0_goes) (ps := r04_message_l0_ps) (fun x => ∃ j, j ≤ padN b.length ∧ x = r04_message_k0 b ++ List.replicate j (UInt8.ofNat 0)) (fun x => b.length + 1 + padN b.length - x.length) (fun x hx => by
  obtain ⟨j, hj, rfl⟩ := hx
  have hl : (r04_message_k0 b ++ List.replicate j (UInt8.ofNat 0)).length = b.length + 1 + j := by rw [List.length_append, hl0, List.length_replicate]
  refine ⟨needs_cons (fun _ => ?_) needs_nil, fun hg => ?_⟩
  ·rw [hl]
   unfold boundP
   unfold padN at hj
   omega
  ·have hg : (!!(((r04_message_k0 b ++ List.replicate j (UInt8.ofNat 0)).length : Int).tmod 64 != 56)) = true := hg
   rw [hl, Int.tmod_eq_emod_of_nonneg (by omega)] at hg
   have hne : ¬ ((b.length + 1 + j : Nat) : Int) % 64 = 56 := by simpa using hg
   have hjp : j < padN b.length := by
    rcases Nat.lt_or_ge j (padN b.length) with h | h
    ·exact h
    ·exfalso
     have : j = padN b.length := by omega
     subst this
     apply hne
     unfold padN
     omega
   refine ⟨⟨j + 1, hjp, ?_⟩, ?_⟩
   ·show (r04_message_k0 b ++ List.replicate j (UInt8.ofNat 0)) ++ [UInt8.ofNat 0] = _
    rw [List.append_assoc, ← List.replicate_succ']
   ·show b.length + 1 + padN b.length - ((r04_message_k0 b ++ List.replicate j (UInt8.ofNat 0)) ++ [UInt8.ofNat 0]).length < b.length + 1 + padN b.length - (r04_message_k0 b ++ List.replicate j (UInt8.ofNat 0)).length
    rw [List.length_append, hl]
    show b.length + 1 + padN b.length - (b.length + 1 + j + 1) < _
    omega) 64 (r04_message_k0 b) ⟨0, Nat.zero_le _, by rw [List.replicate_zero, List.append_nil]⟩ (by rw [hl0]; unfold padN; omega)
 have hrun : r04_message_l0_run (r04_message_k0 b) = r04_message_k0 b ++ List.replicate (padN b.length) (UInt8.ofNat 0) := by
  obtain ⟨_, ⟨j, hj, he⟩, hg⟩ := m0
  have e0 : r04_message_l0_run (r04_message_k0 b) = iterX r04_message_l0_next r04_message_l0_goes 64 (r04_message_k0 b) := rfl
  rw [e0, he]
  rw [he] at hg
  have hl : (r04_message_k0 b ++ List.replicate j (UInt8.ofNat 0)).length = b.length + 1 + j := by rw [List.length_append, hl0, List.length_replicate]
  have hg : (!!(((r04_message_k0 b ++ List.replicate j (UInt8.ofNat 0)).length : Int).tmod 64 != 56)) = false := hg
  rw [hl, Int.tmod_eq_emod_of_nonneg (by omega)] at hg
  have hne : ((b.length + 1 + j : Nat) : Int) % 64 = 56 := by simpa using hg
  have : j = padN b.length := by unfold padN at hj ⊢; omega
  rw [this]
 have hw : IntKind.i64.wrap (8 * (b.length : Int)) = 8 * (b.length : Int) := i64_in ⟨by omega, by omega⟩
 have hlr : (r04_message_l0_run (r04_message_k0 b)).length ≤ b.length + 65 := by
  rw [hrun, List.length_append, hl0, List.length_replicate]
  unfold padN
  omega
 have m2 : ∀ (n : Int) (m : List UInt8), m.length ≤ b.length + 65 → needX r04_message_l2_next r04_message_l2_goes r04_message_l2_ps 9 (n, 7, m) := fun n m hm => (loop_inv (next := r04_message_l2_next) (goes := r04_message_l2_goes) (ps := r04_message_l2_ps) (fun x => (-1 ≤ x.2.1 ∧ x.2.1 ≤ 7) ∧ (x.2.2.length : Int) + x.2.1 ≤ (b.length : Int) + 72) (fun x => (x.2.1 + 1).toNat) (fun x hx => by
  obtain ⟨n, i, m⟩ := x
  obtain ⟨hi, hm⟩ := hx
  have hi : -1 ≤ i ∧ i ≤ 7 := hi
  have hm : (m.length : Int) + i ≤ (b.length : Int) + 72 := hm
  have gi : r04_message_l2_f_k1 n i m = true → 0 ≤ i := fun h => by
   have : (!!decide (i ≥ 0)) = true := h
   simpa using this
  refine ⟨needs_cons (fun h => ?_) needs_nil, fun hg => ?_⟩
  ·have := gi h
   show m.length + 1 ≤ 549755813888
   omega
  ·have h0 := gi hg
   have e1 : IntKind.i64.wrap (i - 1) = i - 1 := i64_in ⟨by omega, by omega⟩
   refine ⟨⟨?_, ?_⟩, ?_⟩
   ·show -1 ≤ IntKind.i64.wrap (i - 1) ∧ IntKind.i64.wrap (i - 1) ≤ 7
    rw [e1]; omega
   ·show (((m ++ [_] : List UInt8)).length : Int) + IntKind.i64.wrap (i - 1) ≤ _
    rw [e1, List.length_append]
    show ((m.length + 1 : Nat) : Int) + (i - 1) ≤ _
    omega
   ·show (IntKind.i64.wrap (i - 1) + 1).toNat < (i + 1).toNat
    rw [e1]; omega) 9 (n, 7, m) ⟨(show (-1 : Int) ≤ 7 ∧ (7 : Int) ≤ 7 from ⟨by omega, by omega⟩), (show (m.length : Int) + 7 ≤ (b.length : Int) + 72 by omega)⟩ (show ((7 : Int) + 1).toNat ≤ 9 by decide)).1
 refine ⟨needs_cons (by show 0 + b.length ≤ 549755813888; omega) (needs_cons (by show b.length + 1 ≤ 549755813888; omega) (needs_cons m0.1 (needs_cons (m2 _ _ hlr) needs_nil))), ?_⟩
 unfold r04_message_0
 rw [hw, hrun]
 have e2 : ∀ (n : Int) (m : List UInt8), r04_message_l2_run (n, 7, m) = iterX r04_message_l2_next r04_message_l2_goes 9 (n, 7, m) := fun _ _ => rfl
 rw [e2]
 show (iterX r04_message_l2_next r04_message_l2_goes 9 (8 * (b.length : Int), 7, r04_message_k0 b ++ List.replicate (padN b.length) (UInt8.ofNat 0))).2.2 = _
 rw [be8_run, hk0]
 rfl
end Go.Proofs.YtkknpeeccejppaaDoor
namespace Go.Proofs.YtkknpeeccejppaaDoor
open Go.RowKit
def r04_block_r2 (a0 : List Int) (a1 : List UInt8) : A := .av .u32 8 (r04_block_0 a0 a1)
def r04_block_o2 (_a0 : List Int) (_a1 : List UInt8) : Objs := []
def r04_block_ps2 (_a0 : List Int) (a1 : List UInt8) : List Prop := [a1.length = 64]
theorem r04_block_c2 (a0 : List Int) (a1 : List UInt8) (hp : ∀ p ∈ r04_block_ps2 a0 a1, p) : CallOk Tryd.prog 26 [.av .u32 8 a0, .sl .u8 a1] 0 [] 1 (r04_block_r2 a0 a1) 0 (r04_block_o2 a0 a1) :=
 r04_block_c a0 a1 (block_needs a0 a1 (N0 hp))
def r04_block_t : List A → Nat → Objs → Option CRes := rowK [.a .u32 8, .t .bytes] 0 r04_block_r2 r04_block_o2 r04_block_ps2
theorem r04_block_tok : TOk Tryd.prog 26 r04_block_t := rowK_ok (ks := [.a .u32 8, .t .bytes]) r04_block_c2
noncomputable def Csr_1 := addC 26 r04_block_t Csc
theorem Csr_1_ok : COk Tryd.prog Csr_1 := addC_ok r04_block_tok Csc_ok
def r04_message_r2 (a0 : List UInt8) : A := .sl .u8 (msgN a0)
def r04_message_o2 (_a0 : List UInt8) : Objs := []
def r04_message_ps2 (a0 : List UInt8) : List Prop := [a0.length ≤ 137438953472]
theorem r04_message_c2 (a0 : List UInt8) (hp : ∀ p ∈ r04_message_ps2 a0, p) : CallOk Tryd.prog 25 [.sl .u8 a0] 0 [] 1 (r04_message_r2 a0) 0 (r04_message_o2 a0) := by
 have h := message_ok a0 (N0 hp)
 have h1 := callOk_sl (e := 5) (c := .u8) (l := r04_message_0 a0) (r04_message_c a0 h.1)
 rw [h.2] at h1
 exact h1
def r04_message_t : List A → Nat → Objs → Option CRes := rowK [.t .bytes] 0 r04_message_r2 r04_message_o2 r04_message_ps2
theorem r04_message_tok : TOk Tryd.prog 25 r04_message_t := rowK_ok (ks := [.t .bytes]) r04_message_c2
noncomputable def Csr_2 := addC 25 r04_message_t Csr_1
theorem Csr_2_ok : COk Tryd.prog Csr_2 := addC_ok r04_message_tok Csr_1_ok
abbrev r04_Sum_l0_X : Type := (List UInt8) × Int × (List Int)
def r04_Sum_l0_T (x : r04_Sum_l0_X) : St := ⟨42, 2, [(3, .own 1 0), (4, .sl .u8 x.1), (5, .v (.int .i64 x.2.1))], [(1, some (.rcd 86 [.av .u32 8 x.2.2]))]⟩
def r04_Sum_l0_un : St → Option r04_Sum_l0_X
 | ⟨42, 2, [(3, .own 1 0), (4, .sl .u8 z0), (5, .v (.int .i64 z1))], [(1, some (.rcd 86 [.av .u32 8 z2]))]⟩ => some (z0, z1, z2)
 | _ => none
theorem r04_Sum_l0_unok : ∀ s x, r04_Sum_l0_un s = some x → s = r04_Sum_l0_T x := fun s x h => by
 unfold r04_Sum_l0_un at h
 split at h
 ·cases h; rfl
 ·cases h
def r04_Sum_l0_S : Shape := ⟨2, 2, [3, 4, 5], [], [(1, 1)], [1], [], [1]⟩
def r04_Sum_l0_E : Entry := ⟨[.seg 1 [some (.u32, 8)]], [(1, 1)], [3, 4, 5], [1]⟩
def r04_Sum_l0_f_k2 (_a0 : List UInt8) (a1 : Int) (_a2 : List Int) : Int := IntKind.i64.wrap (a1 + (64 : Int))
def r04_Sum_l0_f_k1 (a0 : List UInt8) (a1 : Int) (_a2 : List Int) : Bool := !!decide (a1 < (↑a0.length : Int))
def r04_Sum_l0_f_k0 (a0 : List UInt8) (a1 : Int) (a2 : List Int) : List UInt8 := List.take ((r04_Sum_l0_f_k2 a0 a1 a2).toNat - a1.toNat) (List.drop a1.toNat a0)
def r04_Sum_l0_f_2 (a0 : List UInt8) (a1 : Int) (a2 : List Int) : List Int := r04_block_0 a2 (r04_Sum_l0_f_k0 a0 a1 a2)
def r04_Sum_l0_next (x : r04_Sum_l0_X) : r04_Sum_l0_X := (x.1, (r04_Sum_l0_f_k2 x.1 x.2.1 x.2.2), r04_Sum_l0_f_2 x.1 x.2.1 x.2.2)
def r04_Sum_l0_goes (x : r04_Sum_l0_X) : Cnd := some ((r04_Sum_l0_f_k1 x.1 x.2.1 x.2.2))
def r04_Sum_l0_psA (x : r04_Sum_l0_X) : List Prop := [((r04_Sum_l0_f_k1 x.1 x.2.1 x.2.2) = true → (0 : Int) ≤ x.2.1 ∧ x.2.1 ≤ (r04_Sum_l0_f_k2 x.1 x.2.1 x.2.2) ∧ (r04_Sum_l0_f_k2 x.1 x.2.1 x.2.2) ≤ (↑x.1.length : Int)), ((r04_Sum_l0_f_k1 x.1 x.2.1 x.2.2) = true → (r04_Sum_l0_f_k0 x.1 x.2.1 x.2.2).length = (64 : Nat))]
abbrev r04_Sum_l0_ps : r04_Sum_l0_X → List Prop := r04_Sum_l0_psA
def r04_Sum_l0_outs (x : r04_Sum_l0_X) : Outs := [(some 0, some (!decide (x.2.1 < (↑x.1.length : Int))), ⟨42, 2, [], [(1, some (.rcd 86 [.av .u32 8 x.2.2]))]⟩)]
def r04_Sum_l0_fuel (x : r04_Sum_l0_X) : Nat := ((↑x.1.length : Int) - x.2.1).toNat
def r04_Sum_l0_run (x : r04_Sum_l0_X) : r04_Sum_l0_X := iterX r04_Sum_l0_next r04_Sum_l0_goes (r04_Sum_l0_fuel x) x
theorem r04_Sum_l0_ev (a0 : List UInt8) (a1 : Int) (a2 : List Int) : roundE (envT Csr_2 L0) 9 (loopAt Tryd.prog 16 0) r04_Sum_l0_S (r04_Sum_l0_T (a0, a1, a2)) = some (r04_Sum_l0_psA (a0, a1, a2), r04_Sum_l0_outs (a0, a1, a2), r04_Sum_l0_goes (a0, a1, a2), r04_Sum_l0_T (r04_Sum_l0_next (a0, a1, a2))) := by kernel_rfl
theorem r04_Sum_l0_hA (a0 : List UInt8) (a1 : Int) (a2 : List Int) (hp : ∀ p ∈ r04_Sum_l0_ps (a0, a1, a2), p) : ∀ p ∈ r04_Sum_l0_psA (a0, a1, a2), p := hp
noncomputable def r04_Sum_l0_row := rowL (envT Csr_2 L0) (loopAt Tryd.prog 16 0) r04_Sum_l0_S r04_Sum_l0_E r04_Sum_l0_un r04_Sum_l0_fuel r04_Sum_l0_next r04_Sum_l0_goes r04_Sum_l0_ps r04_Sum_l0_outs
theorem r04_Sum_l0_rok : ∀ s b ps outs, r04_Sum_l0_row s = some (b, ps, outs) → Wf s ⟨ps, outs, none⟩ ∧ LoopOk (envT C0 L0) b s ps outs :=
 rowP_ok (T := r04_Sum_l0_T) Csr_2_ok L0_ok (u := 9) (by kernel_rfl) (by decide) (fun ⟨a0, a1, a2⟩ => r04_Sum_l0_ev a0 a1 a2) (fun ⟨a0, a1, a2⟩ => r04_Sum_l0_hA a0 a1 a2) r04_Sum_l0_unok (fun _ => okOuts_ok (n := 42) rfl) fun _ _ => rfl
noncomputable def r04_Sum_l0_L := addLp 0 r04_Sum_l0_row L0
theorem r04_Sum_l0_Lok : LpOk r04_Sum_l0_L := addLp_ok r04_Sum_l0_rok L0_ok
abbrev r04_Sum_l2_X : Type := Int × (List Int) × (List UInt8)
def r04_Sum_l2_T (x : r04_Sum_l2_X) : St := ⟨42, 3, [(3, .own 1 0), (6, .own 2 0), (7, .v (.int .i64 x.1))], [(1, some (.rcd 86 [.av .u32 8 x.2.1])), (2, some (.rcd 51 [.av .u8 32 x.2.2]))]⟩
def r04_Sum_l2_un : St → Option r04_Sum_l2_X
 | ⟨42, 3, [(3, .own 1 0), (6, .own 2 0), (7, .v (.int .i64 z0))], [(1, some (.rcd 86 [.av .u32 8 z1])), (2, some (.rcd 51 [.av .u8 32 z2]))]⟩ => some (z0, z1, z2)
 | _ => none
theorem r04_Sum_l2_unok : ∀ s x, r04_Sum_l2_un s = some x → s = r04_Sum_l2_T x := fun s x h => by
 unfold r04_Sum_l2_un at h
 split at h
 ·cases h; rfl
 ·cases h
def r04_Sum_l2_S : Shape := ⟨3, 3, [3, 6, 7], [], [(1, 1), (2, 2)], [1, 2], [], [1, 2]⟩
def r04_Sum_l2_E : Entry := ⟨[.seg 2 [some (.u8, 32)]], [(1, 1), (2, 2)], [3, 6, 7], [1, 2]⟩
def r04_Sum_l2_f_k1 (a0 : Int) (_a1 : List Int) (_a2 : List UInt8) : Bool := !!decide (a0 < (32 : Int))
def r04_Sum_l2_f_k0 (a0 : Int) (a1 : List Int) (_a2 : List UInt8) : Int := IntKind.u8.wrap (Int.fdiv (a1.getD (IntKind.i64.wrap (a0.tdiv (4 : Int))).toNat (dflt TC.u32)) ((2 : Int) ^ min (IntKind.u64.wrap (IntKind.i64.wrap ((24 : Int) - IntKind.i64.wrap ((8 : Int) * a0.tmod (4 : Int))))).toNat (32 : Nat)))
def r04_Sum_l2_f_2 (a0 : Int) (a1 : List Int) (a2 : List UInt8) : List UInt8 := a2.set a0.toNat (UInt8.ofNat (r04_Sum_l2_f_k0 a0 a1 a2).toNat)
def r04_Sum_l2_next (x : r04_Sum_l2_X) : r04_Sum_l2_X := (IntKind.i64.wrap (x.1 + (1 : Int)), x.2.1, r04_Sum_l2_f_2 x.1 x.2.1 x.2.2)
def r04_Sum_l2_goes (x : r04_Sum_l2_X) : Cnd := some ((r04_Sum_l2_f_k1 x.1 x.2.1 x.2.2))
def r04_Sum_l2_psA (x : r04_Sum_l2_X) : List Prop := [((r04_Sum_l2_f_k1 x.1 x.2.1 x.2.2) = true → (0 : Int) ≤ IntKind.i64.wrap (x.1.tdiv (4 : Int)) ∧ IntKind.i64.wrap (x.1.tdiv (4 : Int)) < (8 : Int)), ((r04_Sum_l2_f_k1 x.1 x.2.1 x.2.2) = true → (IntKind.i64.wrap (x.1.tdiv (4 : Int))).toNat < (8 : Nat)), ((r04_Sum_l2_f_k1 x.1 x.2.1 x.2.2) = true → (0 : Int) ≤ IntKind.u64.wrap (IntKind.i64.wrap ((24 : Int) - IntKind.i64.wrap ((8 : Int) * x.1.tmod (4 : Int))))), ((r04_Sum_l2_f_k1 x.1 x.2.1 x.2.2) = true → (0 : Int) ≤ x.1 ∧ x.1 < (32 : Int)), ((r04_Sum_l2_f_k1 x.1 x.2.1 x.2.2) = true → x.1.toNat < (32 : Nat)), ((r04_Sum_l2_f_k1 x.1 x.2.1 x.2.2) = true → (0 : Int) ≤ (r04_Sum_l2_f_k0 x.1 x.2.1 x.2.2) ∧ (r04_Sum_l2_f_k0 x.1 x.2.1 x.2.2) < (256 : Int))]
def r04_Sum_l2_ps (x : r04_Sum_l2_X) : List Prop := [((r04_Sum_l2_f_k1 x.1 x.2.1 x.2.2) = true → (0 : Int) ≤ IntKind.i64.wrap (x.1.tdiv (4 : Int)) ∧ IntKind.i64.wrap (x.1.tdiv (4 : Int)) < (8 : Int)), ((r04_Sum_l2_f_k1 x.1 x.2.1 x.2.2) = true → (0 : Int) ≤ x.1 ∧ x.1 < (32 : Int))]
def r04_Sum_l2_outs (x : r04_Sum_l2_X) : Outs := [(some 2, some (!decide (x.1 < (32 : Int))), ⟨42, 3, [], [(1, some (.rcd 86 [.av .u32 8 x.2.1])), (2, some (.rcd 51 [.av .u8 32 x.2.2]))]⟩)]
def r04_Sum_l2_fuel (x : r04_Sum_l2_X) : Nat := ((32 : Int) - x.1).toNat
def r04_Sum_l2_run (x : r04_Sum_l2_X) : r04_Sum_l2_X := iterX r04_Sum_l2_next r04_Sum_l2_goes (r04_Sum_l2_fuel x) x
theorem r04_Sum_l2_ev (a0 : Int) (a1 : List Int) (a2 : List UInt8) : roundE (envT Csr_2 r04_Sum_l0_L) 9 (loopAt Tryd.prog 16 2) r04_Sum_l2_S (r04_Sum_l2_T (a0, a1, a2)) = some (r04_Sum_l2_psA (a0, a1, a2), r04_Sum_l2_outs (a0, a1, a2), r04_Sum_l2_goes (a0, a1, a2), r04_Sum_l2_T (r04_Sum_l2_next (a0, a1, a2))) := by kernel_rfl
theorem r04_Sum_l2_hA (a0 : Int) (a1 : List Int) (a2 : List UInt8) (hp : ∀ p ∈ r04_Sum_l2_ps (a0, a1, a2), p) : ∀ p ∈ r04_Sum_l2_psA (a0, a1, a2), p := by
 have n0 : ((r04_Sum_l2_f_k1 a0 a1 a2) = true → (0 : Int) ≤ IntKind.i64.wrap (a0.tdiv (4 : Int)) ∧ IntKind.i64.wrap (a0.tdiv (4 : Int)) < (8 : Int)) := N0 hp
 have n1 : ((r04_Sum_l2_f_k1 a0 a1 a2) = true → (IntKind.i64.wrap (a0.tdiv (4 : Int))).toNat < (8 : Nat)) := by intro h0; have g := n0 h0; omega
 have n2 : ((r04_Sum_l2_f_k1 a0 a1 a2) = true → (0 : Int) ≤ IntKind.u64.wrap (IntKind.i64.wrap ((24 : Int) - IntKind.i64.wrap ((8 : Int) * a0.tmod (4 : Int))))) := by intros; exact wrapU64 _
 have n3 : ((r04_Sum_l2_f_k1 a0 a1 a2) = true → (0 : Int) ≤ a0 ∧ a0 < (32 : Int)) := N0 (N1 hp)
 have n4 : ((r04_Sum_l2_f_k1 a0 a1 a2) = true → a0.toNat < (32 : Nat)) := by intro h0; have g := n3 h0; omega
 have n5 : ((r04_Sum_l2_f_k1 a0 a1 a2) = true → (0 : Int) ≤ (r04_Sum_l2_f_k0 a0 a1 a2) ∧ (r04_Sum_l2_f_k0 a0 a1 a2) < (256 : Int)) := by intros; exact wrapU8 _
 exact (needs_cons n0 (needs_cons n1 (needs_cons n2 (needs_cons n3 (needs_cons n4 (needs_cons n5 needs_nil))))))
noncomputable def r04_Sum_l2_row := rowL (envT Csr_2 r04_Sum_l0_L) (loopAt Tryd.prog 16 2) r04_Sum_l2_S r04_Sum_l2_E r04_Sum_l2_un r04_Sum_l2_fuel r04_Sum_l2_next r04_Sum_l2_goes r04_Sum_l2_ps r04_Sum_l2_outs
theorem r04_Sum_l2_rok : ∀ s b ps outs, r04_Sum_l2_row s = some (b, ps, outs) → Wf s ⟨ps, outs, none⟩ ∧ LoopOk (envT C0 L0) b s ps outs :=
 rowP_ok (T := r04_Sum_l2_T) Csr_2_ok r04_Sum_l0_Lok (u := 9) (by kernel_rfl) (by decide) (fun ⟨a0, a1, a2⟩ => r04_Sum_l2_ev a0 a1 a2) (fun ⟨a0, a1, a2⟩ => r04_Sum_l2_hA a0 a1 a2) r04_Sum_l2_unok (fun _ => okOuts_ok (n := 42) rfl) fun _ _ => rfl
noncomputable def r04_Sum_l2_L := addLp 2 r04_Sum_l2_row r04_Sum_l0_L
theorem r04_Sum_l2_Lok : LpOk r04_Sum_l2_L := addLp_ok r04_Sum_l2_rok r04_Sum_l0_Lok
def r04_Sum_0 (a0 : List UInt8) : List UInt8 := (r04_Sum_l2_run ((0 : Int), (r04_Sum_l0_run (msgN a0, (0 : Int), [(1779033703 : Int), (3144134277 : Int), (1013904242 : Int), (2773480762 : Int), (1359893119 : Int), (2600822924 : Int), (528734635 : Int), (1541459225 : Int)])).snd.snd, [UInt8.ofNat (0 : Nat), UInt8.ofNat (0 : Nat), UInt8.ofNat (0 : Nat), UInt8.ofNat (0 : Nat), UInt8.ofNat (0 : Nat), UInt8.ofNat (0 : Nat), UInt8.ofNat (0 : Nat), UInt8.ofNat (0 : Nat), UInt8.ofNat (0 : Nat), UInt8.ofNat (0 : Nat), UInt8.ofNat (0 : Nat), UInt8.ofNat (0 : Nat), UInt8.ofNat (0 : Nat), UInt8.ofNat (0 : Nat), UInt8.ofNat (0 : Nat), UInt8.ofNat (0 : Nat), UInt8.ofNat (0 : Nat), UInt8.ofNat (0 : Nat), UInt8.ofNat (0 : Nat), UInt8.ofNat (0 : Nat), UInt8.ofNat (0 : Nat), UInt8.ofNat (0 : Nat), UInt8.ofNat (0 : Nat), UInt8.ofNat (0 : Nat), UInt8.ofNat (0 : Nat), UInt8.ofNat (0 : Nat), UInt8.ofNat (0 : Nat), UInt8.ofNat (0 : Nat), UInt8.ofNat (0 : Nat), UInt8.ofNat (0 : Nat), UInt8.ofNat (0 : Nat), UInt8.ofNat (0 : Nat)])).snd.snd
def r04_Sum_r (a0 : List UInt8) : A := .av .u8 32 (r04_Sum_0 a0)
def r04_Sum_o (_a0 : List UInt8) : Objs := []
def r04_Sum_ps (a0 : List UInt8) : List Prop := [(a0.length ≤ (137438953472 : Nat)), (needX r04_Sum_l0_next r04_Sum_l0_goes r04_Sum_l0_ps (r04_Sum_l0_fuel (msgN a0, (0 : Int), [(1779033703 : Int), (3144134277 : Int), (1013904242 : Int), (2773480762 : Int), (1359893119 : Int), (2600822924 : Int), (528734635 : Int), (1541459225 : Int)])) (msgN a0, (0 : Int), [(1779033703 : Int), (3144134277 : Int), (1013904242 : Int), (2773480762 : Int), (1359893119 : Int), (2600822924 : Int), (528734635 : Int), (1541459225 : Int)])), (needX r04_Sum_l2_next r04_Sum_l2_goes r04_Sum_l2_ps (32 : Nat) ((0 : Int), (r04_Sum_l0_run (msgN a0, (0 : Int), [(1779033703 : Int), (3144134277 : Int), (1013904242 : Int), (2773480762 : Int), (1359893119 : Int), (2600822924 : Int), (528734635 : Int), (1541459225 : Int)])).snd.snd, [UInt8.ofNat (0 : Nat), UInt8.ofNat (0 : Nat), UInt8.ofNat (0 : Nat), UInt8.ofNat (0 : Nat), UInt8.ofNat (0 : Nat), UInt8.ofNat (0 : Nat), UInt8.ofNat (0 : Nat), UInt8.ofNat (0 : Nat), UInt8.ofNat (0 : Nat), UInt8.ofNat (0 : Nat), UInt8.ofNat (0 : Nat), UInt8.ofNat (0 : Nat), UInt8.ofNat (0 : Nat), UInt8.ofNat (0 : Nat), UInt8.ofNat (0 : Nat), UInt8.ofNat (0 : Nat), UInt8.ofNat (0 : Nat), UInt8.ofNat (0 : Nat), UInt8.ofNat (0 : Nat), UInt8.ofNat (0 : Nat), UInt8.ofNat (0 : Nat), UInt8.ofNat (0 : Nat), UInt8.ofNat (0 : Nat), UInt8.ofNat (0 : Nat), UInt8.ofNat (0 : Nat), UInt8.ofNat (0 : Nat), UInt8.ofNat (0 : Nat), UInt8.ofNat (0 : Nat), UInt8.ofNat (0 : Nat), UInt8.ofNat (0 : Nat), UInt8.ofNat (0 : Nat), UInt8.ofNat (0 : Nat)]))]
theorem r04_Sum_ev (a0 : List UInt8) : evF (envT Csr_2 r04_Sum_l2_L) 9 16 [valA .bytes a0] 0 [] = some (1, r04_Sum_r a0, 0, r04_Sum_o a0, [(a0.length ≤ (137438953472 : Nat)), (loopAt Tryd.prog (16 : FuncId) (0 : Nat) = loopAt Tryd.prog (16 : FuncId) (0 : Nat)), (needX r04_Sum_l0_next r04_Sum_l0_goes r04_Sum_l0_ps (r04_Sum_l0_fuel (msgN a0, (0 : Int), [(1779033703 : Int), (3144134277 : Int), (1013904242 : Int), (2773480762 : Int), (1359893119 : Int), (2600822924 : Int), (528734635 : Int), (1541459225 : Int)])) (msgN a0, (0 : Int), [(1779033703 : Int), (3144134277 : Int), (1013904242 : Int), (2773480762 : Int), (1359893119 : Int), (2600822924 : Int), (528734635 : Int), (1541459225 : Int)])), (loopAt Tryd.prog (16 : FuncId) (2 : Nat) = loopAt Tryd.prog (16 : FuncId) (2 : Nat)), ((0 : Int) ≤ (0 : Int) ∧ (0 : Int) < (256 : Int)), ((0 : Int) ≤ (0 : Int) ∧ (0 : Int) < (256 : Int)), ((0 : Int) ≤ (0 : Int) ∧ (0 : Int) < (256 : Int)), ((0 : Int) ≤ (0 : Int) ∧ (0 : Int) < (256 : Int)), ((0 : Int) ≤ (0 : Int) ∧ (0 : Int) < (256 : Int)), ((0 : Int) ≤ (0 : Int) ∧ (0 : Int) < (256 : Int)), ((0 : Int) ≤ (0 : Int) ∧ (0 : Int) < (256 : Int)), ((0 : Int) ≤ (0 : Int) ∧ (0 : Int) < (256 : Int)), ((0 : Int) ≤ (0 : Int) ∧ (0 : Int) < (256 : Int)), ((0 : Int) ≤ (0 : Int) ∧ (0 : Int) < (256 : Int)), ((0 : Int) ≤ (0 : Int) ∧ (0 : Int) < (256 : Int)), ((0 : Int) ≤ (0 : Int) ∧ (0 : Int) < (256 : Int)), ((0 : Int) ≤ (0 : Int) ∧ (0 : Int) < (256 : Int)), ((0 : Int) ≤ (0 : Int) ∧ (0 : Int) < (256 : Int)), ((0 : Int) ≤ (0 : Int) ∧ (0 : Int) < (256 : Int)), ((0 : Int) ≤ (0 : Int) ∧ (0 : Int) < (256 : Int)), ((0 : Int) ≤ (0 : Int) ∧ (0 : Int) < (256 : Int)), ((0 : Int) ≤ (0 : Int) ∧ (0 : Int) < (256 : Int)), ((0 : Int) ≤ (0 : Int) ∧ (0 : Int) < (256 : Int)), ((0 : Int) ≤ (0 : Int) ∧ (0 : Int) < (256 : Int)), ((0 : Int) ≤ (0 : Int) ∧ (0 : Int) < (256 : Int)), ((0 : Int) ≤ (0 : Int) ∧ (0 : Int) < (256 : Int)), ((0 : Int) ≤ (0 : Int) ∧ (0 : Int) < (256 : Int)), ((0 : Int) ≤ (0 : Int) ∧ (0 : Int) < (256 : Int)), ((0 : Int) ≤ (0 : Int) ∧ (0 : Int) < (256 : Int)), ((0 : Int) ≤ (0 : Int) ∧ (0 : Int) < (256 : Int)), ((0 : Int) ≤ (0 : Int) ∧ (0 : Int) < (256 : Int)), ((0 : Int) ≤ (0 : Int) ∧ (0 : Int) < (256 : Int)), ((0 : Int) ≤ (0 : Int) ∧ (0 : Int) < (256 : Int)), ((0 : Int) ≤ (0 : Int) ∧ (0 : Int) < (256 : Int)), ((0 : Int) ≤ (0 : Int) ∧ (0 : Int) < (256 : Int)), ((0 : Int) ≤ (0 : Int) ∧ (0 : Int) < (256 : Int)), (needX r04_Sum_l2_next r04_Sum_l2_goes r04_Sum_l2_ps (32 : Nat) ((0 : Int), (r04_Sum_l0_run (msgN a0, (0 : Int), [(1779033703 : Int), (3144134277 : Int), (1013904242 : Int), (2773480762 : Int), (1359893119 : Int), (2600822924 : Int), (528734635 : Int), (1541459225 : Int)])).snd.snd, [UInt8.ofNat (0 : Nat), UInt8.ofNat (0 : Nat), UInt8.ofNat (0 : Nat), UInt8.ofNat (0 : Nat), UInt8.ofNat (0 : Nat), UInt8.ofNat (0 : Nat), UInt8.ofNat (0 : Nat), UInt8.ofNat (0 : Nat), UInt8.ofNat (0 : Nat), UInt8.ofNat (0 : Nat), UInt8.ofNat (0 : Nat), UInt8.ofNat (0 : Nat), UInt8.ofNat (0 : Nat), UInt8.ofNat (0 : Nat), UInt8.ofNat (0 : Nat), UInt8.ofNat (0 : Nat), UInt8.ofNat (0 : Nat), UInt8.ofNat (0 : Nat), UInt8.ofNat (0 : Nat), UInt8.ofNat (0 : Nat), UInt8.ofNat (0 : Nat), UInt8.ofNat (0 : Nat), UInt8.ofNat (0 : Nat), UInt8.ofNat (0 : Nat), UInt8.ofNat (0 : Nat), UInt8.ofNat (0 : Nat), UInt8.ofNat (0 : Nat), UInt8.ofNat (0 : Nat), UInt8.ofNat (0 : Nat), UInt8.ofNat (0 : Nat), UInt8.ofNat (0 : Nat), UInt8.ofNat (0 : Nat)]))]) := by kernel_rfl
theorem r04_Sum_c (a0 : List UInt8) (hp : ∀ p ∈ r04_Sum_ps a0, p) : CallOk Tryd.prog 16 [valA .bytes a0] 0 [] 1 (r04_Sum_r a0) 0 (r04_Sum_o a0) := by
 have n0 := N0 hp
 have n2 := N0 (N1 hp)
 have n4 : ((0 : Int) ≤ (0 : Int) ∧ (0 : Int) < (256 : Int)) := by first | rfl | decide +kernel
 have n36 := N0 (N1 (N1 hp))
 exact evF_ok (envP_ok Csr_2_ok r04_Sum_l2_Lok) (r04_Sum_ev a0) (needs_cons n0 (needs_cons rfl (needs_cons n2 (needs_cons rfl (needs_cons n4 (needs_cons n4 (needs_cons n4 (needs_cons n4 (needs_cons n4 (needs_cons n4 (needs_cons n4 (needs_cons n4 (needs_cons n4 (needs_cons n4 (needs_cons n4 (needs_cons n4 (needs_cons n4 (needs_cons n4 (needs_cons n4 (needs_cons n4 (needs_cons n4 (needs_cons n4 (needs_cons n4 (needs_cons n4 (needs_cons n4 (needs_cons n4 (needs_cons n4 (needs_cons n4 (needs_cons n4 (needs_cons n4 (needs_cons n4 (needs_cons n4 (needs_cons n4 (needs_cons n4 (needs_cons n4 (needs_cons n4 (needs_cons n36 needs_nil)))))))))))))))))))))))))))))))))))))
end Go.Proofs.YtkknpeeccejppaaDoor
namespace Go.Proofs.YtkknpeeccejppaaDoor
open Go.RowKit
theorem fold64_succ (s : List Int) (bs : List UInt8) (q : Nat) : fold64 s bs (q + 1) = r04_block_0 (fold64 s bs q) ((bs.drop (64 * q)).take 64) := rfl
def iv0 : List Int := [1779033703, 3144134277, 1013904242, 2773480762, 1359893119, 2600822924, 528734635, 1541459225]
theorem ref_fold (s0 : List Int) (m : List UInt8) (hm : m.length % 64 = 0) (hb : m.length ≤ 1099511627776) : needX r04_Sum_l0_next r04_Sum_l0_goes r04_Sum_l0_ps (r04_Sum_l0_fuel (m, 0, s0)) (m, 0, s0) ∧ (r04_Sum_l0_run (m, 0, s0)).2.2 = fold64 s0 m (m.length / 64) := by
 have main := loop_inv (next := r04_Sum_l0_next) (goes := r04_Sum_l0_goes) (ps := r04_Sum_l0_ps) (fun x => x.1 = m ∧ ∃ q : Nat, 64 * q ≤ m.length ∧ x.2.1 = ((64 * q : Nat) : Int) ∧ x.2.2 = fold64 s0 m q) (fun x => ((m.length : Int) - x.2.1).toNat) (fun x hx => by
  obtain ⟨m', i, s⟩ := x
  obtain ⟨h1, q, hq, hi, hs⟩ := hx
  have h1 : m' = m := h1
  subst h1
  have hi : i = ((64 * q : Nat) : Int) := hi
  have hs : s = fold64 s0 m' q := hs
  subst hi hs
  have g1 : r04_Sum_l0_f_k1 m' ((64 * q : Nat) : Int) (fold64 s0 m' q) = true → 64 * (q + 1) ≤ m'.length := fun h => by
   have : (!!decide (((64 * q : Nat) : Int) < (m'.length : Int))) = true := h
   have : ((64 * q : Nat) : Int) < (m'.length : Int) := by simpa using this
   omega
  have k2 : r04_Sum_l0_f_k1 m' ((64 * q : Nat) : Int) (fold64 s0 m' q) = true → r04_Sum_l0_f_k2 m' ((64 * q : Nat) : Int) (fold64 s0 m' q) = ((64 * (q + 1) : Nat) : Int) := fun h => by
   have := g1 h
   show IntKind.i64.wrap (((64 * q : Nat) : Int) + 64) = _
   rw [i64_in ⟨by omega, by omega⟩]
   omega
  have k0 : r04_Sum_l0_f_k1 m' ((64 * q : Nat) : Int) (fold64 s0 m' q) = true → r04_Sum_l0_f_k0 m' ((64 * q : Nat) : Int) (fold64 s0 m' q) = (m'.drop (64 * q)).take 64 := fun h => by
   unfold r04_Sum_l0_f_k0
   rw [k2 h, Int.toNat_natCast, Int.toNat_natCast, show 64 * (q + 1) - 64 * q = 64 by omega]
  refine ⟨needs_cons (fun h => ?_) (needs_cons (fun h => ?_) needs_nil), fun hg => ?_⟩
  ·have := g1 h
   show 0 ≤ ((64 * q : Nat) : Int) ∧ ((64 * q : Nat) : Int) ≤ r04_Sum_l0_f_k2 m' ((64 * q : Nat) : Int) (fold64 s0 m' q) ∧ r04_Sum_l0_f_k2 m' ((64 * q : Nat) : Int) (fold64 s0 m' q) ≤ (m'.length : Int)
   rw [k2 h]; omega
  ·have := g1 h
   show (r04_Sum_l0_f_k0 m' ((64 * q : Nat) : Int) (fold64 s0 m' q)).length = 64
   rw [k0 h, List.length_take, List.length_drop]; omega
  ·have hl := g1 hg
   have f2 : r04_Sum_l0_f_2 m' ((64 * q : Nat) : Int) (fold64 s0 m' q) = fold64 s0 m' (q + 1) := by
    rw [fold64_succ]
    unfold r04_Sum_l0_f_2
    rw [k0 hg]
   have en : r04_Sum_l0_next (m', ((64 * q : Nat) : Int), fold64 s0 m' q) = (m', ((64 * (q + 1) : Nat) : Int), fold64 s0 m' (q + 1)) := by
    rw [← f2, ← k2 hg]
    unfold r04_Sum_l0_next
    rfl
   rw [en]
   refine ⟨⟨rfl, q + 1, hl, rfl, rfl⟩, ?_⟩
   show ((m'.length : Int) - ((64 * (q + 1) : Nat) : Int)).toNat < ((m'.length : Int) - ((64 * q : Nat) : Int)).toNat
   omega) (r04_Sum_l0_fuel (m, 0, s0)) (m, 0, s0) ⟨rfl, 0, Nat.zero_le _, rfl, rfl⟩ (Nat.le_refl _)
 refine ⟨main.1, ?_⟩
 obtain ⟨_, ⟨h1, q, hq, hi, hs⟩, hg⟩ := main
 unfold r04_Sum_l0_run
 generalize iterX r04_Sum_l0_next r04_Sum_l0_goes (r04_Sum_l0_fuel (m, 0, s0)) (m, 0, s0) = y at h1 hi hs hg
 have hg : (!!decide (y.2.1 < (y.1.length : Int))) = false := hg
 rw [h1, hi] at hg
 have : ¬ ((64 * q : Nat) : Int) < (m.length : Int) := by simpa using hg
 rw [hs, show m.length / 64 = q by omega]
theorem dig_need (s : List Int) (z : List UInt8) : needX r04_Sum_l2_next r04_Sum_l2_goes r04_Sum_l2_ps 32 (0, s, z) := (loop_inv (next := r04_Sum_l2_next) (goes := r04_Sum_l2_goes) (ps := r04_Sum_l2_ps) (fun x => 0 ≤ x.1 ∧ x.1 ≤ 32) (fun x => (32 - x.1).toNat) (fun x hx => by
 obtain ⟨i, s, z⟩ := x
 have hi : 0 ≤ i ∧ i ≤ 32 := hx
 have g : r04_Sum_l2_f_k1 i s z = true → i < 32 := fun h => by
  have : (!!decide (i < 32)) = true := h
  simpa using this
 refine ⟨needs_cons (fun h => ?_) (needs_cons (fun h => ⟨hi.1, g h⟩) needs_nil), fun hg => ?_⟩
 ·have := g h
  show 0 ≤ IntKind.i64.wrap (i.tdiv 4) ∧ IntKind.i64.wrap (i.tdiv 4) < 8
  rw [Int.tdiv_eq_ediv_of_nonneg hi.1, i64_in ⟨by omega, by omega⟩]
  omega
 ·have := g hg
  have e1 : IntKind.i64.wrap (i + 1) = i + 1 := i64_in ⟨by omega, by omega⟩
  refine ⟨?_, ?_⟩
  ·show 0 ≤ IntKind.i64.wrap (i + 1) ∧ IntKind.i64.wrap (i + 1) ≤ 32
   rw [e1]; omega
  ·show (32 - IntKind.i64.wrap (i + 1)).toNat < (32 - i).toNat
   rw [e1]; omega) 32 (0, s, z) (show (0 : Int) ≤ 0 ∧ (0 : Int) ≤ 32 from ⟨by omega, by omega⟩) (show ((32 : Int) - 0).toNat ≤ 32 by decide)).1
theorem msg_size (b : List UInt8) (hb : b.length ≤ 137438953472) : (msgN b).length ≤ 1099511627776 := by
 rw [msgN_length]; unfold padN; omega
theorem ref_needs (b : List UInt8) (hb : b.length ≤ 137438953472) : ∀ p ∈ r04_Sum_ps b, p :=
 needs_cons hb (needs_cons (ref_fold iv0 (msgN b) (msgN_mod b) (msg_size b hb)).1 (needs_cons (dig_need _ _) needs_nil))
def digL (s : List Int) : List UInt8 := (r04_Sum_l2_run (0, s, List.replicate 32 (UInt8.ofNat 0))).2.2
def shaN (b : List UInt8) : List UInt8 := digL (fold64 iv0 (msgN b) ((msgN b).length / 64))
theorem z32 : List.replicate 32 (UInt8.ofNat 0) = [UInt8.ofNat 0, UInt8.ofNat 0, UInt8.ofNat 0, UInt8.ofNat 0, UInt8.ofNat 0, UInt8.ofNat 0, UInt8.ofNat 0, UInt8.ofNat 0, UInt8.ofNat 0, UInt8.ofNat 0, UInt8.ofNat 0, UInt8.ofNat 0, UInt8.ofNat 0, UInt8.ofNat 0, UInt8.ofNat 0, UInt8.ofNat 0, UInt8.ofNat 0, UInt8.ofNat 0, UInt8.ofNat 0, UInt8.ofNat 0, UInt8.ofNat 0, UInt8.ofNat 0, UInt8.ofNat 0, UInt8.ofNat 0, UInt8.ofNat 0, UInt8.ofNat 0, UInt8.ofNat 0, UInt8.ofNat 0, UInt8.ofNat 0, UInt8.ofNat 0, UInt8.ofNat 0, UInt8.ofNat 0] := rfl
theorem ref_sum (b : List UInt8) (hb : b.length ≤ 137438953472) : r04_Sum_0 b = shaN b := by
 have h := (ref_fold iv0 (msgN b) (msgN_mod b) (msg_size b hb)).2
 unfold shaN digL
 rw [← h, z32]
 unfold r04_Sum_0 iv0
 show _ = _
 kernel_rfl
def oByte (n i : Int) : UInt8 := UInt8.ofNat (sha_Sum_l0_f_k0 n i []).toNat
theorem oByte_eq (n i j : Int) (h : IntKind.u64.wrap (IntKind.i64.wrap (56 - IntKind.i64.wrap (8 * i))) = IntKind.u64.wrap (IntKind.i64.wrap (8 * j))) : oByte n i = byteOf n j := by
 unfold oByte byteOf sha_Sum_l0_f_k0 r04_message_l2_f_k0
 rw [h]
theorem end_run (n : Int) : (iterX sha_Sum_l0_next sha_Sum_l0_goes 8 (n, 0, List.replicate 8 (UInt8.ofNat 0))).2.2 = be8 n := by
 have st : ∀ (k : Nat) (i j : Int) (l : List UInt8), decide (i < 8) = true → IntKind.i64.wrap (i + 1) = j → iterX sha_Sum_l0_next sha_Sum_l0_goes (k + 1) (n, i, l) = iterX sha_Sum_l0_next sha_Sum_l0_goes k (n, j, l.set i.toNat (oByte n i)) := fun k i j l h1 h2 => by
  subst h2
  show (bif (!!decide (i < 8)) then iterX sha_Sum_l0_next sha_Sum_l0_goes k (sha_Sum_l0_next (n, i, l)) else (n, i, l)) = _
  rw [h1]
  rfl
 rw [st 7 0 1 _ (by decide) (by decide +kernel), st 6 1 2 _ (by decide) (by decide +kernel), st 5 2 3 _ (by decide) (by decide +kernel), st 4 3 4 _ (by decide) (by decide +kernel), st 3 4 5 _ (by decide) (by decide +kernel), st 2 5 6 _ (by decide) (by decide +kernel), st 1 6 7 _ (by decide) (by decide +kernel), st 0 7 8 _ (by decide) (by decide +kernel)]
 show [oByte n 0, oByte n 1, oByte n 2, oByte n 3, oByte n 4, oByte n 5, oByte n 6, oByte n 7] = be8 n
 rw [oByte_eq n 0 7 (by decide +kernel), oByte_eq n 1 6 (by decide +kernel), oByte_eq n 2 5 (by decide +kernel), oByte_eq n 3 4 (by decide +kernel), oByte_eq n 4 3 (by decide +kernel), oByte_eq n 5 2 (by decide +kernel), oByte_eq n 6 1 (by decide +kernel), oByte_eq n 7 0 (by decide +kernel)]
 rfl
theorem end_need (n : Int) (z : List UInt8) : needX sha_Sum_l0_next sha_Sum_l0_goes sha_Sum_l0_ps 8 (n, 0, z) := (loop_inv (next := sha_Sum_l0_next) (goes := sha_Sum_l0_goes) (ps := sha_Sum_l0_ps) (fun x => 0 ≤ x.2.1 ∧ x.2.1 ≤ 8) (fun x => (8 - x.2.1).toNat) (fun x hx => by
 obtain ⟨n, i, z⟩ := x
 have hi : 0 ≤ i ∧ i ≤ 8 := hx
 have g : sha_Sum_l0_f_k1 n i z = true → i < 8 := fun h => by
  have : (!!decide (i < 8)) = true := h
  simpa using this
 refine ⟨needs_cons (fun h => ⟨hi.1, g h⟩) needs_nil, fun hg => ?_⟩
 have := g hg
 have e1 : IntKind.i64.wrap (i + 1) = i + 1 := i64_in ⟨by omega, by omega⟩
 refine ⟨?_, ?_⟩
 ·show 0 ≤ IntKind.i64.wrap (i + 1) ∧ IntKind.i64.wrap (i + 1) ≤ 8
  rw [e1]; omega
 ·show (8 - IntKind.i64.wrap (i + 1)).toNat < (8 - i).toNat
  rw [e1]; omega) 8 (n, 0, z) (show (0 : Int) ≤ 0 ∧ (0 : Int) ≤ 8 from ⟨by omega, by omega⟩) (show ((8 : Int) - 0).toNat ≤ 8 by decide)).1
def chi (x : sha_Sum_l2_X) : r04_Sum_l2_X := (x.1, x.2.2.2.1, x.2.1)
theorem chi_next (x : sha_Sum_l2_X) : chi (sha_Sum_l2_next x) = r04_Sum_l2_next (chi x) := by
 obtain ⟨i, d, t, s, w, n⟩ := x
 show (IntKind.i64.wrap (i + 1), s, sha_Sum_l2_f_1 i d t s w n) = (IntKind.i64.wrap (i + 1), s, r04_Sum_l2_f_2 i s d)
 unfold sha_Sum_l2_f_1 r04_Sum_l2_f_2 sha_Sum_l2_f_k0 r04_Sum_l2_f_k0
 rw [Int.mul_comm (i.tmod 4) 8]
theorem own_need (s : List Int) (z : List UInt8) (t : Bool) (w : List UInt8) (n : Int) : needX sha_Sum_l2_next sha_Sum_l2_goes sha_Sum_l2_ps 32 (0, z, t, s, w, n) := (loop_inv (next := sha_Sum_l2_next) (goes := sha_Sum_l2_goes) (ps := sha_Sum_l2_ps) (fun x => 0 ≤ x.1 ∧ x.1 ≤ 32) (fun x => (32 - x.1).toNat) (fun x hx => by
 obtain ⟨i, z, t, s, w, n⟩ := x
 have hi : 0 ≤ i ∧ i ≤ 32 := hx
 have g : sha_Sum_l2_f_k1 i z t s w n = true → i < 32 := fun h => by
  have : (!!decide (i < 32)) = true := h
  simpa using this
 refine ⟨needs_cons (fun h => ?_) (needs_cons (fun h => ⟨hi.1, g h⟩) needs_nil), fun hg => ?_⟩
 ·have := g h
  show 0 ≤ IntKind.i64.wrap (i.tdiv 4) ∧ IntKind.i64.wrap (i.tdiv 4) < 8
  rw [Int.tdiv_eq_ediv_of_nonneg hi.1, i64_in ⟨by omega, by omega⟩]
  omega
 ·have := g hg
  have e1 : IntKind.i64.wrap (i + 1) = i + 1 := i64_in ⟨by omega, by omega⟩
  refine ⟨?_, ?_⟩
  ·show 0 ≤ IntKind.i64.wrap (i + 1) ∧ IntKind.i64.wrap (i + 1) ≤ 32
   rw [e1]; omega
  ·show (32 - IntKind.i64.wrap (i + 1)).toNat < (32 - i).toNat
   rw [e1]; omega) 32 (0, z, t, s, w, n) (show (0 : Int) ≤ 0 ∧ (0 : Int) ≤ 32 from ⟨by omega, by omega⟩) (show ((32 : Int) - 0).toNat ≤ 32 by decide)).1
theorem own_sum (bs : List UInt8) (s : List Int) (w : List UInt8) (n : Int) (h : StR iv0 bs s w n) (hb : bs.length ≤ 137438953472) : (∀ p ∈ sha_Sum_ps s w n, p) ∧ sha_Sum_0 s w n = shaN bs := by
 have hn := h.hn
 have a1 := add_str iv0 bs s w n [UInt8.ofNat 128] h (by show n + 1 ≤ _; omega)
 have k6 : sha_Sum_k6 s w n = (bs.length : Int) + 1 := by
  have := a1.hn
  rw [List.length_append] at this
  exact this
 have k5 : sha_Sum_k5 s w n = (padN bs.length : Int) := by
  unfold sha_Sum_k5
  rw [k6, show ((bs.length : Int) + 1).tmod 64 = ((bs.length : Int) + 1) % 64 from Int.tmod_eq_emod_of_nonneg (by omega), i64_in ⟨by omega, by omega⟩, Int.tmod_eq_emod_of_nonneg (by omega)]
  unfold padN
  omega
 have hp : padN bs.length < 64 := by unfold padN; omega
 have hrep : (List.replicate (sha_Sum_k5 s w n).toNat (dflt TC.u8)) = List.replicate (padN bs.length) (UInt8.ofNat 0) := by
  rw [k5, Int.toNat_natCast]
  rfl
 have hrl : (List.replicate (sha_Sum_k5 s w n).toNat (dflt TC.u8)).length = padN bs.length := by rw [hrep, List.length_replicate]
 have a2 := add_str iv0 (bs ++ [UInt8.ofNat 128]) _ _ _ (List.replicate (sha_Sum_k5 s w n).toNat (dflt TC.u8)) a1 (by
  show sha_Sum_k6 s w n + _ ≤ _
  rw [k6, hrl]; omega)
 have k3 : sha_Sum_k3 s w n = (bs.length : Int) + 1 + (padN bs.length : Int) := by
  have := a2.hn
  rw [List.length_append, List.length_append, hrl] at this
  have e : sha_Sum_k3 s w n = ((bs.length + [UInt8.ofNat 128].length + padN bs.length : Nat) : Int) := this
  rw [e]
  show ((bs.length + 1 + padN bs.length : Nat) : Int) = _
  omega
 have w8 : IntKind.i64.wrap (8 * n) = 8 * (bs.length : Int) := by rw [hn]; exact i64_in ⟨by omega, by omega⟩
 have k0 : sha_Sum_k0 s w n = be8 (8 * (bs.length : Int)) := by
  unfold sha_Sum_k0
  rw [w8]
  have e : sha_Sum_l0_run (8 * (bs.length : Int), 0, sha_Sum_k4 s w n) = iterX sha_Sum_l0_next sha_Sum_l0_goes 8 (8 * (bs.length : Int), 0, List.replicate 8 (UInt8.ofNat 0)) := rfl
  rw [e, end_run]
  rfl
 have a3 := add_str iv0 _ _ _ _ (sha_Sum_k0 s w n) a2 (by
  show sha_Sum_k3 s w n + _ ≤ _
  rw [k3, k0]
  show _ + ((8 : Nat) : Int) ≤ _
  omega)
 have hmsg : ((bs ++ [UInt8.ofNat 128]) ++ List.replicate (sha_Sum_k5 s w n).toNat (dflt TC.u8)) ++ sha_Sum_k0 s w n = msgN bs := by
  rw [hrep, k0]
  rfl
 rw [hmsg] at a3
 have hs := a3.hs
 refine ⟨needs_cons (fun _ => by omega) (needs_cons (fun _ => by omega) (needs_cons (fun _ => by rw [k5]; omega) (needs_cons (fun _ => by rw [k6]; omega) (needs_cons (fun _ => by rw [k6, hrl]; omega) (needs_cons (fun _ => end_need _ _) (needs_cons (fun _ => by rw [k3]; omega) (needs_cons (fun _ => by rw [k3]; omega) (needs_cons (fun _ => own_need _ _ _ _ _) needs_nil)))))))), ?_⟩
 have e : ∀ (z : List UInt8) (S : List Int) (W : List UInt8) (n' : Int), (sha_Sum_l2_run (0, z, true, S, W, n')).2.1 = (r04_Sum_l2_run (0, S, z)).2.2 := fun z S W n' => by
  have e1 : sha_Sum_l2_run (0, z, true, S, W, n') = iterX sha_Sum_l2_next sha_Sum_l2_goes 32 (0, z, true, S, W, n') := by
   unfold sha_Sum_l2_run
   rw [show sha_Sum_l2_fuel ((0 : Int), z, true, S, W, n') = 32 from rfl]
  have e2 : r04_Sum_l2_run (0, S, z) = iterX r04_Sum_l2_next r04_Sum_l2_goes 32 (0, S, z) := by
   unfold r04_Sum_l2_run
   rw [show r04_Sum_l2_fuel ((0 : Int), S, z) = 32 from rfl]
  rw [e1, e2]
  have hh := iterX_sim (nx := sha_Sum_l2_next) (gx := sha_Sum_l2_goes) (ny := r04_Sum_l2_next) (gy := r04_Sum_l2_goes) chi (fun _ => rfl) chi_next 32 (0, z, true, S, W, n')
  have hc : chi (0, z, true, S, W, n') = (0, S, z) := rfl
  rw [hc] at hh
  generalize iterX sha_Sum_l2_next sha_Sum_l2_goes 32 (0, z, true, S, W, n') = u at hh ⊢
  generalize iterX r04_Sum_l2_next r04_Sum_l2_goes 32 (0, S, z) = v at hh ⊢
  rw [← hh]
  rfl
 unfold sha_Sum_0
 rw [e]
 unfold shaN digL
 rw [← hs, z32]
 show _ = _
 kernel_rfl
end Go.Proofs.YtkknpeeccejppaaDoor
namespace Go.Proofs.YtkknpeeccejppaaDoor
open Go.RowKit
theorem callOk_seg {P : Program} {f : FuncId} {args : List A} {k m i : Nat} {x : A} {e : TypeId} {cs xs : List A} {p : List (Option (TC × Nat))} {ps : List Prop} (h : CallOk P f args 0 [] k x m [(i, some (.box e cs))]) (hs : segL p cs = some (xs, ps)) (hp : ∀ p ∈ ps, p) : CallOk P f args 0 [] k x m [(i, some (.rcd e xs))] := fun F N R vs hh ha =>
 Calls.mono (P := P) (h F N R vs hh ha) fun e0 R' ⟨y, F', N', e1, e2, e3, e4, e5⟩ => by
  obtain ⟨r1, r2⟩ := e2.less (o' := [(i, some (.rcd e xs))]) fun j ob hi => by
   rw [lookO_cons] at hi
   by_cases hib : j = i
   ·rw [if_pos hib] at hi
    cases hi
    subst hib
    exact ⟨.box e cs, by rw [lookO_cons, if_pos rfl], fun ⟨vs, k1, k2⟩ => ⟨vs, segL_ok k1 hs hp, k2⟩, fun g => Iff.rfl⟩
   ·rw [if_neg hib] at hi
    cases hi
  exact ⟨y, F', N', e1, r1, e3.trans r2, e4, e5⟩
def SumOk (s : List Int) (w : List UInt8) (n : Int) : Prop := ∀ p ∈ sha_Sum_ps s w n, p
def sum_t : List A → Nat → Objs → Option CRes
 | [.own i 0], nx, o => match lookO i o with
  | some (.rcd 111 [.v (.bool true), .av .u32 8 s, .av .u8 64 w, .v (.int .i64 n)]) => some (2, .av .u8 32 (sha_Sum_0 s w n), nx, (i, some (.rcd 111 [.v (.bool true), .av .u32 8 s, .av .u8 64 w, .v (.int .i64 n)])) :: o, [SumOk s w n])
  | _ => none
 | _, _, _ => none
theorem sum_tok : TOk Tryd.prog 33 sum_t := fun args nx o k x nx' o' ps h => by
 unfold sum_t at h
 split at h <;> first | (cases h; done) | skip
 rename_i i
 split at h <;> first | (cases h; done) | skip
 rename_i s w n hl
 cases h
 refine ⟨fun hp => ?_, [_], rfl⟩
 have h3 := sha_Sum_c s w n (N0 hp)
 exact callOk_own h3 (by rfl) (by rfl) (by rfl) (by rfl) (by rfl) hl
noncomputable def Csg := addC 33 sum_t Cse
theorem Csg_ok : COk Tryd.prog Csg := addC_ok sum_tok Cse_ok
end Go.Proofs.YtkknpeeccejppaaDoor
namespace Go.Proofs.YtkknpeeccejppaaDoor
open Go.RowKit
def sha_New_r  : A := .own 0 0
def sha_New_o  : Objs := [(0, some (.box 111 [.v (.bool (true)), .v (.int .u32 ((1779033703 : Int))), .v (.int .u32 ((3144134277 : Int))), .v (.int .u32 ((1013904242 : Int))), .v (.int .u32 ((2773480762 : Int))), .v (.int .u32 ((1359893119 : Int))), .v (.int .u32 ((2600822924 : Int))), .v (.int .u32 ((528734635 : Int))), .v (.int .u32 ((1541459225 : Int))), .v (.int .u8 ((0 : Int))), .v (.int .u8 ((0 : Int))), .v (.int .u8 ((0 : Int))), .v (.int .u8 ((0 : Int))), .v (.int .u8 ((0 : Int))), .v (.int .u8 ((0 : Int))), .v (.int .u8 ((0 : Int))), .v (.int .u8 ((0 : Int))), .v (.int .u8 ((0 : Int))), .v (.int .u8 ((0 : Int))), .v (.int .u8 ((0 : Int))), .v (.int .u8 ((0 : Int))), .v (.int .u8 ((0 : Int))), .v (.int .u8 ((0 : Int))), .v (.int .u8 ((0 : Int))), .v (.int .u8 ((0 : Int))), .v (.int .u8 ((0 : Int))), .v (.int .u8 ((0 : Int))), .v (.int .u8 ((0 : Int))), .v (.int .u8 ((0 : Int))), .v (.int .u8 ((0 : Int))), .v (.int .u8 ((0 : Int))), .v (.int .u8 ((0 : Int))), .v (.int .u8 ((0 : Int))), .v (.int .u8 ((0 : Int))), .v (.int .u8 ((0 : Int))), .v (.int .u8 ((0 : Int))), .v (.int .u8 ((0 : Int))), .v (.int .u8 ((0 : Int))), .v (.int .u8 ((0 : Int))), .v (.int .u8 ((0 : Int))), .v (.int .u8 ((0 : Int))), .v (.int .u8 ((0 : Int))), .v (.int .u8 ((0 : Int))), .v (.int .u8 ((0 : Int))), .v (.int .u8 ((0 : Int))), .v (.int .u8 ((0 : Int))), .v (.int .u8 ((0 : Int))), .v (.int .u8 ((0 : Int))), .v (.int .u8 ((0 : Int))), .v (.int .u8 ((0 : Int))), .v (.int .u8 ((0 : Int))), .v (.int .u8 ((0 : Int))), .v (.int .u8 ((0 : Int))), .v (.int .u8 ((0 : Int))), .v (.int .u8 ((0 : Int))), .v (.int .u8 ((0 : Int))), .v (.int .u8 ((0 : Int))), .v (.int .u8 ((0 : Int))), .v (.int .u8 ((0 : Int))), .v (.int .u8 ((0 : Int))), .v (.int .u8 ((0 : Int))), .v (.int .u8 ((0 : Int))), .v (.int .u8 ((0 : Int))), .v (.int .u8 ((0 : Int))), .v (.int .u8 ((0 : Int))), .v (.int .u8 ((0 : Int))), .v (.int .u8 ((0 : Int))), .v (.int .u8 ((0 : Int))), .v (.int .u8 ((0 : Int))), .v (.int .u8 ((0 : Int))), .v (.int .u8 ((0 : Int))), .v (.int .u8 ((0 : Int))), .v (.int .u8 ((0 : Int))), .v (.int .i64 ((0 : Int)))]))]
def sha_New_ps  : List Prop := []
theorem sha_New_ev  : evF (envT Csg L0) 9 31 [] 0 [] = some (1, sha_New_r , 1, sha_New_o , sha_New_ps ) := by kernel_rfl
theorem sha_New_c  (hp : ∀ p ∈ sha_New_ps , p) : CallOk Tryd.prog 31 [] 0 [] 1 (sha_New_r ) 1 (sha_New_o ) := evF_ok (envP_ok Csg_ok L0_ok) (sha_New_ev ) hp
def sha_New_r2 : A := .own 0 0
def sha_New_o2 : Objs := [(0, some (.rcd 111 [.v (.bool true), .av .u32 8 iv0, .av .u8 64 (List.replicate 64 0), .v (.int .i64 0)]))]
def sha_New_ps2 : List Prop := []
theorem sha_New_c2 (_hp : ∀ p ∈ sha_New_ps2, p) : CallOk Tryd.prog 31 [] 0 [] 1 sha_New_r2 1 sha_New_o2 :=
 callOk_seg (p := [none, some (.u32, 8), some (.u8, 64), none]) (ps := List.replicate 64 ((0 : Int) ≤ 0 ∧ (0 : Int) < 256)) (sha_New_c needs_nil) (by kernel_rfl) (fun p hp => by rw [List.eq_of_mem_replicate hp]; decide)
def sha_New_t : List A → Nat → Objs → Option CRes := rowK [] 1 sha_New_r2 sha_New_o2 sha_New_ps2
theorem sha_New_tok : TOk Tryd.prog 31 sha_New_t := rowK_ok (ks := []) sha_New_c2
noncomputable def Csn_1 := addC 31 sha_New_t Csg
theorem Csn_1_ok : COk Tryd.prog Csn_1 := addC_ok sha_New_tok Csg_ok
noncomputable def Csn_2 := addC 24 (inl (envT Csn_1 L0) 20 24) Csn_1
theorem Csn_2_ok : COk Tryd.prog Csn_2 := addC_ok (inl_ok (envP_ok Csn_1_ok L0_ok) 20 24) Csn_1_ok
def merkle_place_k2 (a0 : ByteArray) : Int := sha_Add_k1 iv0 (List.replicate (64 : Nat) (0 : U TC.u8)) (0 : Int) a0.data.toList
def merkle_place_k1 (a0 : ByteArray) : List UInt8 := sha_Add_3 iv0 (List.replicate (64 : Nat) (0 : U TC.u8)) (0 : Int) a0.data.toList
def merkle_place_k0 (a0 : ByteArray) : List Int := sha_Add_2 iv0 (List.replicate (64 : Nat) (0 : U TC.u8)) (0 : Int) a0.data.toList
def merkle_place_0 (a0 : ByteArray) : Int := IntKind.i64.wrap (↑(UInt8.toNat ((sha_Sum_0 (merkle_place_k0 a0) (merkle_place_k1 a0) (merkle_place_k2 a0)).getD (0 : Nat) (dflt TC.u8))) : Int)
def merkle_place_r (a0 : ByteArray) : A := .v (.int .i64 (merkle_place_0 a0))
def merkle_place_o (_a0 : ByteArray) : Objs := []
def merkle_place_ps (a0 : ByteArray) : List Prop := [((0 : Int) + (↑a0.data.toList.length : Int) ≤ (4611686018427387904 : Int)), (SumOk (merkle_place_k0 a0) (merkle_place_k1 a0) (merkle_place_k2 a0))]
theorem merkle_place_ev (a0 : ByteArray) : evF (envT Csn_2 L0) 9 15 [valA .str a0] 0 [] = some (1, merkle_place_r a0, 0, merkle_place_o a0, [((0 : Int) ≤ (0 : Int) ∧ (0 : Int) < (↑(1 : Nat) : Int)), ((0 : Nat) < (1 : Nat)), ((0 : Int) ≤ (0 : Int)), ((0 : Int) + (↑a0.data.toList.length : Int) ≤ (4611686018427387904 : Int)), (SumOk (merkle_place_k0 a0) (merkle_place_k1 a0) (merkle_place_k2 a0)), ((0 : Int) ≤ (0 : Int) ∧ (0 : Int) < (32 : Int))]) := by kernel_rfl
theorem merkle_place_c (a0 : ByteArray) (hp : ∀ p ∈ merkle_place_ps a0, p) : CallOk Tryd.prog 15 [valA .str a0] 0 [] 1 (merkle_place_r a0) 0 (merkle_place_o a0) := by
 have n0 : ((0 : Int) ≤ (0 : Int) ∧ (0 : Int) < (↑(1 : Nat) : Int)) := by first | rfl | decide +kernel
 have n1 : ((0 : Nat) < (1 : Nat)) := by first | rfl | decide +kernel
 have n2 : ((0 : Int) ≤ (0 : Int)) := by first | rfl | decide +kernel
 have n3 := N0 hp
 have n4 := N0 (N1 hp)
 have n5 : ((0 : Int) ≤ (0 : Int) ∧ (0 : Int) < (32 : Int)) := by first | rfl | decide +kernel
 exact evF_ok (envP_ok Csn_2_ok L0_ok) (merkle_place_ev a0) (needs_cons n0 (needs_cons n1 (needs_cons n2 (needs_cons n3 (needs_cons n4 (needs_cons n5 needs_nil))))))
noncomputable def Csn := Csn_2
theorem Csn_ok : COk Tryd.prog Csn := Csn_2_ok
end Go.Proofs.YtkknpeeccejppaaDoor
namespace Go.Proofs.YtkknpeeccejppaaDoor
open Go.RowKit
theorem init_str : StR iv0 [] iv0 (List.replicate 64 0) 0 := ⟨rfl, rfl, by simp, rfl⟩
def firstN (b : List UInt8) : Int := ((shaN b).getD 0 0).toNat
theorem firstN_lt (b : List UInt8) : 0 ≤ firstN b ∧ firstN b < 256 := by
 unfold firstN
 have := ((shaN b).getD 0 0).toNat_lt
 omega
theorem whole_sum (b : List UInt8) (hb : b.length ≤ 137438953472) : SumOk (sha_Add_2 iv0 (List.replicate 64 0) 0 b) (sha_Add_3 iv0 (List.replicate 64 0) 0 b) (sha_Add_k1 iv0 (List.replicate 64 0) 0 b) ∧ sha_Sum_0 (sha_Add_2 iv0 (List.replicate 64 0) 0 b) (sha_Add_3 iv0 (List.replicate 64 0) 0 b) (sha_Add_k1 iv0 (List.replicate 64 0) 0 b) = shaN b := by
 have h := add_str iv0 [] iv0 (List.replicate 64 0) 0 b init_str (by omega)
 rw [List.nil_append] at h
 exact own_sum b _ _ _ h hb
theorem place_eq (a : ByteArray) (hb : a.data.toList.length ≤ 137438953472) : (∀ p ∈ merkle_place_ps a, p) ∧ merkle_place_0 a = firstN a.data.toList := by
 obtain ⟨h1, h2⟩ := whole_sum a.data.toList hb
 refine ⟨needs_cons (by omega) (needs_cons h1 needs_nil), ?_⟩
 unfold merkle_place_0 merkle_place_k0 merkle_place_k1 merkle_place_k2
 rw [show sha_Sum_0 (sha_Add_2 iv0 (List.replicate 64 (0 : U TC.u8)) 0 a.data.toList) (sha_Add_3 iv0 (List.replicate 64 (0 : U TC.u8)) 0 a.data.toList) (sha_Add_k1 iv0 (List.replicate 64 (0 : U TC.u8)) 0 a.data.toList) = shaN a.data.toList from h2]
 have := firstN_lt a.data.toList
 exact i64_in ⟨by show -9223372036854775808 ≤ firstN a.data.toList; omega, by show firstN a.data.toList ≤ _; omega⟩
end Go.Proofs.YtkknpeeccejppaaDoor
namespace Go.Proofs.YtkknpeeccejppaaDoor
open Go.RowKit
def merkle_place_r2 (a0 : ByteArray) : A := .v (.int .i64 (firstN a0.data.toList))
def merkle_place_o2 (_a0 : ByteArray) : Objs := []
def merkle_place_ps2 (a0 : ByteArray) : List Prop := [a0.data.toList.length ≤ 137438953472]
theorem merkle_place_c2 (a0 : ByteArray) (hp : ∀ p ∈ merkle_place_ps2 a0, p) : CallOk Tryd.prog 15 [valA .str a0] 0 [] 1 (merkle_place_r2 a0) 0 (merkle_place_o2 a0) := by
 have h := place_eq a0 (N0 hp)
 have h1 := merkle_place_c a0 h.1
 unfold merkle_place_r at h1
 rw [h.2] at h1
 exact h1
def merkle_place_t : List A → Nat → Objs → Option CRes := rowK [.t .str] 0 merkle_place_r2 merkle_place_o2 merkle_place_ps2
theorem merkle_place_tok : TOk Tryd.prog 15 merkle_place_t := rowK_ok (ks := [.t .str]) merkle_place_c2
noncomputable def Csq_1 := addC 15 merkle_place_t Csn
theorem Csq_1_ok : COk Tryd.prog Csq_1 := addC_ok merkle_place_tok Csn_ok
def r04_Sum_r2 (a0 : List UInt8) : A := .av .u8 32 (shaN a0)
def r04_Sum_o2 (_a0 : List UInt8) : Objs := []
def r04_Sum_ps2 (a0 : List UInt8) : List Prop := [a0.length ≤ 137438953472]
theorem r04_Sum_c2 (a0 : List UInt8) (hp : ∀ p ∈ r04_Sum_ps2 a0, p) : CallOk Tryd.prog 16 [.sl .u8 a0] 0 [] 1 (r04_Sum_r2 a0) 0 (r04_Sum_o2 a0) := by
 have h1 := r04_Sum_c a0 (ref_needs a0 (N0 hp))
 unfold r04_Sum_r at h1
 rw [ref_sum a0 (N0 hp)] at h1
 exact h1
def r04_Sum_t : List A → Nat → Objs → Option CRes := rowK [.t .bytes] 0 r04_Sum_r2 r04_Sum_o2 r04_Sum_ps2
theorem r04_Sum_tok : TOk Tryd.prog 16 r04_Sum_t := rowK_ok (ks := [.t .bytes]) r04_Sum_c2
noncomputable def Csq_2 := addC 16 r04_Sum_t Csq_1
theorem Csq_2_ok : COk Tryd.prog Csq_2 := addC_ok r04_Sum_tok Csq_1_ok
def merkle_Path_0 (a0 : ByteArray) : Int := IntKind.i64.wrap ((firstN a0.data.toList).tdiv (16 : Int))
def merkle_Path_r (_a0 : ByteArray) : A := .sq 0
def merkle_Path_o (a0 : ByteArray) : Objs := [(0, some (.arr 3 1 (.lst [[.v (.int .i64 (merkle_Path_0 a0))], [.v (.int .i64 ((firstN a0.data.toList).tmod (16 : Int)))]])))]
def merkle_Path_ps (a0 : ByteArray) : List Prop := [(a0.data.toList.length ≤ (137438953472 : Nat))]
theorem merkle_Path_ev (a0 : ByteArray) : evF (envT Csq_2 L0) 9 7 [valA .str a0] 0 [] = some (1, merkle_Path_r a0, 1, merkle_Path_o a0, merkle_Path_ps a0) := by kernel_rfl
theorem merkle_Path_c (a0 : ByteArray) (hp : ∀ p ∈ merkle_Path_ps a0, p) : CallOk Tryd.prog 7 [valA .str a0] 0 [] 1 (merkle_Path_r a0) 1 (merkle_Path_o a0) := evF_ok (envP_ok Csq_2_ok L0_ok) (merkle_Path_ev a0) hp
def merkle_Path_t : List A → Nat → Objs → Option CRes := rowK [.t .str] 1 merkle_Path_r merkle_Path_o merkle_Path_ps
theorem merkle_Path_tok : TOk Tryd.prog 7 merkle_Path_t := rowK_ok (ks := [.t .str]) merkle_Path_c
noncomputable def Csq_3 := addC 7 merkle_Path_t Csq_2
theorem Csq_3_ok : COk Tryd.prog Csq_3 := addC_ok merkle_Path_tok Csq_2_ok
def r24_Path_k0 (a0 : ByteArray) : Int := (↑(UInt8.toNat ((shaN a0.data.toList).getD (0 : Nat) (dflt TC.u8))) : Int)
def r24_Path_0 (a0 : ByteArray) : Int := IntKind.i64.wrap (IntKind.u8.wrap ((r24_Path_k0 a0).tdiv (16 : Int)))
def r24_Path_1 (a0 : ByteArray) : Int := IntKind.i64.wrap ((r24_Path_k0 a0).tmod (16 : Int))
def r24_Path_r (_a0 : ByteArray) : A := .sq 0
def r24_Path_o (a0 : ByteArray) : Objs := [(0, some (.arr 3 1 (.lst [[.v (.int .i64 (r24_Path_0 a0))], [.v (.int .i64 (r24_Path_1 a0))]])))]
def r24_Path_ps (a0 : ByteArray) : List Prop := [(a0.data.toList.length ≤ (137438953472 : Nat))]
theorem r24_Path_ev (a0 : ByteArray) : evF (envT Csq_3 L0) 9 8 [valA .str a0] 0 [] = some (1, r24_Path_r a0, 1, r24_Path_o a0, r24_Path_ps a0) := by kernel_rfl
theorem r24_Path_c (a0 : ByteArray) (hp : ∀ p ∈ r24_Path_ps a0, p) : CallOk Tryd.prog 8 [valA .str a0] 0 [] 1 (r24_Path_r a0) 1 (r24_Path_o a0) := evF_ok (envP_ok Csq_3_ok L0_ok) (r24_Path_ev a0) hp
def r24_Path_t : List A → Nat → Objs → Option CRes := rowK [.t .str] 1 r24_Path_r r24_Path_o r24_Path_ps
theorem r24_Path_tok : TOk Tryd.prog 8 r24_Path_t := rowK_ok (ks := [.t .str]) r24_Path_c
noncomputable def Csq_4 := addC 8 r24_Path_t Csq_3
theorem Csq_4_ok : COk Tryd.prog Csq_4 := addC_ok r24_Path_tok Csq_3_ok
abbrev r01_Ints_l0_X : Type := (List Int) × (List Int) × Int
def r01_Ints_l0_T (x : r01_Ints_l0_X) : St := ⟨26, 0, [(0, .sl .i64 x.1), (1, .sl .i64 x.2.1), (5, .v (.int .i64 x.2.2))], []⟩
def r01_Ints_l0_un : St → Option r01_Ints_l0_X
 | ⟨26, 0, [(0, .sl .i64 z0), (1, .sl .i64 z1), (5, .v (.int .i64 z2))], []⟩ => some (z0, z1, z2)
 | _ => none
theorem r01_Ints_l0_unok : ∀ s x, r01_Ints_l0_un s = some x → s = r01_Ints_l0_T x := fun s x h => by
 unfold r01_Ints_l0_un at h
 split at h
 ·cases h; rfl
 ·cases h
def r01_Ints_l0_S : Shape := ⟨0, 0, [0, 1, 5], [], [], [], [4], []⟩
def r01_Ints_l0_E : Entry := ⟨[], [], [0, 1, 5], []⟩
def r01_Ints_l0_f_k1 (a0 : List Int) (_a1 : List Int) (a2 : Int) : Bool := !!decide (a2 < (↑a0.length : Int))
def r01_Ints_l0_f_k0 (a0 : List Int) (a1 : List Int) (a2 : Int) : Bool := (r01_Ints_l0_f_k1 a0 a1 a2) && a0.getD a2.toNat (dflt TC.i64) != a1.getD a2.toNat (dflt TC.i64)
def r01_Ints_l0_f_3 (a0 : List Int) (a1 : List Int) (a2 : Int) : Bool := (r01_Ints_l0_f_k1 a0 a1 a2) && !(r01_Ints_l0_f_k0 a0 a1 a2)
def r01_Ints_l0_next (x : r01_Ints_l0_X) : r01_Ints_l0_X := (x.1, x.2.1, IntKind.i64.wrap (x.2.2 + (1 : Int)))
def r01_Ints_l0_goes (x : r01_Ints_l0_X) : Cnd := some (r01_Ints_l0_f_3 x.1 x.2.1 x.2.2)
def r01_Ints_l0_psA (x : r01_Ints_l0_X) : List Prop := [((r01_Ints_l0_f_k1 x.1 x.2.1 x.2.2) = true → (0 : Int) ≤ x.2.2 ∧ x.2.2 < (↑x.1.length : Int)), ((r01_Ints_l0_f_k1 x.1 x.2.1 x.2.2) = true → (0 : Int) ≤ x.2.2 ∧ x.2.2 < (↑x.2.1.length : Int))]
abbrev r01_Ints_l0_ps : r01_Ints_l0_X → List Prop := r01_Ints_l0_psA
def r01_Ints_l0_outs (x : r01_Ints_l0_X) : Outs := [(some 0, some (!decide (x.2.2 < (↑x.1.length : Int))), ⟨26, 0, [(4, .dead)], []⟩), (none, some ((r01_Ints_l0_f_k0 x.1 x.2.1 x.2.2)), ⟨26, 0, [(4, .v (.bool (false)))], []⟩)]
def r01_Ints_l0_fuel (x : r01_Ints_l0_X) : Nat := ((↑x.1.length : Int) - x.2.2).toNat
def r01_Ints_l0_run (x : r01_Ints_l0_X) : r01_Ints_l0_X := iterX r01_Ints_l0_next r01_Ints_l0_goes (r01_Ints_l0_fuel x) x
theorem r01_Ints_l0_ev (a0 : List Int) (a1 : List Int) (a2 : Int) : roundE (envT Csq_4 L0) 9 (loopAt Tryd.prog 6 0) r01_Ints_l0_S (r01_Ints_l0_T (a0, a1, a2)) = some (r01_Ints_l0_psA (a0, a1, a2), r01_Ints_l0_outs (a0, a1, a2), r01_Ints_l0_goes (a0, a1, a2), r01_Ints_l0_T (r01_Ints_l0_next (a0, a1, a2))) := by kernel_rfl
theorem r01_Ints_l0_hA (a0 : List Int) (a1 : List Int) (a2 : Int) (hp : ∀ p ∈ r01_Ints_l0_ps (a0, a1, a2), p) : ∀ p ∈ r01_Ints_l0_psA (a0, a1, a2), p := hp
noncomputable def r01_Ints_l0_row := rowL (envT Csq_4 L0) (loopAt Tryd.prog 6 0) r01_Ints_l0_S r01_Ints_l0_E r01_Ints_l0_un r01_Ints_l0_fuel r01_Ints_l0_next r01_Ints_l0_goes r01_Ints_l0_ps r01_Ints_l0_outs
theorem r01_Ints_l0_rok : ∀ s b ps outs, r01_Ints_l0_row s = some (b, ps, outs) → Wf s ⟨ps, outs, none⟩ ∧ LoopOk (envT C0 L0) b s ps outs :=
 rowP_ok (T := r01_Ints_l0_T) Csq_4_ok L0_ok (u := 9) (by kernel_rfl) (by decide) (fun ⟨a0, a1, a2⟩ => r01_Ints_l0_ev a0 a1 a2) (fun ⟨a0, a1, a2⟩ => r01_Ints_l0_hA a0 a1 a2) r01_Ints_l0_unok (fun _ => okOuts_ok (n := 26) rfl) fun _ _ => rfl
noncomputable def r01_Ints_l0_L := addLp 0 r01_Ints_l0_row L0
theorem r01_Ints_l0_Lok : LpOk r01_Ints_l0_L := addLp_ok r01_Ints_l0_rok L0_ok
def r01_Ints_k1 (a0 : List Int) (a1 : List Int) : r01_Ints_l0_X := r01_Ints_l0_run (a0, a1, (0 : Int))
def r01_Ints_k0 (a0 : List Int) (a1 : List Int) : Bool := (↑a0.length : Int) != (↑a1.length : Int)
def r01_Ints_0 (a0 : List Int) (a1 : List Int) : Bool := bif (r01_Ints_k0 a0 a1) then false else bif r01_Ints_l0_f_k0 (r01_Ints_k1 a0 a1).fst (r01_Ints_k1 a0 a1).snd.fst (r01_Ints_k1 a0 a1).snd.snd then false else true
def r01_Ints_r (a0 : List Int) (a1 : List Int) : A := .v (.bool (r01_Ints_0 a0 a1))
def r01_Ints_o (_a0 : List Int) (_a1 : List Int) : Objs := []
def r01_Ints_ps (a0 : List Int) (a1 : List Int) : List Prop := [((!(r01_Ints_k0 a0 a1)) = true → needX r01_Ints_l0_next r01_Ints_l0_goes r01_Ints_l0_ps (r01_Ints_l0_fuel (a0, a1, (0 : Int))) (a0, a1, (0 : Int)))]
theorem r01_Ints_ev (a0 : List Int) (a1 : List Int) : evF (envT Csq_4 r01_Ints_l0_L) 9 6 [valA .ints a0, valA .ints a1] 0 [] = some (1, r01_Ints_r a0 a1, 0, r01_Ints_o a0 a1, [((!(r01_Ints_k0 a0 a1)) = true → loopAt Tryd.prog (6 : FuncId) (0 : Nat) = loopAt Tryd.prog (6 : FuncId) (0 : Nat)), ((!(r01_Ints_k0 a0 a1)) = true → needX r01_Ints_l0_next r01_Ints_l0_goes r01_Ints_l0_ps (r01_Ints_l0_fuel (a0, a1, (0 : Int))) (a0, a1, (0 : Int)))]) := by kernel_rfl
theorem r01_Ints_c (a0 : List Int) (a1 : List Int) (hp : ∀ p ∈ r01_Ints_ps a0 a1, p) : CallOk Tryd.prog 6 [valA .ints a0, valA .ints a1] 0 [] 1 (r01_Ints_r a0 a1) 0 (r01_Ints_o a0 a1) := by
 have n0 : ((!(r01_Ints_k0 a0 a1)) = true → loopAt Tryd.prog (6 : FuncId) (0 : Nat) = loopAt Tryd.prog (6 : FuncId) (0 : Nat)) := by intros; rfl
 have n1 := N0 hp
 exact evF_ok (envP_ok Csq_4_ok r01_Ints_l0_Lok) (r01_Ints_ev a0 a1) (needs_cons n0 (needs_cons n1 needs_nil))
def r01_Ints_t : List A → Nat → Objs → Option CRes := rowK [.t .ints, .t .ints] 0 r01_Ints_r r01_Ints_o r01_Ints_ps
theorem r01_Ints_tok : TOk Tryd.prog 6 r01_Ints_t := rowK_ok (ks := [.t .ints, .t .ints]) r01_Ints_c
noncomputable def Csq_5 := addC 6 r01_Ints_t Csq_4
theorem Csq_5_ok : COk Tryd.prog Csq_5 := addC_ok r01_Ints_tok Csq_4_ok
noncomputable def Csq := Csq_5
theorem Csq_ok : COk Tryd.prog Csq := Csq_5_ok
end Go.Proofs.YtkknpeeccejppaaDoor
namespace Go.Proofs.YtkknpeeccejppaaDoor
open Go.RowKit
def be : Nat → Nat → List UInt8
 | 0, _ => []
 | k + 1, N => UInt8.ofNat (N / 256 ^ k) :: be k N
def val (acc : Nat) (l : List UInt8) : Nat := l.foldl (fun a y => a * 256 + y.toNat) acc
end Go.Proofs.YtkknpeeccejppaaDoor
namespace Go.Proofs.YtkknpeeccejppaaDoor
open Go.RowKit
noncomputable def Ca := C0
theorem Ca_ok : COk Tryd.prog Ca := C0_ok
end Go.Proofs.YtkknpeeccejppaaDoor
namespace Go.Proofs.YtkknpeeccejppaaDoor
open Go.RowKit
def stamp_known_k0 (a0 : Int) : Bool := !a0 == (1 : Int)
def stamp_known_0 (a0 : Int) : Bool := bif !((stamp_known_k0 a0) && !((stamp_known_k0 a0) && a0 == (2 : Int))) then true else false
def stamp_known_r (a0 : Int) : A := .v (.bool (stamp_known_0 a0))
def stamp_known_o (_a0 : Int) : Objs := []
def stamp_known_ps (_a0 : Int) : List Prop := []
theorem stamp_known_ev (a0 : Int) : evF (envT Ca L0) 9 50 [valA .i64 a0] 0 [] = some (1, stamp_known_r a0, 0, stamp_known_o a0, stamp_known_ps a0) := by kernel_rfl
theorem stamp_known_c (a0 : Int) (hp : ∀ p ∈ stamp_known_ps a0, p) : CallOk Tryd.prog 50 [valA .i64 a0] 0 [] 1 (stamp_known_r a0) 0 (stamp_known_o a0) := evF_ok (envP_ok Ca_ok L0_ok) (stamp_known_ev a0) hp
def stamp_known_t : List A → Nat → Objs → Option CRes := rowK [.t .i64] 0 stamp_known_r stamp_known_o stamp_known_ps
theorem stamp_known_tok : TOk Tryd.prog 50 stamp_known_t := rowK_ok (ks := [.t .i64]) stamp_known_c
noncomputable def Cb_1 := addC 50 stamp_known_t Ca
theorem Cb_1_ok : COk Tryd.prog Cb_1 := addC_ok stamp_known_tok Ca_ok
def stamp_Good_0 (a0 : TStamp) : Bool := bif a0.1 == (0 : Int) && a0.2 == (0 : Int) then true else decide (a0.1 > (0 : Int)) && decide (a0.1 ≤ (281474976710656 : Int)) && stamp_known_0 a0.2
def stamp_Good_r (a0 : TStamp) : A := .v (.bool (stamp_Good_0 a0))
def stamp_Good_o (_a0 : TStamp) : Objs := []
def stamp_Good_ps (_a0 : TStamp) : List Prop := []
theorem stamp_Good_ev (a0 : TStamp) : evF (envT Cb_1 L0) 9 45 [valA .stamp a0] 0 [] = some (1, stamp_Good_r a0, 0, stamp_Good_o a0, stamp_Good_ps a0) := by kernel_rfl
theorem stamp_Good_c (a0 : TStamp) (hp : ∀ p ∈ stamp_Good_ps a0, p) : CallOk Tryd.prog 45 [valA .stamp a0] 0 [] 1 (stamp_Good_r a0) 0 (stamp_Good_o a0) := evF_ok (envP_ok Cb_1_ok L0_ok) (stamp_Good_ev a0) hp
def stamp_Good_t : List A → Nat → Objs → Option CRes := rowK [.t .stamp] 0 stamp_Good_r stamp_Good_o stamp_Good_ps
theorem stamp_Good_tok : TOk Tryd.prog 45 stamp_Good_t := rowK_ok (ks := [.t .stamp]) stamp_Good_c
noncomputable def Cb_2 := addC 45 stamp_Good_t Cb_1
theorem Cb_2_ok : COk Tryd.prog Cb_2 := addC_ok stamp_Good_tok Cb_1_ok
def vec_Good_f1_0 (a0 : Int) (_a1 : Int) : Int := min (max a0 (0 : Int)) (1099511627776 : Int)
def vec_Good_f1_r (a0 : Int) (a1 : Int) : A := .v (.int .i64 (vec_Good_f1_0 a0 a1))
def vec_Good_f1_o (_a0 : Int) (_a1 : Int) : Objs := []
def vec_Good_f1_ps (_a0 : Int) (_a1 : Int) : List Prop := []
theorem vec_Good_f1_ev (a0 : Int) (a1 : Int) : evF (envT Cb_2 L0) 9 49 [valA .i64 a0, valA .i64 a1] 0 [] = some (1, vec_Good_f1_r a0 a1, 0, vec_Good_f1_o a0 a1, vec_Good_f1_ps a0 a1) := by kernel_rfl
theorem vec_Good_f1_c (a0 : Int) (a1 : Int) (hp : ∀ p ∈ vec_Good_f1_ps a0 a1, p) : CallOk Tryd.prog 49 [valA .i64 a0, valA .i64 a1] 0 [] 1 (vec_Good_f1_r a0 a1) 0 (vec_Good_f1_o a0 a1) := evF_ok (envP_ok Cb_2_ok L0_ok) (vec_Good_f1_ev a0 a1) hp
def vec_Good_f1_t : List A → Nat → Objs → Option CRes := rowK [.t .i64, .t .i64] 0 vec_Good_f1_r vec_Good_f1_o vec_Good_f1_ps
theorem vec_Good_f1_tok : TOk Tryd.prog 49 vec_Good_f1_t := rowK_ok (ks := [.t .i64, .t .i64]) vec_Good_f1_c
noncomputable def Cb_3 := addC 49 vec_Good_f1_t Cb_2
theorem Cb_3_ok : COk Tryd.prog Cb_3 := addC_ok vec_Good_f1_tok Cb_2_ok
noncomputable def Cb_4 := addC 48 (inl (envT Cb_3 L0) 4 48) Cb_3
theorem Cb_4_ok : COk Tryd.prog Cb_4 := addC_ok (inl_ok (envP_ok Cb_3_ok L0_ok) 4 48) Cb_3_ok
def vec_Good_0 (a0 : TVec) : Bool := vec_Good_f1_0 a0.1 (0 : Int) == a0.1 && vec_Good_f1_0 a0.2 (0 : Int) == a0.2
def vec_Good_r (a0 : TVec) : A := .v (.bool (vec_Good_0 a0))
def vec_Good_o (_a0 : TVec) : Objs := []
def vec_Good_ps (_a0 : TVec) : List Prop := []
theorem vec_Good_ev (a0 : TVec) : evF (envT Cb_4 L0) 9 43 [valA .vec a0] 0 [] = some (1, vec_Good_r a0, 0, vec_Good_o a0, [((0 : Int) ≤ (0 : Int) ∧ (0 : Int) < (2 : Int)), ((0 : Nat) < (2 : Nat)), ((0 : Int) ≤ (0 : Int) ∧ (0 : Int) < (2 : Int)), ((0 : Nat) < (2 : Nat)), ((0 : Int) ≤ (0 : Int) ∧ (0 : Int) < (2 : Int)), ((0 : Nat) < (2 : Nat)), ((0 : Int) ≤ (1 : Int) ∧ (1 : Int) < (2 : Int)), ((1 : Nat) < (2 : Nat)), ((0 : Int) ≤ (1 : Int) ∧ (1 : Int) < (2 : Int)), ((1 : Nat) < (2 : Nat)), ((0 : Int) ≤ (1 : Int) ∧ (1 : Int) < (2 : Int)), ((1 : Nat) < (2 : Nat))]) := by kernel_rfl
theorem vec_Good_c (a0 : TVec) (_hp : ∀ p ∈ vec_Good_ps a0, p) : CallOk Tryd.prog 43 [valA .vec a0] 0 [] 1 (vec_Good_r a0) 0 (vec_Good_o a0) := by
 have n0 : ((0 : Int) ≤ (0 : Int) ∧ (0 : Int) < (2 : Int)) := by first | rfl | decide +kernel
 have n1 : ((0 : Nat) < (2 : Nat)) := by first | rfl | decide +kernel
 have n6 : ((0 : Int) ≤ (1 : Int) ∧ (1 : Int) < (2 : Int)) := by first | rfl | decide +kernel
 have n7 : ((1 : Nat) < (2 : Nat)) := by first | rfl | decide +kernel
 exact evF_ok (envP_ok Cb_4_ok L0_ok) (vec_Good_ev a0) (needs_cons n0 (needs_cons n1 (needs_cons n0 (needs_cons n1 (needs_cons n0 (needs_cons n1 (needs_cons n6 (needs_cons n7 (needs_cons n6 (needs_cons n7 (needs_cons n6 (needs_cons n7 needs_nil))))))))))))
def vec_Good_t : List A → Nat → Objs → Option CRes := rowK [.t .vec] 0 vec_Good_r vec_Good_o vec_Good_ps
theorem vec_Good_tok : TOk Tryd.prog 43 vec_Good_t := rowK_ok (ks := [.t .vec]) vec_Good_c
noncomputable def Cb_5 := addC 43 vec_Good_t Cb_4
theorem Cb_5_ok : COk Tryd.prog Cb_5 := addC_ok vec_Good_tok Cb_4_ok
noncomputable def Cb := Cb_5
theorem Cb_ok : COk Tryd.prog Cb := Cb_5_ok
end Go.Proofs.YtkknpeeccejppaaDoor
namespace Go.Proofs.YtkknpeeccejppaaDoor
open Go.RowKit
def goodS (s : TStamp) : Bool := bif s.n == 0 && s.site == 0 then true else decide (1 ≤ s.n) && decide (s.n ≤ 281474976710656) && (s.site == 1 || s.site == 2)
def goodV (v : TVec) : Bool := decide (0 ≤ v.a) && decide (v.a ≤ 1099511627776) && (decide (0 ≤ v.b) && decide (v.b ≤ 1099511627776))
def zeroV (v : TVec) : Bool := v.a == 0 && v.b == 0
end Go.Proofs.YtkknpeeccejppaaDoor
namespace Go.Proofs.YtkknpeeccejppaaDoor
open Go.RowKit
theorem eqB_iff {x y : ByteArray} : (x.toList == y.toList) = true ↔ x = y := by
 rw [beq_iff_eq, ByteArray.toList_eq, ByteArray.toList_eq]
 constructor
 ·intro h
  cases x; cases y
  simpa using h
 ·rintro rfl; rfl
theorem noB_iff {x : ByteArray} : (x.toList == (ByteArray.mk #[]).toList) = true ↔ x.size = 0 := by
 rw [eqB_iff]
 constructor
 ·rintro rfl; rfl
 ·intro h
  cases x with | mk d =>
  have : d.size = 0 := h
  rw [Array.eq_empty_of_size_eq_zero this]
theorem noB_eq (x : ByteArray) : (x.toList == (ByteArray.mk #[]).toList) = (x.size == 0) := by
 rw [Bool.eq_iff_iff, noB_iff, beq_iff_eq]
def written (c : TCell) : Bool := !(c.stamp.n == 0 && c.stamp.site == 0 && (c.vec.a == 0 && c.vec.b == 0) && (!c.gone && c.value.size == 0))
def goodC (p : Int) (c : TCell) : Bool :=
 bif p == 1 && !zeroV c.dead || (p == 2 && (c.gone || !goodV c.dead) || !(p == 1 || p == 2)) then false else
 bif !written c then true else goodS c.stamp && decide (0 < c.stamp.n) && goodV c.vec && decide ((c.value.size : Int) ≤ 64) && !(c.gone && !(c.value.size == 0))
def zeroC : TCell := ⟨⟨0, 0⟩, ⟨0, 0⟩, false, ByteArray.mk #[], ⟨0, 0⟩⟩
end Go.Proofs.YtkknpeeccejppaaDoor
namespace Go.Proofs.YtkknpeeccejppaaDoor
open Go.RowKit
theorem stamp_known_eq (n : Int) : stamp_known_0 n = (n == 1 || n == 2) := by
 unfold stamp_known_0 stamp_known_k0
 cases n == 1 <;> cases n == 2 <;> rfl
theorem stamp_Good_eq (s : TStamp) : stamp_Good_0 s = goodS s := by
 unfold stamp_Good_0 goodS
 rw [stamp_known_eq]
 rfl
theorem vec_Good_f1_iff (x : Int) : (vec_Good_f1_0 x 0 == x) = (decide (0 ≤ x) && decide (x ≤ 1099511627776)) := by
 unfold vec_Good_f1_0
 rw [Bool.eq_iff_iff]
 simp only [beq_iff_eq, Bool.and_eq_true, decide_eq_true_eq]
 omega
theorem vec_Good_eq (v : TVec) : vec_Good_0 v = goodV v := by
 unfold vec_Good_0 goodV
 rw [vec_Good_f1_iff, vec_Good_f1_iff]
def cell_written_0 (a0 : TCell) : Bool := !(a0.1.1 == (0 : Int) && a0.1.2 == (0 : Int) && (a0.2.1 == (0 : Int) && a0.2.2 == (0 : Int) && (a0.3 == false && (a0.4.toList == (ByteArray.mk #[]).toList && true))))
def cell_written_r (a0 : TCell) : A := .v (.bool (cell_written_0 a0))
def cell_written_o (_a0 : TCell) : Objs := []
def cell_written_ps (_a0 : TCell) : List Prop := []
theorem cell_written_ev (a0 : TCell) : evF (envT Cb L0) 9 44 [valA .cell a0] 0 [] = some (1, cell_written_r a0, 0, cell_written_o a0, cell_written_ps a0) := by kernel_rfl
theorem cell_written_c (a0 : TCell) (hp : ∀ p ∈ cell_written_ps a0, p) : CallOk Tryd.prog 44 [valA .cell a0] 0 [] 1 (cell_written_r a0) 0 (cell_written_o a0) := evF_ok (envP_ok Cb_ok L0_ok) (cell_written_ev a0) hp
def cell_written_t : List A → Nat → Objs → Option CRes := rowK [.t .cell] 0 cell_written_r cell_written_o cell_written_ps
theorem cell_written_tok : TOk Tryd.prog 44 cell_written_t := rowK_ok (ks := [.t .cell]) cell_written_c
noncomputable def Cd_1 := addC 44 cell_written_t Cb
theorem Cd_1_ok : COk Tryd.prog Cd_1 := addC_ok cell_written_tok Cb_ok
def cell_Good_0 (a0 : Int) (a1 : TCell) : Bool := bif bif a0 == (1 : Int) then !(a1.5.1 == (0 : Int) && a1.5.2 == (0 : Int)) else !a0 == (2 : Int) || (a1.3 || !vec_Good_0 a1.5) then bif a0 == (1 : Int) then false else bif a0 == (2 : Int) then false else false else bif !cell_written_0 a1 then true else decide (a1.1.1 > (0 : Int)) && stamp_Good_0 a1.1 && vec_Good_0 a1.2 && decide ((↑a1.4.size : Int) ≤ (64 : Int)) && !(a1.3 && !a1.4.toList == (ByteArray.mk #[]).toList)
def cell_Good_r (a0 : Int) (a1 : TCell) : A := .v (.bool (cell_Good_0 a0 a1))
def cell_Good_o (_a0 : Int) (_a1 : TCell) : Objs := []
def cell_Good_ps (_a0 : Int) (_a1 : TCell) : List Prop := []
theorem cell_Good_ev (a0 : Int) (a1 : TCell) : evF (envT Cd_1 L0) 9 39 [valA .i64 a0, valA .cell a1] 0 [] = some (1, cell_Good_r a0 a1, 0, cell_Good_o a0 a1, cell_Good_ps a0 a1) := by kernel_rfl
theorem cell_Good_c (a0 : Int) (a1 : TCell) (hp : ∀ p ∈ cell_Good_ps a0 a1, p) : CallOk Tryd.prog 39 [valA .i64 a0, valA .cell a1] 0 [] 1 (cell_Good_r a0 a1) 0 (cell_Good_o a0 a1) := evF_ok (envP_ok Cd_1_ok L0_ok) (cell_Good_ev a0 a1) hp
def cell_Good_t : List A → Nat → Objs → Option CRes := rowK [.t .i64, .t .cell] 0 cell_Good_r cell_Good_o cell_Good_ps
theorem cell_Good_tok : TOk Tryd.prog 39 cell_Good_t := rowK_ok (ks := [.t .i64, .t .cell]) cell_Good_c
noncomputable def Cd_2 := addC 39 cell_Good_t Cd_1
theorem Cd_2_ok : COk Tryd.prog Cd_2 := addC_ok cell_Good_tok Cd_1_ok
theorem cell_written_eq (c : TCell) : cell_written_0 c = written c := by
 unfold cell_written_0 written
 have hg : (c.3 == false) = !c.gone := by show (c.gone == false) = !c.gone; cases c.gone <;> rfl
 rw [noB_eq, Bool.and_true, hg]
 simp only [Bool.and_assoc]
theorem cell_Good_eq (p : Int) (c : TCell) : cell_Good_0 p c = goodC p c := by
 unfold cell_Good_0 goodC zeroV
 rw [cell_written_eq, vec_Good_eq, vec_Good_eq, stamp_Good_eq, noB_eq]
 have hw : (bif !written c then true else decide (c.1.1 > (0 : Int)) && goodS c.1 && goodV c.2 && decide (((c.4.size : Nat) : Int) ≤ (64 : Int)) && !(c.3 && !c.4.size == 0)) = bif !written c then true else goodS c.stamp && decide (0 < c.stamp.n) && goodV c.vec && decide ((c.value.size : Int) ≤ 64) && !(c.gone && !(c.value.size == 0)) := by
  rw [Bool.and_comm (decide (c.1.1 > (0 : Int)))]
 rw [hw]
 generalize (bif !written c then true else goodS c.stamp && decide (0 < c.stamp.n) && goodV c.vec && decide ((c.value.size : Int) ≤ 64) && !(c.gone && !(c.value.size == 0))) = X
 by_cases h1 : p = 1
 ·subst h1
  show (bif !(c.5.1 == (0 : Int) && c.5.2 == (0 : Int)) then false else X) = bif !(c.5.1 == (0 : Int) && c.5.2 == (0 : Int)) || false then false else X
  rw [Bool.or_false]
 ·have e1 : (p == 1) = false := by simpa using h1
  rw [e1]
  by_cases h2 : p = 2
  ·subst h2
   show (bif c.3 || !goodV c.5 then false else X) = bif (c.3 || !goodV c.5) || false then false else X
   rw [Bool.or_false]
  ·have e2 : (p == 2) = false := by simpa using h2
   rw [e2]
   rfl
noncomputable def Cd := Cd_2
theorem Cd_ok : COk Tryd.prog Cd := Cd_2_ok
end Go.Proofs.YtkknpeeccejppaaDoor
namespace Go.Proofs.YtkknpeeccejppaaDoor
open Go.RowKit
noncomputable def Cf := Cd
theorem Cf_ok : COk Tryd.prog Cf := Cd_ok
end Go.Proofs.YtkknpeeccejppaaDoor
namespace Go.Proofs.YtkknpeeccejppaaDoor
open Go.RowKit
theorem scan_from {X : Type} (mk : Nat → X) (n : Nat) (stop : Nat → Bool) (next : X → X) (goes : X → Cnd) (ps : X → List Prop)
  (hg : ∀ i, i ≤ n → (∀ j, j < i → stop j = false) → cval (goes (mk i)) = (decide (i < n) && !stop i)) (hn : ∀ i, i < n → (∀ j, j < i + 1 → stop j = false) → next (mk i) = mk (i + 1)) (hp : ∀ i, i ≤ n → (∀ j, j < i → stop j = false) → ∀ p ∈ ps (mk i), p) :
  ∀ (f i : Nat), i ≤ n → n ≤ i + f → (∀ j, j < i → stop j = false) →
  needX next goes ps f (mk i) ∧ ∃ k, k ≤ n ∧ iterX next goes f (mk i) = mk k ∧ (∀ j, j < k → stop j = false) ∧ (k < n → stop k = true)
 | 0, i, hi, hf, hs => by
  have hc := hg i hi hs
  have : i = n := by omega
  rw [decide_eq_false (by omega), Bool.false_and] at hc
  exact ⟨⟨hp i hi hs, hc⟩, i, hi, rfl, hs, fun h => by omega⟩
 | f + 1, i, hi, hf, hs => by
  have hc := hg i hi hs
  cases hb : cval (goes (mk i)) with
  | false =>
   have e : iterX next goes (f + 1) (mk i) = mk i := by
    show (bif cval (goes (mk i)) then _ else mk i) = mk i
    rw [hb]; rfl
   rw [e]
   refine ⟨⟨hp i hi hs, fun h => by rw [hb] at h; cases h⟩, i, hi, rfl, hs, fun h => ?_⟩
   rw [hb, decide_eq_true h, Bool.true_and] at hc
   cases hst : stop i with
   | true => rfl
   | false => rw [hst] at hc; cases hc
  | true =>
   rw [hb] at hc
   have h1 : i < n := by
    cases hd : decide (i < n) with
    | true => exact of_decide_eq_true hd
    | false => rw [hd] at hc; cases hc
   have h2 : stop i = false := by
    cases hst : stop i with
    | false => rfl
    | true => rw [hst, Bool.and_comm] at hc; cases hc
   have hs' : ∀ j, j < i + 1 → stop j = false := fun j hj => by
    by_cases h : j < i
    ·exact hs j h
    ·obtain rfl : j = i := by omega
     exact h2
   have e : iterX next goes (f + 1) (mk i) = iterX next goes f (mk (i + 1)) := by
    show (bif cval (goes (mk i)) then iterX next goes f (next (mk i)) else mk i) = _
    rw [hb, hn i h1 hs']; rfl
   obtain ⟨g1, g2⟩ := scan_from mk n stop next goes ps hg hn hp f (i + 1) h1 (by omega) hs'
   rw [e]
   exact ⟨⟨hp i hi hs, fun _ => by rw [hn i h1 hs']; exact g1⟩, g2⟩
theorem scan {X : Type} (mk : Nat → X) (n : Nat) (stop : Nat → Bool) (next : X → X) (goes : X → Cnd) (ps : X → List Prop) (f : Nat) (x : X) (hx : x = mk 0) (hf : n ≤ f)
  (hg : ∀ i, i ≤ n → (∀ j, j < i → stop j = false) → cval (goes (mk i)) = (decide (i < n) && !stop i)) (hn : ∀ i, i < n → (∀ j, j < i + 1 → stop j = false) → next (mk i) = mk (i + 1)) (hp : ∀ i, i ≤ n → (∀ j, j < i → stop j = false) → ∀ p ∈ ps (mk i), p) :
  needX next goes ps f x ∧ ∃ k, k ≤ n ∧ iterX next goes f x = mk k ∧ (∀ j, j < k → stop j = false) ∧ (k < n → stop k = true) := by
 subst hx
 exact scan_from mk n stop next goes ps hg hn hp f 0 (Nat.zero_le _) (by omega) fun j h => absurd h (Nat.not_lt_zero _)
theorem wsucc {i : Nat} (h : i < 9223372036854775807) : IntKind.i64.wrap ((i : Int) + 1) = ((i + 1 : Nat) : Int) := by rw [i64_in (by omega)]; omega
theorem dlt {i n : Nat} : decide ((i : Int) < (n : Int)) = decide (i < n) := by
 by_cases h : i < n
 ·rw [decide_eq_true h, decide_eq_true (by omega)]
 ·rw [decide_eq_false h, decide_eq_false (by omega)]
theorem nn (b : Bool) : (!!b) = b := Bool.not_not b
theorem all_scan {α : Type} (l : List α) (d : α) (p : α → Bool) (k : Nat) (hk : k ≤ l.length) (h1 : ∀ j, j < k → p (l.getD j d) = true) (h2 : k < l.length → p (l.getD k d) = false) : l.all p = decide (¬ k < l.length) := by
 by_cases h : k < l.length
 ·rw [decide_eq_false (by omega)]
  have := h2 h
  rw [List.getD_eq_getElem?_getD, List.getElem?_eq_getElem h, Option.getD_some] at this
  cases ha : l.all p with
  | false => rfl
  | true => rw [List.all_eq_true.1 ha _ (List.getElem_mem h)] at this; cases this
 ·rw [decide_eq_true (by omega)]
  refine List.all_eq_true.2 fun x hx => ?_
  obtain ⟨i, hi, rfl⟩ := List.mem_iff_getElem.1 hx
  have := h1 i (by omega)
  rw [List.getD_eq_getElem?_getD, List.getElem?_eq_getElem hi, Option.getD_some] at this
  exact this
def wideN (n : Nat) : Prop := n ≤ 9223372036854775807
def allN (n : Nat) (p : Nat → Bool) : Bool := (List.range n).all p
theorem allN_iff {n : Nat} {p : Nat → Bool} : allN n p = true ↔ ∀ i, i < n → p i = true := by
 unfold allN
 rw [List.all_eq_true]
 exact ⟨fun h i hi => h i (List.mem_range.2 hi), fun h i hi => h i (List.mem_range.1 hi)⟩
theorem allN_congr {n : Nat} {p q : Nat → Bool} (h : ∀ i, i < n → p i = q i) : allN n p = allN n q := by
 rw [Bool.eq_iff_iff, allN_iff, allN_iff]
 exact ⟨fun g i hi => (h i hi) ▸ g i hi, fun g i hi => (h i hi).symm ▸ g i hi⟩
theorem scanB {X : Type} (mk : Nat → X) (n : Nat) (bad : Nat → Bool) (next : X → X) (goes : X → Cnd) (ps : X → List Prop) (f : Nat) (x : X) (hx : x = mk 0) (hf : n ≤ f)
  (hg : ∀ i, i ≤ n → (∀ j, j < i → bad j = false) → cval (goes (mk i)) = (decide (i < n) && !bad i)) (hn : ∀ i, i < n → (∀ j, j < i + 1 → bad j = false) → next (mk i) = mk (i + 1)) (hp : ∀ i, i ≤ n → (∀ j, j < i → bad j = false) → ∀ p ∈ ps (mk i), p) :
  needX next goes ps f x ∧ ∃ k, k ≤ n ∧ iterX next goes f x = mk k ∧ (∀ j, j < k → bad j = false) ∧ (k < n → bad k = true) ∧ (decide (k < n) && bad k) = !allN n (fun i => !bad i) := by
 obtain ⟨h1, k, hk, h2, h3, h4⟩ := scan mk n bad next goes ps f x hx hf hg hn hp
 refine ⟨h1, k, hk, h2, h3, h4, ?_⟩
 by_cases h : k < n
 ·rw [decide_eq_true h, h4 h]
  cases ha : allN n (fun i => !bad i) with
  | false => rfl
  | true => have := allN_iff.1 ha k h; rw [h4 h] at this; cases this
 ·rw [decide_eq_false h, allN_iff.2 (fun i hi => by rw [h3 i (by omega)]; rfl)]
  rfl
theorem all_N {α : Type} (l : List α) (d : α) (p : α → Bool) : l.all p = allN l.length (fun i => p (l.getD i d)) := by
 rw [Bool.eq_iff_iff, List.all_eq_true, allN_iff]
 constructor
 ·intro h i hi
  rw [List.getD_eq_getElem?_getD, List.getElem?_eq_getElem hi, Option.getD_some]
  exact h _ (List.getElem_mem hi)
 ·intro h x hx
  obtain ⟨i, hi, rfl⟩ := List.mem_iff_getElem.1 hx
  have := h i hi
  rw [List.getD_eq_getElem?_getD, List.getElem?_eq_getElem hi, Option.getD_some] at this
  exact this
theorem beq0 (n : Nat) : (n == 0) = !decide (1 ≤ n) := by cases n <;> simp
theorem beq0i (n : Nat) : ((n : Int) == 0) = (n == 0) := by cases n <;> simp; omega
theorem dgt (n k : Nat) : decide ((n : Int) > (k : Int)) = decide (k < n) := decide_eq_decide.2 (by omega)
instance : LawfulBEq ByteArray where
 rfl := fun {a} => by cases a with | mk a => exact beq_self_eq_true a
 eq_of_beq := fun {a b} h => by
  cases a with | mk a => cases b with | mk b => exact congrArg ByteArray.mk (eq_of_beq (α := Array UInt8) h)
theorem find_upd : ∀ (m : List (ByteArray × Int)) (b : ByteArray) (v : Int) (x : ByteArray), findM (updM m b v) x = if x = b then v else findM m x
 | [], b, v, x => by
  by_cases h : x = b
  ·subst h; simp [updM, findM]
  ·simp [updM, findM, h, show (x == b) = false from beq_eq_false_iff_ne.2 h]
 | (a, n) :: r, b, v, x => by
  unfold updM
  by_cases h : b = a
  ·subst h
   rw [show (b == b) = true from beq_self_eq_true b, cond_true]
   by_cases hx : x = b
   ·subst hx; simp [findM]
   ·simp [findM, hx, show (x == b) = false from beq_eq_false_iff_ne.2 hx]
  ·rw [show (b == a) = false from beq_eq_false_iff_ne.2 h, cond_false]
   by_cases hx : x = a
   ·subst hx
    rw [if_neg (fun e => h e.symm)]
    simp [findM]
   ·simp only [findM, show (x == a) = false from beq_eq_false_iff_ne.2 hx, cond_false]
    exact find_upd r b v x
def lowB (b : UInt8) : Bool := decide (97 ≤ b.toNat) && decide (b.toNat ≤ 122)
def nameB (s : ByteArray) : Bool := s.data.toList.all lowB && (decide (1 ≤ s.size) && decide (s.size ≤ 12))
def polB (p : Int) : Bool := p == 1 || p == 2
def goodPs : List ByteArray → List TGroup → Int
 | _, [] => 0
 | seen, g :: r => bif !(nameB g.name && polB g.policy) then 2 else bif seen.any (fun s => s == g.name) then 70 else goodPs (seen ++ [g.name]) r
def goodP (l : List TGroup) : Int := bif l.length == 0 then 2 else bif decide (4 < l.length) then 3 else goodPs [] l
theorem size_data (s : ByteArray) : s.data.toList.length = s.size := by show s.data.toList.length = s.data.size; exact Array.length_toList
theorem get_data (s : ByteArray) (i : Nat) (h : i < s.size) : s.data.toList.getD i 0 = s[i]'h := by
 rw [List.getD_eq_getElem?_getD, List.getElem?_eq_getElem (by rw [size_data]; exact h)]
 rfl
theorem rune_low (s : ByteArray) (i : Nat) (h : i < s.size) : (decide (((Utf8.decode s i).1 : Int) < 97) || decide (((Utf8.decode s i).1 : Int) > 122)) = !lowB (s.data.toList.getD i 0) ∧ (lowB (s.data.toList.getD i 0) = true → (Utf8.decode s i).2 = 1) := by
 rw [get_data s i h]
 by_cases hb : (s[i]'h).toNat < 128
 ·rw [decode_ascii s i h hb]
  refine ⟨?_, fun _ => rfl⟩
  unfold lowB
  rw [Bool.not_and, ← decide_not, ← decide_not]
  congr 1 <;> exact decide_eq_decide.2 (by omega)
 ·have h2 := (decode_high s i h (by omega)).1
  have hl : lowB (s[i]'h) = false := by unfold lowB; rw [decide_eq_false (p := (s[i]'h).toNat ≤ 122) (by omega), Bool.and_false]
  rw [hl]
  refine ⟨?_, fun h => by cases h⟩
  rw [decide_eq_true (p := ((Utf8.decode s i).1 : Int) > 122) (by omega), Bool.or_true]
  rfl
theorem goodP_0 {l : List TGroup} (h : goodP l = 0) : 1 ≤ l.length ∧ l.length ≤ 4 := by
 unfold goodP at h
 cases h1 : l.length == 0 with
 | true => rw [h1] at h; cases h
 | false =>
  rw [h1] at h
  cases h2 : decide (4 < l.length) with
  | true => rw [h2] at h; cases h
  | false =>
   have := of_decide_eq_false h2
   have h3 : l.length ≠ 0 := by simpa using h1
   omega
theorem goodPs_at (l : List TGroup) (k : Nat) (seen : List ByteArray) : (∀ j, j < k → j < l.length → (nameB (l.getD j (dflt TC.group)).name && polB (l.getD j (dflt TC.group)).policy) = true ∧ (seen ++ (l.take j).map (·.name)).any (fun s => s == (l.getD j (dflt TC.group)).name) = false) →
  goodPs seen l = goodPs (seen ++ (l.take k).map (·.name)) (l.drop k) := by
 induction l generalizing k seen with
 | nil => intro _; simp [goodPs]
 | cons g r ih =>
  intro h
  cases k with
  | zero => simp
  | succ k =>
   obtain ⟨h1, h2⟩ := h 0 (Nat.succ_pos _) (Nat.succ_pos _)
   have h1' : (nameB g.name && polB g.policy) = true := h1
   have h2' : seen.any (fun s => s == g.name) = false := by simpa using h2
   rw [goodPs, h1', h2', Bool.not_true, cond_false, cond_false]
   rw [ih k (seen ++ [g.name]) (fun j hj hl => by
    have := h (j + 1) (by omega) (by simpa using hl)
    simpa [List.append_assoc] using this)]
   simp [List.append_assoc]
def mapAt (l : List TGroup) : Nat → List (ByteArray × Int)
 | 0 => []
 | i + 1 => updM (mapAt l i) (l.getD i (dflt TC.group)).1 (IntKind.i64.wrap (findM (mapAt l i) (l.getD i (dflt TC.group)).1 + 1))
def stopG (l : List TGroup) (i : Nat) : Bool := !(nameB (l.getD i (dflt TC.group)).1 && polB (l.getD i (dflt TC.group)).2) || ((l.take i).map (·.name)).any (fun s => s == (l.getD i (dflt TC.group)).1)
theorem take_names (l : List TGroup) (i : Nat) (h : i < l.length) : (l.take (i + 1)).map (·.name) = (l.take i).map (·.name) ++ [(l.getD i (dflt TC.group)).1] := by
 rw [List.take_add_one, List.getD_eq_getElem?_getD, List.getElem?_eq_getElem h, List.map_append]
 rfl
theorem find_mapAt (l : List TGroup) : ∀ (i : Nat), i ≤ l.length → (∀ j, j < i → stopG l j = false) → ∀ x, findM (mapAt l i) x = bif ((l.take i).map (·.name)).any (fun s => s == x) then 1 else 0
 | 0, _, _, x => by simp [mapAt, findM]
 | i + 1, hi, hs, x => by
  have ih := find_mapAt l i (by omega) (fun j hj => hs j (by omega))
  have h := hs i (Nat.lt_succ_self i)
  unfold stopG at h
  have h2 := (Bool.or_eq_false_iff.1 h).2
  unfold mapAt
  rw [find_upd, ih, h2, take_names l i (by omega), List.any_append, ih]
  by_cases hx : x = (l.getD i (dflt TC.group)).1
  ·subst hx
   rw [if_pos rfl]
   simp
   decide
  ·rw [if_neg hx]
   have : ([(l.getD i (dflt TC.group)).1].any fun s => s == x) = false := by
    simp only [List.any_cons, List.any_nil, Bool.or_false]
    exact beq_eq_false_iff_ne.2 fun e => hx e.symm
   rw [this, Bool.or_false]
end Go.Proofs.YtkknpeeccejppaaDoor
namespace Go.Proofs.YtkknpeeccejppaaDoor
open Go.RowKit
abbrev policy_named_l0_X : Type := ByteArray × Nat
def policy_named_l0_T (x : policy_named_l0_X) : St := ⟨36, 2, [(26, .own 1 0)], [(1, some (.sit x.1 x.2))]⟩
def policy_named_l0_un : St → Option policy_named_l0_X
 | ⟨36, 2, [(26, .own 1 0)], [(1, some (.sit z0 z1))]⟩ => some (z0, z1)
 | _ => none
theorem policy_named_l0_unok : ∀ s x, policy_named_l0_un s = some x → s = policy_named_l0_T x := fun s x h => by
 unfold policy_named_l0_un at h
 split at h
 ·cases h; rfl
 ·cases h
def policy_named_l0_S : Shape := ⟨2, 2, [26], [], [(1, 1)], [1], [2], [1]⟩
def policy_named_l0_E : Entry := ⟨[], [(1, 1)], [26], [1]⟩
def policy_named_l0_f_k1 (a0 : ByteArray) (a1 : Nat) : Bool := !!decide (a1 < a0.size)
def policy_named_l0_f_k0 (a0 : ByteArray) (a1 : Nat) : Bool := (policy_named_l0_f_k1 a0 a1) && (decide ((↑(Utf8.decode a0 a1).fst : Int) < (97 : Int)) || decide ((↑(Utf8.decode a0 a1).fst : Int) > (122 : Int)))
def policy_named_l0_f_1 (a0 : ByteArray) (a1 : Nat) : Nat := bif decide (a1 < a0.size) then a1 + (Utf8.decode a0 a1).snd else a1
def policy_named_l0_f_2 (a0 : ByteArray) (a1 : Nat) : Bool := (policy_named_l0_f_k1 a0 a1) && !(policy_named_l0_f_k0 a0 a1)
def policy_named_l0_f_6 (a0 : ByteArray) (a1 : Nat) : Nat := bif decide (a1 < a0.size) then a1 + (Utf8.decode a0 a1).snd else a1
def policy_named_l0_f_9 (a0 : ByteArray) (a1 : Nat) : Nat := bif decide (a1 < a0.size) then a1 + (Utf8.decode a0 a1).snd else a1
def policy_named_l0_next (x : policy_named_l0_X) : policy_named_l0_X := (x.1, policy_named_l0_f_1 x.1 x.2)
def policy_named_l0_goes (x : policy_named_l0_X) : Cnd := some (policy_named_l0_f_2 x.1 x.2)
def policy_named_l0_psA (x : policy_named_l0_X) : List Prop := [((policy_named_l0_f_k1 x.1 x.2) = true → decide (x.2 < x.1.size) = true)]
def policy_named_l0_ps (_x : policy_named_l0_X) : List Prop := []
def policy_named_l0_outs (x : policy_named_l0_X) : Outs := [(some 0, some (!decide (x.2 < x.1.size)), ⟨36, 2, [(2, .dead)], [(1, some (.sit x.1 (policy_named_l0_f_6 x.1 x.2)))]⟩), (none, some ((policy_named_l0_f_k0 x.1 x.2)), ⟨36, 2, [(2, .v (.bool (false)))], [(1, some (.sit x.1 (policy_named_l0_f_9 x.1 x.2)))]⟩)]
def policy_named_l0_fuel (x : policy_named_l0_X) : Nat := x.1.size - x.2
def policy_named_l0_run (x : policy_named_l0_X) : policy_named_l0_X := iterX policy_named_l0_next policy_named_l0_goes (policy_named_l0_fuel x) x
theorem policy_named_l0_ev (a0 : ByteArray) (a1 : Nat) : roundE (envT Cf L0) 9 (loopAt Tryd.prog 37 0) policy_named_l0_S (policy_named_l0_T (a0, a1)) = some (policy_named_l0_psA (a0, a1), policy_named_l0_outs (a0, a1), policy_named_l0_goes (a0, a1), policy_named_l0_T (policy_named_l0_next (a0, a1))) := by kernel_rfl
theorem policy_named_l0_hA (a0 : ByteArray) (a1 : Nat) (_hp : ∀ p ∈ policy_named_l0_ps (a0, a1), p) : ∀ p ∈ policy_named_l0_psA (a0, a1), p := by
 have n0 : ((policy_named_l0_f_k1 a0 a1) = true → decide (a1 < a0.size) = true) := by intro h; exact (Bool.not_not _).symm.trans h
 exact (needs_cons n0 needs_nil)
noncomputable def policy_named_l0_row := rowL (envT Cf L0) (loopAt Tryd.prog 37 0) policy_named_l0_S policy_named_l0_E policy_named_l0_un policy_named_l0_fuel policy_named_l0_next policy_named_l0_goes policy_named_l0_ps policy_named_l0_outs
theorem policy_named_l0_rok : ∀ s b ps outs, policy_named_l0_row s = some (b, ps, outs) → Wf s ⟨ps, outs, none⟩ ∧ LoopOk (envT C0 L0) b s ps outs :=
 rowP_ok (T := policy_named_l0_T) Cf_ok L0_ok (u := 9) (by kernel_rfl) (by decide) (fun ⟨a0, a1⟩ => policy_named_l0_ev a0 a1) (fun ⟨a0, a1⟩ => policy_named_l0_hA a0 a1) policy_named_l0_unok (fun _ => okOuts_ok (n := 36) rfl) fun _ _ => rfl
noncomputable def policy_named_l0_L := addLp 0 policy_named_l0_row L0
theorem policy_named_l0_Lok : LpOk policy_named_l0_L := addLp_ok policy_named_l0_rok L0_ok
def policy_named_k0 (a0 : TGroup) : Bool := a0.1.toList == (ByteArray.mk #[]).toList || decide ((↑a0.1.size : Int) > (12 : Int)) || a0.2 != (1 : Int) && a0.2 != (2 : Int)
def policy_named_0 (a0 : TGroup) : Bool := bif (policy_named_k0 a0) then false else bif policy_named_l0_f_k0 (policy_named_l0_run (a0.1, (0 : Nat))).fst (policy_named_l0_run (a0.1, (0 : Nat))).snd then false else true
def policy_named_r (a0 : TGroup) : A := .v (.bool (policy_named_0 a0))
def policy_named_o (_a0 : TGroup) : Objs := []
def policy_named_ps (a0 : TGroup) : List Prop := [((!(policy_named_k0 a0)) = true → needX policy_named_l0_next policy_named_l0_goes policy_named_l0_ps (policy_named_l0_fuel (a0.1, (0 : Nat))) (a0.1, (0 : Nat)))]
theorem policy_named_ev (a0 : TGroup) : evF (envT Cf policy_named_l0_L) 9 37 [valA .group a0] 0 [] = some (1, policy_named_r a0, 0, policy_named_o a0, [((!(policy_named_k0 a0)) = true → loopAt Tryd.prog (37 : FuncId) (0 : Nat) = loopAt Tryd.prog (37 : FuncId) (0 : Nat)), ((!(policy_named_k0 a0)) = true → needX policy_named_l0_next policy_named_l0_goes policy_named_l0_ps (policy_named_l0_fuel (a0.1, (0 : Nat))) (a0.1, (0 : Nat)))]) := by kernel_rfl
theorem policy_named_c (a0 : TGroup) (hp : ∀ p ∈ policy_named_ps a0, p) : CallOk Tryd.prog 37 [valA .group a0] 0 [] 1 (policy_named_r a0) 0 (policy_named_o a0) := by
 have n0 : ((!(policy_named_k0 a0)) = true → loopAt Tryd.prog (37 : FuncId) (0 : Nat) = loopAt Tryd.prog (37 : FuncId) (0 : Nat)) := by intros; rfl
 have n1 := N0 hp
 exact evF_ok (envP_ok Cf_ok policy_named_l0_Lok) (policy_named_ev a0) (needs_cons n0 (needs_cons n1 needs_nil))
def policy_named_r2 (a0 : TGroup) : A := .v (.bool (nameB a0.name && polB a0.policy))
def policy_named_o2 (_a0 : TGroup) : Objs := []
def policy_named_ps2 (_a0 : TGroup) : List Prop := []
theorem policy_named_eq (g : TGroup) : (∀ p ∈ policy_named_ps g, p) ∧ policy_named_0 g = (nameB g.name && polB g.policy) := by
 have hk0 : ∀ i, policy_named_l0_f_k0 g.1 i = (decide (i < g.1.size) && !lowB (g.1.data.toList.getD i 0)) := fun i => by
  unfold policy_named_l0_f_k0 policy_named_l0_f_k1
  rw [nn]
  by_cases h : i < g.1.size
  ·rw [decide_eq_true h, Bool.true_and, Bool.true_and]; exact (rune_low g.1 i h).1
  ·rw [decide_eq_false h]; rfl
 obtain ⟨h1, k, hk, hx, hs, hst⟩ := scan (fun i => ((g.1, i) : ByteArray × Nat)) g.1.size (fun i => !lowB (g.1.data.toList.getD i 0)) policy_named_l0_next policy_named_l0_goes policy_named_l0_ps (policy_named_l0_fuel (g.1, 0)) (g.1, 0) rfl (Nat.le_refl _)
  (fun i _ _ => by
   show ((!!decide (i < g.1.size)) && !policy_named_l0_f_k0 g.1 i) = _
   rw [hk0, nn]
   cases decide (i < g.1.size) <;> rfl)
  (fun i hi hj => by
   show (g.1, (bif decide (i < g.1.size) then i + (Utf8.decode g.1 i).snd else i)) = (g.1, i + 1)
   have h2 := hj i (Nat.lt_succ_self i)
   rw [decide_eq_true hi, cond_true, (rune_low g.1 i hi).2 (by simpa using h2)])
  (fun _ _ _ => needs_nil)
 refine ⟨needs_cons (fun _ => h1) needs_nil, ?_⟩
 have hr : policy_named_l0_run (g.1, 0) = (g.1, k) := hx
 have ha : g.1.data.toList.all lowB = decide (¬ k < g.1.size) := by
  have := all_scan g.1.data.toList 0 lowB k (by rw [size_data]; exact hk) (fun j hj => by simpa using hs j hj) (fun h => by rw [size_data] at h; simpa using hst h)
  rw [size_data] at this
  exact this
 unfold policy_named_0
 rw [hr]
 show (bif policy_named_k0 g then false else bif policy_named_l0_f_k0 g.1 k then false else true) = _
 rw [hk0]
 unfold policy_named_k0 nameB polB
 rw [noB_eq]
 show _ = (g.1.data.toList.all lowB && (decide (1 ≤ g.1.size) && decide (g.1.size ≤ 12)) && (g.2 == 1 || g.2 == 2))
 rw [ha]
 have e1 : (g.1.size == 0) = !decide (1 ≤ g.1.size) := beq0 _
 have e2 : decide ((g.1.size : Int) > 12) = !decide (g.1.size ≤ 12) := by
  rw [← decide_not]; exact decide_eq_decide.2 (by generalize g.1.size = m; omega)
 have e3 : (g.2 != 1 && g.2 != 2) = !(g.2 == 1 || g.2 == 2) := by simp [bne]
 rw [e1, e2, e3]
 by_cases h : k < g.1.size
 ·have := hst h
  rw [this, decide_eq_true h, decide_eq_false (not_not_intro h)]
  simp
 ·rw [decide_eq_false h, decide_eq_true h]
  cases decide (1 ≤ g.1.size) <;> cases decide (g.1.size ≤ 12) <;> cases (g.2 == 1 || g.2 == 2) <;> rfl
theorem policy_named_c2 (a0 : TGroup) (_hp : ∀ p ∈ policy_named_ps2 a0, p) : CallOk Tryd.prog 37 [valA .group a0] 0 [] 1 (policy_named_r2 a0) 0 (policy_named_o2 a0) := by
 have h := policy_named_c a0 (policy_named_eq a0).1
 unfold policy_named_r at h
 rw [(policy_named_eq a0).2] at h
 exact h
def policy_named_t : List A → Nat → Objs → Option CRes := rowK [.t .group] 0 policy_named_r2 policy_named_o2 policy_named_ps2
theorem policy_named_tok : TOk Tryd.prog 37 policy_named_t := rowK_ok (ks := [.t .group]) policy_named_c2
noncomputable def Ch_1 := addC 37 policy_named_t Cf
theorem Ch_1_ok : COk Tryd.prog Ch_1 := addC_ok policy_named_tok Cf_ok
abbrev policy_Good_l1_X : Type := (List TGroup) × Int × Int × (List (U .str × U .i64))
def policy_Good_l1_T (x : policy_Good_l1_X) : St := ⟨35, 1, [(3, .mp 0), (15, .sl .group x.1), (16, .v (.int .i64 x.2.1)), (17, .v (.int .i64 x.2.2.1))], [(0, some (.map .str .i64 x.2.2.2))]⟩
def policy_Good_l1_un : St → Option policy_Good_l1_X
 | ⟨35, 1, [(3, .mp 0), (15, .sl .group z0), (16, .v (.int .i64 z1)), (17, .v (.int .i64 z2))], [(0, some (.map .str .i64 z3))]⟩ => some (z0, z1, z2, z3)
 | _ => none
theorem policy_Good_l1_unok : ∀ s x, policy_Good_l1_un s = some x → s = policy_Good_l1_T x := fun s x h => by
 unfold policy_Good_l1_un at h
 split at h
 ·cases h; rfl
 ·cases h
def policy_Good_l1_S : Shape := ⟨1, 1, [3, 15, 16, 17], [], [(0, 0)], [0], [2], [0]⟩
def policy_Good_l1_E : Entry := ⟨[], [(0, 0)], [3, 15, 16, 17], [0]⟩
def policy_Good_l1_f_k1 (a0 : List TGroup) (_a1 : Int) (a2 : Int) (a3 : List (U .str × U .i64)) : List (ByteArray × Int) := updM a3 (a0.getD a2.toNat (dflt TC.group)).1 (IntKind.i64.wrap (findM a3 (a0.getD a2.toNat (dflt TC.group)).1 + (1 : Int)))
def policy_Good_l1_f_k0 (a0 : List TGroup) (a1 : Int) (a2 : Int) (a3 : List (U .str × U .i64)) : Bool := !!decide (a2 < a1) && (!(nameB (a0.getD a2.toNat (dflt TC.group)).1 && polB (a0.getD a2.toNat (dflt TC.group)).2) || decide (findM (policy_Good_l1_f_k1 a0 a1 a2 a3) (a0.getD a2.toNat (dflt TC.group)).1 > (1 : Int)))
def policy_Good_l1_f_3 (a0 : List TGroup) (a1 : Int) (a2 : Int) (a3 : List (U .str × U .i64)) : List (U .str × U .i64) := (policy_Good_l1_f_k1 a0 a1 a2 a3)
def policy_Good_l1_f_4 (a0 : List TGroup) (a1 : Int) (a2 : Int) (a3 : List (U .str × U .i64)) : Bool := !!decide (a2 < a1) && !(policy_Good_l1_f_k0 a0 a1 a2 a3)
def policy_Good_l1_f_9 (a0 : List TGroup) (_a1 : Int) (a2 : Int) (_a3 : List (U .str × U .i64)) : Int := bif !(nameB (a0.getD a2.toNat (dflt TC.group)).1 && polB (a0.getD a2.toNat (dflt TC.group)).2) then (2 : Int) else (70 : Int)
def policy_Good_l1_f_10 (a0 : List TGroup) (a1 : Int) (a2 : Int) (a3 : List (U .str × U .i64)) : List (U .str × U .i64) := bif !(nameB (a0.getD a2.toNat (dflt TC.group)).1 && polB (a0.getD a2.toNat (dflt TC.group)).2) then a3 else (policy_Good_l1_f_k1 a0 a1 a2 a3)
def policy_Good_l1_next (x : policy_Good_l1_X) : policy_Good_l1_X := (x.1, x.2.1, IntKind.i64.wrap (x.2.2.1 + (1 : Int)), policy_Good_l1_f_3 x.1 x.2.1 x.2.2.1 x.2.2.2)
def policy_Good_l1_goes (x : policy_Good_l1_X) : Cnd := some (policy_Good_l1_f_4 x.1 x.2.1 x.2.2.1 x.2.2.2)
def policy_Good_l1_psA (x : policy_Good_l1_X) : List Prop := [((!!decide (x.2.2.1 < x.2.1)) = true → (0 : Int) ≤ x.2.2.1 ∧ x.2.2.1 < (↑x.1.length : Int))]
abbrev policy_Good_l1_ps : policy_Good_l1_X → List Prop := policy_Good_l1_psA
def policy_Good_l1_outs (x : policy_Good_l1_X) : Outs := [(some 1, some (!decide (x.2.2.1 < x.2.1)), ⟨35, 1, [(2, .dead)], [(0, some (.map .str .i64 x.2.2.2))]⟩), (none, some ((policy_Good_l1_f_k0 x.1 x.2.1 x.2.2.1 x.2.2.2)), ⟨35, 2, [(2, .v (.int .i64 (policy_Good_l1_f_9 x.1 x.2.1 x.2.2.1 x.2.2.2)))], [(0, some (.map .str .i64 (policy_Good_l1_f_10 x.1 x.2.1 x.2.2.1 x.2.2.2)))]⟩)]
def policy_Good_l1_fuel (x : policy_Good_l1_X) : Nat := (x.2.1 - x.2.2.1).toNat
def policy_Good_l1_run (x : policy_Good_l1_X) : policy_Good_l1_X := iterX policy_Good_l1_next policy_Good_l1_goes (policy_Good_l1_fuel x) x
theorem policy_Good_l1_ev (a0 : List TGroup) (a1 : Int) (a2 : Int) (a3 : List (U .str × U .i64)) : roundE (envT Ch_1 L0) 9 (loopAt Tryd.prog 27 1) policy_Good_l1_S (policy_Good_l1_T (a0, a1, a2, a3)) = some (policy_Good_l1_psA (a0, a1, a2, a3), policy_Good_l1_outs (a0, a1, a2, a3), policy_Good_l1_goes (a0, a1, a2, a3), policy_Good_l1_T (policy_Good_l1_next (a0, a1, a2, a3))) := by kernel_rfl
theorem policy_Good_l1_hA (a0 : List TGroup) (a1 : Int) (a2 : Int) (a3 : List (U .str × U .i64)) (hp : ∀ p ∈ policy_Good_l1_ps (a0, a1, a2, a3), p) : ∀ p ∈ policy_Good_l1_psA (a0, a1, a2, a3), p := hp
noncomputable def policy_Good_l1_row := rowL (envT Ch_1 L0) (loopAt Tryd.prog 27 1) policy_Good_l1_S policy_Good_l1_E policy_Good_l1_un policy_Good_l1_fuel policy_Good_l1_next policy_Good_l1_goes policy_Good_l1_ps policy_Good_l1_outs
theorem policy_Good_l1_rok : ∀ s b ps outs, policy_Good_l1_row s = some (b, ps, outs) → Wf s ⟨ps, outs, none⟩ ∧ LoopOk (envT C0 L0) b s ps outs :=
 rowP_ok (T := policy_Good_l1_T) Ch_1_ok L0_ok (u := 9) (by kernel_rfl) (by decide) (fun ⟨a0, a1, a2, a3⟩ => policy_Good_l1_ev a0 a1 a2 a3) (fun ⟨a0, a1, a2, a3⟩ => policy_Good_l1_hA a0 a1 a2 a3) policy_Good_l1_unok (fun _ => okOuts_ok (n := 35) rfl) fun _ _ => rfl
noncomputable def policy_Good_l1_L := addLp 1 policy_Good_l1_row L0
theorem policy_Good_l1_Lok : LpOk policy_Good_l1_L := addLp_ok policy_Good_l1_rok L0_ok
def policy_Good_k4 (a0 : List TGroup) : Bool := (↑a0.length : Int) == (0 : Int) || decide ((↑a0.length : Int) > (4 : Int))
def policy_Good_k3 (a0 : List TGroup) : List TGroup := (policy_Good_l1_run (a0, (↑a0.length : Int), (0 : Int), [])).fst
def policy_Good_k2 (a0 : List TGroup) : Int := (policy_Good_l1_run (a0, (↑a0.length : Int), (0 : Int), [])).snd.fst
def policy_Good_k1 (a0 : List TGroup) : List (U TC.str × U TC.i64) := (policy_Good_l1_run (a0, (↑a0.length : Int), (0 : Int), [])).snd.snd.snd
def policy_Good_k0 (a0 : List TGroup) : Int := (policy_Good_l1_run (a0, (↑a0.length : Int), (0 : Int), [])).snd.snd.fst
def policy_Good_0 (a0 : List TGroup) : Int := bif (policy_Good_k4 a0) then bif (↑a0.length : Int) == (0 : Int) then (2 : Int) else (3 : Int) else bif policy_Good_l1_f_k0 (policy_Good_k3 a0) (policy_Good_k2 a0) (policy_Good_k0 a0) (policy_Good_k1 a0) then policy_Good_l1_f_9 (policy_Good_k3 a0) (policy_Good_k2 a0) (policy_Good_k0 a0) (policy_Good_k1 a0) else (0 : Int)
def policy_Good_r (a0 : List TGroup) : A := .v (.int .i64 (policy_Good_0 a0))
def policy_Good_o (_a0 : List TGroup) : Objs := []
def policy_Good_ps (a0 : List TGroup) : List Prop := [((!(policy_Good_k4 a0)) = true → needX policy_Good_l1_next policy_Good_l1_goes policy_Good_l1_ps (policy_Good_l1_fuel (a0, (↑a0.length : Int), (0 : Int), [])) (a0, (↑a0.length : Int), (0 : Int), []))]
theorem policy_Good_ev (a0 : List TGroup) : evF (envT Ch_1 policy_Good_l1_L) 9 27 [.sl .group a0] 0 [] = some (1, policy_Good_r a0, 0, policy_Good_o a0, [((!(policy_Good_k4 a0)) = true → loopAt Tryd.prog (27 : FuncId) (1 : Nat) = loopAt Tryd.prog (27 : FuncId) (1 : Nat)), ((!(policy_Good_k4 a0)) = true → needX policy_Good_l1_next policy_Good_l1_goes policy_Good_l1_ps (policy_Good_l1_fuel (a0, (↑a0.length : Int), (0 : Int), [])) (a0, (↑a0.length : Int), (0 : Int), []))]) := by kernel_rfl
theorem policy_Good_c (a0 : List TGroup) (hp : ∀ p ∈ policy_Good_ps a0, p) : CallOk Tryd.prog 27 [.sl .group a0] 0 [] 1 (policy_Good_r a0) 0 (policy_Good_o a0) := by
 have n0 : ((!(policy_Good_k4 a0)) = true → loopAt Tryd.prog (27 : FuncId) (1 : Nat) = loopAt Tryd.prog (27 : FuncId) (1 : Nat)) := by intros; rfl
 have n1 := N0 hp
 exact evF_ok (envP_ok Ch_1_ok policy_Good_l1_Lok) (policy_Good_ev a0) (needs_cons n0 (needs_cons n1 needs_nil))
def policy_Good_r2 (a0 : List TGroup) : A := .v (.int .i64 (goodP a0))
def policy_Good_o2 (_a0 : List TGroup) : Objs := []
def policy_Good_ps2 (_a0 : List TGroup) : List Prop := []
theorem policy_Good_eq (l : List TGroup) : (∀ p ∈ policy_Good_ps l, p) ∧ policy_Good_0 l = goodP l := by
 have e4 : policy_Good_k4 l = (l.length == 0 || decide (4 < l.length)) := by
  unfold policy_Good_k4
  rw [beq0i]
  congr 1
  exact dgt l.length 4
 have main : policy_Good_k4 l = false → needX policy_Good_l1_next policy_Good_l1_goes policy_Good_l1_ps (policy_Good_l1_fuel (l, (l.length : Int), 0, [])) (l, (l.length : Int), 0, []) ∧ policy_Good_0 l = goodP l := fun h4 => by
  have hn4 : l.length ≤ 4 := by
   rw [e4] at h4
   have := of_decide_eq_false (Bool.or_eq_false_iff.1 h4).2
   omega
  have hk0 : ∀ i, i ≤ l.length → (∀ j, j < i → stopG l j = false) → policy_Good_l1_f_k0 l (l.length : Int) (i : Int) (mapAt l i) = (decide (i < l.length) && stopG l i) := fun i hi hs => by
   unfold policy_Good_l1_f_k0 policy_Good_l1_f_k1
   rw [Int.toNat_natCast, find_upd, if_pos rfl, find_mapAt l i hi hs, nn, dlt]
   unfold stopG
   congr 2
   cases ((l.take i).map (·.name)).any (fun s => s == (l.getD i (dflt TC.group)).1) <;> rfl
  obtain ⟨h1, k, hk, hx, hs, hst⟩ := scan (fun i => ((l, (l.length : Int), (i : Int), mapAt l i) : policy_Good_l1_X)) l.length (stopG l) policy_Good_l1_next policy_Good_l1_goes policy_Good_l1_ps (policy_Good_l1_fuel (l, (l.length : Int), 0, [])) ((l, (l.length : Int), 0, []) : policy_Good_l1_X) rfl
   (by show l.length ≤ ((l.length : Int) - 0).toNat; omega)
   (fun i hi hs => by
    show ((!!decide ((i : Int) < (l.length : Int))) && !policy_Good_l1_f_k0 l (l.length : Int) (i : Int) (mapAt l i)) = _
    rw [hk0 i hi hs, nn, dlt]
    cases decide (i < l.length) <;> rfl)
   (fun i hi hs => by
    show (l, (l.length : Int), IntKind.i64.wrap ((i : Int) + 1), policy_Good_l1_f_k1 l (l.length : Int) (i : Int) (mapAt l i)) = (l, (l.length : Int), ((i + 1 : Nat) : Int), mapAt l (i + 1))
    rw [wsucc (by omega)]
    unfold policy_Good_l1_f_k1
    rw [Int.toNat_natCast]
    rfl)
   (fun i hi hs => needs_cons (fun h => by
    have h' : (!!decide ((i : Int) < (l.length : Int))) = true := h
    rw [nn] at h'
    have := of_decide_eq_true h'
    show (0 : Int) ≤ (i : Int) ∧ (i : Int) < (l.length : Int)
    omega) needs_nil)
  refine ⟨h1, ?_⟩
  have hr : policy_Good_l1_run (l, (l.length : Int), 0, []) = (l, (l.length : Int), (k : Int), mapAt l k) := hx
  unfold policy_Good_0 policy_Good_k3 policy_Good_k2 policy_Good_k1 policy_Good_k0
  rw [hr, h4, cond_false]
  show (bif policy_Good_l1_f_k0 l (l.length : Int) (k : Int) (mapAt l k) then policy_Good_l1_f_9 l (l.length : Int) (k : Int) (mapAt l k) else 0) = _
  rw [hk0 k hk hs]
  rw [e4] at h4
  obtain ⟨h5, h6⟩ := Bool.or_eq_false_iff.1 h4
  unfold goodP
  rw [h5, h6, cond_false, cond_false, goodPs_at l k [] (fun j hj hl => by
   have := hs j hj
   unfold stopG at this
   obtain ⟨q1, q2⟩ := Bool.or_eq_false_iff.1 this
   exact ⟨by rw [Bool.not_eq_false'] at q1; exact q1, by simpa using q2⟩), List.nil_append]
  by_cases hkl : k < l.length
  ·have hst' := hst hkl
   rw [hst', decide_eq_true hkl, Bool.and_true, cond_true]
   have hd : l.drop k = l.getD k (dflt TC.group) :: l.drop (k + 1) := by
    rw [List.getD_eq_getElem?_getD, List.getElem?_eq_getElem hkl, Option.getD_some]
    exact List.drop_eq_getElem_cons hkl
   rw [hd]
   unfold goodPs policy_Good_l1_f_9
   rw [Int.toNat_natCast]
   unfold stopG at hst'
   show (bif !(nameB (l.getD k (dflt TC.group)).1 && polB (l.getD k (dflt TC.group)).2) then (2 : Int) else 70) = bif !(nameB (l.getD k (dflt TC.group)).1 && polB (l.getD k (dflt TC.group)).2) then 2 else _
   cases hq : !(nameB (l.getD k (dflt TC.group)).1 && polB (l.getD k (dflt TC.group)).2) with
   | true => rfl
   | false =>
    rw [hq, Bool.false_or] at hst'
    have hst2 : ((l.take k).map (·.name)).any (fun s => s == (l.getD k (dflt TC.group)).name) = true := hst'
    rw [cond_false, cond_false, hst2]
    rfl
  ·rw [decide_eq_false hkl, Bool.false_and, cond_false, List.drop_eq_nil_of_le (by omega)]
   rfl
 cases h4 : policy_Good_k4 l with
 | false =>
  obtain ⟨g1, g2⟩ := main h4
  exact ⟨needs_cons (fun _ => g1) needs_nil, g2⟩
 | true =>
  refine ⟨needs_cons (fun h => by rw [h4] at h; cases h) needs_nil, ?_⟩
  unfold policy_Good_0 goodP
  rw [h4, cond_true, beq0i]
  rw [e4] at h4
  cases h5 : l.length == 0 with
  | true => rfl
  | false =>
   rw [h5, Bool.false_or] at h4
   rw [h4]
   rfl
theorem policy_Good_c2 (a0 : List TGroup) (_hp : ∀ p ∈ policy_Good_ps2 a0, p) : CallOk Tryd.prog 27 [.sl .group a0] 0 [] 1 (policy_Good_r2 a0) 0 (policy_Good_o2 a0) := by
 have h := policy_Good_c a0 (policy_Good_eq a0).1
 unfold policy_Good_r at h
 rw [(policy_Good_eq a0).2] at h
 exact h
def policy_Good_t : List A → Nat → Objs → Option CRes := rowK [.l .group] 0 policy_Good_r2 policy_Good_o2 policy_Good_ps2
theorem policy_Good_tok : TOk Tryd.prog 27 policy_Good_t := rowK_ok (ks := [.l .group]) policy_Good_c2
noncomputable def Ch_2 := addC 27 policy_Good_t Ch_1
theorem Ch_2_ok : COk Tryd.prog Ch_2 := addC_ok policy_Good_tok Ch_1_ok
theorem tlb (a b : ByteArray) : (a.toList == b.toList) = (a == b) := by
 rw [Bool.eq_iff_iff, eqB_iff, beq_iff_eq]
noncomputable def Ch := Ch_2
theorem Ch_ok : COk Tryd.prog Ch := Ch_2_ok
end Go.Proofs.YtkknpeeccejppaaDoor
namespace Go.Proofs.YtkknpeeccejppaaDoor
open Go.RowKit Go.Shelf
attribute [local go_sem] Oper.semAt_some
def gV (g : TGroup) : Value := .agg #[.string g.name, .int .i64 g.policy]
def cV (c : TCell) : Value := .agg #[.int .i64 c.stamp.n, .int .i64 c.stamp.site, .int .i64 c.vec.a, .int .i64 c.vec.b, .bool c.gone, .string c.value, .int .i64 c.dead.a, .int .i64 c.dead.b]
structure KB (n₀ X : Nat) (W W' : World) : Prop where
 os : W'.os = W.os
 tape : W'.tape = W.tape
 output : W'.output = W.output
 size : W.heap.size ≤ W'.heap.size
 block : ∀ k, k < n₀ → k ≠ X → W'.heap[k]? = W.heap[k]?
theorem KB.refl (n₀ X : Nat) (W : World) : KB n₀ X W W := ⟨rfl, rfl, rfl, Nat.le_refl _, fun _ _ _ => rfl⟩
theorem KB.trans {n₀ X : Nat} {A B C : World} (h : KB n₀ X A B) (k : KB n₀ X B C) : KB n₀ X A C :=
 ⟨k.os.trans h.os, k.tape.trans h.tape, k.output.trans h.output, Nat.le_trans h.size k.size, fun i h1 h2 => (k.block i h1 h2).trans (h.block i h1 h2)⟩
theorem KB.of_below {n₀ X : Nat} {A B : World} (h : Below n₀ A B) : KB n₀ X A B := ⟨h.os, h.tape, h.output, h.size, fun k hk _ => h.block k hk⟩
theorem KB.cell {n₀ X : Nat} {A B : World} {p : Addr} (h : KB n₀ X A B) (hp : p.block < n₀) (hx : p.block ≠ X) : B.cell? p = A.cell? p := World.cell?_of_block (h.block _ hp hx)
theorem KB.putObj {n₀ X : Nat} {w : World} (hn : n₀ ≤ w.heap.size) (W : World) (l : Nat) (o o' : Obj) (hl : w.heap.size ≤ l) (h : W.heap[l]? = some o) (h1 : o.isCells = false) (h2 : o.isWalk = false) : KB n₀ X W (W.putObj l o') :=
 KB.of_below (belowK_b hn W l o o' hl h h1 h2)
def GsAt (n₀ X : Nat) (W : World) (b off : Nat) (l : List TGroup) : Prop := (b < n₀ ∧ b ≠ X) ∧ ∀ j g, l[j]? = some g → W.cell? ⟨b, off + j * 2, none⟩ = some (.string g.name) ∧ W.cell? ⟨b, off + j * 2 + 1, none⟩ = some (.int .i64 g.policy)
def CsAt (n₀ X : Nat) (W : World) (b off : Nat) (l : List TCell) : Prop := (b < n₀ ∧ b ≠ X) ∧ ∀ j c, l[j]? = some c → W.cell? ⟨b, off + j * 8, none⟩ = some (.int .i64 c.stamp.n) ∧ W.cell? ⟨b, off + j * 8 + 1, none⟩ = some (.int .i64 c.stamp.site) ∧ W.cell? ⟨b, off + j * 8 + 2, none⟩ = some (.int .i64 c.vec.a) ∧ W.cell? ⟨b, off + j * 8 + 3, none⟩ = some (.int .i64 c.vec.b) ∧ W.cell? ⟨b, off + j * 8 + 4, none⟩ = some (.bool c.gone) ∧ W.cell? ⟨b, off + j * 8 + 5, none⟩ = some (.string c.value) ∧ W.cell? ⟨b, off + j * 8 + 6, none⟩ = some (.int .i64 c.dead.a) ∧ W.cell? ⟨b, off + j * 8 + 7, none⟩ = some (.int .i64 c.dead.b)
theorem GsAt.kept {n₀ X : Nat} {W W' : World} {b off : Nat} {l : List TGroup} (h : GsAt n₀ X W b off l) (hb : KB n₀ X W W') : GsAt n₀ X W' b off l :=
 ⟨h.1, fun j g hg => ⟨(hb.cell (p := ⟨b, _, none⟩) h.1.1 h.1.2).trans (h.2 j g hg).1, (hb.cell (p := ⟨b, _, none⟩) h.1.1 h.1.2).trans (h.2 j g hg).2⟩⟩
theorem CsAt.kept {n₀ X : Nat} {W W' : World} {b off : Nat} {l : List TCell} (h : CsAt n₀ X W b off l) (hb : KB n₀ X W W') : CsAt n₀ X W' b off l := by
 refine ⟨h.1, fun j c hc => ?_⟩
 obtain ⟨h0, h1, h2, h3, h4, h5, h6, h7⟩ := h.2 j c hc
 have k : ∀ o, W'.cell? ⟨b, o, none⟩ = W.cell? ⟨b, o, none⟩ := fun o => hb.cell (p := ⟨b, o, none⟩) h.1.1 h.1.2
 exact ⟨(k _).trans h0, (k _).trans h1, (k _).trans h2, (k _).trans h3, (k _).trans h4, (k _).trans h5, (k _).trans h6, (k _).trans h7⟩
theorem grown_none {W W' : World} (h : Below W.heap.size W W') : W.grownBy W' none := ⟨h.os, h.tape, h.output, h.size, fun k hk _ => h.block k hk⟩
def encP (x : TGroup × TCell) : Array Value := #[gV x.1, cV x.2]
theorem zip_take {α β : Type} (l : List α) (r : List β) (k : Nat) (x : α) (y : β) (hx : l[k]? = some x) (hy : r[k]? = some y) : (l.zip r).take (k + 1) = (l.zip r).take k ++ [(x, y)] := by
 rw [List.take_add_one, (List.getElem?_zip_eq_some (z := (x, y))).2 ⟨hx, hy⟩]
 rfl
set_option maxHeartbeats 4000000 in
theorem parts1_in (n : Nat) (hn : 1 ≤ n) (l B2 B3 n₀ b off cap b' off' cap' X : Nat) (gs : List TGroup) (cs : List TCell) (hlen : cs.length = gs.length) (hl4 : gs.length ≤ 4)
    (J Jx : List (TGroup × TCell) → World → Prop) (n1 : Nat) (hn1 : n₀ ≤ n1)
    (hJa : AbidesFrom n1 J)
    (hY : ∀ pre x W, J pre W → pre.length < gs.length → YieldAt Fence.wide (n - 1) Tryd.prog l (encP x) W fun e W' =>
      (e = .returned (.bool true) ∧ J (pre ++ [x]) W' ∧ KB n₀ X W W') ∨ (e = .returned (.bool false) ∧ Jx (pre ++ [x]) W'))
    (W : World) (hW1 : n1 = W.heap.size) (h2 : W.cell? ⟨B2, 0, none⟩ = some (.slice (some ⟨b, off, none⟩) gs.length cap)) (h3 : W.cell? ⟨B3, 1, none⟩ = some (.slice (some ⟨b', off', none⟩) cs.length cap')) (hB2 : B2 < n₀ ∧ B2 ≠ X) (hB3 : B3 < n₀ ∧ B3 ≠ X)
    (hg : GsAt n₀ X W b off gs) (hc : CsAt n₀ X W b' off' cs) (h0 : J [] W) :
    CallsIn Fence.wide n Tryd.prog 42 #[.func (.yield l) #[] #[], .pointer (some ⟨B2, 0, none⟩), .pointer (some ⟨B3, 0, none⟩)] W fun e W' => (∃ v, e = .returned v) ∧
      ((∃ ys, ys = gs.zip cs ∧ J ys W') ∨ (∃ pre, (∃ k, k ≤ gs.length ∧ pre = (gs.zip cs).take k) ∧ Jx pre W')) := by
  refine callsIn_of_wp Tryd.func42 rfl trivial ?_ rfl
  simp only [Tryd.ntmps42, List.size_toArray, List.length_cons, List.length_nil, Nat.reduceAdd, Nat.reduceSub, Array.replicate_succ, Array.replicate_zero, List.push_toArray, List.append_toArray, List.nil_append, List.cons_append]
  gi_wp2
  gi_loopw [8] (fun i wr => ∃ k : Nat, k ≤ gs.length ∧ i = .int .i64 k ∧ J ((gs.zip cs).take k) wr ∧ KB n₀ X W wr ∧ W.heap.size ≤ wr.heap.size) (fun i _ => gs.length - (intOf i).toNat)
  case atStart => exact ⟨0, Nat.zero_le _, rfl, h0, KB.refl _ _ _, Nat.le_refl _⟩
  case round =>
    obtain ⟨k, hk, rfl, hJs, hnx, hsz⟩ := hrel
    by_cases hlt : k < gs.length
    · have hlt' : k < cs.length := by omega
      obtain ⟨hg1, hg2⟩ := (hg.kept hnx).2 k gs[k] (List.getElem?_eq_getElem hlt)
      have h2' := (hnx.cell (p := ⟨B2, 0, none⟩) hB2.1 hB2.2).trans h2
      gi_wp2
      have hb3 : Below wr.heap.size wr (wr.alloc (.cells #[.string gs[k].name, .int .i64 gs[k].policy] 84)) := (Below.refl _ wr).alloc (Nat.le_refl _) _
      have hv : wr.heap.size = wr.heap.size := rfl
      have hn := World.alloc_heap_new wr (.cells #[.string gs[k].name, .int .i64 gs[k].policy] 84)
      generalize wr.alloc (.cells #[.string gs[k].name, .int .i64 gs[k].policy] 84) = W3 at hb3 hn ⊢
      have hb4 : KB n₀ X wr W3 := KB.of_below (hb3.mono (Nat.le_trans hn1 (by rw [hW1]; exact hsz)))
      have hb5 : KB n₀ X W3 W3.drew := KB.of_below ((Below.refl _ W3).drew)
      obtain ⟨hc0, hc1, hc2, hc3, hc4, hc5, hc6, hc7⟩ := ((hc.kept hnx).kept hb4).2 k cs[k] (List.getElem?_eq_getElem hlt')
      have h3' := ((hnx.trans hb4).cell (p := ⟨B3, 1, none⟩) hB3.1 hB3.2).trans h3
      have hz : ((gs.zip cs).take k).length < gs.length := by rw [List.length_take, List.length_zip]; omega
      have hJ3 : J ((gs.zip cs).take k) W3.drew := hJa _ wr _ none hJs (grown_none hb3.drew) (fun r e => by cases e)
      obtain ⟨fn, tmps, assign, body, hy, hR⟩ := hY _ (gs[k], cs[k]) _ hJ3 hz
      have hR2 : RoundIn Fence.wide (n - 1) Tryd.prog l fn tmps assign body W3.drew fun e W' => ∃ q : Bool, e = .returned (.bool q) ∧ (q = true → J ((gs.zip cs).take (k + 1)) W' ∧ KB n₀ X wr W') ∧ (q = false → Jx ((gs.zip cs).take (k + 1)) W') := by
        refine hR.mono ?_
        rw [← zip_take gs cs k gs[k] cs[k] (List.getElem?_eq_getElem hlt) (List.getElem?_eq_getElem hlt')]
        rintro e W' (⟨rfl, h1, h2⟩ | ⟨rfl, h1⟩)
        · exact ⟨true, rfl, ⟨fun _ => ⟨h1, (hb4.trans hb5).trans h2⟩, fun h => by cases h⟩⟩
        · exact ⟨false, rfl, ⟨fun h => (by cases h), fun _ => h1⟩⟩
      clear hR
      have hm : Tryd.prog.follows .mixedOrders = true := by kernel_rfl
      dsimp only [encP, gV, cV] at hy
      obtain ⟨hn0, hn1'⟩ := cb2 hn
      gi_region_with_o (refine hR2.mono ?_; rintro e W4 ⟨q, rfl, hq1, hq2⟩)
      all_goals (cases q)
      all_goals gi_wp2
      all_goals first
        | (refine bodyPost_ret (results_none rfl _ _ _) rfl ?_; exact ⟨⟨_, rfl⟩, .inr ⟨_, ⟨k + 1, by omega, rfl⟩, hq2 (by trivial)⟩⟩)
        | (obtain ⟨q1, q2⟩ := hq1 (by trivial)
           exact ⟨⟨k + 1, by omega, rfl, q1, hnx.trans q2, Nat.le_trans hsz q2.size⟩, by simp [intOf]; omega⟩)
    · obtain rfl : k = gs.length := by omega
      gi_wp2
      go_end0
      exact ⟨⟨_, rfl⟩, .inl ⟨_, rfl, by rw [List.take_of_length_le (by rw [List.length_zip]; omega)] at hJs; exact hJs⟩⟩
set_option maxHeartbeats 1000000 in
theorem parts_in (n : Nat) (a : Option Addr) (len cap : Nat) (v1 : Value) (key : ByteArray) (w : World) :
  CallsIn Fence.wide n Tryd.prog 38 #[.slice a len cap, .agg #[.string key, v1]] w fun e w' => e = .returned (.func (.func 42) #[] #[.pointer (some ⟨w.heap.size, 0, none⟩), .pointer (some ⟨w.heap.size + 1, 0, none⟩)]) ∧ w' = (w.alloc (.cells #[.slice a len cap] 27)).alloc (.cells #[.string key, v1] 38) := by
 refine callsIn_of_wp Tryd.func38 rfl trivial ?_ rfl
 simp only [Tryd.ntmps38, List.size_toArray, List.length_cons, List.length_nil, Nat.reduceAdd, Nat.reduceSub, Array.replicate_succ, Array.replicate_zero, List.push_toArray, List.append_toArray, List.nil_append, List.cons_append]
 gi_wp2
 go_ret
 exact ⟨rfl, rfl⟩
theorem parts_stops (n : Nat) (hn : 1 ≤ n) (B2 B3 n₀ X b off cap b' off' cap' : Nat) (gs : List TGroup) (cs : List TCell) (hlen : cs.length = gs.length) (hl4 : gs.length ≤ 4) (w : World) (hn₀ : n₀ ≤ w.heap.size)
  (h2 : w.cell? ⟨B2, 0, none⟩ = some (.slice (some ⟨b, off, none⟩) gs.length cap)) (h3 : w.cell? ⟨B3, 1, none⟩ = some (.slice (some ⟨b', off', none⟩) cs.length cap')) (hB2 : B2 < n₀ ∧ B2 ≠ X) (hB3 : B3 < n₀ ∧ B3 ≠ X)
  (hg : GsAt n₀ X w b off gs) (hc : CsAt n₀ X w b' off' cs) :
  SeqStopsK Fence.wide n Tryd.prog 42 #[.pointer (some ⟨B2, 0, none⟩), .pointer (some ⟨B3, 0, none⟩)] encP (KB n₀ X) (fun ys => ys = gs.zip cs) (fun pre => ∃ k, k ≤ gs.length ∧ pre = (gs.zip cs).take k) gs.length w := fun l J Jx W hW hJ _ hY h0 => by
 have hk : KB n₀ X w W := KB.of_below (hW.mono hn₀)
 exact parts1_in n hn l B2 B3 n₀ b off cap b' off' cap' X gs cs hlen hl4 J Jx W.heap.size (Nat.le_trans hn₀ hW.size) hJ hY W rfl ((hk.cell (p := ⟨B2, 0, none⟩) hB2.1 hB2.2).trans h2) ((hk.cell (p := ⟨B3, 1, none⟩) hB3.1 hB3.2).trans h3) hB2 hB3 (hg.kept hk) (hc.kept hk) h0
def goodR (p : Int) (G : Int → TCell → Bool) (gs : List TGroup) (key : ByteArray) (cs : List TCell) : Int :=
 if (p != 0) = true then p else if key.toList.isEmpty = true then 2 else if 32 < (key.size : Int) then 3 else if ((cs.length : Int) != (gs.length : Int)) = true then 100 else bif (gs.zip cs).all (fun x => G x.1.policy x.2) then 0 else 80
theorem blk_own {β : Type} (B : Nat) (cs : Array Value) (t : TypeId) : Own (fun (_ : β) W => W.heap[B]? = some (.cells cs t (0, 0))) := fun s W W' row hs hg hr => by
 refine (hg.block B (blk_lt hs) fun e => ?_).trans hs
 obtain ⟨o, h1, h2⟩ := hr B e.symm
 rw [hs] at h1
 cases h1
 cases h2
theorem keepsFrom_below (B : Nat) {W W' : World} (h : Below W.heap.size W W') : KeepsFrom B W W' := ⟨h.size, fun k _ _ hk _ => (h.block k (blk_lt hk)).trans hk⟩
theorem ownFrom_size {β : Type} (B n : Nat) : OwnFrom B (fun (_ : β) W => n ≤ W.heap.size) := fun _ _ _ _ hs hg _ => Nat.le_trans hs hg.size
set_option maxHeartbeats 4000000 in
theorem rgood_calls (w : World) (a0 a1 : Option Addr) (gs : List TGroup) (cs : List TCell) (key : ByteArray) (cap0 cap1 : Nat) (p : Int) (G : Int → TCell → Bool)
    (hP : ∀ W, Below w.heap.size w W → Calls Tryd.prog 27 #[.slice a0 gs.length cap0] W fun e W' => e = .returned (.int .i64 p) ∧ Below W.heap.size W W')
    (hp0 : p = 0 → 1 ≤ gs.length ∧ gs.length ≤ 4)
    (hC : ∀ (q : Int) (c : TCell) W, Below w.heap.size w W → Calls Tryd.prog 39 #[.int .i64 q, cV c] W fun e W' => e = .returned (.bool (G q c)) ∧ Below W.heap.size W W')
    (hG : 0 < gs.length → ∃ b off, a0 = some ⟨b, off, none⟩ ∧ GsAt w.heap.size w.heap.size w b off gs)
    (hS : 0 < cs.length → ∃ b off, a1 = some ⟨b, off, none⟩ ∧ CsAt w.heap.size w.heap.size w b off cs) :
    Calls Tryd.prog 28 #[.slice a0 gs.length cap0, .agg #[.string key, .slice a1 cs.length cap1]] w fun e W' => e = .returned (.int .i64 (goodR p G gs key cs)) ∧ Below w.heap.size w W' := by
  refine (callsIn_wide (n := 5)).1 ?_
  refine callsIn_of_wp_marks Tryd.func28 rfl trivial ?_ rfl
  simp only [Tryd.ntmps28, List.size_toArray, List.length_cons, List.length_nil, Nat.reduceAdd, Nat.reduceSub, Array.replicate_succ, Array.replicate_zero, List.push_toArray, List.append_toArray, List.nil_append, List.cons_append]
  have hw2 : Below w.heap.size w ((w.alloc (.cells #[.string key, .slice a1 cs.length cap1] 38)).alloc (.cells #[.int .i64 0] 31)) := ((Below.refl _ w).alloc (Nat.le_refl _) _).alloc (by simp) _
  have hr1 := alloc_old (.cells #[.int .i64 0] 31) (alloc_new (w := w) (.cells #[.string key, .slice a1 cs.length cap1] 38) rfl)
  have hr2 := alloc_new (w := w.alloc (.cells #[.string key, .slice a1 cs.length cap1] 38)) (.cells #[.int .i64 0] 31) (n := w.heap.size + 1) (by simp)
  gi_wp2_with (first
    | (refine ⟨trivial, ?_⟩; gi_at_call 27; refine (callsIn_wide.2 (hP _ hw2)).mono ?_; rintro e W1 ⟨rfl, hb1⟩; have hx1 := blk_next hr1 hb1; have hx2 := blk_next hr2 hb1; obtain ⟨c0, c1⟩ := cb2 hx1; have d0 := cb1 hx2; have f0 := fb1 hx2; have hB1 : Below w.heap.size w W1 := hw2.trans (hb1.mono (by simp; omega)); clear hr1 hr2 hb1)
    | (refine ⟨trivial, ?_⟩; gi_at_call 38; refine (parts_in _ _ _ _ _ _ _).mono ?_; rintro e W2 ⟨rfl, rfl⟩))
  · have h1 : (p != 0) = true := by assumption
    have e : goodR p G gs key cs = p := by unfold goodR; rw [if_pos h1]
    have hc := cb1 (set_same (i := 0) hx2 (.int .i64 p))
    exact ⟨.int .i64 p, by simp [results, Tryd.f28, go_sem, hc], by rw [e], hB1.setCell (p := ⟨w.heap.size + 1, 0, none⟩) (by simp) _⟩
  · have h1 : (p != 0) = false := by assumption
    have h2 : key.toList.isEmpty = true := by assumption
    have e : goodR p G gs key cs = 2 := by unfold goodR; rw [if_neg (by rw [h1]; simp), if_pos h2]
    have hc := cb1 (set_same (i := 0) hx2 (.int .i64 2))
    exact ⟨.int .i64 2, by simp [results, Tryd.f28, go_sem, hc], by rw [e], hB1.setCell (p := ⟨w.heap.size + 1, 0, none⟩) (by simp) _⟩
  · have h1 : (p != 0) = false := by assumption
    have h2 : key.toList.isEmpty = false := by assumption
    have h3 : 32 < (key.size : Int) := by assumption
    have e : goodR p G gs key cs = 3 := by unfold goodR; rw [if_neg (by rw [h1]; simp), if_neg (by rw [h2]; simp), if_pos h3]
    have hc := cb1 (set_same (i := 0) hx2 (.int .i64 3))
    exact ⟨.int .i64 3, by simp [results, Tryd.f28, go_sem, hc], by rw [e], hB1.setCell (p := ⟨w.heap.size + 1, 0, none⟩) (by simp) _⟩
  · have h1 : (p != 0) = false := by assumption
    have h2 : key.toList.isEmpty = false := by assumption
    have h3 : (key.size : Int) ≤ 32 := by assumption
    have h4 : ((cs.length : Int) != (gs.length : Int)) = true := by assumption
    have e : goodR p G gs key cs = 100 := by unfold goodR; rw [if_neg (by rw [h1]; simp), if_neg (by rw [h2]; simp), if_neg (by omega), if_pos h4]
    have hc := cb1 (set_same (i := 0) hx2 (.int .i64 100))
    exact ⟨.int .i64 100, by simp [results, Tryd.f28, go_sem, hc], by rw [e], hB1.setCell (p := ⟨w.heap.size + 1, 0, none⟩) (by simp) _⟩
  have h1 : (p != 0) = false := by assumption
  have h2 : key.toList.isEmpty = false := by assumption
  have h3 : (key.size : Int) ≤ 32 := by assumption
  have h4 : ((cs.length : Int) != (gs.length : Int)) = false := by assumption
  have e : goodR p G gs key cs = bif (gs.zip cs).all (fun x => G x.1.policy x.2) then 0 else 80 := by unfold goodR; rw [if_neg (by rw [h1]; simp), if_neg (by rw [h2]; simp), if_neg (by omega), if_neg (by rw [h4]; simp)]
  have hp : p = 0 := by simpa using h1
  clear h1
  subst hp
  have hlen : cs.length = gs.length := by have : (cs.length : Int) = gs.length := by simpa using h4
                                          omega
  obtain ⟨hl1, hl4⟩ := hp0 rfl
  obtain ⟨b, off, rfl, hg⟩ := hG (by omega)
  obtain ⟨b', off', rfl, hc⟩ := hS (by omega)
  have hW2 : Below W1.heap.size W1 ((W1.alloc (.cells #[.slice (some ⟨b, off, none⟩) gs.length cap0] 27)).alloc (.cells #[.string key, .slice (some ⟨b', off', none⟩) cs.length cap1] 38)) := ((Below.refl _ W1).alloc (Nat.le_refl _) _).alloc (by simp) _
  have hy2 := alloc_old (.cells #[.string key, .slice (some ⟨b', off', none⟩) cs.length cap1] 38) (alloc_new (w := W1) (.cells #[.slice (some ⟨b, off, none⟩) gs.length cap0] 27) rfl)
  have hy3 := alloc_new (w := W1.alloc (.cells #[.slice (some ⟨b, off, none⟩) gs.length cap0] 27)) (.cells #[.string key, .slice (some ⟨b', off', none⟩) cs.length cap1] 38) (n := W1.heap.size + 1) (by simp)
  have hz2 := blk_next hx2 hW2
  have hs1 := blk_lt hx2
  have hs2 := blk_lt hy3
  have hB2 := hB1.trans (hW2.mono hB1.size)
  generalize (W1.alloc (.cells #[.slice (some ⟨b, off, none⟩) gs.length cap0] 27)).alloc (.cells #[.string key, .slice (some ⟨b', off', none⟩) cs.length cap1] 38) = W2 at hW2 hy2 hy3 hz2 hs2 hB2 ⊢
  have hg2 : GsAt W2.heap.size W2.heap.size W2 b off gs := ⟨⟨by have := hg.1.1; omega, by have := hg.1.1; omega⟩, fun j g hj => ⟨(hB2.cell (p := ⟨b, _, none⟩) hg.1.1).trans (hg.2 j g hj).1, (hB2.cell (p := ⟨b, _, none⟩) hg.1.1).trans (hg.2 j g hj).2⟩⟩
  have hc2 : CsAt W2.heap.size W2.heap.size W2 b' off' cs := by
    refine ⟨⟨by have := hc.1.1; omega, by have := hc.1.1; omega⟩, fun j c hj => ?_⟩
    have k : ∀ o, W2.cell? ⟨b', o, none⟩ = w.cell? ⟨b', o, none⟩ := fun o => hB2.cell (p := ⟨b', o, none⟩) hc.1.1
    simp only [k]
    exact hc.2 j c hj
  refine wpIn_rangeFunc_ownH (F := Fence.wide) rfl (by omega) (gf := 42) (lb := #[.pointer (some ⟨W1.heap.size, 0, none⟩), .pointer (some ⟨W1.heap.size + 1, 0, none⟩)]) rfl trivial (enters_of Tryd.func42 (by kernel_rfl) rfl)
    (parts_stops _ (by omega) W1.heap.size (W1.heap.size + 1) W2.heap.size W2.heap.size b off cap0 b' off' cap1 gs cs hlen hl4 W2 (Nat.le_refl _) (cb1 hy2) (cb2 hy3).2 ⟨by omega, by omega⟩ ⟨by omega, by omega⟩ hg2 hc2)
    KB.trans (KB.putObj (Nat.le_refl _)) (Below.refl _ _) (fun _ => rfl)
    (fun pre W => ((∀ x ∈ pre, G x.1.policy x.2 = true) ∧ W.heap[w.heap.size + 1]? = some (.cells #[.int .i64 0] 31 (0, 0))) ∧ Below w.heap.size w W ∧ W2.heap.size ≤ W.heap.size)
    (fun c pre W => ((c = .ret ∧ ∃ x ∈ pre, G x.1.policy x.2 = false) ∧ W.heap[w.heap.size + 1]? = some (.cells #[.int .i64 80] 31 (0, 0))) ∧ Below w.heap.size w W ∧ W2.heap.size ≤ W.heap.size)
    (OwnFrom.and (OwnFrom.and (ownFrom_pure _ _) (Own.from (blk_own _ _ _) _)) (OwnFrom.and (ownFrom_below (Nat.le_refl _) hB2.size) (ownFrom_size _ _)))
    (fun c => OwnFrom.and (OwnFrom.and (ownFrom_pure _ _) (Own.from (blk_own _ _ _) _)) (OwnFrom.and (ownFrom_below (Nat.le_refl _) hB2.size) (ownFrom_size _ _)))
    ⟨⟨by simp, hz2⟩, hB2, Nat.le_refl _⟩
    (fun x a' W => (∃ B6 B7, a' = { tmps := #[Value.slice (some ⟨b, off, none⟩) gs.length cap0, Value.agg #[Value.string key, Value.slice (some ⟨b', off', none⟩) cs.length cap1], undef,
          Value.pointer (some { block := w.heap.size, off := 0 }),
          Value.pointer (some { block := w.heap.size + 1, off := 0 }), Value.int IntKind.i64 0, Value.pointer (some ⟨B6, 0, none⟩), Value.pointer (some ⟨B7, 0, none⟩),
          Value.slice (some ⟨b, off, none⟩) gs.length cap0, Value.int IntKind.i64 0, Value.int IntKind.i64 0, Value.bool false, undef,
          Value.bool false, Value.pointer (some { block := w.heap.size, off := 0 }), Value.string key, Value.bool false,
          Value.bool (decide (32 < (key.size : Int))), Value.pointer (some { block := w.heap.size, off := 0 }),
          Value.string key, Value.int IntKind.i64 key.size, Value.bool (decide (32 < (key.size : Int))), Value.bool false,
          Value.pointer (some { block := w.heap.size, off := 1 }), Value.slice (some ⟨b', off', none⟩) cs.length cap1,
          Value.int IntKind.i64 cs.length, Value.slice (some ⟨b, off, none⟩) gs.length cap0, Value.int IntKind.i64 gs.length,
          Value.bool false, Value.slice (some ⟨b, off, none⟩) gs.length cap0, Value.agg #[Value.string key, Value.slice (some ⟨b', off', none⟩) cs.length cap1],
          Value.func (Fn.func 42) #[] #[Value.pointer (some { block := W1.heap.size, off := 0 }), Value.pointer (some { block := W1.heap.size + 1, off := 0 })],
          gV x.1, cV x.2, undef, undef, undef, undef, undef], defers := [] } ∧
        (W.heap[B6]? = some (.cells #[.string x.1.name, .int .i64 x.1.policy] 84 (0, 0)) ∧ W.heap[B7]? = some (.cells #[.int .i64 x.2.stamp.n, .int .i64 x.2.stamp.site, .int .i64 x.2.vec.a, .int .i64 x.2.vec.b, .bool x.2.gone, .string x.2.value, .int .i64 x.2.dead.a, .int .i64 x.2.dead.b] 47 (0, 0)))))
    (fun x a' => Own.from (fun s X Y row hs hgr hr => by
      obtain ⟨B6, B7, e1, e2, e3⟩ := hs
      exact ⟨B6, B7, e1, blk_own B6 _ _ s X Y row e2 hgr hr, blk_own B7 _ _ s X Y row e3 hgr hr⟩) _) ?assign ?body ?done ?stop
  case assign =>
    rintro l pre x W K ⟨⟨i1, i2⟩, i3, i4⟩ hK
    clear hlen h4
    dsimp only [encP, gV, cV] at hK ⊢
    gi_wp2
    have hb : Below W.heap.size W ((W.alloc (.cells #[.string x.1.name, .int .i64 x.1.policy] 84)).alloc (.cells #[.int .i64 x.2.stamp.n, .int .i64 x.2.stamp.site, .int .i64 x.2.vec.a, .int .i64 x.2.vec.b, .bool x.2.gone, .string x.2.value, .int .i64 x.2.dead.a, .int .i64 x.2.dead.b] 47)) := ((Below.refl _ W).alloc (Nat.le_refl _) _).alloc (by simp) _
    exact hK _ _ (keepsFrom_below _ hb) (KB.of_below (hb.mono i4)) ⟨⟨i1, blk_next i2 hb⟩, i3.trans (hb.mono i3.size), Nat.le_trans i4 hb.size⟩ ⟨W.heap.size, W.heap.size + 1, rfl, alloc_old _ (alloc_new _ rfl), alloc_new _ (by simp)⟩
  case body =>
    rintro l pre x a' W hl hr ⟨⟨i1, i2⟩, i3, i5⟩ ⟨B6, B7, rfl, e6, e7⟩ hlt
    obtain ⟨k0, k1⟩ := cb2 e6
    obtain ⟨m0, m1, m2, m3, m4, m5, m6, m7⟩ := cb8 e7
    have d0 := cb1 i2
    have f0 := fb1 i2
    cases hGx : G x.1.policy x.2 with
    | true =>
      gi_wp2_with (refine ⟨trivial, ?_⟩; gi_at_call 39; refine (CallsIn.inRound l (callsIn_wide.2 (hC x.1.policy x.2 _ i3))).mono ?_; rw [hGx]; rintro e W' ⟨rfl, hb⟩)
      exact ⟨keepsFrom_below _ hb, KB.of_below (hb.mono i5), ⟨fun y hy => (List.mem_append.1 hy).elim (i1 y) (fun e => by simp at e; subst e; exact hGx), blk_next i2 hb⟩, i3.trans (hb.mono i3.size), Nat.le_trans i5 hb.size⟩
    | false =>
      gi_wp2_with (refine ⟨trivial, ?_⟩; gi_at_call 39; refine (CallsIn.inRound l (callsIn_wide.2 (hC x.1.policy x.2 _ i3))).mono ?_; rw [hGx]; rintro e W' ⟨rfl, hb⟩; have i4 := blk_next i2 hb; have d4 := cb1 i4; have f4 := fb1 i4)
      exact ⟨(keepsFrom_below _ hb).trans ((KeepsOthers.setCell _ _ _).from _), ⟨⟨rfl, x, by simp, hGx⟩, set_same (i := 0) i4 (.int .i64 80)⟩, (i3.trans (hb.mono i3.size)).setCell (p := ⟨w.heap.size + 1, 0, none⟩) (by simp) _, Nat.le_trans i5 (by rw [set_size]; exact hb.size)⟩
  case done =>
    rintro D ys W hD rfl ⟨⟨i1, i2⟩, i3, i5⟩ hK
    have d0 := cb1 i2
    have f0 := fb1 i2
    gi_wp2
    have hK' := (KeepsOthers.setCell W ⟨w.heap.size + 1, 0, none⟩ (.int .i64 0)).same D _ hK rfl
    refine ⟨by simp, .inl ⟨_, _, rfl, run_takeDeferred hK', ?_⟩⟩
    have hc5 := cell_kept (World.cell?_setCell_same' W ⟨w.heap.size + 1, 0, none⟩ (.int .i64 0) (by rw [d0]; rfl)) (grownBy_putObj' _ D (.deferred none)) (fun r e => by cases e; exact ⟨_, hK', rfl⟩)
    refine ⟨.int .i64 0, ?_, ?_, (i3.setCell (p := ⟨w.heap.size + 1, 0, none⟩) (by simp) _).trans (belowK_b (w := w) (Nat.le_refl _) _ D _ _ (by have := hB2.size; omega) hK' rfl rfl)⟩
    · simp [results, Tryd.f28, go_sem, hc5]
    · rw [List.all_eq_true.2 (fun x hx => i1 x hx)]; rfl
  case stop =>
    rintro D c pre W hD ⟨k, hk, rfl⟩ ⟨⟨⟨rfl, x, hx, hGx⟩, i2⟩, i3, i5⟩ hK
    gi_wp2
    refine ⟨by simp, .inl ⟨_, _, rfl, run_takeDeferred hK, ?_⟩⟩
    have hc5 := cell_kept (cb1 i2) (grownBy_putObj' _ D (.deferred none)) (fun r e => by cases e; exact ⟨_, hK, rfl⟩)
    refine ⟨.int .i64 80, ?_, ?_, i3.trans (belowK_b (w := w) (Nat.le_refl _) W D _ _ (by have := hB2.size; omega) hK rfl rfl)⟩
    · simp [results, Tryd.f28, go_sem, hc5]
    · have : (gs.zip cs).all (fun x => G x.1.policy x.2) = false := by
        cases ha : (gs.zip cs).all (fun x => G x.1.policy x.2) with
        | false => rfl
        | true => have := (List.all_eq_true.1 ha) x (List.mem_of_mem_take hx); rw [hGx] at this; cases this
      rw [this]; rfl
end Go.Proofs.YtkknpeeccejppaaDoor
namespace Go.Proofs.YtkknpeeccejppaaDoor
open Go.RowKit
def goodRow (l : List TGroup) (r : TRow) : Int := bif goodP l != 0 then goodP l else bif r.key.size == 0 then 2 else bif decide (32 < r.key.size) then 3 else bif r.cells.length != l.length then 100 else bif (l.zip r.cells).all (fun x => goodC x.1.policy x.2) then 0 else 80
def row_Good_r2 (a0 : List TGroup) (a1 : TRow) : A := .v (.int .i64 (goodRow a0 a1))
def row_Good_o2 (_a0 : List TGroup) (_a1 : TRow) : Objs := []
def row_Good_ps2 (_a0 : List TGroup) (_a1 : TRow) : List Prop := []
theorem isEmpty_size (k : ByteArray) : k.toList.isEmpty = (k.size == 0) := by
 rw [ByteArray.toList_eq, Bool.eq_iff_iff, List.isEmpty_iff, beq_iff_eq, ← size_data]
 exact ⟨fun h => by rw [h]; rfl, fun h => List.eq_nil_of_length_eq_zero h⟩
theorem goodR_eq (l : List TGroup) (key : ByteArray) (cs : List TCell) : goodR (goodP l) goodC l key cs = goodRow l ⟨key, cs⟩ := by
 unfold goodR goodRow
 rw [isEmpty_size]
 have e3 : decide (32 < ((key.size : Nat) : Int)) = decide (32 < key.size) := decide_eq_decide.2 (by omega)
 have e4 : (((cs.length : Nat) : Int) != (l.length : Int)) = (cs.length != l.length) := by
  rw [Bool.eq_iff_iff, bne_iff_ne, bne_iff_ne]; omega
 simp only [Bool.cond_eq_ite, e4, decide_eq_true_eq, show (32 < ((key.size : Nat) : Int)) = (32 < key.size) from propext (by omega)]
theorem spot_none {R : World} {ad : Addr} {v : Value} (h : R.cell? ad = some v) : ad = ⟨ad.block, ad.off, none⟩ := by
 cases ad with | mk b o s =>
 cases s with
 | none => rfl
 | some q =>
  exfalso
  unfold World.cell? at h
  cases hb : R.heap[b]? with
  | none => simp only [hb] at h; cases h
  | some ob => cases ob <;> simp [hb] at h
theorem add_num (b o k j : Nat) : ((⟨b, o, none⟩ : Addr).add k).add j = ⟨b, o + k + j, none⟩ := by
 rw [add_mk, add_mk]
section
variable {F : Nat → Prop} {N : Nm} {nx : Nat} {R : World}
theorem HC.at0 {l : List A} {b o k j : Nat} {x : Value} (h : HC F N nx R l ((⟨b, o, none⟩ : Addr).add k)) (hx : l[j]? = some (.v x)) : R.cell? ⟨b, o + k + j, none⟩ = some x := by
 obtain ⟨y, h1, h2⟩ := h j _ hx
 rw [add_num] at h1
 rw [h1, h2.v_inv]
theorem gs_at {gs : List TGroup} {v : Value} (hF : ∀ g, F g → g < R.heap.size) (h : Hv F N nx R (.sl .group gs) v) :
  ∃ a cap, v = .slice a gs.length cap ∧ (0 < gs.length → ∃ b off, a = some ⟨b, off, none⟩ ∧ GsAt R.heap.size R.heap.size R b off gs) := by
 obtain ⟨a, cap, e, _, h2⟩ := h.sl_inv
 refine ⟨a, cap, e, fun hn => ?_⟩
 obtain ⟨ad, rfl, hb, h3⟩ := h2 hn
 have hlt := hF _ hb
 obtain ⟨y, hy, _⟩ := h3 0 gs[0] (List.getElem?_eq_getElem hn) 0 (.v (.string gs[0].name)) rfl
 rw [Nat.zero_mul, add_zero, add_zero] at hy
 have hs := spot_none hy
 rw [hs] at h3 ⊢
 refine ⟨ad.block, ad.off, rfl, ⟨hlt, Nat.ne_of_lt hlt⟩, fun j g hj => ?_⟩
 have h4 := h3 j g hj
 exact ⟨h4.at0 (j := 0) (x := .string g.name) rfl, h4.at0 (j := 1) (x := .int .i64 g.policy) rfl⟩
theorem cs_at {cs : List TCell} {v : Value} (hF : ∀ g, F g → g < R.heap.size) (h : Hv F N nx R (.sl .cell cs) v) :
  ∃ a cap, v = .slice a cs.length cap ∧ (0 < cs.length → ∃ b off, a = some ⟨b, off, none⟩ ∧ CsAt R.heap.size R.heap.size R b off cs) := by
 obtain ⟨a, cap, e, _, h2⟩ := h.sl_inv
 refine ⟨a, cap, e, fun hn => ?_⟩
 obtain ⟨ad, rfl, hb, h3⟩ := h2 hn
 have hlt := hF _ hb
 obtain ⟨y, hy, _⟩ := h3 0 cs[0] (List.getElem?_eq_getElem hn) 0 (.v (.int .i64 cs[0].stamp.n)) rfl
 rw [Nat.zero_mul, add_zero, add_zero] at hy
 have hs := spot_none hy
 rw [hs] at h3 ⊢
 refine ⟨ad.block, ad.off, rfl, ⟨hlt, Nat.ne_of_lt hlt⟩, fun j c hj => ?_⟩
 have h4 := h3 j c hj
 exact ⟨h4.at0 (j := 0) (x := .int .i64 c.stamp.n) rfl, h4.at0 (j := 1) (x := .int .i64 c.stamp.site) rfl, h4.at0 (j := 2) (x := .int .i64 c.vec.a) rfl, h4.at0 (j := 3) (x := .int .i64 c.vec.b) rfl, h4.at0 (j := 4) (x := .bool c.gone) rfl, h4.at0 (j := 5) (x := .string c.value) rfl, h4.at0 (j := 6) (x := .int .i64 c.dead.a) rfl, h4.at0 (j := 7) (x := .int .i64 c.dead.b) rfl⟩
theorem HRel.bare (hF : ∀ g, F g → g < R.heap.size) (hg : GlobOk F R) : HRel F N 0 [] R := ⟨hF, fun _ _ h => (by cases h), fun _ _ _ h => (by cases h), fun _ _ _ _ _ h => (by cases h), hg⟩
end
theorem CallOk.plain {P : Program} {f : FuncId} {args : List A} {x : Value} (h : CallOk P f args 0 [] 1 (.v x) 0 []) {F : Nat → Prop} {N : Nm} {R : World} {vs : List Value} (hF : ∀ g, F g → g < R.heap.size) (hg : GlobOk F R) (hv : HL F N 0 R args vs) :
  Calls P f vs.toArray R fun e R' => e = .returned x ∧ Below R.heap.size R R' :=
 (h F N R vs (HRel.bare hF hg) hv).mono fun e R' ⟨y, F', N', e1, _, _, h4, h5⟩ => ⟨by rw [e1, h4.v_inv], h5 (Nat.le_refl _)⟩
theorem row_Good_c2 (a0 : List TGroup) (a1 : TRow) (_hp : ∀ p ∈ row_Good_ps2 a0 a1, p) : CallOk Tryd.prog 28 [.sl .group a0, valA .row a1] 0 [] 1 (row_Good_r2 a0 a1) 0 (row_Good_o2 a0 a1) := by
 intro F N R vs hR hv
 obtain ⟨v0, vs, rfl, h0, hv⟩ := hv.inv
 obtain ⟨v1, vs, rfl, h1, hv⟩ := hv.inv
 rw [hv.inv0]
 obtain ⟨us, rfl, h2⟩ := Hv.agg_inv (xs := [.v (.string a1.key), .sl .cell a1.cells]) h1
 clear h1
 have h1 := h2
 obtain ⟨u0, us, rfl, k0, h1⟩ := h1.inv
 obtain ⟨u1, us, rfl, k1, h1⟩ := h1.inv
 rw [h1.inv0]
 rw [k0.v_inv]
 obtain ⟨aa, cap0, rfl, g0⟩ := gs_at hR.flt h0
 obtain ⟨ab, cap1, rfl, g1⟩ := cs_at hR.flt k1
 refine (rgood_calls R aa ab a0 a1.cells a1.key cap0 cap1 (goodP a0) goodC ?_ goodP_0 ?_ g0 g1).mono ?_
 ·intro W hW
  exact (policy_Good_c2 a0 (fun _ h => by cases h)).plain (F := F) (N := N) (vs := [_]) (hR.grow hW).1.flt (hR.grow hW).1.gl (HL.cons (h0.step (hR.grow hW).2) HL.nil)
 ·intro q c W hW
  have h := (cell_Good_c q c (fun _ h => by cases h)).plain (F := F) (N := N) (R := W) (vs := [.int .i64 q, cV c]) (hR.grow hW).1.flt (hR.grow hW).1.gl (HL.cons (.v _) (HL.cons (.v _) HL.nil))
  rw [cell_Good_eq] at h
  exact h
 ·rintro e W ⟨rfl, hb⟩
  rw [goodR_eq]
  exact ⟨_, F, N, rfl, (hR.grow hb).1, Step.of_below hb, .v _, fun _ => hb⟩
def row_Good_t : List A → Nat → Objs → Option CRes := rowK [.l .group, .t .row] 0 row_Good_r2 row_Good_o2 row_Good_ps2
theorem row_Good_tok : TOk Tryd.prog 28 row_Good_t := rowK_ok (ks := [.l .group, .t .row]) row_Good_c2
noncomputable def Ci_1 := addC 28 row_Good_t Ch
theorem Ci_1_ok : COk Tryd.prog Ci_1 := addC_ok row_Good_tok Ch_ok
noncomputable def Ci := Ci_1
theorem Ci_ok : COk Tryd.prog Ci := Ci_1_ok
end Go.Proofs.YtkknpeeccejppaaDoor
namespace Go.Proofs.YtkknpeeccejppaaDoor
open Go.RowKit
theorem first_k : firstN [107] = 130 := by kernel_rfl
def isK (s : ByteArray) : Bool := match s.data.toList with
 | [x] => Nat.beq x.toNat 107
 | _ => false
theorem isK_eq {s : ByteArray} (h : isK s = true) : s.data.toList = [107] := by
 unfold isK at h
 split at h <;> first | (cases h; done) | skip
 rename_i x hx
 have : x.toNat = 107 := Nat.eq_of_beq_eq_true h
 rw [hx]
 congr 1
 exact UInt8.toNat_inj.1 this
def placeK : List A → Nat → Objs → Option CRes
 | [.v (.string s)], nx, o => bif isK s then some (1, .v (.int .i64 130), nx, o, []) else none
 | _, _, _ => none
theorem placeK_ok : TOk Tryd.prog 15 placeK := fun args nx o k x nx' o' ps h => by
 unfold placeK at h
 split at h <;> first | (cases h; done) | skip
 rename_i s
 cases hk : isK s with
 | false => rw [hk] at h; cases h
 | true =>
  rw [hk] at h
  cases h
  have e := isK_eq hk
  have h1 := merkle_place_c2 s (needs_cons (by rw [e]; decide) needs_nil)
  unfold merkle_place_r2 at h1
  rw [e, first_k] at h1
  have h2 := callOk_shift h1 (Nat.le_refl _) (by rfl) nx o
  exact ⟨fun _ => h2, [], rfl⟩
noncomputable def Cme0 := addC 15 placeK Ci
theorem Cme0_ok : COk Tryd.prog Cme0 := addC_ok placeK_ok Ci_ok
end Go.Proofs.YtkknpeeccejppaaDoor
namespace Go.Proofs.YtkknpeeccejppaaDoor
open Go.RowKit
noncomputable def Cmk1_1 := addC 13 (inl (envL Cme0) 1040 13) Cme0
theorem Cmk1_1_ok : COk Tryd.prog Cmk1_1 := addC_ok (inl_ok (envL_ok Cme0_ok) 1040 13) Cme0_ok
noncomputable def Cmk1_2 := addC 29 (inl (envL Cmk1_1) 1040 29) Cmk1_1
theorem Cmk1_2_ok : COk Tryd.prog Cmk1_2 := addC_ok (inl_ok (envL_ok Cmk1_1_ok) 1040 29) Cmk1_1_ok
noncomputable def Cmk1_3 := addC 44 (inl (envL Cmk1_2) 1040 44) Cmk1_2
theorem Cmk1_3_ok : COk Tryd.prog Cmk1_3 := addC_ok (inl_ok (envL_ok Cmk1_2_ok) 1040 44) Cmk1_2_ok
noncomputable def Cmk1_4 := addC 18 (inl (envL Cmk1_3) 1040 18) Cmk1_3
theorem Cmk1_4_ok : COk Tryd.prog Cmk1_4 := addC_ok (inl_ok (envL_ok Cmk1_3_ok) 1040 18) Cmk1_3_ok
noncomputable def Cmk1_5 := addC 19 (inl (envL Cmk1_4) 1040 19) Cmk1_4
theorem Cmk1_5_ok : COk Tryd.prog Cmk1_5 := addC_ok (inl_ok (envL_ok Cmk1_4_ok) 1040 19) Cmk1_4_ok
noncomputable def Cmk1_6 := addC 10 (inl (envL Cmk1_5) 1040 10) Cmk1_5
theorem Cmk1_6_ok : COk Tryd.prog Cmk1_6 := addC_ok (inl_ok (envL_ok Cmk1_5_ok) 1040 10) Cmk1_5_ok
noncomputable def Cmk1_7 := addC 23 (inl (envL Cmk1_6) 1040 23) Cmk1_6
theorem Cmk1_7_ok : COk Tryd.prog Cmk1_7 := addC_ok (inl_ok (envL_ok Cmk1_6_ok) 1040 23) Cmk1_6_ok
noncomputable def Cmk1_8 := addC 14 (inl (envL Cmk1_7) 1040 14) Cmk1_7
theorem Cmk1_8_ok : COk Tryd.prog Cmk1_8 := addC_ok (inl_ok (envL_ok Cmk1_7_ok) 1040 14) Cmk1_7_ok
noncomputable def Cmk1_9 := addC 7 (inl (envL Cmk1_8) 1040 7) Cmk1_8
theorem Cmk1_9_ok : COk Tryd.prog Cmk1_9 := addC_ok (inl_ok (envL_ok Cmk1_8_ok) 1040 7) Cmk1_8_ok
noncomputable def Cmk1_10 := addC 6 (inl (envL Cmk1_9) 1040 6) Cmk1_9
theorem Cmk1_10_ok : COk Tryd.prog Cmk1_10 := addC_ok (inl_ok (envL_ok Cmk1_9_ok) 1040 6) Cmk1_9_ok
noncomputable def Cmk1_11 := addC 20 (inl (envL Cmk1_10) 1040 20) Cmk1_10
theorem Cmk1_11_ok : COk Tryd.prog Cmk1_11 := addC_ok (inl_ok (envL_ok Cmk1_10_ok) 1040 20) Cmk1_10_ok
noncomputable def Cmk1_12 := addC 21 (inl (envL Cmk1_11) 1040 21) Cmk1_11
theorem Cmk1_12_ok : COk Tryd.prog Cmk1_12 := addC_ok (inl_ok (envL_ok Cmk1_11_ok) 1040 21) Cmk1_11_ok
noncomputable def Cmk1_13 := addC 11 (inl (envL Cmk1_12) 1040 11) Cmk1_12
theorem Cmk1_13_ok : COk Tryd.prog Cmk1_13 := addC_ok (inl_ok (envL_ok Cmk1_12_ok) 1040 11) Cmk1_12_ok
def l24_lives_r  : A := .v (.bool (true))
def l24_lives_o  : Objs := []
def l24_lives_ps  : List Prop := []
theorem l24_lives_ev  : evF (envT Cmk1_13 L0) 1040 5 [] 0 [] = some (1, l24_lives_r , 0, l24_lives_o , [(boundP (1 : Nat)), (boundP (1 : Nat)), (boundP (1 : Nat)), (true = true), (true = true), (true = true → true = true), (false = true → false = true), (true = true → true = true), (false = true → true = true), (false = true → false = true), (true = true), (true = true → true = true), (true = true → true = true), (false = true → false = true), (true = true → true = true), (false = true → true = true), (false = true → true = true), (false = true → false = true), (true = true), (true = true → true = true), (true = true → true = true), (false = true → false = true), (true = true → true = true), (false = true → true = true), (false = true → true = true), (false = true → false = true), (true = true), (boundP (1 : Nat)), (boundP (1 : Nat))]) := by kernel_rfl
theorem l24_lives_c  (_hp : ∀ p ∈ l24_lives_ps , p) : CallOk Tryd.prog 5 [] 0 [] 1 (l24_lives_r ) 0 (l24_lives_o ) := by
 have n0 : (boundP (1 : Nat)) := by first | rfl | decide +kernel
 have n3 : (true = true) := by first | rfl | decide +kernel
 have n5 : (true = true → true = true) := by first | rfl | decide +kernel
 have n6 : (false = true → false = true) := by first | rfl | decide +kernel
 have n8 : (false = true → true = true) := by first | rfl | decide +kernel
 exact evF_ok (envP_ok Cmk1_13_ok L0_ok) (l24_lives_ev ) (needs_cons n0 (needs_cons n0 (needs_cons n0 (needs_cons n3 (needs_cons n3 (needs_cons n5 (needs_cons n6 (needs_cons n5 (needs_cons n8 (needs_cons n6 (needs_cons n3 (needs_cons n5 (needs_cons n5 (needs_cons n6 (needs_cons n5 (needs_cons n8 (needs_cons n8 (needs_cons n6 (needs_cons n3 (needs_cons n5 (needs_cons n5 (needs_cons n6 (needs_cons n5 (needs_cons n8 (needs_cons n8 (needs_cons n6 (needs_cons n3 (needs_cons n0 (needs_cons n0 needs_nil)))))))))))))))))))))))))))))
def l24_lives_t : List A → Nat → Objs → Option CRes := rowK [] 0 l24_lives_r l24_lives_o l24_lives_ps
theorem l24_lives_tok : TOk Tryd.prog 5 l24_lives_t := rowK_ok (ks := []) l24_lives_c
end Go.Proofs.YtkknpeeccejppaaDoor
namespace Go.Proofs.YtkknpeeccejppaaDoor
open Go.RowKit
def eqC (a b : TCell) : Bool := a.stamp.n == b.stamp.n && a.stamp.site == b.stamp.site && (a.vec.a == b.vec.a && a.vec.b == b.vec.b) && a.gone == b.gone && a.value == b.value && (a.dead.a == b.dead.a && a.dead.b == b.dead.b)
def eqCs : List TCell → List TCell → Bool
 | [], [] => true
 | x :: xs, y :: ys => eqC x y && eqCs xs ys
 | _, _ => false
def eqRw (a b : TRow) : Bool := a.key == b.key && eqCs a.cells b.cells
def bareR (r : TRow) : Bool := r.cells.all fun c => eqC c zeroC
theorem eqC_iff {a b : TCell} : eqC a b = true ↔ a = b := by
 unfold eqC
 simp only [Bool.and_eq_true, beq_iff_eq]
 constructor
 ·rintro ⟨⟨⟨⟨⟨h1, h2⟩, h3, h4⟩, h5⟩, h6⟩, h7, h8⟩
  cases a with | mk s v g t d => cases b with | mk s' v' g' t' d' =>
  cases s; cases s'; cases v; cases v'; cases d; cases d'
  cases h1; cases h2; cases h3; cases h4; cases h5; cases h6; cases h7; cases h8
  rfl
 ·rintro rfl
  exact ⟨⟨⟨⟨⟨rfl, rfl⟩, rfl, rfl⟩, rfl⟩, rfl⟩, rfl, rfl⟩
theorem eqCs_iff : ∀ {a b : List TCell}, eqCs a b = true ↔ a = b
 | [], [] => by simp [eqCs]
 | [], _ :: _ => by simp [eqCs]
 | _ :: _, [] => by simp [eqCs]
 | x :: xs, y :: ys => by
  unfold eqCs
  rw [Bool.and_eq_true, eqC_iff, eqCs_iff]
  simp
theorem eqRw_iff {a b : TRow} : eqRw a b = true ↔ a = b := by
 unfold eqRw
 rw [Bool.and_eq_true, beq_iff_eq, eqCs_iff]
 cases a; cases b
 simp
theorem eqCs_N : ∀ (a b : List TCell), a.length = b.length → eqCs a b = allN a.length (fun i => eqC (a.getD i (dflt TC.cell)) (b.getD i (dflt TC.cell))) := fun a b h => by
 rw [Bool.eq_iff_iff, eqCs_iff, allN_iff]
 constructor
 ·rintro rfl i _
  exact eqC_iff.2 rfl
 ·intro g
  refine List.ext_getElem h fun i h1 h2 => ?_
  have := eqC_iff.1 (g i h1)
  rw [List.getD_eq_getElem?_getD, List.getD_eq_getElem?_getD, List.getElem?_eq_getElem h1, List.getElem?_eq_getElem h2] at this
  exact this
def r08_Same_0 (a0 : TCell) (a1 : TCell) : Bool := a0.1.1 == a1.1.1 && a0.1.2 == a1.1.2 && (a0.2.1 == a1.2.1 && a0.2.2 == a1.2.2) && a0.3 == a1.3 && a0.4.toList == a1.4.toList && (a0.5.1 == a1.5.1 && a0.5.2 == a1.5.2)
def r08_Same_r (a0 : TCell) (a1 : TCell) : A := .v (.bool (r08_Same_0 a0 a1))
def r08_Same_o (_a0 : TCell) (_a1 : TCell) : Objs := []
def r08_Same_ps (_a0 : TCell) (_a1 : TCell) : List Prop := []
theorem r08_Same_ev (a0 : TCell) (a1 : TCell) : evF (envT Ci L0) 9 30 [valA .cell a0, valA .cell a1] 0 [] = some (1, r08_Same_r a0 a1, 0, r08_Same_o a0 a1, r08_Same_ps a0 a1) := by kernel_rfl
theorem r08_Same_c (a0 : TCell) (a1 : TCell) (hp : ∀ p ∈ r08_Same_ps a0 a1, p) : CallOk Tryd.prog 30 [valA .cell a0, valA .cell a1] 0 [] 1 (r08_Same_r a0 a1) 0 (r08_Same_o a0 a1) := evF_ok (envP_ok Ci_ok L0_ok) (r08_Same_ev a0 a1) hp
def r08_Same_r2 (a0 : TCell) (a1 : TCell) : A := .v (.bool (eqC a0 a1))
def r08_Same_o2 (_a0 : TCell) (_a1 : TCell) : Objs := []
def r08_Same_ps2 (_a0 : TCell) (_a1 : TCell) : List Prop := []
theorem r08_Same_c2 (a0 : TCell) (a1 : TCell) (_hp : ∀ p ∈ r08_Same_ps2 a0 a1, p) : CallOk Tryd.prog 30 [valA .cell a0, valA .cell a1] 0 [] 1 (r08_Same_r2 a0 a1) 0 (r08_Same_o2 a0 a1) := by
 have h := r08_Same_c a0 a1 (fun _ h => by cases h)
 have e : r08_Same_0 a0 a1 = eqC a0 a1 := by unfold r08_Same_0; rw [tlb]; rfl
 unfold r08_Same_r at h
 rw [e] at h
 exact h
def r08_Same_t : List A → Nat → Objs → Option CRes := rowK [.t .cell, .t .cell] 0 r08_Same_r2 r08_Same_o2 r08_Same_ps2
theorem r08_Same_tok : TOk Tryd.prog 30 r08_Same_t := rowK_ok (ks := [.t .cell, .t .cell]) r08_Same_c2
noncomputable def Cj_1 := addC 30 r08_Same_t Ci
theorem Cj_1_ok : COk Tryd.prog Cj_1 := addC_ok r08_Same_tok Ci_ok
abbrev r10_Same_l0_X : Type := Int × TRow × TRow
def r10_Same_l0_T (x : r10_Same_l0_X) : St := ⟨39, 2, [(2, .own 0 0), (3, .own 1 0), (5, .v (.int .i64 x.1))], [(0, some (.box 38 [.v (.string x.2.1.key), .sl .cell x.2.1.cells])), (1, some (.box 38 [.v (.string x.2.2.key), .sl .cell x.2.2.cells]))]⟩
def r10_Same_l0_un : St → Option r10_Same_l0_X
 | ⟨39, 2, [(2, .own 0 0), (3, .own 1 0), (5, .v (.int .i64 z0))], [(0, some (.box 38 [.v (.string z1), .sl .cell z2])), (1, some (.box 38 [.v (.string z3), .sl .cell z4]))]⟩ => some (z0, ⟨z1, z2⟩, ⟨z3, z4⟩)
 | _ => none
theorem r10_Same_l0_unok : ∀ s x, r10_Same_l0_un s = some x → s = r10_Same_l0_T x := fun s x h => by
 unfold r10_Same_l0_un at h
 split at h
 ·cases h; rfl
 ·cases h
def r10_Same_l0_S : Shape := ⟨2, 2, [2, 3, 5], [], [(0, 0), (1, 1)], [0, 1], [4], [0, 1]⟩
def r10_Same_l0_E : Entry := ⟨[], [(0, 0), (1, 1)], [2, 3, 5], [0, 1]⟩
def r10_Same_l0_f_k1 (a0 : Int) (a1 : TRow) (_a2 : TRow) : Bool := !!decide (a0 < (↑a1.2.length : Int))
def r10_Same_l0_f_k0 (a0 : Int) (a1 : TRow) (a2 : TRow) : Bool := (r10_Same_l0_f_k1 a0 a1 a2) && !eqC (a1.2.getD a0.toNat (dflt TC.cell)) (a2.2.getD a0.toNat (dflt TC.cell))
def r10_Same_l0_f_3 (a0 : Int) (a1 : TRow) (a2 : TRow) : Bool := (r10_Same_l0_f_k1 a0 a1 a2) && !(r10_Same_l0_f_k0 a0 a1 a2)
def r10_Same_l0_next (x : r10_Same_l0_X) : r10_Same_l0_X := (IntKind.i64.wrap (x.1 + (1 : Int)), x.2.1, x.2.2)
def r10_Same_l0_goes (x : r10_Same_l0_X) : Cnd := some (r10_Same_l0_f_3 x.1 x.2.1 x.2.2)
def r10_Same_l0_psA (x : r10_Same_l0_X) : List Prop := [((r10_Same_l0_f_k1 x.1 x.2.1 x.2.2) = true → (0 : Int) ≤ x.1 ∧ x.1 < (↑x.2.1.2.length : Int)), ((r10_Same_l0_f_k1 x.1 x.2.1 x.2.2) = true → (0 : Int) ≤ x.1 ∧ x.1 < (↑x.2.2.2.length : Int))]
abbrev r10_Same_l0_ps : r10_Same_l0_X → List Prop := r10_Same_l0_psA
def r10_Same_l0_outs (x : r10_Same_l0_X) : Outs := [(some 0, some (!decide (x.1 < (↑x.2.1.2.length : Int))), ⟨39, 2, [(4, .dead)], [(0, some (.box 38 [.v (.string x.2.1.1), .sl .cell x.2.1.2])), (1, some (.box 38 [.v (.string x.2.2.1), .sl .cell x.2.2.2]))]⟩), (none, some ((r10_Same_l0_f_k0 x.1 x.2.1 x.2.2)), ⟨39, 2, [(4, .v (.bool (false)))], [(0, some (.box 38 [.v (.string x.2.1.1), .sl .cell x.2.1.2])), (1, some (.box 38 [.v (.string x.2.2.1), .sl .cell x.2.2.2]))]⟩)]
def r10_Same_l0_fuel (x : r10_Same_l0_X) : Nat := ((↑x.2.1.2.length : Int) - x.1).toNat
def r10_Same_l0_run (x : r10_Same_l0_X) : r10_Same_l0_X := iterX r10_Same_l0_next r10_Same_l0_goes (r10_Same_l0_fuel x) x
theorem r10_Same_l0_ev (a0 : Int) (a1 : TRow) (a2 : TRow) : roundE (envT Cj_1 L0) 9 (loopAt Tryd.prog 22 0) r10_Same_l0_S (r10_Same_l0_T (a0, a1, a2)) = some (r10_Same_l0_psA (a0, a1, a2), r10_Same_l0_outs (a0, a1, a2), r10_Same_l0_goes (a0, a1, a2), r10_Same_l0_T (r10_Same_l0_next (a0, a1, a2))) := by kernel_rfl
theorem r10_Same_l0_hA (a0 : Int) (a1 : TRow) (a2 : TRow) (hp : ∀ p ∈ r10_Same_l0_ps (a0, a1, a2), p) : ∀ p ∈ r10_Same_l0_psA (a0, a1, a2), p := hp
noncomputable def r10_Same_l0_row := rowL (envT Cj_1 L0) (loopAt Tryd.prog 22 0) r10_Same_l0_S r10_Same_l0_E r10_Same_l0_un r10_Same_l0_fuel r10_Same_l0_next r10_Same_l0_goes r10_Same_l0_ps r10_Same_l0_outs
theorem r10_Same_l0_rok : ∀ s b ps outs, r10_Same_l0_row s = some (b, ps, outs) → Wf s ⟨ps, outs, none⟩ ∧ LoopOk (envT C0 L0) b s ps outs :=
 rowP_ok (T := r10_Same_l0_T) Cj_1_ok L0_ok (u := 9) (by kernel_rfl) (by decide) (fun ⟨a0, a1, a2⟩ => r10_Same_l0_ev a0 a1 a2) (fun ⟨a0, a1, a2⟩ => r10_Same_l0_hA a0 a1 a2) r10_Same_l0_unok (fun _ => okOuts_ok (n := 39) rfl) fun _ _ => rfl
noncomputable def r10_Same_l0_L := addLp 0 r10_Same_l0_row L0
theorem r10_Same_l0_Lok : LpOk r10_Same_l0_L := addLp_ok r10_Same_l0_rok L0_ok
def r10_Same_k1 (a0 : TRow) (a1 : TRow) : r10_Same_l0_X := r10_Same_l0_run ((0 : Int), a0, a1)
def r10_Same_k0 (a0 : TRow) (a1 : TRow) : Bool := !a0.1.toList == a1.1.toList || (↑a0.2.length : Int) != (↑a1.2.length : Int)
def r10_Same_0 (a0 : TRow) (a1 : TRow) : Bool := bif (r10_Same_k0 a0 a1) then false else bif r10_Same_l0_f_k0 (r10_Same_k1 a0 a1).fst (r10_Same_k1 a0 a1).snd.fst (r10_Same_k1 a0 a1).snd.snd then false else true
def r10_Same_r (a0 : TRow) (a1 : TRow) : A := .v (.bool (r10_Same_0 a0 a1))
def r10_Same_o (_a0 : TRow) (_a1 : TRow) : Objs := []
def r10_Same_ps (a0 : TRow) (a1 : TRow) : List Prop := [((!(r10_Same_k0 a0 a1)) = true → needX r10_Same_l0_next r10_Same_l0_goes r10_Same_l0_ps (r10_Same_l0_fuel ((0 : Int), a0, a1)) ((0 : Int), a0, a1))]
theorem r10_Same_ev (a0 : TRow) (a1 : TRow) : evF (envT Cj_1 r10_Same_l0_L) 9 22 [valA .row a0, valA .row a1] 0 [] = some (1, r10_Same_r a0 a1, 0, r10_Same_o a0 a1, [((!(r10_Same_k0 a0 a1)) = true → loopAt Tryd.prog (22 : FuncId) (0 : Nat) = loopAt Tryd.prog (22 : FuncId) (0 : Nat)), ((!(r10_Same_k0 a0 a1)) = true → needX r10_Same_l0_next r10_Same_l0_goes r10_Same_l0_ps (r10_Same_l0_fuel ((0 : Int), a0, a1)) ((0 : Int), a0, a1))]) := by kernel_rfl
theorem r10_Same_c (a0 : TRow) (a1 : TRow) (hp : ∀ p ∈ r10_Same_ps a0 a1, p) : CallOk Tryd.prog 22 [valA .row a0, valA .row a1] 0 [] 1 (r10_Same_r a0 a1) 0 (r10_Same_o a0 a1) := by
 have n0 : ((!(r10_Same_k0 a0 a1)) = true → loopAt Tryd.prog (22 : FuncId) (0 : Nat) = loopAt Tryd.prog (22 : FuncId) (0 : Nat)) := by intros; rfl
 have n1 := N0 hp
 exact evF_ok (envP_ok Cj_1_ok r10_Same_l0_Lok) (r10_Same_ev a0 a1) (needs_cons n0 (needs_cons n1 needs_nil))
def r10_Same_r2 (a0 : TRow) (a1 : TRow) : A := .v (.bool (eqRw a0 a1))
def r10_Same_o2 (_a0 : TRow) (_a1 : TRow) : Objs := []
def r10_Same_ps2 (a0 : TRow) (_a1 : TRow) : List Prop := [boundP a0.cells.length]
theorem r10_Same_eq (a b : TRow) (hb : boundP a.cells.length) : (∀ p ∈ r10_Same_ps a b, p) ∧ r10_Same_0 a b = eqRw a b := by
 unfold boundP at hb
 have hk0 : r10_Same_k0 a b = (!(a.key == b.key) || a.cells.length != b.cells.length) := by
  show (!(a.key.toList == b.key.toList) || ((a.cells.length : Int) != (b.cells.length : Int))) = _
  rw [tlb]
  congr 1
  rw [Bool.eq_iff_iff, bne_iff_ne, bne_iff_ne]; omega
 have main : r10_Same_k0 a b = false → needX r10_Same_l0_next r10_Same_l0_goes r10_Same_l0_ps (r10_Same_l0_fuel (0, a, b)) (0, a, b) ∧ r10_Same_l0_f_k0 (r10_Same_k1 a b).fst (r10_Same_k1 a b).snd.fst (r10_Same_k1 a b).snd.snd = !eqCs a.cells b.cells := fun h0 => by
  rw [hk0] at h0
  have hlen : a.cells.length = b.cells.length := by simpa using (Bool.or_eq_false_iff.1 h0).2
  have hf : ∀ i : Nat, r10_Same_l0_f_k0 (i : Int) a b = (decide (i < a.cells.length) && !eqC (a.2.getD i (dflt TC.cell)) (b.2.getD i (dflt TC.cell))) := fun i => by
   unfold r10_Same_l0_f_k0 r10_Same_l0_f_k1
   rw [nn, dlt, Int.toNat_natCast]
  obtain ⟨h1, k, hk, hx, _, _, hb'⟩ := scanB (fun i => (((i : Int), a, b) : r10_Same_l0_X)) a.cells.length (fun i => !eqC (a.2.getD i (dflt TC.cell)) (b.2.getD i (dflt TC.cell))) r10_Same_l0_next r10_Same_l0_goes r10_Same_l0_ps (r10_Same_l0_fuel (0, a, b)) (0, a, b) rfl (by show a.cells.length ≤ ((a.cells.length : Int) - 0).toNat; omega)
   (fun i _ _ => by
    show ((!!decide ((i : Int) < (a.cells.length : Int))) && !r10_Same_l0_f_k0 i a b) = _
    rw [hf, nn, dlt]
    cases decide (i < a.cells.length) <;> rfl)
   (fun i hi _ => by
    show (IntKind.i64.wrap ((i : Int) + 1), a, b) = (((i + 1 : Nat) : Int), a, b)
    rw [wsucc (by omega)])
   (fun i _ _ => by
    have hin : (!!decide ((i : Int) < (a.cells.length : Int))) = true → (i : Int) < (a.cells.length : Int) := fun h => by rw [nn] at h; exact of_decide_eq_true h
    exact needs_cons (fun h => ⟨by show (0 : Int) ≤ (i : Int); omega, hin h⟩) (needs_cons (fun h => ⟨by show (0 : Int) ≤ (i : Int); omega, by have := hin h; show (i : Int) < (b.cells.length : Int); omega⟩) needs_nil))
  refine ⟨h1, ?_⟩
  have hr : r10_Same_k1 a b = ((k : Int), a, b) := hx
  rw [hr]
  show r10_Same_l0_f_k0 (k : Int) a b = _
  rw [hf, hb', eqCs_N _ _ hlen]
  congr 1
  exact allN_congr fun i _ => Bool.not_not _
 refine ⟨needs_cons (fun h => (main (by simpa using h)).1) needs_nil, ?_⟩
 unfold r10_Same_0 eqRw
 cases h0 : r10_Same_k0 a b with
 | true =>
  rw [hk0] at h0
  rw [cond_true]
  cases hk : a.key == b.key with
  | false => rfl
  | true =>
   rw [hk] at h0
   have hne : a.cells.length ≠ b.cells.length := by simpa using h0
   cases he : eqCs a.cells b.cells with
   | false => rfl
   | true => exact absurd (congrArg List.length (eqCs_iff.1 he)) hne
 | false =>
  rw [cond_false, (main h0).2]
  rw [hk0] at h0
  have : (a.key == b.key) = true := by simpa using (Bool.or_eq_false_iff.1 h0).1
  rw [this, Bool.true_and]
  cases eqCs a.cells b.cells <;> rfl
theorem r10_Same_c2 (a0 : TRow) (a1 : TRow) (hp : ∀ p ∈ r10_Same_ps2 a0 a1, p) : CallOk Tryd.prog 22 [valA .row a0, valA .row a1] 0 [] 1 (r10_Same_r2 a0 a1) 0 (r10_Same_o2 a0 a1) := by
 have hb : boundP a0.cells.length := hp _ (List.mem_cons_self ..)
 have h := r10_Same_c a0 a1 (r10_Same_eq a0 a1 hb).1
 unfold r10_Same_r at h
 rw [(r10_Same_eq a0 a1 hb).2] at h
 exact h
def r10_Same_t : List A → Nat → Objs → Option CRes := rowK [.t .row, .t .row] 0 r10_Same_r2 r10_Same_o2 r10_Same_ps2
theorem r10_Same_tok : TOk Tryd.prog 22 r10_Same_t := rowK_ok (ks := [.t .row, .t .row]) r10_Same_c2
noncomputable def Cj_2 := addC 22 r10_Same_t Cj_1
theorem Cj_2_ok : COk Tryd.prog Cj_2 := addC_ok r10_Same_tok Cj_1_ok
abbrev row_Bare_l0_X : Type := (List TCell) × Int × Int
def row_Bare_l0_T (x : row_Bare_l0_X) : St := ⟨16, 1, [(6, .sl .cell x.1), (7, .v (.int .i64 x.2.1)), (8, .v (.int .i64 x.2.2))], []⟩
def row_Bare_l0_un : St → Option row_Bare_l0_X
 | ⟨16, 1, [(6, .sl .cell z0), (7, .v (.int .i64 z1)), (8, .v (.int .i64 z2))], []⟩ => some (z0, z1, z2)
 | _ => none
theorem row_Bare_l0_unok : ∀ s x, row_Bare_l0_un s = some x → s = row_Bare_l0_T x := fun s x h => by
 unfold row_Bare_l0_un at h
 split at h
 ·cases h; rfl
 ·cases h
def row_Bare_l0_S : Shape := ⟨1, 1, [6, 7, 8], [], [], [], [2], []⟩
def row_Bare_l0_E : Entry := ⟨[], [], [6, 7, 8], []⟩
def row_Bare_l0_f_k0 (a0 : List TCell) (a1 : Int) (a2 : Int) : Bool := !!decide (a2 < a1) && !((a0.getD a2.toNat (dflt TC.cell)).1.1 == (0 : Int) && (a0.getD a2.toNat (dflt TC.cell)).1.2 == (0 : Int) && ((a0.getD a2.toNat (dflt TC.cell)).2.1 == (0 : Int) && (a0.getD a2.toNat (dflt TC.cell)).2.2 == (0 : Int) && ((a0.getD a2.toNat (dflt TC.cell)).3 == false && ((a0.getD a2.toNat (dflt TC.cell)).4.toList == (ByteArray.mk #[]).toList && ((a0.getD a2.toNat (dflt TC.cell)).5.1 == (0 : Int) && (a0.getD a2.toNat (dflt TC.cell)).5.2 == (0 : Int))))))
def row_Bare_l0_f_3 (a0 : List TCell) (a1 : Int) (a2 : Int) : Bool := !!decide (a2 < a1) && !(row_Bare_l0_f_k0 a0 a1 a2)
def row_Bare_l0_next (x : row_Bare_l0_X) : row_Bare_l0_X := (x.1, x.2.1, IntKind.i64.wrap (x.2.2 + (1 : Int)))
def row_Bare_l0_goes (x : row_Bare_l0_X) : Cnd := some (row_Bare_l0_f_3 x.1 x.2.1 x.2.2)
def row_Bare_l0_psA (x : row_Bare_l0_X) : List Prop := [((!!decide (x.2.2 < x.2.1)) = true → (0 : Int) ≤ x.2.2 ∧ x.2.2 < (↑x.1.length : Int))]
abbrev row_Bare_l0_ps : row_Bare_l0_X → List Prop := row_Bare_l0_psA
def row_Bare_l0_outs (x : row_Bare_l0_X) : Outs := [(some 0, some (!decide (x.2.2 < x.2.1)), ⟨16, 1, [(2, .dead)], []⟩), (none, some ((row_Bare_l0_f_k0 x.1 x.2.1 x.2.2)), ⟨16, 2, [(2, .v (.bool (false)))], []⟩)]
def row_Bare_l0_fuel (x : row_Bare_l0_X) : Nat := (x.2.1 - x.2.2).toNat
def row_Bare_l0_run (x : row_Bare_l0_X) : row_Bare_l0_X := iterX row_Bare_l0_next row_Bare_l0_goes (row_Bare_l0_fuel x) x
theorem row_Bare_l0_ev (a0 : List TCell) (a1 : Int) (a2 : Int) : roundE (envT Cj_2 L0) 9 (loopAt Tryd.prog 29 0) row_Bare_l0_S (row_Bare_l0_T (a0, a1, a2)) = some (row_Bare_l0_psA (a0, a1, a2), row_Bare_l0_outs (a0, a1, a2), row_Bare_l0_goes (a0, a1, a2), row_Bare_l0_T (row_Bare_l0_next (a0, a1, a2))) := by kernel_rfl
theorem row_Bare_l0_hA (a0 : List TCell) (a1 : Int) (a2 : Int) (hp : ∀ p ∈ row_Bare_l0_ps (a0, a1, a2), p) : ∀ p ∈ row_Bare_l0_psA (a0, a1, a2), p := hp
noncomputable def row_Bare_l0_row := rowL (envT Cj_2 L0) (loopAt Tryd.prog 29 0) row_Bare_l0_S row_Bare_l0_E row_Bare_l0_un row_Bare_l0_fuel row_Bare_l0_next row_Bare_l0_goes row_Bare_l0_ps row_Bare_l0_outs
theorem row_Bare_l0_rok : ∀ s b ps outs, row_Bare_l0_row s = some (b, ps, outs) → Wf s ⟨ps, outs, none⟩ ∧ LoopOk (envT C0 L0) b s ps outs :=
 rowP_ok (T := row_Bare_l0_T) Cj_2_ok L0_ok (u := 9) (by kernel_rfl) (by decide) (fun ⟨a0, a1, a2⟩ => row_Bare_l0_ev a0 a1 a2) (fun ⟨a0, a1, a2⟩ => row_Bare_l0_hA a0 a1 a2) row_Bare_l0_unok (fun _ => okOuts_ok (n := 16) rfl) fun _ _ => rfl
noncomputable def row_Bare_l0_L := addLp 0 row_Bare_l0_row L0
theorem row_Bare_l0_Lok : LpOk row_Bare_l0_L := addLp_ok row_Bare_l0_rok L0_ok
def row_Bare_k0 (a0 : TRow) : row_Bare_l0_X := row_Bare_l0_run (a0.2, (↑a0.2.length : Int), (0 : Int))
def row_Bare_0 (a0 : TRow) : Bool := bif row_Bare_l0_f_k0 (row_Bare_k0 a0).fst (row_Bare_k0 a0).snd.fst (row_Bare_k0 a0).snd.snd then false else true
def row_Bare_r (a0 : TRow) : A := .v (.bool (row_Bare_0 a0))
def row_Bare_o (_a0 : TRow) : Objs := []
def row_Bare_ps (a0 : TRow) : List Prop := [(needX row_Bare_l0_next row_Bare_l0_goes row_Bare_l0_ps (row_Bare_l0_fuel (a0.2, (↑a0.2.length : Int), (0 : Int))) (a0.2, (↑a0.2.length : Int), (0 : Int)))]
theorem row_Bare_ev (a0 : TRow) : evF (envT Cj_2 row_Bare_l0_L) 9 29 [valA .row a0] 0 [] = some (1, row_Bare_r a0, 0, row_Bare_o a0, [(loopAt Tryd.prog (29 : FuncId) (0 : Nat) = loopAt Tryd.prog (29 : FuncId) (0 : Nat)), (needX row_Bare_l0_next row_Bare_l0_goes row_Bare_l0_ps (row_Bare_l0_fuel (a0.2, (↑a0.2.length : Int), (0 : Int))) (a0.2, (↑a0.2.length : Int), (0 : Int)))]) := by kernel_rfl
theorem row_Bare_c (a0 : TRow) (hp : ∀ p ∈ row_Bare_ps a0, p) : CallOk Tryd.prog 29 [valA .row a0] 0 [] 1 (row_Bare_r a0) 0 (row_Bare_o a0) := by
 have n1 := N0 hp
 exact evF_ok (envP_ok Cj_2_ok row_Bare_l0_Lok) (row_Bare_ev a0) (needs_cons rfl (needs_cons n1 needs_nil))
def row_Bare_r2 (a0 : TRow) : A := .v (.bool (bareR a0))
def row_Bare_o2 (_a0 : TRow) : Objs := []
def row_Bare_ps2 (a0 : TRow) : List Prop := [boundP a0.cells.length]
theorem row_Bare_eq (a : TRow) (hb : boundP a.cells.length) : (∀ p ∈ row_Bare_ps a, p) ∧ row_Bare_0 a = bareR a := by
 unfold boundP at hb
 have hz : ∀ c : TCell, (c.1.1 == (0 : Int) && c.1.2 == (0 : Int) && (c.2.1 == (0 : Int) && c.2.2 == (0 : Int) && (c.3 == false && (c.4.toList == (ByteArray.mk #[]).toList && (c.5.1 == (0 : Int) && c.5.2 == (0 : Int)))))) = eqC c zeroC := fun c => by
  rw [tlb]
  unfold eqC zeroC
  simp only [Bool.and_assoc]
 have hf : ∀ i : Nat, row_Bare_l0_f_k0 a.2 (a.2.length : Int) (i : Int) = (decide (i < a.cells.length) && !eqC (a.2.getD i (dflt TC.cell)) zeroC) := fun i => by
  unfold row_Bare_l0_f_k0
  rw [nn, dlt, Int.toNat_natCast, hz]
 obtain ⟨h1, k, hk, hx, _, _, hb'⟩ := scanB (fun i => ((a.2, (a.2.length : Int), (i : Int)) : row_Bare_l0_X)) a.cells.length (fun i => !eqC (a.2.getD i (dflt TC.cell)) zeroC) row_Bare_l0_next row_Bare_l0_goes row_Bare_l0_ps (row_Bare_l0_fuel (a.2, (a.2.length : Int), 0)) (a.2, (a.2.length : Int), 0) rfl (by show a.cells.length ≤ ((a.cells.length : Int) - 0).toNat; omega)
  (fun i _ _ => by
   show ((!!decide ((i : Int) < (a.cells.length : Int))) && !row_Bare_l0_f_k0 a.2 (a.2.length : Int) i) = _
   rw [hf, nn, dlt]
   cases decide (i < a.cells.length) <;> rfl)
  (fun i hi _ => by
   show (a.2, (a.2.length : Int), IntKind.i64.wrap ((i : Int) + 1)) = (a.2, (a.2.length : Int), ((i + 1 : Nat) : Int))
   rw [wsucc (by omega)])
  (fun i _ _ => needs_cons (fun h => ⟨by show (0 : Int) ≤ (i : Int); omega, by
   have h' : (!!decide ((i : Int) < (a.cells.length : Int))) = true := h
   rw [nn] at h'; exact of_decide_eq_true h'⟩) needs_nil)
 refine ⟨needs_cons h1 needs_nil, ?_⟩
 have hr : row_Bare_k0 a = (a.2, (a.2.length : Int), (k : Int)) := hx
 unfold row_Bare_0
 rw [hr]
 show (bif row_Bare_l0_f_k0 a.2 (a.2.length : Int) (k : Int) then false else true) = _
 rw [hf, hb']
 unfold bareR
 rw [all_N a.cells (dflt TC.cell)]
 rw [show allN a.cells.length (fun i => !!eqC (a.2.getD i (dflt TC.cell)) zeroC) = allN a.cells.length (fun i => eqC (a.cells.getD i (dflt TC.cell)) zeroC) from allN_congr fun i _ => Bool.not_not _]
 cases allN a.cells.length (fun i => eqC (a.cells.getD i (dflt TC.cell)) zeroC) <;> rfl
theorem row_Bare_c2 (a0 : TRow) (hp : ∀ p ∈ row_Bare_ps2 a0, p) : CallOk Tryd.prog 29 [valA .row a0] 0 [] 1 (row_Bare_r2 a0) 0 (row_Bare_o2 a0) := by
 have hb : boundP a0.cells.length := hp _ (List.mem_cons_self ..)
 have h := row_Bare_c a0 (row_Bare_eq a0 hb).1
 unfold row_Bare_r at h
 rw [(row_Bare_eq a0 hb).2] at h
 exact h
def row_Bare_t : List A → Nat → Objs → Option CRes := rowK [.t .row] 0 row_Bare_r2 row_Bare_o2 row_Bare_ps2
theorem row_Bare_tok : TOk Tryd.prog 29 row_Bare_t := rowK_ok (ks := [.t .row]) row_Bare_c2
noncomputable def Cj_3 := addC 29 row_Bare_t Cj_2
theorem Cj_3_ok : COk Tryd.prog Cj_3 := addC_ok row_Bare_tok Cj_2_ok
noncomputable def Cj := Cj_3
theorem Cj_ok : COk Tryd.prog Cj := Cj_3_ok
end Go.Proofs.YtkknpeeccejppaaDoor
