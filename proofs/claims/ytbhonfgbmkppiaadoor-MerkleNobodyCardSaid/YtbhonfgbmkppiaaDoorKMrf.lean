/- made by a program (rowgen.py): MerkleNobody: for every input the law returns true, and each argument reads behind the call as it read before. -/
import Derived.Test.YtbhonfgbmkppiaaDoorKMre
import Derived.Test.YtbhonfgbmkppiaaDoorRows

set_option maxRecDepth 100000
namespace Go.Proofs.YtbhonfgbmkppiaaDoor
open Go.RowKit
def goodRow (l : List TGroup) (r : TRow) : Int := bif goodP l != 0 then goodP l else bif r.key.size == 0 then 2 else bif decide (32 < r.key.size) then 3 else bif r.cells.length != l.length then 100 else bif (l.zip r.cells).all (fun x => goodC x.1.policy x.2) then 0 else 80
def row_Good_r2 (a0 : List TGroup) (a1 : TRow) : A := .v (.int .i64 (goodRow a0 a1))
def row_Good_o2 (_a0 : List TGroup) (_a1 : TRow) : Objs := []
def row_Good_ps2 (_a0 : List TGroup) (_a1 : TRow) : List Prop := []
theorem isEmpty_size (k : ByteArray) : k.toList.isEmpty = (k.size == 0) := by
 rw [ByteArray.toList_eq, Bool.eq_iff_iff, List.isEmpty_iff, beq_iff_eq, ← size_data]
 exact ⟨fun h => by rw [h]; rfl, fun h => List.eq_nil_of_length_eq_zero h⟩
theorem goodR_eq (l : List TGroup) (key : ByteArray) (cs : List TCell) : goodR (goodP l) goodC l key cs = goodRow l ⟨key, cs⟩ := by
 unfold goodR goodRow
 rw [isEmpty_size]
 have e3 : decide (32 < ((key.size : Nat) : Int)) = decide (32 < key.size) := decide_eq_decide.2 (by omega)
 have e4 : (((cs.length : Nat) : Int) != (l.length : Int)) = (cs.length != l.length) := by
  rw [Bool.eq_iff_iff, bne_iff_ne, bne_iff_ne]; omega
 simp only [Bool.cond_eq_ite, e4, decide_eq_true_eq, show (32 < ((key.size : Nat) : Int)) = (32 < key.size) from propext (by omega)]
theorem spot_none {R : World} {ad : Addr} {v : Value} (h : R.cell? ad = some v) : ad = ⟨ad.block, ad.off, none⟩ := by
 cases ad with | mk b o s =>
 cases s with
 | none => rfl
 | some q =>
  exfalso
  unfold World.cell? at h
  cases hb : R.heap[b]? with
  | none => simp only [hb] at h; cases h
  | some ob => cases ob <;> simp [hb] at h
theorem add_num (b o k j : Nat) : ((⟨b, o, none⟩ : Addr).add k).add j = ⟨b, o + k + j, none⟩ := by
 rw [add_mk, add_mk]
section
variable {F : Nat → Prop} {N : Nm} {nx : Nat} {R : World}
theorem HC.at0 {l : List A} {b o k j : Nat} {x : Value} (h : HC F N nx R l ((⟨b, o, none⟩ : Addr).add k)) (hx : l[j]? = some (.v x)) : R.cell? ⟨b, o + k + j, none⟩ = some x := by
 obtain ⟨y, h1, h2⟩ := h j _ hx
 rw [add_num] at h1
 rw [h1, h2.v_inv]
theorem gs_at {gs : List TGroup} {v : Value} (hF : ∀ g, F g → g < R.heap.size) (h : Hv F N nx R (.sl .group gs) v) :
  ∃ a cap, v = .slice a gs.length cap ∧ (0 < gs.length → ∃ b off, a = some ⟨b, off, none⟩ ∧ GsAt R.heap.size R.heap.size R b off gs) := by
 obtain ⟨a, cap, e, _, h2⟩ := h.sl_inv
 refine ⟨a, cap, e, fun hn => ?_⟩
 obtain ⟨ad, rfl, hb, h3⟩ := h2 hn
 have hlt := hF _ hb
 obtain ⟨y, hy, _⟩ := h3 0 gs[0] (List.getElem?_eq_getElem hn) 0 (.v (.string gs[0].name)) rfl
 rw [Nat.zero_mul, add_zero, add_zero] at hy
 have hs := spot_none hy
 rw [hs] at h3 ⊢
 refine ⟨ad.block, ad.off, rfl, ⟨hlt, Nat.ne_of_lt hlt⟩, fun j g hj => ?_⟩
 have h4 := h3 j g hj
 exact ⟨h4.at0 (j := 0) (x := .string g.name) rfl, h4.at0 (j := 1) (x := .int .i64 g.policy) rfl⟩
theorem cs_at {cs : List TCell} {v : Value} (hF : ∀ g, F g → g < R.heap.size) (h : Hv F N nx R (.sl .cell cs) v) :
  ∃ a cap, v = .slice a cs.length cap ∧ (0 < cs.length → ∃ b off, a = some ⟨b, off, none⟩ ∧ CsAt R.heap.size R.heap.size R b off cs) := by
 obtain ⟨a, cap, e, _, h2⟩ := h.sl_inv
 refine ⟨a, cap, e, fun hn => ?_⟩
 obtain ⟨ad, rfl, hb, h3⟩ := h2 hn
 have hlt := hF _ hb
 obtain ⟨y, hy, _⟩ := h3 0 cs[0] (List.getElem?_eq_getElem hn) 0 (.v (.int .i64 cs[0].stamp.n)) rfl
 rw [Nat.zero_mul, add_zero, add_zero] at hy
 have hs := spot_none hy
 rw [hs] at h3 ⊢
 refine ⟨ad.block, ad.off, rfl, ⟨hlt, Nat.ne_of_lt hlt⟩, fun j c hj => ?_⟩
 have h4 := h3 j c hj
 exact ⟨h4.at0 (j := 0) (x := .int .i64 c.stamp.n) rfl, h4.at0 (j := 1) (x := .int .i64 c.stamp.site) rfl, h4.at0 (j := 2) (x := .int .i64 c.vec.a) rfl, h4.at0 (j := 3) (x := .int .i64 c.vec.b) rfl, h4.at0 (j := 4) (x := .bool c.gone) rfl, h4.at0 (j := 5) (x := .string c.value) rfl, h4.at0 (j := 6) (x := .int .i64 c.dead.a) rfl, h4.at0 (j := 7) (x := .int .i64 c.dead.b) rfl⟩
theorem HRel.bare (hF : ∀ g, F g → g < R.heap.size) (hg : GlobOk F R) : HRel F N 0 [] R := ⟨hF, fun _ _ h => (by cases h), fun _ _ _ h => (by cases h), fun _ _ _ _ _ h => (by cases h), hg⟩
end
theorem CallOk.plain {P : Program} {f : FuncId} {args : List A} {x : Value} (h : CallOk P f args 0 [] 1 (.v x) 0 []) {F : Nat → Prop} {N : Nm} {R : World} {vs : List Value} (hF : ∀ g, F g → g < R.heap.size) (hg : GlobOk F R) (hv : HL F N 0 R args vs) :
  Calls P f vs.toArray R fun e R' => e = .returned x ∧ Below R.heap.size R R' :=
 (h F N R vs (HRel.bare hF hg) hv).mono fun e R' ⟨y, F', N', e1, _, _, h4, h5⟩ => ⟨by rw [e1, h4.v_inv], h5 (Nat.le_refl _)⟩
theorem row_Good_c2 (a0 : List TGroup) (a1 : TRow) (_hp : ∀ p ∈ row_Good_ps2 a0 a1, p) : CallOk Tryd.prog 71 [.sl .group a0, valA .row a1] 0 [] 1 (row_Good_r2 a0 a1) 0 (row_Good_o2 a0 a1) := by
 intro F N R vs hR hv
 obtain ⟨v0, vs, rfl, h0, hv⟩ := hv.inv
 obtain ⟨v1, vs, rfl, h1, hv⟩ := hv.inv
 rw [hv.inv0]
 obtain ⟨us, rfl, h2⟩ := Hv.agg_inv (xs := [.v (.string a1.key), .sl .cell a1.cells]) h1
 clear h1
 have h1 := h2
 obtain ⟨u0, us, rfl, k0, h1⟩ := h1.inv
 obtain ⟨u1, us, rfl, k1, h1⟩ := h1.inv
 rw [h1.inv0]
 rw [k0.v_inv]
 obtain ⟨aa, cap0, rfl, g0⟩ := gs_at hR.flt h0
 obtain ⟨ab, cap1, rfl, g1⟩ := cs_at hR.flt k1
 refine (rgood_calls R aa ab a0 a1.cells a1.key cap0 cap1 (goodP a0) goodC ?_ goodP_0 ?_ g0 g1).mono ?_
 ·intro W hW
  exact (policy_Good_c2 a0 (fun _ h => by cases h)).plain (F := F) (N := N) (vs := [_]) (hR.grow hW).1.flt (hR.grow hW).1.gl (HL.cons (h0.step (hR.grow hW).2) HL.nil)
 ·intro q c W hW
  have h := (cell_Good_c q c (fun _ h => by cases h)).plain (F := F) (N := N) (R := W) (vs := [.int .i64 q, cV c]) (hR.grow hW).1.flt (hR.grow hW).1.gl (HL.cons (.v _) (HL.cons (.v _) HL.nil))
  rw [cell_Good_eq] at h
  exact h
 ·rintro e W ⟨rfl, hb⟩
  rw [goodR_eq]
  exact ⟨_, F, N, rfl, (hR.grow hb).1, Step.of_below hb, .v _, fun _ => hb⟩
def row_Good_t : List A → Nat → Objs → Option CRes := rowK [.l .group, .t .row] 0 row_Good_r2 row_Good_o2 row_Good_ps2
theorem row_Good_tok : TOk Tryd.prog 71 row_Good_t := rowK_ok (ks := [.l .group, .t .row]) row_Good_c2
noncomputable def Ci_1 := addC 71 row_Good_t Ch
theorem Ci_1_ok : COk Tryd.prog Ci_1 := addC_ok row_Good_tok Ch_ok
noncomputable def Ci := Ci_1
theorem Ci_ok : COk Tryd.prog Ci := Ci_1_ok
end Go.Proofs.YtbhonfgbmkppiaaDoor
namespace Go.Proofs.YtbhonfgbmkppiaaDoor
open Go.RowKit
theorem first_k : firstN [107] = 130 := by kernel_rfl
def isK (s : ByteArray) : Bool := match s.data.toList with
 | [x] => Nat.beq x.toNat 107
 | _ => false
theorem isK_eq {s : ByteArray} (h : isK s = true) : s.data.toList = [107] := by
 unfold isK at h
 split at h <;> first | (cases h; done) | skip
 rename_i x hx
 have : x.toNat = 107 := Nat.eq_of_beq_eq_true h
 rw [hx]
 congr 1
 exact UInt8.toNat_inj.1 this
def placeK : List A → Nat → Objs → Option CRes
 | [.v (.string s)], nx, o => bif isK s then some (1, .v (.int .i64 130), nx, o, []) else none
 | _, _, _ => none
theorem placeK_ok : TOk Tryd.prog 32 placeK := fun args nx o k x nx' o' ps h => by
 unfold placeK at h
 split at h <;> first | (cases h; done) | skip
 rename_i s
 cases hk : isK s with
 | false => rw [hk] at h; cases h
 | true =>
  rw [hk] at h
  cases h
  have e := isK_eq hk
  have h1 := merkle_place_c2 s (needs_cons (by rw [e]; decide) needs_nil)
  unfold merkle_place_r2 at h1
  rw [e, first_k] at h1
  have h2 := callOk_shift h1 (Nat.le_refl _) (by rfl) nx o
  exact ⟨fun _ => h2, [], rfl⟩
noncomputable def Cme0 := addC 32 placeK Ci
theorem Cme0_ok : COk Tryd.prog Cme0 := addC_ok placeK_ok Ci_ok
end Go.Proofs.YtbhonfgbmkppiaaDoor
namespace Go.Proofs.YtbhonfgbmkppiaaDoor
open Go.RowKit
noncomputable def Cmk1_1 := addC 31 (inl (envL Cme0) 1040 31) Cme0
theorem Cmk1_1_ok : COk Tryd.prog Cmk1_1 := addC_ok (inl_ok (envL_ok Cme0_ok) 1040 31) Cme0_ok
noncomputable def Cmk1_2 := addC 72 (inl (envL Cmk1_1) 1040 72) Cmk1_1
theorem Cmk1_2_ok : COk Tryd.prog Cmk1_2 := addC_ok (inl_ok (envL_ok Cmk1_1_ok) 1040 72) Cmk1_1_ok
noncomputable def Cmk1_3 := addC 116 (inl (envL Cmk1_2) 1040 116) Cmk1_2
theorem Cmk1_3_ok : COk Tryd.prog Cmk1_3 := addC_ok (inl_ok (envL_ok Cmk1_2_ok) 1040 116) Cmk1_2_ok
noncomputable def Cmk1_4 := addC 35 (inl (envL Cmk1_3) 1040 35) Cmk1_3
theorem Cmk1_4_ok : COk Tryd.prog Cmk1_4 := addC_ok (inl_ok (envL_ok Cmk1_3_ok) 1040 35) Cmk1_3_ok
noncomputable def Cmk1_5 := addC 36 (inl (envL Cmk1_4) 1040 36) Cmk1_4
theorem Cmk1_5_ok : COk Tryd.prog Cmk1_5 := addC_ok (inl_ok (envL_ok Cmk1_4_ok) 1040 36) Cmk1_4_ok
noncomputable def Cmk1_6 := addC 14 (inl (envL Cmk1_5) 1040 14) Cmk1_5
theorem Cmk1_6_ok : COk Tryd.prog Cmk1_6 := addC_ok (inl_ok (envL_ok Cmk1_5_ok) 1040 14) Cmk1_5_ok
noncomputable def Cmk1_7 := addC 41 (inl (envL Cmk1_6) 1040 41) Cmk1_6
theorem Cmk1_7_ok : COk Tryd.prog Cmk1_7 := addC_ok (inl_ok (envL_ok Cmk1_6_ok) 1040 41) Cmk1_6_ok
noncomputable def Cmk1_8 := addC 19 (inl (envL Cmk1_7) 1040 19) Cmk1_7
theorem Cmk1_8_ok : COk Tryd.prog Cmk1_8 := addC_ok (inl_ok (envL_ok Cmk1_7_ok) 1040 19) Cmk1_7_ok
noncomputable def Cmk1_9 := addC 11 (inl (envL Cmk1_8) 1040 11) Cmk1_8
theorem Cmk1_9_ok : COk Tryd.prog Cmk1_9 := addC_ok (inl_ok (envL_ok Cmk1_8_ok) 1040 11) Cmk1_8_ok
noncomputable def Cmk1_10 := addC 10 (inl (envL Cmk1_9) 1040 10) Cmk1_9
theorem Cmk1_10_ok : COk Tryd.prog Cmk1_10 := addC_ok (inl_ok (envL_ok Cmk1_9_ok) 1040 10) Cmk1_9_ok
noncomputable def Cmk1_11 := addC 37 (inl (envL Cmk1_10) 1040 37) Cmk1_10
theorem Cmk1_11_ok : COk Tryd.prog Cmk1_11 := addC_ok (inl_ok (envL_ok Cmk1_10_ok) 1040 37) Cmk1_10_ok
noncomputable def Cmk1_12 := addC 38 (inl (envL Cmk1_11) 1040 38) Cmk1_11
theorem Cmk1_12_ok : COk Tryd.prog Cmk1_12 := addC_ok (inl_ok (envL_ok Cmk1_11_ok) 1040 38) Cmk1_11_ok
noncomputable def Cmk1_13 := addC 15 (inl (envL Cmk1_12) 1040 15) Cmk1_12
theorem Cmk1_13_ok : COk Tryd.prog Cmk1_13 := addC_ok (inl_ok (envL_ok Cmk1_12_ok) 1040 15) Cmk1_12_ok
def l24_lives_r  : A := .v (.bool (true))
def l24_lives_o  : Objs := []
def l24_lives_ps  : List Prop := []
theorem l24_lives_ev  : evF (envT Cmk1_13 L0) 1040 9 [] 0 [] = some (1, l24_lives_r , 0, l24_lives_o , [(boundP (1 : Nat)), (boundP (1 : Nat)), (boundP (1 : Nat)), (true = true), (true = true), (true = true → true = true), (false = true → false = true), (true = true → true = true), (false = true → true = true), (false = true → false = true), (true = true), (true = true → true = true), (true = true → true = true), (false = true → false = true), (true = true → true = true), (false = true → true = true), (false = true → true = true), (false = true → false = true), (true = true), (true = true → true = true), (true = true → true = true), (false = true → false = true), (true = true → true = true), (false = true → true = true), (false = true → true = true), (false = true → false = true), (true = true), (boundP (1 : Nat)), (boundP (1 : Nat))]) := by kernel_rfl
theorem l24_lives_c  (_hp : ∀ p ∈ l24_lives_ps , p) : CallOk Tryd.prog 9 [] 0 [] 1 (l24_lives_r ) 0 (l24_lives_o ) := by
 have n0 : (boundP (1 : Nat)) := by first | rfl | decide +kernel
 have n3 : (true = true) := by first | rfl | decide +kernel
 have n5 : (true = true → true = true) := by first | rfl | decide +kernel
 have n6 : (false = true → false = true) := by first | rfl | decide +kernel
 have n8 : (false = true → true = true) := by first | rfl | decide +kernel
 exact evF_ok (envP_ok Cmk1_13_ok L0_ok) (l24_lives_ev ) (needs_cons n0 (needs_cons n0 (needs_cons n0 (needs_cons n3 (needs_cons n3 (needs_cons n5 (needs_cons n6 (needs_cons n5 (needs_cons n8 (needs_cons n6 (needs_cons n3 (needs_cons n5 (needs_cons n5 (needs_cons n6 (needs_cons n5 (needs_cons n8 (needs_cons n8 (needs_cons n6 (needs_cons n3 (needs_cons n5 (needs_cons n5 (needs_cons n6 (needs_cons n5 (needs_cons n8 (needs_cons n8 (needs_cons n6 (needs_cons n3 (needs_cons n0 (needs_cons n0 needs_nil)))))))))))))))))))))))))))))
def l24_lives_t : List A → Nat → Objs → Option CRes := rowK [] 0 l24_lives_r l24_lives_o l24_lives_ps
theorem l24_lives_tok : TOk Tryd.prog 9 l24_lives_t := rowK_ok (ks := []) l24_lives_c
end Go.Proofs.YtbhonfgbmkppiaaDoor
namespace Go.Proofs.YtbhonfgbmkppiaaDoor
open Go.RowKit
noncomputable def Cmk3_1 := addC 9 l24_lives_t C0
theorem Cmk3_1_ok : COk Tryd.prog Cmk3_1 := addC_ok l24_lives_tok C0_ok
noncomputable def Cmk3_2 := addC 41 (inl (envL Cmk3_1) 1040 41) Cmk3_1
theorem Cmk3_2_ok : COk Tryd.prog Cmk3_2 := addC_ok (inl_ok (envL_ok Cmk3_1_ok) 1040 41) Cmk3_1_ok
noncomputable def Cmk3_3 := addC 19 (inl (envL Cmk3_2) 1040 19) Cmk3_2
theorem Cmk3_3_ok : COk Tryd.prog Cmk3_3 := addC_ok (inl_ok (envL_ok Cmk3_2_ok) 1040 19) Cmk3_2_ok
noncomputable def Cmk3_4 := addC 37 (inl (envL Cmk3_3) 1040 37) Cmk3_3
theorem Cmk3_4_ok : COk Tryd.prog Cmk3_4 := addC_ok (inl_ok (envL_ok Cmk3_3_ok) 1040 37) Cmk3_3_ok
noncomputable def Cmk3_5 := addC 17 (inl (envL Cmk3_4) 1040 17) Cmk3_4
theorem Cmk3_5_ok : COk Tryd.prog Cmk3_5 := addC_ok (inl_ok (envL_ok Cmk3_4_ok) 1040 17) Cmk3_4_ok
noncomputable def Cmk3_6 := addC 18 (inl (envL Cmk3_5) 1040 18) Cmk3_5
theorem Cmk3_6_ok : COk Tryd.prog Cmk3_6 := addC_ok (inl_ok (envL_ok Cmk3_5_ok) 1040 18) Cmk3_5_ok
noncomputable def Cmk3_7 := addC 38 (inl (envL Cmk3_6) 1040 38) Cmk3_6
theorem Cmk3_7_ok : COk Tryd.prog Cmk3_7 := addC_ok (inl_ok (envL_ok Cmk3_6_ok) 1040 38) Cmk3_6_ok
noncomputable def Cmk3_8 := addC 15 (inl (envL Cmk3_7) 1040 15) Cmk3_7
theorem Cmk3_8_ok : COk Tryd.prog Cmk3_8 := addC_ok (inl_ok (envL_ok Cmk3_7_ok) 1040 15) Cmk3_7_ok
noncomputable def Cmk3_9 := addC 20 (inl (envL Cmk3_8) 1040 20) Cmk3_8
theorem Cmk3_9_ok : COk Tryd.prog Cmk3_9 := addC_ok (inl_ok (envL_ok Cmk3_8_ok) 1040 20) Cmk3_8_ok
def l24_MerkleNobody_r (_a0 : List Int) : A := .v (.bool (true))
def l24_MerkleNobody_o (_a0 : List Int) : Objs := []
def l24_MerkleNobody_ps (_a0 : List Int) : List Prop := []
theorem l24_MerkleNobody_ev (a0 : List Int) : evF (envT Cmk3_9 L0) 1040 5 [valA .ints a0] 0 [] = some (1, l24_MerkleNobody_r a0, 0, l24_MerkleNobody_o a0, [((0 : Int) ≤ (0 : Int) ∧ (0 : Int) < (↑(2 : Nat) : Int)), ((0 : Nat) < (2 : Nat)), (true = true), (true = true), (true = true), (false = false → true = true), (false = false → true = true), (false = false → true = true), ((0 : Int) ≤ (1 : Int) ∧ (1 : Int) < (↑(2 : Nat) : Int)), ((1 : Nat) < (2 : Nat)), (true = true), (true = true), (true = true → true = true), (false = true → true = true), (true = true → true = true), (true = true), (true = true → true = true), (true = true), (true = true → true = true), (true = true)]) := by kernel_rfl
theorem l24_MerkleNobody_c (a0 : List Int) (_hp : ∀ p ∈ l24_MerkleNobody_ps a0, p) : CallOk Tryd.prog 5 [valA .ints a0] 0 [] 1 (l24_MerkleNobody_r a0) 0 (l24_MerkleNobody_o a0) := by
 have n0 : ((0 : Int) ≤ (0 : Int) ∧ (0 : Int) < (↑(2 : Nat) : Int)) := by first | rfl | decide +kernel
 have n1 : ((0 : Nat) < (2 : Nat)) := by first | rfl | decide +kernel
 have n2 : (true = true) := by first | rfl | decide +kernel
 have n5 : (false = false → true = true) := by first | rfl | decide +kernel
 have n8 : ((0 : Int) ≤ (1 : Int) ∧ (1 : Int) < (↑(2 : Nat) : Int)) := by first | rfl | decide +kernel
 have n9 : ((1 : Nat) < (2 : Nat)) := by first | rfl | decide +kernel
 have n12 : (true = true → true = true) := by first | rfl | decide +kernel
 have n13 : (false = true → true = true) := by first | rfl | decide +kernel
 exact evF_ok (envP_ok Cmk3_9_ok L0_ok) (l24_MerkleNobody_ev a0) (needs_cons n0 (needs_cons n1 (needs_cons n2 (needs_cons n2 (needs_cons n2 (needs_cons n5 (needs_cons n5 (needs_cons n5 (needs_cons n8 (needs_cons n9 (needs_cons n2 (needs_cons n2 (needs_cons n12 (needs_cons n13 (needs_cons n12 (needs_cons n2 (needs_cons n12 (needs_cons n2 (needs_cons n12 (needs_cons n2 needs_nil))))))))))))))))))))
end Go.Proofs.YtbhonfgbmkppiaaDoor
namespace Go.Proofs.YtbhonfgbmkppiaaDoor
open Go.RowKit
def l24_MerkleNobody_0 (_ : List Int) : Bool := true
theorem mn_true (a0 : List Int) : (∀ p ∈ l24_MerkleNobody_ps a0, p) ∧ l24_MerkleNobody_0 a0 = true := ⟨needs_nil, rfl⟩
end Go.Proofs.YtbhonfgbmkppiaaDoor
namespace Go.Proofs.YtbhonfgbmkppiaaDoor
open Go.RowKit
set_option maxRecDepth 100000
theorem op3 : Opn Tryd.prog .i64 3 := opn_i64 Tryd.underlying3
theorem opL24 : OpnLs Tryd.prog .i64 24 := opn_list Tryd.underlying24 (by kernel_rfl) op3
end Go.Proofs.YtbhonfgbmkppiaaDoor
namespace Go.Proofs.YtbhonfgbmkppiaaDoor
open Go.ChangeShapes Go.WideShapes Go.ChangeAt Go.RowKit
theorem own : ownKnob Tryd.prog.godebug = none := by kernel_rfl
theorem laidOut : laidOutB Tryd.prog = true := by kernel_rfl
section
variable {P : Program} {H : Type} {enc : TypeId × Value → H} {w : World} {base : Nat} {spare : Nat → Bool} {held : Bool} {v : Value} {d : DataW H} {p : List MemPlace}
end
theorem below_trodAll {H : Type} {enc : TypeId × Value → H} {W W' : World} (hb : Below W.heap.size W W') : ∀ (ts : List TypeId) (vs : List Value) (ds : List (DataW H)) (ps : List MemPlace),
  (∀ t ∈ ts, Tryd.prog.readableRec t = true ∧ t < Tryd.prog.types.size) → DataW.TrodAll enc Tryd.prog W 0 (fun _ => true) true ts vs ds ps → (∀ x ∈ ps, x.block < W.heap.size) →
  DataW.TrodAll enc Tryd.prog W' 0 (fun b => decide (b < W.heap.size)) true ts vs ds ps
 | [], vs, ds, ps, _, h, _ => by
  obtain ⟨rfl, rfl, rfl⟩ := trodAll_nil h
  exact trodAll_mk0
 | t :: ts, vs, ds, ps, hr, h, hlt => by
  obtain ⟨v, vs', d, ds', p, q, rfl, rfl, rfl, h0, h1⟩ := trodAll_cons h
  exact trodAll_cons_mk (Below.trod laidOut (hr t (by simp)).1 (hr t (by simp)).2 h0 hb fun x hx => hlt x (by simp [hx]))
   (below_trodAll hb ts vs' ds' q (fun t' ht' => hr t' (by simp [ht'])) h1 fun x hx => hlt x (by simp [hx]))
end Go.Proofs.YtbhonfgbmkppiaaDoor
namespace Go.Proofs.YtbhonfgbmkppiaaDoor
open Go.RowKit Go.WideShapes Go.ChangeShapes
section
variable {H : Type} {en : TypeId × Value → H} {P : Program} {w : World} {base : Nat} {spare : Nat → Bool} {held : Bool} {t e : TypeId} {v : Value} {d : DataW H} {p : List MemPlace} {r : Reach} {b0 : Nat} {c : TC}
theorem arg_list (ht : P.underlying t = some (.slice e)) (ho : OpnLs P c t) (hv : Value.okWide P w r b0 t v) (h : DataW.Trod en P w base spare held t v d p) :
  ∃ l : List (U c), (l.length ≤ maxLen ∧ ∀ x ∈ l, Wfd c x) ∧ ∀ (F : Nat → Prop) (N : Nm) (nx : Nat), FB w F → Hv F N nx w (.sl c l) v := by
 obtain ⟨a, len, cap, rfl⟩ := okWide_slice ht hv
 obtain ⟨fuel, hf⟩ := h
 obtain ⟨l, h1, h2⟩ := ho en w base spare held fuel _ _ hf
 refine ⟨l, h1, fun F N nx hF => ?_⟩
 obtain ⟨y, ys, e, h3, _⟩ := (h2 F N nx hF).inv
 have e' : [Value.slice a len cap] = y :: ys := e
 cases e'
 exact h3
end
theorem call_topG {P : Program} {f : FuncId} {args : List A} {nx' : Nat} {o' : Objs} {b : Bool} (h : CallOk P f args 0 [] 1 (.v (.bool b)) nx' o') (W : World) (hgl : GlobOk (fun b => b < W.heap.size) W) (vs : List Value) (ha : ∀ (F : Nat → Prop) (N : Nm) (nx : Nat), FB W F → HL F N nx W args vs) :
  Calls P f vs.toArray W fun e W' => e = .returned (.bool b) ∧ Below W.heap.size W W' := by
 have hr : HRel (fun b => b < W.heap.size) ⟨fun _ => 0, fun _ => .nilFunc⟩ 0 [] W := ⟨fun g hg => hg, fun i ob hi => (by cases hi), fun i ob g hi => (by cases hi), fun i j x y g hi => (by cases hi), hgl⟩
 refine (h _ _ W vs hr (ha _ _ _ fun b hb => hb)).mono fun e W' ⟨y, F', N', he, _, _, hy, hb⟩ => ?_
 rw [hy.v_inv] at he
 exact ⟨he, hb (Nat.le_refl _)⟩
end Go.Proofs.YtbhonfgbmkppiaaDoor
namespace Go.Proofs.YtbhonfgbmkppiaaDoor
open Go.RowKit Go.ChangeShapes Go.WideShapes Go.ChangeAt
theorem laid_ints {P : Program} {t e : TypeId} {n : Nat} {H : Type} {en : TypeId × Value → H} {W : World} {base : Nat} {spare : Nat → Bool} {held : Bool} {fuel : Nat} {k : IntKind} (hu : P.underlying t = some (.array n e)) (he : P.underlying e = some (.int k)) (hc : P.cellsOf e = 1) (ht : P.cellsOf t = n) {cs : List Value} {l : List Int} {p : List MemPlace}
  (h : DataW.trod en P W base spare held fuel t cs = some (.agg (l.map fun x => .lit (.int k x)), p)) : cs = l.map (fun x => Value.int k x) := by
 obtain ⟨xs, m, _, hx, hl, hn, hg⟩ := DataW.trod_array hu h
 rw [ht] at hl
 rw [hc] at hg
 have e1 : xs.map (·.1) = l.map fun x => DataW.lit (.int k x) := by
  have := congrArg Prod.fst hx
  simpa using this.symm
 have hln : l.length = n := by
  have := congrArg List.length e1
  simpa [hn] using this.symm
 refine List.ext_getElem? fun i => ?_
 by_cases hi : i < n
 ·have h1 := hg i hi
  have hxi : xs[i]? = some xs[i] := List.getElem?_eq_getElem (by omega)
  rw [hxi] at h1
  obtain ⟨m', e2, e3, _⟩ := DataW.trod_int he h1
  have e4 := congrArg (·[i]?) e1
  simp only [List.getElem?_map, hxi, Option.map_some] at e4
  have hli : l[i]? = some l[i] := List.getElem?_eq_getElem (by omega)
  rw [hli, Option.map_some, e3] at e4
  have e5 : m' = l[i] := by simpa using e4
  rw [List.getElem?_map, hli, Option.map_some, ← e5]
  have e6 : ((cs.drop (i * 1)).take 1)[0]? = some (Value.int k m') := by rw [e2]; rfl
  rw [List.getElem?_take_of_lt (by omega), List.getElem?_drop] at e6
  simpa using e6
 ·rw [List.getElem?_eq_none (by omega), List.getElem?_eq_none (by rw [List.length_map]; omega)]
abbrev laidL : List (String × DataW Unit) := [("gemel/sha.rounds", Rows.laid_gemel_sha_rounds)]
theorem door_met (os : Os) (args : Array Value) : laidMetH Tryd.prog laidL ((World.doorLaid Tryd.prog 400 os).forCall (fun _ _ => 0) ⟨#[], args, []⟩).memory :=
 laidMetH_of_parts3 (fuel := 8) (laidMet_of_run' 8 (by kernel_rfl) (by kernel_rfl)) (by kernel_rfl) (by kernel_rfl)
theorem gName : Tryd.prog.globalNamed "gemel/sha.rounds" = some 1 := by kernel_rfl
theorem gType : (Tryd.prog.globals[1]?).map (·.type) = some 226 := by kernel_rfl
def roundsL : List Int := match globs with
 | [(_, ⟨.u32, _, l⟩)] => l
 | _ => []
theorem laid_is : (Rows.laid_gemel_sha_rounds : DataW Unit) = .agg (roundsL.map fun x => .lit (.int .u32 x)) := by kernel_rfl
theorem globs_is : globs = [(1, ⟨.u32, rfl, roundsL⟩)] := by kernel_rfl
theorem glob_ok {W : World} (h : laidMetH Tryd.prog laidL W) : GlobOk (fun b => b < W.heap.size) W := by
 rw [MakeChecks.laidMetH_plain _ _ _ (by kernel_rfl)] at h
 obtain ⟨ps, ⟨g0, t0, cs0, f0, p0, q0, hg0, ht0, hv0, hd0, _, hps⟩, _, hcell⟩ := h
 obtain rfl := Option.some.inj (gName.symm.trans hg0)
 obtain rfl := Option.some.inj (gType.symm.trans ht0)
 rw [laid_is] at hd0
 have hcs := laid_ints (l := roundsL) Tryd.underlying226 Tryd.underlying44 (by kernel_rfl) (by kernel_rfl) hd0
 have hlen : cs0.toList.length = 64 := by rw [hcs, List.length_map]; kernel_rfl
 have hsz : cs0.size = 64 := by rw [← Array.length_toList]; exact hlen
 have hm : MemPlace.cell 1 0 ∈ ps := by
  rw [hps]
  refine List.mem_append.2 (.inl (List.mem_append.2 (.inl ?_)))
  unfold MemPlace.row
  rw [hsz]
  exact List.mem_map.2 ⟨0, List.mem_range.2 (by decide), rfl⟩
 obtain ⟨⟨c, t, hc⟩, _⟩ := hcell 1 0 hm
 have hcc : c = cs0 := by
  unfold World.var? at hv0
  rw [gName] at hv0
  simp only [Option.bind_some, hc] at hv0
  exact Option.some.inj hv0
 subst hcc
 intro x hx
 rw [globs_is] at hx
 obtain rfl := List.mem_singleton.1 hx
 refine ⟨blk_lt hc, t, ?_⟩
 show W.heap[1]? = some (.cells (roundsL.map (sv .u32)).toArray t (0, 0))
 rw [hc]
 congr 2
 apply Array.ext'
 rw [hcs]
 rfl
end Go.Proofs.YtbhonfgbmkppiaaDoor
namespace Go.Proofs.YtbhonfgbmkppiaaDoor.merkleNobody
open Go.ChangeShapes Go.WideShapes Go.ChangeAt Go.RowKit
theorem lifted (os : Os) (started : os.Started) (H : Type) (enc : TypeId × Value → H) :
  ReturnsInHanded {} Tryd.checked os 5 .any (fun w args => (Rows.merkleNobodySpec.pre enc Tryd.prog Tryd.f5 [] false w args ∧ laidMetH Tryd.prog laidL w) ∧ sizedMet enc Tryd.prog Tryd.f5 (OpenSpec.ofChange Rows.merkleNobodySpec) false w args)
   (Rows.merkleNobodySpec.post enc Tryd.prog Tryd.f5 false true false false) := by
 refine returnsInHanded_of_change_and (C := Tryd.checked) (X := fun w _ => laidMetH Tryd.prog laidL w) (fun _ _ _ hh h => h.of_heap hh) own started (by kernel_rfl) Tryd.func5
  (ChangeSpec.witness_shaped (enc := enc) (C := Tryd.checked) (os := os) (X := fun w _ => laidMetH Tryd.prog laidL w) false (World.doorLaid Tryd.prog 400 os) #[.slice none 0 0] 8 rfl (World.shaped_of_RefB (by kernel_rfl) (by kernel_rfl)) (by kernel_rfl) (by kernel_rfl) (by kernel_rfl) (door_met os _)) ?_
 intro W base args ds gs before hval0 hW _ _ hL _
 have hval : ∀ (j : Nat) t v, Tryd.f5.params[j]? = some t → args[j]? = some v → Value.okWide Tryd.prog W .any base t v := hval0
 have hW' := hW
 have hlt : ∀ x ∈ before, x.block < W.heap.size := fun x hx => hW.lt x hx
 obtain ⟨p, q, hA0, hV, rfl, hfz, hnd⟩ := hW
 have hA : DataW.TrodAll enc Tryd.prog W 0 (fun _ => true) true Tryd.f5.params.toList args.toList ds p := hA0
 rw [Tryd.params5] at hA hval
 have hA' := hA
 obtain ⟨v0, vs0, d0, ds0, p0, q0, hargs, rfl, rfl, h0, r0⟩ := trodAll_cons hA
 obtain ⟨rfl, rfl, rfl⟩ := trodAll_nil r0
 obtain rfl : args = #[v0] := by cases args; simp_all
 obtain ⟨rfl, rfl⟩ := trodVars_none hV
 obtain ⟨a0, w0, g0⟩ := arg_list Tryd.underlying24 opL24 (hval 0 24 v0 rfl rfl) h0
 obtain ⟨hn, ht⟩ := mn_true a0
 have hc := l24_MerkleNobody_c a0 hn
 have hr : l24_MerkleNobody_r a0 = .v (.bool true) := by show A.v (.bool (l24_MerkleNobody_0 a0)) = _; rw [ht]
 rw [hr] at hc
 refine (call_topG hc W (glob_ok hL) [v0] fun F N nx hF => HL.cons (g0 F N nx hF) (HL.nil)).mono fun e W' ⟨he, bel⟩ => ?_
 subst he
 have hread : ∀ t ∈ [24], Tryd.prog.readableRec t = true ∧ t < Tryd.prog.types.size := by
  intro t ht
  simp only [List.mem_cons, List.not_mem_nil, or_false] at ht
  subst ht
  all_goals exact ⟨by kernel_rfl, of_decide_eq_true (by kernel_rfl)⟩
 exact ⟨_, rfl, _, _, _, [], _, [], hW', trodAll_mk1 (shut_bool Tryd.underlying4 _),
  below_trodAll bel _ _ _ _ hread hA' (fun x hx => hlt x (by simpa using hx)), rfl, bel.frame _, fun h => by cases h⟩
theorem tA : Tryd.prog.funcNamed Rows.merkleNobodyRow.func = some 5 := by kernel_rfl
theorem b0 : (Rows.merkleNobodyRow.wf (OpenSpec.ofChange Rows.merkleNobodySpec)) = true := by kernel_rfl
theorem b1 : (laidOutB Tryd.prog) = true := by kernel_rfl
theorem b2 : (mapsRowed Tryd.prog) = true := by kernel_rfl
theorem b3 : (Tryd.f5.params.all (Tryd.prog.readableRec ·)) = true := by kernel_rfl
theorem b4 : (namedTie Tryd.prog Rows.merkleNobodyRow.named Rows.merkleNobodySpec.vars) = true := by kernel_rfl
theorem b5 : ((Rows.merkleNobodyRow.stops == [])) = true := by kernel_rfl
theorem b6 : ((Tryd.prog.stops == [])) = true := by kernel_rfl
theorem b7 : ((Rows.merkleNobodyRow.knobs == [])) = true := by kernel_rfl
theorem b8 : ((Tryd.prog.stopKnobs == [])) = true := by kernel_rfl
theorem b9 : ((Rows.merkleNobodyRow.inPlace == Tryd.prog.inPlace 5)) = true := by kernel_rfl
theorem b10 : ((Rows.merkleNobodyRow.unfollowed == Tryd.prog.unfollowed 5)) = true := by kernel_rfl
theorem b11 : ((Rows.merkleNobodyRow.recurses == Tryd.prog.recurses 5)) = true := by kernel_rfl
theorem b12 : ((Rows.merkleNobodyRow.named == Tryd.prog.varsNamed 5)) = true := by kernel_rfl
theorem b13 : ((Rows.merkleNobodyRow.maps == (Tryd.f5.params.toList ++ Rows.merkleNobodySpec.plain.varTypes Tryd.prog).any (Tryd.prog.mapsRec ·))) = true := by kernel_rfl
theorem b14 : ((Rows.merkleNobodyRow.ifaces == (Tryd.f5.params.toList ++ Rows.merkleNobodySpec.plain.varTypes Tryd.prog).any (Tryd.prog.ifacesRec ·))) = true := by kernel_rfl
theorem b15 : ((Rows.merkleNobodyRow.mapsOut == Tryd.prog.mapsAmong Tryd.f5.resultTypes.toList)) = true := by kernel_rfl
theorem b16 : ((Rows.merkleNobodyRow.loops == (Tryd.f5.params.toList ++ Rows.merkleNobodySpec.plain.varTypes Tryd.prog).any (Tryd.prog.loopsFrom ·))) = true := by kernel_rfl
theorem b17 : ((Rows.merkleNobodyRow.wideKeys == (Tryd.f5.params.toList ++ Rows.merkleNobodySpec.plain.varTypes Tryd.prog ++ Tryd.f5.resultTypes.toList).any (Tryd.prog.wideKeysFrom ·))) = true := by kernel_rfl
theorem b18 : (Rows.merkleNobodySpec.vars.all (Tryd.prog.varReadable ·)) = true := by kernel_rfl
theorem b19 : (Tryd.f5.resultTypes.all (fun t => Tryd.prog.readableRec t && decide (t < Tryd.prog.types.size))) = true := by kernel_rfl
theorem b20 : ((Rows.merkleNobodyRow.ifacesOut == Tryd.f5.resultTypes.toList.any (Tryd.prog.ifacesRec ·))) = true := by kernel_rfl
theorem b21 : ((Rows.merkleNobodyRow.loopsOut == Tryd.f5.resultTypes.toList.any (Tryd.prog.loopsFrom ·))) = true := by kernel_rfl
theorem b22 : ((Rows.merkleNobodyRow.plainKeys == Tryd.prog.plainKeys)) = true := by kernel_rfl
theorem b23 : (Rows.merkleNobodyRow.shortTexts.isNone) = true := by kernel_rfl
theorem b24 : (Tryd.prog.stopsHeard) = true := by kernel_rfl
theorem b25 : (Tryd.prog.mayEnter) = true := by kernel_rfl
theorem b26 : ((Rows.merkleNobodyRow.lifted == Tryd.prog.liftsFinal)) = true := by kernel_rfl
theorem b27 : ((Tryd.prog.make == some Rows.merkleNobodyRow.make)) = true := by kernel_rfl
theorem b28 : ((Rows.merkleNobodyRow.kinds == (if Rows.merkleNobodyRow.domain.isEmpty then [] else Tryd.f5.params.toList.map fun t => match Tryd.prog.underlying t with | some (.int k) => some k | _ => none))) = true := by kernel_rfl
theorem b29 : ((Rows.merkleNobodyRow.pinned == Rows.merkleNobodyRow.pinnedBy)) = true := by kernel_rfl
theorem b30 : ((Rows.merkleNobodyRow.veiled == (Tryd.f5.params.toList ++ Rows.merkleNobodySpec.plain.varTypes Tryd.prog ++ Tryd.f5.resultTypes.toList).any (Tryd.prog.veiledRec ·))) = true := by kernel_rfl
theorem b31 : (Rows.merkleNobodyRow.veiledFits Tryd.prog Tryd.f5.params.toList (Tryd.f5.params.toList ++ Rows.merkleNobodySpec.plain.varTypes Tryd.prog ++ Tryd.f5.resultTypes.toList)) = true := by kernel_rfl
theorem andI {a b : Bool} (h : a = true) (g : b = true) : (a && b) = true := by rw [h, g]; rfl
theorem tB : joinedFacts Tryd.prog 5 Tryd.f5 Rows.merkleNobodySpec Rows.merkleNobodyRow = true := by
 unfold joinedFacts
 exact (andI (andI (andI (andI (andI (andI (andI (andI (andI (andI (andI (andI (andI (andI (andI (andI (andI (andI (andI (andI (andI (andI (andI (andI (andI (andI (andI (andI (andI (andI (andI b0 b1) b2) b3) b4) b5) b6) b7) b8) b9) b10) b11) b12) b13) b14) b15) b16) b17) b18) b19) b20) b21) b22) b23) b24) b25) b26) b27) b28) b29) b30) b31)
theorem tC : Tryd.f5.isInstance Tryd.prog Rows.merkleNobodyRow.origin Rows.merkleNobodyRow.targs := of_decide_eq_true (by kernel_rfl)
theorem tD0 : decide (Check.packageOf Tryd.f5.name = "main") = false := by kernel_rfl
theorem tD : Tryd.f5.isWrapper Tryd.prog Rows.merkleNobodyRow.wrapper Rows.merkleNobodyRow.mainSum := by
 unfold Func.isWrapper
 rw [if_neg (of_decide_eq_false tD0)]
 exact ⟨rfl, rfl⟩
theorem over : Rows.merkleNobodyRow.holds Tryd.pinned (OpenSpec.ofChange Rows.merkleNobodySpec) :=
 OpenClaim.holds_of_wide 5 Tryd.f5 rfl rfl rfl rfl rfl rfl rfl ⟨rfl, rfl, rfl, rfl, rfl⟩ rfl rfl rfl rfl rfl tA Tryd.func5 tB tC tD
  (fun os started H enc _ => lifted os started H enc)
theorem proved : Rows.MerkleNobodyCardSaid :=
 Claim7.holds_tied_plain_at .later [] [.data] true (true, "151aec75842b894e24bb842f406e569667afacfae4aeadc36fe74b46fdae8ba7") false
  over (fun _ h => by cases h) (by kernel_rfl) (fun _ h => by cases h) merkleNobody_row_tie rfl ⟨rfl, rfl⟩ (by kernel_rfl) rfl
  (fun f fn hf hfn => by
   obtain rfl : f = 5 := Option.some.inj ((show Tryd.prog.funcNamed "gemel/gemellaw24.MerkleNobody" = some 5 by kernel_rfl).symm.trans hf) |>.symm
   obtain rfl : fn = Tryd.f5 := (Option.some.inj (Tryd.func5.symm.trans hfn)).symm
   exact ⟨by kernel_rfl, fun j t ht => by
    rw [Tryd.params5] at ht
    have hm : t ∈ [24] := by simpa using Array.mem_of_getElem? ht
    have hall : ([24].all fun u => !Tryd.prog.wantsStandIn u) = true := by kernel_rfl
    exact (show Tryd.prog.wantsStandIn t = false by simpa using List.all_eq_true.1 hall t hm)⟩)
  (by kernel_rfl)
end Go.Proofs.YtbhonfgbmkppiaaDoor.merkleNobody
