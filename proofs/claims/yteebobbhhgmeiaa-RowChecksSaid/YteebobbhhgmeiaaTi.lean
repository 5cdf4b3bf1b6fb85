/- made by a program (gent.py): what functions come to, by their symbolic run over typed data. -/
import Derived.Test.YteebobbhhgmeiaaTh
import Derived.Test.YteebobbhhgmeiaaRg
namespace Go.Proofs.Yteebobbhhgmeiaa
open Go.RowKit

def goodRow (l : List TGroup) (r : TRow) : Int := bif goodP l != 0 then goodP l else bif r.key.size == 0 then 2 else bif decide (32 < r.key.size) then 3 else bif r.cells.length != l.length then 100 else bif (l.zip r.cells).all (fun x => goodC x.1.policy x.2) then 0 else 80
def row_Good_r2 (a0 : List TGroup) (a1 : TRow) : A := .v (.int .i64 (goodRow a0 a1))
def row_Good_o2 (_a0 : List TGroup) (_a1 : TRow) : Objs := []
def row_Good_ps2 (_a0 : List TGroup) (_a1 : TRow) : List Prop := []
theorem isEmpty_size (k : ByteArray) : k.toList.isEmpty = (k.size == 0) := by
  rw [ByteArray.toList_eq, Bool.eq_iff_iff, List.isEmpty_iff, beq_iff_eq, ← size_data]
  exact ⟨fun h => by rw [h]; rfl, fun h => List.eq_nil_of_length_eq_zero h⟩
theorem goodR_eq (l : List TGroup) (key : ByteArray) (cs : List TCell) : goodR (goodP l) goodC l key cs = goodRow l ⟨key, cs⟩ := by
  unfold goodR goodRow
  rw [isEmpty_size]
  have e3 : decide (32 < ((key.size : Nat) : Int)) = decide (32 < key.size) := decide_eq_decide.2 (by omega)
  have e4 : (((cs.length : Nat) : Int) != (l.length : Int)) = (cs.length != l.length) := by
    rw [Bool.eq_iff_iff, bne_iff_ne, bne_iff_ne]; omega
  simp only [Bool.cond_eq_ite, e4, decide_eq_true_eq, show (32 < ((key.size : Nat) : Int)) = (32 < key.size) from propext (by omega)]
/-- One address of a row's element. -/
theorem spot_none {R : World} {ad : Addr} {v : Value} (h : R.cell? ad = some v) : ad = ⟨ad.block, ad.off, none⟩ := by
  cases ad with | mk b o s =>
  cases s with
  | none => rfl
  | some q =>
    exfalso
    unfold World.cell? at h
    cases hb : R.heap[b]? with
    | none => simp only [hb] at h; cases h
    | some ob => cases ob <;> simp [hb] at h
theorem add_num (b o k j : Nat) : ((⟨b, o, none⟩ : Addr).add k).add j = ⟨b, o + k + j, none⟩ := by
  rw [add_mk, add_mk]
section
variable {F : Nat → Prop} {N : Nm} {nx : Nat} {R : World}
theorem HC.at0 {l : List A} {b o k j : Nat} {x : Value} (h : HC F N nx R l ((⟨b, o, none⟩ : Addr).add k)) (hx : l[j]? = some (.v x)) : R.cell? ⟨b, o + k + j, none⟩ = some x := by
  obtain ⟨y, h1, h2⟩ := h j _ hx
  rw [add_num] at h1
  rw [h1, h2.v_inv]
theorem gs_at {gs : List TGroup} {v : Value} (hF : ∀ g, F g → g < R.heap.size) (h : Hv F N nx R (.sl .group gs) v) :
    ∃ a cap, v = .slice a gs.length cap ∧ (0 < gs.length → ∃ b off, a = some ⟨b, off, none⟩ ∧ GsAt R.heap.size R.heap.size R b off gs) := by
  obtain ⟨a, cap, e, _, h2⟩ := h.sl_inv
  refine ⟨a, cap, e, fun hn => ?_⟩
  obtain ⟨ad, rfl, hb, h3⟩ := h2 hn
  have hlt := hF _ hb
  obtain ⟨y, hy, _⟩ := h3 0 gs[0] (List.getElem?_eq_getElem hn) 0 (.v (.string gs[0].name)) rfl
  rw [Nat.zero_mul, add_zero, add_zero] at hy
  have hs := spot_none hy
  rw [hs] at h3 ⊢
  refine ⟨ad.block, ad.off, rfl, ⟨hlt, Nat.ne_of_lt hlt⟩, fun j g hj => ?_⟩
  have h4 := h3 j g hj
  exact ⟨h4.at0 (j := 0) (x := .string g.name) rfl, h4.at0 (j := 1) (x := .int .i64 g.policy) rfl⟩
theorem cs_at {cs : List TCell} {v : Value} (hF : ∀ g, F g → g < R.heap.size) (h : Hv F N nx R (.sl .cell cs) v) :
    ∃ a cap, v = .slice a cs.length cap ∧ (0 < cs.length → ∃ b off, a = some ⟨b, off, none⟩ ∧ CsAt R.heap.size R.heap.size R b off cs) := by
  obtain ⟨a, cap, e, _, h2⟩ := h.sl_inv
  refine ⟨a, cap, e, fun hn => ?_⟩
  obtain ⟨ad, rfl, hb, h3⟩ := h2 hn
  have hlt := hF _ hb
  obtain ⟨y, hy, _⟩ := h3 0 cs[0] (List.getElem?_eq_getElem hn) 0 (.v (.int .i64 cs[0].stamp.n)) rfl
  rw [Nat.zero_mul, add_zero, add_zero] at hy
  have hs := spot_none hy
  rw [hs] at h3 ⊢
  refine ⟨ad.block, ad.off, rfl, ⟨hlt, Nat.ne_of_lt hlt⟩, fun j c hj => ?_⟩
  have h4 := h3 j c hj
  exact ⟨h4.at0 (j := 0) (x := .int .i64 c.stamp.n) rfl, h4.at0 (j := 1) (x := .int .i64 c.stamp.site) rfl, h4.at0 (j := 2) (x := .int .i64 c.vec.a) rfl, h4.at0 (j := 3) (x := .int .i64 c.vec.b) rfl, h4.at0 (j := 4) (x := .bool c.gone) rfl, h4.at0 (j := 5) (x := .string c.value) rfl, h4.at0 (j := 6) (x := .int .i64 c.dead.a) rfl, h4.at0 (j := 7) (x := .int .i64 c.dead.b) rfl⟩
theorem HRel.bare (hF : ∀ g, F g → g < R.heap.size) : HRel F N 0 [] R := ⟨hF, fun _ _ h => (by cases h), fun _ _ _ h => (by cases h), fun _ _ _ _ _ h => (by cases h)⟩
end
/-- A call whose values are plain or rows that came in, and whose result is plain. -/
theorem CallOk.plain {P : Program} {f : FuncId} {args : List A} {x : Value} (h : CallOk P f args 0 [] 1 (.v x) 0 []) {F : Nat → Prop} {N : Nm} {R : World} {vs : List Value} (hF : ∀ g, F g → g < R.heap.size) (hv : HL F N 0 R args vs) :
    Calls P f vs.toArray R fun e R' => e = .returned x ∧ Below R.heap.size R R' :=
  (h F N R vs (HRel.bare hF) hv).mono fun e R' ⟨y, F', N', e1, _, _, h4, h5⟩ => ⟨by rw [e1, h4.v_inv], h5 (Nat.le_refl _)⟩
theorem row_Good_c2 (a0 : List TGroup) (a1 : TRow) (_hp : ∀ p ∈ row_Good_ps2 a0 a1, p) : CallOk Try.prog 65 [.sl .group a0, valA .row a1] 0 [] 1 (row_Good_r2 a0 a1) 0 (row_Good_o2 a0 a1) := by
  intro F N R vs hR hv
  obtain ⟨v0, vs, rfl, h0, hv⟩ := hv.inv
  obtain ⟨v1, vs, rfl, h1, hv⟩ := hv.inv
  rw [hv.inv0]
  obtain ⟨us, rfl, h2⟩ := Hv.agg_inv (xs := [.v (.string a1.key), .sl .cell a1.cells]) h1
  clear h1
  have h1 := h2
  obtain ⟨u0, us, rfl, k0, h1⟩ := h1.inv
  obtain ⟨u1, us, rfl, k1, h1⟩ := h1.inv
  rw [h1.inv0]
  rw [k0.v_inv]
  obtain ⟨aa, cap0, rfl, g0⟩ := gs_at hR.flt h0
  obtain ⟨ab, cap1, rfl, g1⟩ := cs_at hR.flt k1
  refine (rgood_calls R aa ab a0 a1.cells a1.key cap0 cap1 (goodP a0) goodC ?_ goodP_0 ?_ g0 g1).mono ?_
  · intro W hW
    exact (policy_Good_c2 a0 (fun _ h => by cases h)).plain (F := F) (N := N) (vs := [_]) (fun g hg => Nat.lt_of_lt_of_le (hR.flt g hg) hW.size) (HL.cons (h0.step (hR.grow hW).2) HL.nil)
  · intro q c W
    have h := (cell_Good_c q c (fun _ h => by cases h)).plain (F := fun _ => False) (N := N) (R := W) (vs := [.int .i64 q, cV c]) (fun g hg => hg.elim) (HL.cons (.v _) (HL.cons (.v _) HL.nil))
    rw [cell_Good_eq] at h
    exact h
  · rintro e W ⟨rfl, hb⟩
    rw [goodR_eq]
    exact ⟨_, F, N, rfl, (hR.grow hb).1, Step.of_below hb, .v _, fun _ => hb⟩
def row_Good_t : List A → Nat → Objs → Option CRes
  | [y0, y1], nx, o => match argL .group y0, argU .row y1 with
    | some a0, some (a1, p1) => some (1, (row_Good_r2 a0 a1).pk (shiftR nx), nx + 0, shiftO nx (row_Good_o2 a0 a1) ++ o, p1 ++ (row_Good_ps2 a0 a1))
    | _, _ => none
  | _, _, _ => none
theorem row_Good_tok : TOk Try.prog 65 row_Good_t := fun args nx o k x nx' o' ps h => by
  unfold row_Good_t at h
  split at h <;> first | (cases h; done) | skip
  split at h <;> first | (cases h; done) | skip
  rename_i a0 a1 p1 e0 e1
  cases h
  refine ⟨fun hp => ?_, _, rfl⟩
  have q1 := fun p hm => hp p (List.mem_append.2 (.inl hm))
  have r1 := fun p hm => hp p (List.mem_append.2 (.inr hm))
  refine callOk_args (callOk_shift (row_Good_c2 a0 a1 r1) (Nat.le_refl _) (freeL_cons rfl (freeL_cons (valA_free _ _) freeL_nil)) nx o) fun F N R vs hl => ?_
  obtain ⟨v0, w0, rfl, h0, hl⟩ := hl.inv
  obtain ⟨v1, w1, rfl, h1, hl⟩ := hl.inv
  exact HL.cons (argL_ok e0 h0) (HL.cons (argU_ok e1 q1 h1) (hl))
noncomputable def Ci_1 := addC 65 row_Good_t Ch
theorem Ci_1_ok : COk Try.prog Ci_1 := addC_ok row_Good_tok Ch_ok

noncomputable def Ci := Ci_1
theorem Ci_ok : COk Try.prog Ci := Ci_1_ok
end Go.Proofs.Yteebobbhhgmeiaa
