/- made by a program (gent.py): what functions come to, by their symbolic run over typed data. -/
import Derived.Test.YteebobbhhgmeiaaTl
import Derived.Test.YteebobbhhgmeiaaRp
namespace Go.Proofs.Yteebobbhhgmeiaa
open Go.RowKit

def putRow (l : List TGroup) (r : TRow) : List UInt8 := putT r.key ++ (l.zip r.cells).flatMap (fun x => putC x.1.policy x.2)
def putRw (l : List TGroup) (r : TRow) : List UInt8 := bif goodRow l r == 0 then putRow l r else []
def row_Put_k0 (_a0 : List UInt8) (a1 : List TGroup) (a2 : TRow) : Bool := goodRow a1 a2 != (0 : Int)
def row_Put_0 (a0 : List UInt8) (_a1 : List TGroup) (_a2 : TRow) : List UInt8 := [] ++ a0
def row_Put_r (_a0 : List UInt8) (_a1 : List TGroup) (_a2 : TRow) : A := .sq 0
def row_Put_o (a0 : List UInt8) (a1 : List TGroup) (a2 : TRow) : Objs := [(0, some (.arr 5 1 (.ty .u8 (row_Put_0 a0 a1 a2))))]
def row_Put_ps (a0 : List UInt8) (a1 : List TGroup) (a2 : TRow) : List Prop := [((row_Put_k0 a0 a1 a2) = true → boundP ((0 : Nat) + a0.length)), ((!(row_Put_k0 a0 a1 a2)) = true → boundP (a0.length + (8 : Nat) + a2.1.size)), ((!(row_Put_k0 a0 a1 a2)) = true → Stuck (4 : Nat))]
set_option maxRecDepth 100000 in
theorem row_Put_ev (a0 : List UInt8) (a1 : List TGroup) (a2 : TRow) : evF (envT Cl L0) 9 79 [valA .bytes a0, .sl .group a1, valA .row a2] 0 [] = some (1, row_Put_r a0 a1 a2, 1, row_Put_o a0 a1 a2, [((row_Put_k0 a0 a1 a2) = true → boundP ((0 : Nat) + a0.length)), ((!(row_Put_k0 a0 a1 a2)) = true → boundP (a0.length + (8 : Nat) + a2.1.size)), ((!(row_Put_k0 a0 a1 a2)) = true → Stuck (4 : Nat))]) := by kernel_rfl
set_option maxRecDepth 100000 in
theorem row_Put_c (a0 : List UInt8) (a1 : List TGroup) (a2 : TRow) (hp : ∀ p ∈ row_Put_ps a0 a1 a2, p) : CallOk Try.prog 79 [valA .bytes a0, .sl .group a1, valA .row a2] 0 [] 1 (row_Put_r a0 a1 a2) 1 (row_Put_o a0 a1 a2) := by
  have n0 : ((row_Put_k0 a0 a1 a2) = true → boundP ((0 : Nat) + a0.length)) := hp _ (List.mem_cons_self ..)
  have n1 : ((!(row_Put_k0 a0 a1 a2)) = true → boundP (a0.length + (8 : Nat) + a2.1.size)) := hp _ (List.mem_cons_of_mem _ (List.mem_cons_self ..))
  have n2 : ((!(row_Put_k0 a0 a1 a2)) = true → Stuck (4 : Nat)) := hp _ (List.mem_cons_of_mem _ (List.mem_cons_of_mem _ (List.mem_cons_self ..)))
  exact evF_ok (envP_ok Cl_ok L0_ok) (row_Put_ev a0 a1 a2) (needs_cons n0 (needs_cons n1 (needs_cons n2 needs_nil)))
def row_Put_r2 (_a0 : List UInt8) (_a1 : List TGroup) (_a2 : TRow) : A := .sq 0
def row_Put_o2 (a0 : List UInt8) (a1 : List TGroup) (a2 : TRow) : Objs := [(0, some (.arr 5 1 (.ty .u8 (a0 ++ putRw a1 a2))))]
def row_Put_ps2 (a0 : List UInt8) (_a1 : List TGroup) (_a2 : TRow) : List Prop := [boundP (a0.length + 1024)]
section
variable {F : Nat → Prop} {N : Nm} {nx : Nat} {R : World}
theorem byte_rows : ∀ {l : List UInt8} {zs : List Value}, zs.length = l.length → (∀ k, k < l.length → HL F N nx R [.v (byteV (l.getD k 0))] ((zs.drop (k * 1)).take 1)) → zs = l.map byteV
  | [], [], _, _ => rfl
  | [], _ :: _, h, _ => by cases h
  | _ :: _, [], h, _ => by cases h
  | x :: l, z :: zs, h, g => by
    have h0 := g 0 (Nat.succ_pos _)
    obtain ⟨v, vs, e1, e2, e3⟩ := h0.inv
    have hz : z = byteV x := by
      have e1' : [z] = v :: vs := e1
      injection e1' with e1' _
      rw [e1']
      exact e2.v_inv
    rw [List.map_cons, ← hz, byte_rows (l := l) (zs := zs) (by simpa using h) fun k hk => by
      have := g (k + 1) (Nat.succ_lt_succ hk)
      simpa [Nat.mul_one] using this]
theorem rows_byte {l : List UInt8} {k : Nat} (hk : k < l.length) : HL F N nx R [.v (byteV (l.getD k 0))] (((l.map byteV).drop (k * 1)).take 1) := by
  rw [Nat.mul_one, List.drop_eq_getElem_cons (by simpa using hk), List.take_succ_cons, List.take_zero, List.getElem_map, List.getD_eq_getElem?_getD, List.getElem?_eq_getElem hk]
  exact HL.cons (.v _) HL.nil
/-- Bytes of one's own as bytes that stay. -/
theorem OwnB.sl {base : Nat} {y : Value} {bs : List UInt8} (h : OwnB base R y bs) (N : Nm) : (∀ g, blkOf y = some g → g < R.heap.size) ∧ Hv (fun g => blkOf y = some g) N 0 R (.sl .u8 bs) y := by
  refine ⟨fun g hg => h.1.lt hg, ?_⟩
  obtain ⟨hl, h2⟩ := h.1
  rcases h2 with ⟨a, e1, e2⟩ | ⟨g, cap, cur, e1, e2, e3, _, e5, e6⟩
  · obtain rfl : bs = [] := List.eq_nil_of_length_eq_zero e2
    rw [e1]
    exact Hv.sl_nil rfl
  · rw [e1]
    refine Hv.of_sl e3 fun hn => ⟨⟨g, 0, none⟩, rfl, ?_, fun i d hd j x hx => ?_⟩
    · obtain ⟨m, hm⟩ : ∃ m, bs.length = m + 1 := ⟨bs.length - 1, by omega⟩
      rw [hm]
      rfl
    · cases j with
      | succ j => cases hx
      | zero =>
        have hi := (List.getElem?_eq_some_iff.1 hd).1
        have hz : (bs.map byteV)[i]? = some (byteV d) := by rw [List.getElem?_map, hd]; rfl
        rw [← e6, List.getElem?_take_of_lt (by omega)] at hz
        obtain rfl : A.v (byteV d) = x := Option.some.inj hx
        refine ⟨byteV d, ?_, .v _⟩
        rw [add_add, add_mk, blk_cell e2]
        show cur[0 + (i * 1 + 0)]? = _
        rw [Nat.zero_add, Nat.add_zero, Nat.mul_one]
        simpa using hz
end
/-- What a call hands back as bytes of its own. -/
theorem CallOk.bytes {P : Program} {f : FuncId} {args : List A} {bs : List UInt8} (h : CallOk P f args 0 [] 1 (.sq 0) 1 [(0, some (.arr 5 1 (.ty .u8 bs)))]) {F : Nat → Prop} {N : Nm} {R : World} {vs : List Value} (hF : ∀ g, F g → g < R.heap.size) (hv : HL F N 0 R args vs) :
    Calls P f vs.toArray R fun e R' => ∃ y, e = .returned y ∧ Below R.heap.size R R' ∧ OwnB R.heap.size R' y bs := by
  refine (h F N R vs (HRel.bare hF) hv).mono fun e R' ⟨y, F', N', e1, h2, h3, h4, h5⟩ => ⟨y, e1, h5 (Nat.le_refl _), ?_⟩
  obtain rfl : y = N'.q 0 := by cases h4; rfl
  obtain ⟨_, zs, g1, g2⟩ := h2.ob 0 _ rfl
  have e : zs = bs.map byteV := byte_rows (F := F') (N := N') (nx := 1) (R := R') (by rw [g1.1]; exact Nat.mul_one _) g2
  rw [e] at g1
  refine ⟨g1, fun g hg => ?_⟩
  rcases h3.foot g ⟨0, _, rfl, hg⟩ with ⟨i, ob, hl, _⟩ | h
  · cases hl
  · exact h
theorem OwnB.made {P : Program} {f : FuncId} {F : Nat → Prop} {N : Nm} {R : World} {vs : List Value} {bs : List UInt8} (hR : HRel F N 0 [] R)
    (h : Calls P f vs.toArray R fun e R' => ∃ y, e = .returned y ∧ Below R.heap.size R R' ∧ OwnB R.heap.size R' y bs) :
    Calls P f vs.toArray R fun e R' => ∃ y F' N', e = .returned y ∧ HRel F' N' 1 [(0, some (.arr 5 1 (.ty .u8 bs)))] R' ∧ Step F N 0 [] R F' N' 1 [(0, some (.arr 5 1 (.ty .u8 bs)))] R' ∧ Hv F' N' 1 R' (.sq 0) y ∧ (1 ≤ 1 → Below R.heap.size R R') := by
  refine h.mono fun e R' ⟨y, e1, hb, h2, h3⟩ => ⟨y, F, N.setQ 0 y, e1, ?_, ?_, ?_, fun _ => hb⟩
  · have hq : (N.setQ 0 y).q 0 = y := by show setF N.q 0 y 0 = y; exact setF_same _ _ _
    have one : ∀ i ob, lookO i [(0, some (Ob.arr 5 1 (.ty .u8 bs)))] = some ob → i = 0 ∧ ob = .arr 5 1 (.ty .u8 bs) := fun i ob hl => by
      cases i with
      | zero => cases hl; exact ⟨rfl, rfl⟩
      | succ i => cases hl
    refine ⟨fun g hg => Nat.lt_of_lt_of_le (hR.flt g hg) hb.size, fun i ob hl => ?_, fun i ob g hl hg hF => ?_, fun i j x z g hl hl' _ _ => (one i x hl).1.trans (one j z hl').1.symm⟩
    · obtain ⟨rfl, rfl⟩ := one i ob hl
      exact ⟨Nat.succ_pos _, bs.map byteV, by rw [hq]; exact h2, fun k hk => rows_byte hk⟩
    · obtain ⟨rfl, rfl⟩ := one i ob hl
      have hg' : blkOf ((N.setQ 0 y).q 0) = some g := hg
      rw [hq] at hg'
      have := hR.flt g hF
      have := h3 g hg'
      omega
  · refine ⟨Nat.zero_le _, fun i hi => absurd hi (Nat.not_lt_zero _), fun i hi => absurd hi (Nat.not_lt_zero _), fun _ h => h, fun _ h => .inl h, fun g ⟨i, ob, hl, hg⟩ => .inr ?_, hb.os, hb.tape, hb.output, hb.size, fun g hg _ => hb.block g hg⟩
    cases i with
    | succ i => cases hl
    | zero =>
      cases hl
      have hg' : blkOf ((N.setQ 0 y).q 0) = some g := hg
      rw [show (N.setQ 0 y).q 0 = y by show setF N.q 0 y 0 = y; exact setF_same _ _ _] at hg'
      exact h3 g hg'
  · have hq : (N.setQ 0 y).q 0 = y := by show setF N.q 0 y 0 = y; exact setF_same _ _ _
    have := Hv.sq (F := F) (N := N.setQ 0 y) (nx := 1) (R := R') (i := 0) (Nat.succ_pos _)
    rw [hq] at this
    exact this
theorem putC_80 (p : Int) (c : TCell) : (putC p c).length ≤ 128 := by
  unfold putC bodyC
  cases hg : goodC p c with
  | false => exact Nat.zero_le _
  | true =>
    have n8 := putN_8 (flagsC c)
    have s8 := putS_8 c.stamp
    have v16 := putV_16 c.vec
    have d16 := putV_16 c.dead
    have t8 := putT_8 c.value
    cases hw : written c with
    | false => cases zeroV c.dead <;> simp only [cond_true, cond_false, List.length_append, List.length_nil] <;> omega
    | true =>
      have := ((goodC_iff.1 hg).st hw).2.2.2.1
      cases zeroV c.dead <;> cases c.gone <;> simp only [cond_true, cond_false, List.length_append, List.length_nil] <;> omega
theorem row_Put_c2 (a0 : List UInt8) (a1 : List TGroup) (a2 : TRow) (hp : ∀ p ∈ row_Put_ps2 a0 a1 a2, p) : CallOk Try.prog 79 [valA .bytes a0, .sl .group a1, valA .row a2] 0 [] 1 (row_Put_r2 a0 a1 a2) 1 (row_Put_o2 a0 a1 a2) := by
  have hb : boundP (a0.length + 1024) := hp _ (List.mem_cons_self ..)
  unfold boundP at hb
  cases hg : goodRow a1 a2 == 0 with
  | false =>
    have hk : row_Put_k0 a0 a1 a2 = true := by
      show (goodRow a1 a2 != 0) = true
      simpa using hg
    have h := row_Put_c a0 a1 a2 (needs_cons (fun _ => by unfold boundP; omega) (needs_cons (fun h => by rw [hk] at h; cases h) (needs_cons (fun h => by rw [hk] at h; cases h) needs_nil)))
    have e : row_Put_o a0 a1 a2 = row_Put_o2 a0 a1 a2 := by
      unfold row_Put_o row_Put_o2 row_Put_0 putRw
      rw [hg, cond_false, List.append_nil, List.nil_append]
    rw [e] at h
    exact h
  | true =>
    have h0 : goodRow a1 a2 = 0 := by simpa using hg
    obtain ⟨h1, hlen, _, h32, _⟩ := goodRow_0 h0
    obtain ⟨hl1, hl4⟩ := goodP_0 h1
    intro F N R vs hR hv
    obtain ⟨v, vs, rfl, hv0, hv⟩ := hv.inv
    obtain ⟨v0, vs, rfl, k0, hv⟩ := hv.inv
    obtain ⟨v1, vs, rfl, k1, hv⟩ := hv.inv
    rw [hv.inv0]
    have hv0' := hv0
    obtain ⟨ab, ncap, rfl, _⟩ := Hv.sl_inv (c := .u8) (l := a0) hv0
    obtain ⟨us, rfl, k2⟩ := Hv.agg_inv (xs := [.v (.string a2.key), .sl .cell a2.cells]) k1
    obtain ⟨u0, us, rfl, m0, k2⟩ := k2.inv
    obtain ⟨u1, us, rfl, m1, k2⟩ := k2.inv
    obtain rfl := k2.inv0
    obtain rfl := m0.v_inv
    obtain ⟨aa, cap0, rfl, g0⟩ := gs_at hR.flt k0
    obtain ⟨ac, cap1, rfl, g1⟩ := cs_at hR.flt m1
    have ho : row_Put_o2 a0 a1 a2 = [(0, some (.arr 5 1 (.ty .u8 ((a0 ++ putT a2.key) ++ (a1.zip a2.cells).flatMap (fun x => putC x.1.policy x.2)))))] := by
      unfold row_Put_o2 putRw putRow
      rw [hg, cond_true, List.append_assoc]
    rw [ho]
    refine OwnB.made hR (rput_calls R aa ac a1 a2.cells a2.key cap0 cap1 a0.length ncap ab (a0 ++ putT a2.key) putC 128 putC_80 ?_ hl1 hl4 (by rw [hlen]; exact beq_self _) ?_ ?_ g0 g1)
    · intro W hW
      have h : Calls Try.prog 65 #[.slice aa a1.length cap0, .agg #[.string a2.key, .slice ac a2.cells.length cap1]] W fun e W' => e = .returned (.int .i64 (goodRow a1 a2)) ∧ Below W.heap.size W W' := (row_Good_c2 a1 a2 (fun _ h => by cases h)).plain (F := F) (N := N) (R := W) (vs := [.slice aa a1.length cap0, .agg #[.string a2.key, .slice ac a2.cells.length cap1]]) (fun g hg => Nat.lt_of_lt_of_le (hR.flt g hg) hW.size) (HL.cons (k0.step (hR.grow hW).2) (HL.cons (k1.step (hR.grow hW).2) HL.nil))
      rw [h0] at h
      exact h
    · intro W hW
      exact (num_PutText_c2 a0 a2.key (needs_cons (by unfold boundP; omega) needs_nil)).bytes (F := F) (N := N) (R := W) (vs := [_, .string a2.key]) (fun g hg => Nat.lt_of_lt_of_le (hR.flt g hg) hW.size) (HL.cons (hv0'.step (hR.grow hW).2) (HL.cons (.v _) HL.nil))
    · intro W v bs q c base ho hl
      obtain ⟨f1, f2⟩ := ho.sl N
      have h8 := putT_8 a2.key
      rw [List.length_append] at hl
      exact (cell_Put_c2 bs q c (needs_cons (by unfold boundP; omega) needs_nil)).bytes (F := fun g => blkOf v = some g) (N := N) (R := W) (vs := [v, .int .i64 q, cV c]) f1 (HL.cons f2 (HL.cons (.v _) (HL.cons (.v _) HL.nil)))
def row_Put_t : List A → Nat → Objs → Option CRes
  | [y0, y1, y2], nx, o => match argU .bytes y0, argL .group y1, argU .row y2 with
    | some (a0, p0), some a1, some (a2, p2) => some (1, (row_Put_r2 a0 a1 a2).pk (shiftR nx), nx + 1, shiftO nx (row_Put_o2 a0 a1 a2) ++ o, p0 ++ (p2 ++ (row_Put_ps2 a0 a1 a2)))
    | _, _, _ => none
  | _, _, _ => none
theorem row_Put_tok : TOk Try.prog 79 row_Put_t := fun args nx o k x nx' o' ps h => by
  unfold row_Put_t at h
  split at h <;> first | (cases h; done) | skip
  split at h <;> first | (cases h; done) | skip
  rename_i a0 p0 a1 a2 p2 e0 e1 e2
  cases h
  refine ⟨fun hp => ?_, _, rfl⟩
  have q0 := fun p hm => hp p (List.mem_append.2 (.inl hm))
  have r0 := fun p hm => hp p (List.mem_append.2 (.inr hm))
  have q2 := fun p hm => r0 p (List.mem_append.2 (.inl hm))
  have r2 := fun p hm => r0 p (List.mem_append.2 (.inr hm))
  refine callOk_args (callOk_shift (row_Put_c2 a0 a1 a2 r2) (Nat.le_refl _) (freeL_cons (valA_free _ _) (freeL_cons rfl (freeL_cons (valA_free _ _) freeL_nil))) nx o) fun F N R vs hl => ?_
  obtain ⟨v0, w0, rfl, h0, hl⟩ := hl.inv
  obtain ⟨v1, w1, rfl, h1, hl⟩ := hl.inv
  obtain ⟨v2, w2, rfl, h2, hl⟩ := hl.inv
  exact HL.cons (argU_ok e0 q0 h0) (HL.cons (argL_ok e1 h1) (HL.cons (argU_ok e2 q2 h2) (hl)))
noncomputable def Cm_1 := addC 79 row_Put_t Cl
theorem Cm_1_ok : COk Try.prog Cm_1 := addC_ok row_Put_tok Cl_ok
def r01_Add_0 (a0 : Int) (a1 : Int) (a2 : Int) : Int := bif decide (a0 > a2) || decide (a1 > a2) || decide (a0 > IntKind.i64.wrap (a2 - a1)) then IntKind.i64.wrap (a2 + (1 : Int)) else IntKind.i64.wrap (a0 + a1)
def r01_Add_r (a0 : Int) (a1 : Int) (a2 : Int) : A := .v (.int .i64 (r01_Add_0 a0 a1 a2))
def r01_Add_o (_a0 : Int) (_a1 : Int) (_a2 : Int) : Objs := []
def r01_Add_ps (_a0 : Int) (_a1 : Int) (_a2 : Int) : List Prop := []
set_option maxRecDepth 100000 in
theorem r01_Add_ev (a0 : Int) (a1 : Int) (a2 : Int) : evF (envT Cm_1 L0) 9 111 [valA .i64 a0, valA .i64 a1, valA .i64 a2] 0 [] = some (1, r01_Add_r a0 a1 a2, 0, r01_Add_o a0 a1 a2, []) := by kernel_rfl
set_option maxRecDepth 100000 in
theorem r01_Add_c (a0 : Int) (a1 : Int) (a2 : Int) (_hp : ∀ p ∈ r01_Add_ps a0 a1 a2, p) : CallOk Try.prog 111 [valA .i64 a0, valA .i64 a1, valA .i64 a2] 0 [] 1 (r01_Add_r a0 a1 a2) 0 (r01_Add_o a0 a1 a2) := by
  exact evF_ok (envP_ok Cm_1_ok L0_ok) (r01_Add_ev a0 a1 a2) needs_nil
def r01_Add_t : List A → Nat → Objs → Option CRes
  | [y0, y1, y2], nx, o => match argU .i64 y0, argU .i64 y1, argU .i64 y2 with
    | some (a0, p0), some (a1, p1), some (a2, p2) => some (1, (r01_Add_r a0 a1 a2).pk (shiftR nx), nx + 0, shiftO nx (r01_Add_o a0 a1 a2) ++ o, p0 ++ (p1 ++ (p2 ++ (r01_Add_ps a0 a1 a2))))
    | _, _, _ => none
  | _, _, _ => none
theorem r01_Add_tok : TOk Try.prog 111 r01_Add_t := fun args nx o k x nx' o' ps h => by
  unfold r01_Add_t at h
  split at h <;> first | (cases h; done) | skip
  split at h <;> first | (cases h; done) | skip
  rename_i a0 p0 a1 p1 a2 p2 e0 e1 e2
  cases h
  refine ⟨fun hp => ?_, _, rfl⟩
  have q0 := fun p hm => hp p (List.mem_append.2 (.inl hm))
  have r0 := fun p hm => hp p (List.mem_append.2 (.inr hm))
  have q1 := fun p hm => r0 p (List.mem_append.2 (.inl hm))
  have r1 := fun p hm => r0 p (List.mem_append.2 (.inr hm))
  have q2 := fun p hm => r1 p (List.mem_append.2 (.inl hm))
  have r2 := fun p hm => r1 p (List.mem_append.2 (.inr hm))
  refine callOk_args (callOk_shift (r01_Add_c a0 a1 a2 r2) (Nat.le_refl _) (freeL_cons (valA_free _ _) (freeL_cons (valA_free _ _) (freeL_cons (valA_free _ _) freeL_nil))) nx o) fun F N R vs hl => ?_
  obtain ⟨v0, w0, rfl, h0, hl⟩ := hl.inv
  obtain ⟨v1, w1, rfl, h1, hl⟩ := hl.inv
  obtain ⟨v2, w2, rfl, h2, hl⟩ := hl.inv
  exact HL.cons (argU_ok e0 q0 h0) (HL.cons (argU_ok e1 q1 h1) (HL.cons (argU_ok e2 q2 h2) (hl)))
noncomputable def Cm_2 := addC 111 r01_Add_t Cm_1
theorem Cm_2_ok : COk Try.prog Cm_2 := addC_ok r01_Add_tok Cm_1_ok
theorem add_ok {n k m : Int} (hn : 0 ≤ n) (hk : 0 ≤ k ∧ k ≤ 9223372036854775807) (hm : 0 ≤ m ∧ m ≤ 1099511627776) : (r01_Add_0 n k m ≤ m → n + k ≤ m) ∧ 0 ≤ r01_Add_0 n k m ∧ (n + k ≤ m → r01_Add_0 n k m = n + k) := by
  unfold r01_Add_0
  rw [i64_in (n := m - k) (by omega), i64_in (n := m + 1) (by omega)]
  by_cases h : n + k ≤ m
  · have e : (decide (n > m) || decide (k > m) || decide (n > m - k)) = false := by
      rw [decide_eq_false (by omega), decide_eq_false (by omega), decide_eq_false (by omega)]; rfl
    rw [e, cond_false, i64_in (by omega)]
    exact ⟨fun _ => h, by omega, fun _ => rfl⟩
  · have e : (decide (n > m) || decide (k > m) || decide (n > m - k)) = true := by
      rw [decide_eq_true (p := n > m - k) (by omega), Bool.or_true]
    rw [e, cond_true]
    exact ⟨fun h' => by omega, by omega, fun h' => absurd h' h⟩
theorem sz_in {k : Nat} (h : wideN k) : (0 : Int) ≤ (k : Int) ∧ (k : Int) ≤ 9223372036854775807 := by unfold wideN at h; omega
/-! loop 2 of function 60 -/
abbrev l10_light_l2_X : Type := (List TRow) × Int × Int × Int
def l10_light_l2_T (x : l10_light_l2_X) : St := ⟨64, 0, [(1, .sl .row x.1), (5, .v (.int .i64 x.2.1)), (6, .v (.int .i64 x.2.2.1)), (7, .v (.int .i64 x.2.2.2))], []⟩
def l10_light_l2_un : St → Option l10_light_l2_X
  | ⟨64, 0, [(1, .sl .row z0), (5, .v (.int .i64 z1)), (6, .v (.int .i64 z2)), (7, .v (.int .i64 z3))], []⟩ => some (z0, z1, z2, z3)
  | _ => none
theorem l10_light_l2_unok : ∀ s x, l10_light_l2_un s = some x → s = l10_light_l2_T x := fun s x h => by
  unfold l10_light_l2_un at h
  split at h
  · cases h; rfl
  · cases h
def l10_light_l2_S : Shape := ⟨0, 0, [1, 5, 6, 7], [], [], [], [5], []⟩
def l10_light_l2_E : Entry := ⟨[], [], [1, 5, 6, 7], []⟩
def l10_light_l2_f_k0 (a0 : List TRow) (a1 : Int) (a2 : Int) (a3 : Int) : Bool := !!(decide (a3 < (↑(a0.getD a2.toNat (dflt TC.row)).2.length : Int)) && decide (a1 ≤ (5000 : Int)))
def l10_light_l2_f_1 (a0 : List TRow) (a1 : Int) (a2 : Int) (a3 : Int) : Int := r01_Add_0 a1 (↑((a0.getD a2.toNat (dflt TC.row)).2.getD a3.toNat (dflt TC.cell)).4.size : Int) (5000 : Int)
def l10_light_l2_f_8 (a0 : List TRow) (a1 : Int) (a2 : Int) (a3 : Int) : Bool := !(decide (a3 < (↑(a0.getD a2.toNat (dflt TC.row)).2.length : Int)) && decide (a1 ≤ (5000 : Int)))
def l10_light_l2_next (x : l10_light_l2_X) : l10_light_l2_X := (x.1, l10_light_l2_f_1 x.1 x.2.1 x.2.2.1 x.2.2.2, x.2.2.1, IntKind.i64.wrap (x.2.2.2 + (1 : Int)))
def l10_light_l2_goes (x : l10_light_l2_X) : Cnd := some ((l10_light_l2_f_k0 x.1 x.2.1 x.2.2.1 x.2.2.2))
def l10_light_l2_psA (x : l10_light_l2_X) : List Prop := [((0 : Int) ≤ x.2.2.1 ∧ x.2.2.1 < (↑x.1.length : Int)), ((l10_light_l2_f_k0 x.1 x.2.1 x.2.2.1 x.2.2.2) = true → (0 : Int) ≤ x.2.2.1 ∧ x.2.2.1 < (↑x.1.length : Int)), ((l10_light_l2_f_k0 x.1 x.2.1 x.2.2.1 x.2.2.2) = true → (0 : Int) ≤ x.2.2.2 ∧ x.2.2.2 < (↑(x.1.getD x.2.2.1.toNat (dflt TC.row)).2.length : Int))]
def l10_light_l2_ps (x : l10_light_l2_X) : List Prop := [((0 : Int) ≤ x.2.2.1 ∧ x.2.2.1 < (↑x.1.length : Int)), ((l10_light_l2_f_k0 x.1 x.2.1 x.2.2.1 x.2.2.2) = true → (0 : Int) ≤ x.2.2.1 ∧ x.2.2.1 < (↑x.1.length : Int)), ((l10_light_l2_f_k0 x.1 x.2.1 x.2.2.1 x.2.2.2) = true → (0 : Int) ≤ x.2.2.2 ∧ x.2.2.2 < (↑(x.1.getD x.2.2.1.toNat (dflt TC.row)).2.length : Int))]
def l10_light_l2_outs (x : l10_light_l2_X) : Outs := [(some 2, some (l10_light_l2_f_8 x.1 x.2.1 x.2.2.1 x.2.2.2), ⟨64, 0, [(5, .v (.int .i64 x.2.1))], []⟩)]
def l10_light_l2_fuel (x : l10_light_l2_X) : Nat := ((↑(x.1.getD x.2.2.1.toNat (dflt TC.row)).2.length : Int) - x.2.2.2).toNat
def l10_light_l2_run (x : l10_light_l2_X) : l10_light_l2_X := iterX l10_light_l2_next l10_light_l2_goes (l10_light_l2_fuel x) x
set_option maxRecDepth 100000 in
theorem l10_light_l2_ev (a0 : List TRow) (a1 : Int) (a2 : Int) (a3 : Int) : roundE (envT Cm_2 L0) 9 (loopAt Try.prog 60 2) l10_light_l2_S (l10_light_l2_T (a0, a1, a2, a3)) = some (l10_light_l2_psA (a0, a1, a2, a3), l10_light_l2_outs (a0, a1, a2, a3), l10_light_l2_goes (a0, a1, a2, a3), l10_light_l2_T (l10_light_l2_next (a0, a1, a2, a3))) := by kernel_rfl
set_option maxRecDepth 100000 in
theorem l10_light_l2_hA (a0 : List TRow) (a1 : Int) (a2 : Int) (a3 : Int) (hp : ∀ p ∈ l10_light_l2_ps (a0, a1, a2, a3), p) : ∀ p ∈ l10_light_l2_psA (a0, a1, a2, a3), p := by
  have n0 : ((0 : Int) ≤ a2 ∧ a2 < (↑a0.length : Int)) := hp _ (List.mem_cons_self ..)
  have n1 : ((l10_light_l2_f_k0 a0 a1 a2 a3) = true → (0 : Int) ≤ a2 ∧ a2 < (↑a0.length : Int)) := hp _ (List.mem_cons_of_mem _ (List.mem_cons_self ..))
  have n2 : ((l10_light_l2_f_k0 a0 a1 a2 a3) = true → (0 : Int) ≤ a3 ∧ a3 < (↑(a0.getD a2.toNat (dflt TC.row)).2.length : Int)) := hp _ (List.mem_cons_of_mem _ (List.mem_cons_of_mem _ (List.mem_cons_self ..)))
  exact (needs_cons n0 (needs_cons n1 (needs_cons n2 needs_nil)))
noncomputable def l10_light_l2_row := rowL (envT Cm_2 L0) (loopAt Try.prog 60 2) l10_light_l2_S l10_light_l2_E l10_light_l2_un l10_light_l2_fuel l10_light_l2_next l10_light_l2_goes l10_light_l2_ps l10_light_l2_outs
theorem l10_light_l2_rok : ∀ s b ps outs, l10_light_l2_row s = some (b, ps, outs) → Wf s ⟨ps, outs, none⟩ ∧ LoopOk (envT C0 L0) b s ps outs :=
  rowP_ok (T := l10_light_l2_T) Cm_2_ok L0_ok (u := 9) (by kernel_rfl) (by decide) (fun ⟨a0, a1, a2, a3⟩ => l10_light_l2_ev a0 a1 a2 a3) (fun ⟨a0, a1, a2, a3⟩ => l10_light_l2_hA a0 a1 a2 a3) l10_light_l2_unok (fun _ => okOuts_ok (n := 64) rfl) fun _ _ => rfl
noncomputable def l10_light_l2_L := addLp 2 l10_light_l2_row L0
theorem l10_light_l2_Lok : LpOk l10_light_l2_L := addLp_ok l10_light_l2_rok L0_ok
/-! loop 0 of function 60 -/
abbrev l10_light_l0_X : Type := (List TRow) × Int × Int
def l10_light_l0_T (x : l10_light_l0_X) : St := ⟨64, 0, [(1, .sl .row x.1), (5, .v (.int .i64 x.2.1)), (6, .v (.int .i64 x.2.2))], []⟩
def l10_light_l0_un : St → Option l10_light_l0_X
  | ⟨64, 0, [(1, .sl .row z0), (5, .v (.int .i64 z1)), (6, .v (.int .i64 z2))], []⟩ => some (z0, z1, z2)
  | _ => none
theorem l10_light_l0_unok : ∀ s x, l10_light_l0_un s = some x → s = l10_light_l0_T x := fun s x h => by
  unfold l10_light_l0_un at h
  split at h
  · cases h; rfl
  · cases h
def l10_light_l0_S : Shape := ⟨0, 0, [1, 5, 6], [], [], [], [5], []⟩
def l10_light_l0_E : Entry := ⟨[], [], [1, 5, 6], []⟩
def l10_light_l0_f_k0 (a0 : List TRow) (a1 : Int) (a2 : Int) : Bool := !!(decide (a2 < (↑a0.length : Int)) && decide (a1 ≤ (5000 : Int)))
def l10_light_l0_f_1 (a0 : List TRow) (a1 : Int) (a2 : Int) : Int := (l10_light_l2_run (a0, r01_Add_0 (r01_Add_0 a1 (↑(a0.getD a2.toNat (dflt TC.row)).1.size : Int) (5000 : Int)) (↑(a0.getD a2.toNat (dflt TC.row)).2.length : Int) (5000 : Int), a2, (0 : Int))).snd.fst
def l10_light_l0_f_8 (a0 : List TRow) (a1 : Int) (a2 : Int) : Bool := !(decide (a2 < (↑a0.length : Int)) && decide (a1 ≤ (5000 : Int)))
def l10_light_l0_next (x : l10_light_l0_X) : l10_light_l0_X := (x.1, l10_light_l0_f_1 x.1 x.2.1 x.2.2, IntKind.i64.wrap (x.2.2 + (1 : Int)))
def l10_light_l0_goes (x : l10_light_l0_X) : Cnd := some ((l10_light_l0_f_k0 x.1 x.2.1 x.2.2))
def l10_light_l0_psA (x : l10_light_l0_X) : List Prop := [((l10_light_l0_f_k0 x.1 x.2.1 x.2.2) = true → (0 : Int) ≤ x.2.2 ∧ x.2.2 < (↑x.1.length : Int)), ((l10_light_l0_f_k0 x.1 x.2.1 x.2.2) = true → (0 : Int) ≤ x.2.2 ∧ x.2.2 < (↑x.1.length : Int)), ((l10_light_l0_f_k0 x.1 x.2.1 x.2.2) = true → loopAt Try.prog (60 : FuncId) (2 : Nat) = loopAt Try.prog (60 : FuncId) (2 : Nat)), ((l10_light_l0_f_k0 x.1 x.2.1 x.2.2) = true → needX l10_light_l2_next l10_light_l2_goes l10_light_l2_ps (l10_light_l2_fuel (x.1, r01_Add_0 (r01_Add_0 x.2.1 (↑(x.1.getD x.2.2.toNat (dflt TC.row)).1.size : Int) (5000 : Int)) (↑(x.1.getD x.2.2.toNat (dflt TC.row)).2.length : Int) (5000 : Int), x.2.2, (0 : Int))) (x.1, r01_Add_0 (r01_Add_0 x.2.1 (↑(x.1.getD x.2.2.toNat (dflt TC.row)).1.size : Int) (5000 : Int)) (↑(x.1.getD x.2.2.toNat (dflt TC.row)).2.length : Int) (5000 : Int), x.2.2, (0 : Int)))]
def l10_light_l0_ps (x : l10_light_l0_X) : List Prop := [((l10_light_l0_f_k0 x.1 x.2.1 x.2.2) = true → (0 : Int) ≤ x.2.2 ∧ x.2.2 < (↑x.1.length : Int)), ((l10_light_l0_f_k0 x.1 x.2.1 x.2.2) = true → needX l10_light_l2_next l10_light_l2_goes l10_light_l2_ps (l10_light_l2_fuel (x.1, r01_Add_0 (r01_Add_0 x.2.1 (↑(x.1.getD x.2.2.toNat (dflt TC.row)).1.size : Int) (5000 : Int)) (↑(x.1.getD x.2.2.toNat (dflt TC.row)).2.length : Int) (5000 : Int), x.2.2, (0 : Int))) (x.1, r01_Add_0 (r01_Add_0 x.2.1 (↑(x.1.getD x.2.2.toNat (dflt TC.row)).1.size : Int) (5000 : Int)) (↑(x.1.getD x.2.2.toNat (dflt TC.row)).2.length : Int) (5000 : Int), x.2.2, (0 : Int)))]
def l10_light_l0_outs (x : l10_light_l0_X) : Outs := [(some 0, some (l10_light_l0_f_8 x.1 x.2.1 x.2.2), ⟨64, 0, [(5, .v (.int .i64 x.2.1))], []⟩)]
def l10_light_l0_fuel (x : l10_light_l0_X) : Nat := ((↑x.1.length : Int) - x.2.2).toNat
def l10_light_l0_run (x : l10_light_l0_X) : l10_light_l0_X := iterX l10_light_l0_next l10_light_l0_goes (l10_light_l0_fuel x) x
set_option maxRecDepth 100000 in
theorem l10_light_l0_ev (a0 : List TRow) (a1 : Int) (a2 : Int) : roundE (envT Cm_2 l10_light_l2_L) 9 (loopAt Try.prog 60 0) l10_light_l0_S (l10_light_l0_T (a0, a1, a2)) = some (l10_light_l0_psA (a0, a1, a2), l10_light_l0_outs (a0, a1, a2), l10_light_l0_goes (a0, a1, a2), l10_light_l0_T (l10_light_l0_next (a0, a1, a2))) := by kernel_rfl
set_option maxRecDepth 100000 in
theorem l10_light_l0_hA (a0 : List TRow) (a1 : Int) (a2 : Int) (hp : ∀ p ∈ l10_light_l0_ps (a0, a1, a2), p) : ∀ p ∈ l10_light_l0_psA (a0, a1, a2), p := by
  have n0 : ((l10_light_l0_f_k0 a0 a1 a2) = true → (0 : Int) ≤ a2 ∧ a2 < (↑a0.length : Int)) := hp _ (List.mem_cons_self ..)
  have n2 : ((l10_light_l0_f_k0 a0 a1 a2) = true → loopAt Try.prog (60 : FuncId) (2 : Nat) = loopAt Try.prog (60 : FuncId) (2 : Nat)) := by intros; rfl
  have n3 : ((l10_light_l0_f_k0 a0 a1 a2) = true → needX l10_light_l2_next l10_light_l2_goes l10_light_l2_ps (l10_light_l2_fuel (a0, r01_Add_0 (r01_Add_0 a1 (↑(a0.getD a2.toNat (dflt TC.row)).1.size : Int) (5000 : Int)) (↑(a0.getD a2.toNat (dflt TC.row)).2.length : Int) (5000 : Int), a2, (0 : Int))) (a0, r01_Add_0 (r01_Add_0 a1 (↑(a0.getD a2.toNat (dflt TC.row)).1.size : Int) (5000 : Int)) (↑(a0.getD a2.toNat (dflt TC.row)).2.length : Int) (5000 : Int), a2, (0 : Int))) := hp _ (List.mem_cons_of_mem _ (List.mem_cons_self ..))
  exact (needs_cons n0 (needs_cons n0 (needs_cons n2 (needs_cons n3 needs_nil))))
noncomputable def l10_light_l0_row := rowL (envT Cm_2 l10_light_l2_L) (loopAt Try.prog 60 0) l10_light_l0_S l10_light_l0_E l10_light_l0_un l10_light_l0_fuel l10_light_l0_next l10_light_l0_goes l10_light_l0_ps l10_light_l0_outs
theorem l10_light_l0_rok : ∀ s b ps outs, l10_light_l0_row s = some (b, ps, outs) → Wf s ⟨ps, outs, none⟩ ∧ LoopOk (envT C0 L0) b s ps outs :=
  rowP_ok (T := l10_light_l0_T) Cm_2_ok l10_light_l2_Lok (u := 9) (by kernel_rfl) (by decide) (fun ⟨a0, a1, a2⟩ => l10_light_l0_ev a0 a1 a2) (fun ⟨a0, a1, a2⟩ => l10_light_l0_hA a0 a1 a2) l10_light_l0_unok (fun _ => okOuts_ok (n := 64) rfl) fun _ _ => rfl
noncomputable def l10_light_l0_L := addLp 0 l10_light_l0_row l10_light_l2_L
theorem l10_light_l0_Lok : LpOk l10_light_l0_L := addLp_ok l10_light_l0_rok l10_light_l2_Lok
def l10_light_0 (a0 : List TGroup) (a1 : List TRow) : Bool := decide ((l10_light_l0_run (a1, r01_Add_0 (0 : Int) (↑a0.length : Int) (5000 : Int), (0 : Int))).snd.fst ≤ (5000 : Int))
def l10_light_r (a0 : List TGroup) (a1 : List TRow) : A := .v (.bool (l10_light_0 a0 a1))
def l10_light_o (_a0 : List TGroup) (_a1 : List TRow) : Objs := []
def l10_light_ps (a0 : List TGroup) (a1 : List TRow) : List Prop := [(needX l10_light_l0_next l10_light_l0_goes l10_light_l0_ps (l10_light_l0_fuel (a1, r01_Add_0 (0 : Int) (↑a0.length : Int) (5000 : Int), (0 : Int))) (a1, r01_Add_0 (0 : Int) (↑a0.length : Int) (5000 : Int), (0 : Int)))]
set_option maxRecDepth 100000 in
theorem l10_light_ev (a0 : List TGroup) (a1 : List TRow) : evF (envT Cm_2 l10_light_l0_L) 9 60 [.sl .group a0, valA .rows a1] 0 [] = some (1, l10_light_r a0 a1, 0, l10_light_o a0 a1, [(loopAt Try.prog (60 : FuncId) (0 : Nat) = loopAt Try.prog (60 : FuncId) (0 : Nat)), (needX l10_light_l0_next l10_light_l0_goes l10_light_l0_ps (l10_light_l0_fuel (a1, r01_Add_0 (0 : Int) (↑a0.length : Int) (5000 : Int), (0 : Int))) (a1, r01_Add_0 (0 : Int) (↑a0.length : Int) (5000 : Int), (0 : Int)))]) := by kernel_rfl
set_option maxRecDepth 100000 in
theorem l10_light_c (a0 : List TGroup) (a1 : List TRow) (hp : ∀ p ∈ l10_light_ps a0 a1, p) : CallOk Try.prog 60 [.sl .group a0, valA .rows a1] 0 [] 1 (l10_light_r a0 a1) 0 (l10_light_o a0 a1) := by
  have n1 : (needX l10_light_l0_next l10_light_l0_goes l10_light_l0_ps (l10_light_l0_fuel (a1, r01_Add_0 (0 : Int) (↑a0.length : Int) (5000 : Int), (0 : Int))) (a1, r01_Add_0 (0 : Int) (↑a0.length : Int) (5000 : Int), (0 : Int))) := hp _ (List.mem_cons_self ..)
  exact evF_ok (envP_ok Cm_2_ok l10_light_l0_Lok) (l10_light_ev a0 a1) (needs_cons rfl (needs_cons n1 needs_nil))
def l10_light_r2 (a0 : List TGroup) (a1 : List TRow) : A := .v (.bool (l10_light_0 a0 a1))
def l10_light_o2 (_a0 : List TGroup) (_a1 : List TRow) : Objs := []
def l10_light_ps2 (a0 : List TGroup) (a1 : List TRow) : List Prop := [wideN a0.length ∧ wideN a1.length ∧ ∀ r ∈ a1, wideN r.key.size ∧ wideN r.cells.length ∧ ∀ c ∈ r.cells, wideN c.value.size]
/-- What is said of a row that is light. -/
def smallR (m : Nat) (r : TRow) : Prop := r.key.size ≤ m ∧ r.cells.length ≤ m ∧ ∀ c ∈ r.cells, c.value.size ≤ m
def wideR (r : TRow) : Prop := wideN r.key.size ∧ wideN r.cells.length ∧ ∀ c ∈ r.cells, wideN c.value.size
theorem getD_in {α : Type} (l : List α) (d : α) (i : Nat) (h : i < l.length) : l.getD i d ∈ l := by
  rw [List.getD_eq_getElem?_getD, List.getElem?_eq_getElem h]
  exact List.getElem_mem h
def nk (cs : List TCell) (n0 : Int) : Nat → Int
  | 0 => n0
  | k + 1 => r01_Add_0 (nk cs n0 k) ((cs.getD k (dflt TC.cell)).4.size : Int) 5000
theorem nk_ok (cs : List TCell) (n0 : Int) (h0 : 0 ≤ n0) (hw : ∀ c ∈ cs, wideN c.value.size) : ∀ k, k ≤ cs.length → 0 ≤ nk cs n0 k ∧ (nk cs n0 k ≤ 5000 → n0 ≤ 5000 ∧ ∀ j, j < k → (cs.getD j (dflt TC.cell)).value.size ≤ 5000)
  | 0, _ => ⟨h0, fun h => ⟨h, fun j hj => absurd hj (Nat.not_lt_zero _)⟩⟩
  | k + 1, hk => by
    obtain ⟨g1, g2⟩ := nk_ok cs n0 h0 hw k (by omega)
    obtain ⟨a1, a2, _⟩ := add_ok g1 (sz_in (hw _ (getD_in cs (dflt TC.cell) k (by omega)))) (m := 5000) (by omega)
    refine ⟨a2, fun h => ?_⟩
    have h' := a1 h
    obtain ⟨b1, b2⟩ := g2 (by omega)
    refine ⟨b1, fun j hj => ?_⟩
    by_cases e : j < k
    · exact b2 j e
    · obtain rfl : j = k := by omega
      show (cs.getD j (dflt TC.cell)).4.size ≤ 5000
      omega
/-- The inner loop. -/
theorem light_inner (rows : List TRow) (i : Nat) (hi : i < rows.length) (n0 : Int) (h0 : 0 ≤ n0) (hl : n0 ≤ 5000 → (rows.getD i (dflt TC.row)).cells.length ≤ 5000) (hw : ∀ c ∈ (rows.getD i (dflt TC.row)).cells, wideN c.value.size) :
    needX l10_light_l2_next l10_light_l2_goes l10_light_l2_ps (l10_light_l2_fuel (rows, n0, (i : Int), 0)) (rows, n0, (i : Int), 0) ∧
    0 ≤ (l10_light_l2_run (rows, n0, (i : Int), 0)).snd.fst ∧ ((l10_light_l2_run (rows, n0, (i : Int), 0)).snd.fst ≤ 5000 → n0 ≤ 5000 ∧ ∀ c ∈ (rows.getD i (dflt TC.row)).cells, c.value.size ≤ 5000) := by
  generalize hcs : (rows.getD i (dflt TC.row)).cells = cs at *
  have hcs2 : (rows.getD i (dflt TC.row)).2 = cs := hcs
  have hgo : ∀ k : Nat, l10_light_l2_f_k0 rows (nk cs n0 k) (i : Int) (k : Int) = (decide (k < cs.length) && !!decide (nk cs n0 k ≤ 5000)) := fun k => by
    unfold l10_light_l2_f_k0
    rw [Int.toNat_natCast, hcs2, nn, nn, dlt]
  obtain ⟨h1, k, hk, hx, hs, hst, _⟩ := scanB (fun k => ((rows, nk cs n0 k, (i : Int), (k : Int)) : l10_light_l2_X)) cs.length (fun k => !decide (nk cs n0 k ≤ 5000)) l10_light_l2_next l10_light_l2_goes l10_light_l2_ps (l10_light_l2_fuel (rows, n0, (i : Int), 0)) (rows, n0, (i : Int), 0) rfl
    (by show cs.length ≤ (((rows.getD ((i : Int)).toNat (dflt TC.row)).2.length : Int) - 0).toNat; rw [Int.toNat_natCast, hcs2]; omega)
    (fun k _ _ => by
      show l10_light_l2_f_k0 rows (nk cs n0 k) (i : Int) (k : Int) = _
      rw [hgo])
    (fun k hk hs => by
      have h5 : n0 ≤ 5000 := by
        have := hs 0 (Nat.succ_pos k)
        rw [Bool.not_eq_false'] at this
        exact of_decide_eq_true this
      have := hl h5
      show (rows, l10_light_l2_f_1 rows (nk cs n0 k) (i : Int) (k : Int), (i : Int), IntKind.i64.wrap ((k : Int) + 1)) = (rows, nk cs n0 (k + 1), (i : Int), ((k + 1 : Nat) : Int))
      rw [wsucc (by omega)]
      unfold l10_light_l2_f_1
      rw [Int.toNat_natCast, Int.toNat_natCast, hcs2]
      rfl)
    (fun k _ _ => needs_cons (by show (0 : Int) ≤ (i : Int) ∧ (i : Int) < (rows.length : Int); omega) (needs_cons (fun _ => by show (0 : Int) ≤ (i : Int) ∧ (i : Int) < (rows.length : Int); omega) (needs_cons (fun h => by
      have h' : l10_light_l2_f_k0 rows (nk cs n0 k) (i : Int) (k : Int) = true := h
      rw [hgo, Bool.and_eq_true] at h'
      have := of_decide_eq_true h'.1
      show (0 : Int) ≤ (k : Int) ∧ (k : Int) < ((rows.getD ((i : Int)).toNat (dflt TC.row)).2.length : Int)
      rw [Int.toNat_natCast, hcs2]
      omega) needs_nil)))
  have hr : l10_light_l2_run (rows, n0, (i : Int), 0) = (rows, nk cs n0 k, (i : Int), (k : Int)) := hx
  obtain ⟨g1, g2⟩ := nk_ok cs n0 h0 hw k hk
  rw [hr]
  refine ⟨h1, g1, fun h => ?_⟩
  obtain ⟨b1, b2⟩ := g2 h
  refine ⟨b1, fun c hc => ?_⟩
  have hkn : k = cs.length := by
    rcases Nat.lt_or_ge k cs.length with h' | h'
    · have := hst h'
      rw [decide_eq_true h] at this
      cases this
    · omega
  obtain ⟨j, hj, rfl⟩ := List.mem_iff_getElem.1 hc
  have := b2 j (by omega)
  rw [List.getD_eq_getElem?_getD, List.getElem?_eq_getElem hj] at this
  exact this
def nr (rows : List TRow) (n0 : Int) : Nat → Int
  | 0 => n0
  | i + 1 => l10_light_l0_f_1 rows (nr rows n0 i) (i : Int)
theorem light_step (rows : List TRow) (i : Nat) (hi : i < rows.length) (n : Int) (hn : 0 ≤ n) (hw : wideR (rows.getD i (dflt TC.row))) :
    needX l10_light_l2_next l10_light_l2_goes l10_light_l2_ps (l10_light_l2_fuel (rows, r01_Add_0 (r01_Add_0 n ((rows.getD i (dflt TC.row)).1.size : Int) 5000) ((rows.getD i (dflt TC.row)).2.length : Int) 5000, (i : Int), 0)) (rows, r01_Add_0 (r01_Add_0 n ((rows.getD i (dflt TC.row)).1.size : Int) 5000) ((rows.getD i (dflt TC.row)).2.length : Int) 5000, (i : Int), 0) ∧
    0 ≤ l10_light_l0_f_1 rows n (i : Int) ∧ (l10_light_l0_f_1 rows n (i : Int) ≤ 5000 → n ≤ 5000 ∧ smallR 5000 (rows.getD i (dflt TC.row))) := by
  obtain ⟨w1, w2, w3⟩ := hw
  obtain ⟨a1, a2, _⟩ := add_ok (k := ((rows.getD i (dflt TC.row)).1.size : Int)) hn (sz_in w1) (m := 5000) (by omega)
  obtain ⟨c1, c2, _⟩ := add_ok (k := ((rows.getD i (dflt TC.row)).2.length : Int)) a2 (sz_in w2) (m := 5000) (by omega)
  obtain ⟨g1, g2, g3⟩ := light_inner rows i hi _ c2 (fun h => by have := c1 h; show (rows.getD i (dflt TC.row)).2.length ≤ 5000; omega) w3
  unfold l10_light_l0_f_1
  rw [Int.toNat_natCast]
  refine ⟨g1, g2, fun h => ?_⟩
  obtain ⟨h1, h2⟩ := g3 h
  have q1 := c1 h1
  have q2 := a1 (by omega)
  exact ⟨by omega, by show (rows.getD i (dflt TC.row)).1.size ≤ 5000; omega, by show (rows.getD i (dflt TC.row)).2.length ≤ 5000; omega, h2⟩
theorem nr_ok (rows : List TRow) (n0 : Int) (h0 : 0 ≤ n0) (hw : ∀ r ∈ rows, wideR r) : ∀ k, k ≤ rows.length → 0 ≤ nr rows n0 k ∧ (nr rows n0 k ≤ 5000 → n0 ≤ 5000 ∧ ∀ j, j < k → smallR 5000 (rows.getD j (dflt TC.row)))
  | 0, _ => ⟨h0, fun h => ⟨h, fun j hj => absurd hj (Nat.not_lt_zero _)⟩⟩
  | k + 1, hk => by
    obtain ⟨g1, g2⟩ := nr_ok rows n0 h0 hw k (by omega)
    obtain ⟨_, a2, a3⟩ := light_step rows k (by omega) (nr rows n0 k) g1 (hw _ (getD_in rows (dflt TC.row) k (by omega)))
    refine ⟨a2, fun h => ?_⟩
    obtain ⟨h1, h2⟩ := a3 h
    obtain ⟨b1, b2⟩ := g2 h1
    refine ⟨b1, fun j hj => ?_⟩
    by_cases e : j < k
    · exact b2 j e
    · obtain rfl : j = k := by omega
      exact h2
theorem light_eq (l : List TGroup) (rows : List TRow) (hl : wideN l.length) (hr : wideN rows.length) (hw : ∀ r ∈ rows, wideR r) : (∀ p ∈ l10_light_ps l rows, p) ∧ (l10_light_0 l rows = true → l.length ≤ 5000 ∧ ∀ r ∈ rows, smallR 5000 r) := by
  have hr' := hr
  unfold wideN at hr'
  obtain ⟨a1, a2, _⟩ := add_ok (n := 0) (k := (l.length : Int)) (Int.le_refl _) (sz_in hl) (m := 5000) (by omega)
  generalize hn0 : r01_Add_0 0 (l.length : Int) 5000 = n0 at *
  have hgo : ∀ k : Nat, l10_light_l0_f_k0 rows (nr rows n0 k) (k : Int) = (decide (k < rows.length) && !!decide (nr rows n0 k ≤ 5000)) := fun k => by
    unfold l10_light_l0_f_k0
    rw [nn, nn, dlt]
  obtain ⟨h1, k, hk, hx, hs, hst, _⟩ := scanB (fun k => ((rows, nr rows n0 k, (k : Int)) : l10_light_l0_X)) rows.length (fun k => !decide (nr rows n0 k ≤ 5000)) l10_light_l0_next l10_light_l0_goes l10_light_l0_ps (l10_light_l0_fuel (rows, n0, 0)) (rows, n0, 0) rfl
    (by show rows.length ≤ ((rows.length : Int) - 0).toNat; omega)
    (fun k _ _ => by
      show l10_light_l0_f_k0 rows (nr rows n0 k) (k : Int) = _
      rw [hgo])
    (fun k hk hs => by
      show (rows, l10_light_l0_f_1 rows (nr rows n0 k) (k : Int), IntKind.i64.wrap ((k : Int) + 1)) = (rows, nr rows n0 (k + 1), ((k + 1 : Nat) : Int))
      rw [wsucc (by omega)]
      rfl)
    (fun k hk _ => by
      have hin : l10_light_l0_f_k0 rows (nr rows n0 k) (k : Int) = true → k < rows.length := fun h => by
        rw [hgo, Bool.and_eq_true] at h
        exact of_decide_eq_true h.1
      refine needs_cons (fun h => ?_) (needs_cons (fun h => ?_) needs_nil)
      · have := hin h
        show (0 : Int) ≤ (k : Int) ∧ (k : Int) < (rows.length : Int)
        omega
      · have hk' := hin h
        have := (light_step rows k hk' (nr rows n0 k) (nr_ok rows n0 a2 hw k hk).1 (hw _ (getD_in rows (dflt TC.row) k hk'))).1
        have e : ((k : Int)).toNat = k := Int.toNat_natCast k
        show needX l10_light_l2_next l10_light_l2_goes l10_light_l2_ps (l10_light_l2_fuel (rows, r01_Add_0 (r01_Add_0 (nr rows n0 k) ((rows.getD ((k : Int)).toNat (dflt TC.row)).1.size : Int) 5000) ((rows.getD ((k : Int)).toNat (dflt TC.row)).2.length : Int) 5000, (k : Int), 0)) (rows, r01_Add_0 (r01_Add_0 (nr rows n0 k) ((rows.getD ((k : Int)).toNat (dflt TC.row)).1.size : Int) 5000) ((rows.getD ((k : Int)).toNat (dflt TC.row)).2.length : Int) 5000, (k : Int), 0)
        rw [e]
        exact this)
  have hrun : l10_light_l0_run (rows, n0, 0) = (rows, nr rows n0 k, (k : Int)) := hx
  refine ⟨needs_cons (by rw [hn0]; exact h1) needs_nil, fun h => ?_⟩
  unfold l10_light_0 at h
  rw [hn0, hrun] at h
  have h5 : nr rows n0 k ≤ 5000 := of_decide_eq_true h
  obtain ⟨b1, b2⟩ := (nr_ok rows n0 a2 hw k hk).2 h5
  have hkn : k = rows.length := by
    rcases Nat.lt_or_ge k rows.length with h' | h'
    · have := hst h'
      rw [decide_eq_true h5] at this
      cases this
    · omega
  refine ⟨by have := a1 b1; omega, fun r hr => ?_⟩
  obtain ⟨j, hj, rfl⟩ := List.mem_iff_getElem.1 hr
  have := b2 j (by omega)
  rw [List.getD_eq_getElem?_getD, List.getElem?_eq_getElem hj] at this
  exact this
theorem l10_light_c2 (a0 : List TGroup) (a1 : List TRow) (hp : ∀ p ∈ l10_light_ps2 a0 a1, p) : CallOk Try.prog 60 [.sl .group a0, valA .rows a1] 0 [] 1 (l10_light_r2 a0 a1) 0 (l10_light_o2 a0 a1) := by
  obtain ⟨h1, h2, h3⟩ := hp _ (List.mem_cons_self ..)
  exact l10_light_c a0 a1 (light_eq a0 a1 h1 h2 h3).1
def l10_light_t : List A → Nat → Objs → Option CRes
  | [y0, y1], nx, o => match argL .group y0, argU .rows y1 with
    | some a0, some (a1, p1) => some (1, (l10_light_r2 a0 a1).pk (shiftR nx), nx + 0, shiftO nx (l10_light_o2 a0 a1) ++ o, p1 ++ (l10_light_ps2 a0 a1))
    | _, _ => none
  | _, _, _ => none
theorem l10_light_tok : TOk Try.prog 60 l10_light_t := fun args nx o k x nx' o' ps h => by
  unfold l10_light_t at h
  split at h <;> first | (cases h; done) | skip
  split at h <;> first | (cases h; done) | skip
  rename_i a0 a1 p1 e0 e1
  cases h
  refine ⟨fun hp => ?_, _, rfl⟩
  have q1 := fun p hm => hp p (List.mem_append.2 (.inl hm))
  have r1 := fun p hm => hp p (List.mem_append.2 (.inr hm))
  refine callOk_args (callOk_shift (l10_light_c2 a0 a1 r1) (Nat.le_refl _) (freeL_cons rfl (freeL_cons (valA_free _ _) freeL_nil)) nx o) fun F N R vs hl => ?_
  obtain ⟨v0, w0, rfl, h0, hl⟩ := hl.inv
  obtain ⟨v1, w1, rfl, h1, hl⟩ := hl.inv
  exact HL.cons (argL_ok e0 h0) (HL.cons (argU_ok e1 q1 h1) (hl))
noncomputable def Cm_3 := addC 60 l10_light_t Cm_2
theorem Cm_3_ok : COk Try.prog Cm_3 := addC_ok l10_light_tok Cm_2_ok
def l10_schema_0  : ByteArray := ByteArray.mk #[(97 : UInt8)]
def l10_schema_1  : ByteArray := ByteArray.mk #[(98 : UInt8)]
def l10_schema_r  : A := .sq 0
def l10_schema_o  : Objs := [(0, some (.arr 79 2 (.lst [[.v (.string l10_schema_0), .v (.int .i64 ((1 : Int)))], [.v (.string l10_schema_1), .v (.int .i64 ((2 : Int)))]])))]
def l10_schema_ps  : List Prop := []
set_option maxRecDepth 100000 in
theorem l10_schema_ev  : evF (envT Cm_3 L0) 9 127 [] 0 [] = some (1, l10_schema_r , 1, l10_schema_o , []) := by kernel_rfl
set_option maxRecDepth 100000 in
theorem l10_schema_c  (_hp : ∀ p ∈ l10_schema_ps , p) : CallOk Try.prog 127 [] 0 [] 1 (l10_schema_r ) 1 (l10_schema_o ) := by
  exact evF_ok (envP_ok Cm_3_ok L0_ok) (l10_schema_ev ) needs_nil
def l10_schema_t : List A → Nat → Objs → Option CRes
  | [], nx, o => some (1, (l10_schema_r ).pk (shiftR nx), nx + 1, shiftO nx (l10_schema_o ) ++ o, l10_schema_ps )
  | _, _, _ => none
theorem l10_schema_tok : TOk Try.prog 127 l10_schema_t := fun args nx o k x nx' o' ps h => by
  unfold l10_schema_t at h
  split at h <;> first | (cases h; done) | skip
  cases h
  refine ⟨fun hp => ?_, _, rfl⟩
  refine callOk_args (callOk_shift (l10_schema_c  hp) (Nat.le_refl _) freeL_nil nx o) fun F N R vs hl => ?_
  exact hl
noncomputable def Cm_4 := addC 127 l10_schema_t Cm_3
theorem Cm_4_ok : COk Try.prog Cm_4 := addC_ok l10_schema_tok Cm_3_ok
def l10_lives_r  : A := .v (.bool (true))
def l10_lives_o  : Objs := []
def l10_lives_ps  : List Prop := []
set_option maxRecDepth 100000 in
theorem l10_lives_ev  : evF (envT Cm_4 L0) 1040 61 [] 0 [] = some (1, l10_lives_r , 0, l10_lives_o , [(boundP (2 : Nat)), (true = true → boundP (2 : Nat)), (true = true → boundP (1024 : Nat)), (false = false), (true = true → false = false), (false = false), (true = true → false = false), (false = false), (true = true → false = false), (false = false)]) := by kernel_rfl
set_option maxRecDepth 100000 in
theorem l10_lives_c  (_hp : ∀ p ∈ l10_lives_ps , p) : CallOk Try.prog 61 [] 0 [] 1 (l10_lives_r ) 0 (l10_lives_o ) := by
  have n0 : (boundP (2 : Nat)) := by first | rfl | decide +kernel
  have n1 : (true = true → boundP (2 : Nat)) := by first | rfl | decide +kernel
  have n2 : (true = true → boundP (1024 : Nat)) := by first | rfl | decide +kernel
  have n3 : (false = false) := by first | rfl | decide +kernel
  have n4 : (true = true → false = false) := by first | rfl | decide +kernel
  exact evF_ok (envP_ok Cm_4_ok L0_ok) (l10_lives_ev ) (needs_cons n0 (needs_cons n1 (needs_cons n2 (needs_cons n3 (needs_cons n4 (needs_cons n3 (needs_cons n4 (needs_cons n3 (needs_cons n4 (needs_cons n3 needs_nil))))))))))
def l10_lives_t : List A → Nat → Objs → Option CRes
  | [], nx, o => some (1, (l10_lives_r ).pk (shiftR nx), nx + 0, shiftO nx (l10_lives_o ) ++ o, l10_lives_ps )
  | _, _, _ => none
theorem l10_lives_tok : TOk Try.prog 61 l10_lives_t := fun args nx o k x nx' o' ps h => by
  unfold l10_lives_t at h
  split at h <;> first | (cases h; done) | skip
  cases h
  refine ⟨fun hp => ?_, _, rfl⟩
  refine callOk_args (callOk_shift (l10_lives_c  hp) (Nat.le_refl _) freeL_nil nx o) fun F N R vs hl => ?_
  exact hl
noncomputable def Cm_5 := addC 61 l10_lives_t Cm_4
theorem Cm_5_ok : COk Try.prog Cm_5 := addC_ok l10_lives_tok Cm_4_ok
def l10_RowChecks_k2 (a0 : List TGroup) (a1 : TRow) (a2 : ByteArray) : Bool := goodRow a0 a1 == goodRow a0 a1 && eqRw (newR a0 a2) (newR a0 a2) && newE a0 a2 == newE a0 a2
def l10_RowChecks_k1 (a0 : List TGroup) (a1 : TRow) (a2 : ByteArray) : Bool := !l10_light_0 a0 [a1] || decide ((↑a2.size : Int) > (1000 : Int))
def l10_RowChecks_k0 (a0 : List TGroup) (a1 : TRow) (a2 : ByteArray) : Bool := (l10_RowChecks_k2 a0 a1 a2) && eqVw (TView.mk (viewK a0 a1) (viewF a0 a1)) (TView.mk (viewK a0 a1) (viewF a0 a1)) && viewB a0 a1 == viewB a0 a1 && bareR a1 == bareR a1
def l10_RowChecks_0 (a0 : List TGroup) (a1 : TRow) (a2 : ByteArray) : Bool := bif (l10_RowChecks_k1 a0 a1 a2) then true else (l10_RowChecks_k0 a0 a1 a2) && ((knownR a1.2).1 == (knownR a1.2).1 && (knownR a1.2).2 == (knownR a1.2).2) && true
def l10_RowChecks_r (a0 : List TGroup) (a1 : TRow) (a2 : ByteArray) : A := .v (.bool (l10_RowChecks_0 a0 a1 a2))
def l10_RowChecks_o (_a0 : List TGroup) (_a1 : TRow) (_a2 : ByteArray) : Objs := []
def l10_RowChecks_ps (a0 : List TGroup) (a1 : TRow) (a2 : ByteArray) : List Prop := [(wideN a0.length ∧ wideN (1 : Nat) ∧ ∀ (r : TRow), r ∈ [a1] → wideN r.1.size ∧ wideN r.2.length ∧ ∀ (c : TCell), c ∈ r.2 → wideN c.4.size), ((!(l10_RowChecks_k1 a0 a1 a2)) = true → boundP a0.length), ((!(l10_RowChecks_k1 a0 a1 a2)) = true → ∀ (g : TGroup), g ∈ a0 → wideN g.1.size), ((!(l10_RowChecks_k1 a0 a1 a2)) = true → (goodRow a0 a1 == goodRow a0 a1) = true → boundP (newR a0 a2).2.length), ((!(l10_RowChecks_k1 a0 a1 a2)) = true → (l10_RowChecks_k2 a0 a1 a2) = true → wideN (viewF a0 a1).length), ((!(l10_RowChecks_k1 a0 a1 a2)) = true → ((l10_RowChecks_k2 a0 a1 a2) && eqVw (TView.mk (viewK a0 a1) (viewF a0 a1)) (TView.mk (viewK a0 a1) (viewF a0 a1)) && viewB a0 a1 == viewB a0 a1) = true → boundP a1.2.length), ((!(l10_RowChecks_k1 a0 a1 a2)) = true → (l10_RowChecks_k0 a0 a1 a2) = true → wideN a1.2.length)]
set_option maxRecDepth 100000 in
theorem l10_RowChecks_ev (a0 : List TGroup) (a1 : TRow) (a2 : ByteArray) : evF (envT Cm_5 L0) 9 13 [.sl .group a0, valA .row a1, valA .str a2] 0 [] = some (1, l10_RowChecks_r a0 a1 a2, 0, l10_RowChecks_o a0 a1 a2, [(wideN a0.length ∧ wideN (1 : Nat) ∧ ∀ (r : TRow), r ∈ [a1] → wideN r.1.size ∧ wideN r.2.length ∧ ∀ (c : TCell), c ∈ r.2 → wideN c.4.size), ((!(l10_RowChecks_k1 a0 a1 a2)) = true → boundP a0.length), ((!(l10_RowChecks_k1 a0 a1 a2)) = true → ∀ (g : TGroup), g ∈ a0 → wideN g.1.size), ((!(l10_RowChecks_k1 a0 a1 a2)) = true → ∀ (g : TGroup), g ∈ a0 → wideN g.1.size), ((!(l10_RowChecks_k1 a0 a1 a2)) = true → ∀ (g : TGroup), g ∈ a0 → wideN g.1.size), ((!(l10_RowChecks_k1 a0 a1 a2)) = true → (goodRow a0 a1 == goodRow a0 a1) = true → boundP (newR a0 a2).2.length), ((!(l10_RowChecks_k1 a0 a1 a2)) = true → (l10_RowChecks_k2 a0 a1 a2) = true → wideN (viewF a0 a1).length), ((!(l10_RowChecks_k1 a0 a1 a2)) = true → ((l10_RowChecks_k2 a0 a1 a2) && eqVw (TView.mk (viewK a0 a1) (viewF a0 a1)) (TView.mk (viewK a0 a1) (viewF a0 a1)) && viewB a0 a1 == viewB a0 a1) = true → boundP a1.2.length), ((!(l10_RowChecks_k1 a0 a1 a2)) = true → ((l10_RowChecks_k2 a0 a1 a2) && eqVw (TView.mk (viewK a0 a1) (viewF a0 a1)) (TView.mk (viewK a0 a1) (viewF a0 a1)) && viewB a0 a1 == viewB a0 a1) = true → boundP a1.2.length), ((!(l10_RowChecks_k1 a0 a1 a2)) = true → (l10_RowChecks_k0 a0 a1 a2) = true → wideN a1.2.length), ((!(l10_RowChecks_k1 a0 a1 a2)) = true → (l10_RowChecks_k0 a0 a1 a2) = true → wideN a1.2.length)]) := by kernel_rfl
set_option maxRecDepth 100000 in
theorem l10_RowChecks_c (a0 : List TGroup) (a1 : TRow) (a2 : ByteArray) (hp : ∀ p ∈ l10_RowChecks_ps a0 a1 a2, p) : CallOk Try.prog 13 [.sl .group a0, valA .row a1, valA .str a2] 0 [] 1 (l10_RowChecks_r a0 a1 a2) 0 (l10_RowChecks_o a0 a1 a2) := by
  have n0 : (wideN a0.length ∧ wideN (1 : Nat) ∧ ∀ (r : TRow), r ∈ [a1] → wideN r.1.size ∧ wideN r.2.length ∧ ∀ (c : TCell), c ∈ r.2 → wideN c.4.size) := hp _ (List.mem_cons_self ..)
  have n1 : ((!(l10_RowChecks_k1 a0 a1 a2)) = true → boundP a0.length) := hp _ (List.mem_cons_of_mem _ (List.mem_cons_self ..))
  have n2 : ((!(l10_RowChecks_k1 a0 a1 a2)) = true → ∀ (g : TGroup), g ∈ a0 → wideN g.1.size) := hp _ (List.mem_cons_of_mem _ (List.mem_cons_of_mem _ (List.mem_cons_self ..)))
  have n5 : ((!(l10_RowChecks_k1 a0 a1 a2)) = true → (goodRow a0 a1 == goodRow a0 a1) = true → boundP (newR a0 a2).2.length) := hp _ (List.mem_cons_of_mem _ (List.mem_cons_of_mem _ (List.mem_cons_of_mem _ (List.mem_cons_self ..))))
  have n6 : ((!(l10_RowChecks_k1 a0 a1 a2)) = true → (l10_RowChecks_k2 a0 a1 a2) = true → wideN (viewF a0 a1).length) := hp _ (List.mem_cons_of_mem _ (List.mem_cons_of_mem _ (List.mem_cons_of_mem _ (List.mem_cons_of_mem _ (List.mem_cons_self ..)))))
  have n7 : ((!(l10_RowChecks_k1 a0 a1 a2)) = true → ((l10_RowChecks_k2 a0 a1 a2) && eqVw (TView.mk (viewK a0 a1) (viewF a0 a1)) (TView.mk (viewK a0 a1) (viewF a0 a1)) && viewB a0 a1 == viewB a0 a1) = true → boundP a1.2.length) := hp _ (List.mem_cons_of_mem _ (List.mem_cons_of_mem _ (List.mem_cons_of_mem _ (List.mem_cons_of_mem _ (List.mem_cons_of_mem _ (List.mem_cons_self ..))))))
  have n9 : ((!(l10_RowChecks_k1 a0 a1 a2)) = true → (l10_RowChecks_k0 a0 a1 a2) = true → wideN a1.2.length) := hp _ (List.mem_cons_of_mem _ (List.mem_cons_of_mem _ (List.mem_cons_of_mem _ (List.mem_cons_of_mem _ (List.mem_cons_of_mem _ (List.mem_cons_of_mem _ (List.mem_cons_self ..)))))))
  exact evF_ok (envP_ok Cm_5_ok L0_ok) (l10_RowChecks_ev a0 a1 a2) (needs_cons n0 (needs_cons n1 (needs_cons n2 (needs_cons n2 (needs_cons n2 (needs_cons n5 (needs_cons n6 (needs_cons n7 (needs_cons n7 (needs_cons n9 (needs_cons n9 needs_nil)))))))))))
def l10_RowChecks_t : List A → Nat → Objs → Option CRes
  | [y0, y1, y2], nx, o => match argL .group y0, argU .row y1, argU .str y2 with
    | some a0, some (a1, p1), some (a2, p2) => some (1, (l10_RowChecks_r a0 a1 a2).pk (shiftR nx), nx + 0, shiftO nx (l10_RowChecks_o a0 a1 a2) ++ o, p1 ++ (p2 ++ (l10_RowChecks_ps a0 a1 a2)))
    | _, _, _ => none
  | _, _, _ => none
theorem l10_RowChecks_tok : TOk Try.prog 13 l10_RowChecks_t := fun args nx o k x nx' o' ps h => by
  unfold l10_RowChecks_t at h
  split at h <;> first | (cases h; done) | skip
  split at h <;> first | (cases h; done) | skip
  rename_i a0 a1 p1 a2 p2 e0 e1 e2
  cases h
  refine ⟨fun hp => ?_, _, rfl⟩
  have q1 := fun p hm => hp p (List.mem_append.2 (.inl hm))
  have r1 := fun p hm => hp p (List.mem_append.2 (.inr hm))
  have q2 := fun p hm => r1 p (List.mem_append.2 (.inl hm))
  have r2 := fun p hm => r1 p (List.mem_append.2 (.inr hm))
  refine callOk_args (callOk_shift (l10_RowChecks_c a0 a1 a2 r2) (Nat.le_refl _) (freeL_cons rfl (freeL_cons (valA_free _ _) (freeL_cons (valA_free _ _) freeL_nil))) nx o) fun F N R vs hl => ?_
  obtain ⟨v0, w0, rfl, h0, hl⟩ := hl.inv
  obtain ⟨v1, w1, rfl, h1, hl⟩ := hl.inv
  obtain ⟨v2, w2, rfl, h2, hl⟩ := hl.inv
  exact HL.cons (argL_ok e0 h0) (HL.cons (argU_ok e1 q1 h1) (HL.cons (argU_ok e2 q2 h2) (hl)))
noncomputable def Cm_6 := addC 13 l10_RowChecks_t Cm_5
theorem Cm_6_ok : COk Try.prog Cm_6 := addC_ok l10_RowChecks_tok Cm_5_ok

noncomputable def Cm := Cm_6
theorem Cm_ok : COk Try.prog Cm := Cm_6_ok
end Go.Proofs.Yteebobbhhgmeiaa
