/- made by a program (rowgen.py): MerkleParts: for every input the law returns true, and each argument reads behind the call as it read before. -/
import Derived.Test.YtkknpeeccejppaaDoorKMse
import Derived.Test.YtkknpeeccejppaaDoorRows

set_option maxRecDepth 100000
namespace Go.Proofs.YtkknpeeccejppaaDoor
open Go.RowKit
noncomputable def Ck := Cj
theorem Ck_ok : COk Tryd.prog Ck := Cj_ok
end Go.Proofs.YtkknpeeccejppaaDoor
namespace Go.Proofs.YtkknpeeccejppaaDoor
open Go.RowKit
theorem goodRow_0 {l : List TGroup} {r : TRow} (h : goodRow l r = 0) : goodP l = 0 ∧ r.cells.length = l.length ∧ r.key.size ≠ 0 ∧ r.key.size ≤ 32 ∧ (l.zip r.cells).all (fun x => goodC x.1.policy x.2) = true := by
 unfold goodRow at h
 cases h1 : goodP l != 0 with
 | true => rw [h1, cond_true] at h; rw [h] at h1; cases h1
 | false =>
  rw [h1, cond_false] at h
  cases h2 : r.key.size == 0 with
  | true => rw [h2] at h; cases h
  | false =>
   rw [h2, cond_false] at h
   cases h3 : decide (32 < r.key.size) with
   | true => rw [h3] at h; cases h
   | false =>
    rw [h3, cond_false] at h
    cases h4 : r.cells.length != l.length with
    | true => rw [h4] at h; cases h
    | false =>
     rw [h4, cond_false] at h
     cases h5 : (l.zip r.cells).all (fun x => goodC x.1.policy x.2) with
     | false => rw [h5] at h; cases h
     | true =>
      have := of_decide_eq_false h3
      exact ⟨by simpa using h1, by simpa using h4, by simpa using h2, by omega, rfl⟩
noncomputable def Cl := Ck
theorem Cl_ok : COk Tryd.prog Cl := Ck_ok
end Go.Proofs.YtkknpeeccejppaaDoor
namespace Go.Proofs.YtkknpeeccejppaaDoor
open Go.RowKit Go.Shelf
attribute [local go_sem] Oper.semAt_some
def OwnB (base : Nat) (W : World) (y : Value) (bs : List UInt8) : Prop := OwnR W 5 1 y bs.length (bs.map byteV) ∧ ∀ g, blkOf y = some g → base ≤ g
theorem OwnB.keep {base : Nat} {W W' : World} {y : Value} {bs : List UInt8} (h : OwnB base W y bs) (hk : ∀ g, base ≤ g → blkOf y = some g → W'.heap[g]? = W.heap[g]?) : OwnB base W' y bs := ⟨h.1.keep fun g hg => hk g (h.2 g hg) hg, h.2⟩
theorem OwnB.mono {b b' : Nat} {W : World} {y : Value} {bs : List UInt8} (h : OwnB b W y bs) (hb : b' ≤ b) : OwnB b' W y bs := ⟨h.1, fun g hg => Nat.le_trans hb (h.2 g hg)⟩
theorem OwnB.form {base : Nat} {W : World} {y : Value} {bs : List UInt8} (h : OwnB base W y bs) : ∃ a n c, y = .slice a n c := by
 obtain ⟨a, c, e, _⟩ := h.1.form
 exact ⟨a, _, c, e⟩
theorem KB.setCell {n₀ X : Nat} (W : World) (v : Value) : KB n₀ X W (W.setCell ⟨X, 0, none⟩ v) :=
 ⟨rfl, rfl, rfl, by rw [set_size]; exact Nat.le_refl _, fun k _ hk => Below.heap_setCell W ⟨X, 0, none⟩ v k hk⟩
end Go.Proofs.YtkknpeeccejppaaDoor
namespace Go.Proofs.YtkknpeeccejppaaDoor
open Go.RowKit
section
variable {F : Nat → Prop} {N : Nm} {nx : Nat} {R : World}
theorem byte_rows : ∀ {l : List UInt8} {zs : List Value}, zs.length = l.length → (∀ k, k < l.length → HL F N nx R [.v (byteV (l.getD k 0))] ((zs.drop (k * 1)).take 1)) → zs = l.map byteV
 | [], [], _, _ => rfl
 | [], _ :: _, h, _ => by cases h
 | _ :: _, [], h, _ => by cases h
 | x :: l, z :: zs, h, g => by
  have h0 := g 0 (Nat.succ_pos _)
  obtain ⟨v, vs, e1, e2, e3⟩ := h0.inv
  have hz : z = byteV x := by
   have e1' : [z] = v :: vs := e1
   injection e1' with e1' _
   rw [e1']
   exact e2.v_inv
  rw [List.map_cons, ← hz, byte_rows (l := l) (zs := zs) (by simpa using h) fun k hk => by
   have := g (k + 1) (Nat.succ_lt_succ hk)
   simpa [Nat.mul_one] using this]
theorem rows_byte {l : List UInt8} {k : Nat} (hk : k < l.length) : HL F N nx R [.v (byteV (l.getD k 0))] (((l.map byteV).drop (k * 1)).take 1) := by
 rw [Nat.mul_one, List.drop_eq_getElem_cons (by simpa using hk), List.take_succ_cons, List.take_zero, List.getElem_map, List.getD_eq_getElem?_getD, List.getElem?_eq_getElem hk]
 exact HL.cons (.v _) HL.nil
theorem OwnB.sl {base : Nat} {y : Value} {bs : List UInt8} (h : OwnB base R y bs) (N : Nm) : (∀ g, blkOf y = some g → g < R.heap.size) ∧ Hv (fun g => blkOf y = some g) N 0 R (.sl .u8 bs) y := by
 refine ⟨fun g hg => h.1.lt hg, ?_⟩
 obtain ⟨hl, h2⟩ := h.1
 rcases h2 with ⟨a, e1, e2⟩ | ⟨g, cap, cur, e1, e2, e3, _, e5, e6⟩
 ·obtain rfl : bs = [] := List.eq_nil_of_length_eq_zero e2
  rw [e1]
  exact Hv.sl_nil rfl
 ·rw [e1]
  refine Hv.of_sl e3 fun hn => ⟨⟨g, 0, none⟩, rfl, ?_, fun i d hd j x hx => ?_⟩
  ·obtain ⟨m, hm⟩ : ∃ m, bs.length = m + 1 := ⟨bs.length - 1, by omega⟩
   rw [hm]
   rfl
  ·cases j with
   | succ j => cases hx
   | zero =>
    have hi := (List.getElem?_eq_some_iff.1 hd).1
    have hz : (bs.map byteV)[i]? = some (byteV d) := by rw [List.getElem?_map, hd]; rfl
    rw [← e6, List.getElem?_take_of_lt (by omega)] at hz
    obtain rfl : A.v (byteV d) = x := Option.some.inj hx
    refine ⟨byteV d, ?_, .v _⟩
    rw [add_add, add_mk, blk_cell e2]
    show cur[0 + (i * 1 + 0)]? = _
    rw [Nat.zero_add, Nat.add_zero, Nat.mul_one]
    simpa using hz
end
theorem CallOk.bytes {P : Program} {f : FuncId} {args : List A} {bs : List UInt8} (h : CallOk P f args 0 [] 1 (.sq 0) 1 [(0, some (.arr 5 1 (.ty .u8 bs)))]) {F : Nat → Prop} {N : Nm} {R : World} {vs : List Value} (hF : ∀ g, F g → g < R.heap.size) (hgl : GlobOk F R) (hv : HL F N 0 R args vs) :
  Calls P f vs.toArray R fun e R' => ∃ y, e = .returned y ∧ Below R.heap.size R R' ∧ OwnB R.heap.size R' y bs := by
 refine (h F N R vs (HRel.bare hF hgl) hv).mono fun e R' ⟨y, F', N', e1, h2, h3, h4, h5⟩ => ⟨y, e1, h5 (Nat.le_refl _), ?_⟩
 obtain rfl : y = N'.q 0 := by cases h4; rfl
 obtain ⟨_, zs, g1, g2⟩ := h2.ob 0 _ rfl
 have e : zs = bs.map byteV := byte_rows (F := F') (N := N') (nx := 1) (R := R') (by rw [g1.1]; exact Nat.mul_one _) g2
 rw [e] at g1
 refine ⟨g1, fun g hg => ?_⟩
 rcases h3.foot g ⟨0, _, rfl, hg⟩ with ⟨i, ob, hl, _⟩ | h
 ·cases hl
 ·exact h
theorem OwnB.made {P : Program} {f : FuncId} {F : Nat → Prop} {N : Nm} {R : World} {vs : List Value} {bs : List UInt8} (hR : HRel F N 0 [] R)
  (h : Calls P f vs.toArray R fun e R' => ∃ y, e = .returned y ∧ Below R.heap.size R R' ∧ OwnB R.heap.size R' y bs) :
  Calls P f vs.toArray R fun e R' => ∃ y F' N', e = .returned y ∧ HRel F' N' 1 [(0, some (.arr 5 1 (.ty .u8 bs)))] R' ∧ Step F N 0 [] R F' N' 1 [(0, some (.arr 5 1 (.ty .u8 bs)))] R' ∧ Hv F' N' 1 R' (.sq 0) y ∧ (1 ≤ 1 → Below R.heap.size R R') := by
 refine h.mono fun e R' ⟨y, e1, hb, h2, h3⟩ => ⟨y, F, N.setQ 0 y, e1, ?_, ?_, ?_, fun _ => hb⟩
 ·have hq : (N.setQ 0 y).q 0 = y := by show setF N.q 0 y 0 = y; exact setF_same _ _ _
  have one : ∀ i ob, lookO i [(0, some (Ob.arr 5 1 (.ty .u8 bs)))] = some ob → i = 0 ∧ ob = .arr 5 1 (.ty .u8 bs) := fun i ob hl => by
   cases i with
   | zero => cases hl; exact ⟨rfl, rfl⟩
   | succ i => cases hl
  refine ⟨fun g hg => Nat.lt_of_lt_of_le (hR.flt g hg) hb.size, fun i ob hl => ?_, fun i ob g hl hg hF => ?_, fun i j x z g hl hl' _ _ => (one i x hl).1.trans (one j z hl').1.symm, fun x hx => ⟨(hR.gl x hx).1, by rw [hb.block _ (hR.flt _ (hR.gl x hx).1)]; exact (hR.gl x hx).2⟩⟩
  ·obtain ⟨rfl, rfl⟩ := one i ob hl
   exact ⟨Nat.succ_pos _, bs.map byteV, by rw [hq]; exact h2, fun k hk => rows_byte hk⟩
  ·obtain ⟨rfl, rfl⟩ := one i ob hl
   have hg' : blkOf ((N.setQ 0 y).q 0) = some g := hg
   rw [hq] at hg'
   have := hR.flt g hF
   have := h3 g hg'
   omega
 ·refine ⟨Nat.zero_le _, fun i hi => absurd hi (Nat.not_lt_zero _), fun i hi => absurd hi (Nat.not_lt_zero _), fun _ h => h, fun _ h => .inl h, fun g ⟨i, ob, hl, hg⟩ => .inr ?_, hb.os, hb.tape, hb.output, hb.size, fun g hg _ => hb.block g hg⟩
  cases i with
  | succ i => cases hl
  | zero =>
   cases hl
   have hg' : blkOf ((N.setQ 0 y).q 0) = some g := hg
   rw [show (N.setQ 0 y).q 0 = y by show setF N.q 0 y 0 = y; exact setF_same _ _ _] at hg'
   exact h3 g hg'
 ·have hq : (N.setQ 0 y).q 0 = y := by show setF N.q 0 y 0 = y; exact setF_same _ _ _
  have := Hv.sq (F := F) (N := N.setQ 0 y) (nx := 1) (R := R') (i := 0) (Nat.succ_pos _)
  rw [hq] at this
  exact this
def r01_Add_0 (a0 : Int) (a1 : Int) (a2 : Int) : Int := bif decide (a0 > a2) || decide (a1 > a2) || decide (a0 > IntKind.i64.wrap (a2 - a1)) then IntKind.i64.wrap (a2 + (1 : Int)) else IntKind.i64.wrap (a0 + a1)
def r01_Add_r (a0 : Int) (a1 : Int) (a2 : Int) : A := .v (.int .i64 (r01_Add_0 a0 a1 a2))
def r01_Add_o (_a0 : Int) (_a1 : Int) (_a2 : Int) : Objs := []
def r01_Add_ps (_a0 : Int) (_a1 : Int) (_a2 : Int) : List Prop := []
theorem r01_Add_ev (a0 : Int) (a1 : Int) (a2 : Int) : evF (envT Cl L0) 9 17 [valA .i64 a0, valA .i64 a1, valA .i64 a2] 0 [] = some (1, r01_Add_r a0 a1 a2, 0, r01_Add_o a0 a1 a2, r01_Add_ps a0 a1 a2) := by kernel_rfl
theorem r01_Add_c (a0 : Int) (a1 : Int) (a2 : Int) (hp : ∀ p ∈ r01_Add_ps a0 a1 a2, p) : CallOk Tryd.prog 17 [valA .i64 a0, valA .i64 a1, valA .i64 a2] 0 [] 1 (r01_Add_r a0 a1 a2) 0 (r01_Add_o a0 a1 a2) := evF_ok (envP_ok Cl_ok L0_ok) (r01_Add_ev a0 a1 a2) hp
def r01_Add_t : List A → Nat → Objs → Option CRes := rowK [.t .i64, .t .i64, .t .i64] 0 r01_Add_r r01_Add_o r01_Add_ps
theorem r01_Add_tok : TOk Tryd.prog 17 r01_Add_t := rowK_ok (ks := [.t .i64, .t .i64, .t .i64]) r01_Add_c
theorem add_ok {n k m : Int} (hn : 0 ≤ n) (hk : 0 ≤ k ∧ k ≤ 9223372036854775807) (hm : 0 ≤ m ∧ m ≤ 1099511627776) : (r01_Add_0 n k m ≤ m → n + k ≤ m) ∧ 0 ≤ r01_Add_0 n k m ∧ (n + k ≤ m → r01_Add_0 n k m = n + k) := by
 unfold r01_Add_0
 rw [i64_in (n := m - k) (by omega), i64_in (n := m + 1) (by omega)]
 by_cases h : n + k ≤ m
 ·have e : (decide (n > m) || decide (k > m) || decide (n > m - k)) = false := by
   rw [decide_eq_false (by omega), decide_eq_false (by omega), decide_eq_false (by omega)]; rfl
  rw [e, cond_false, i64_in (by omega)]
  exact ⟨fun _ => h, by omega, fun _ => rfl⟩
 ·have e : (decide (n > m) || decide (k > m) || decide (n > m - k)) = true := by
   rw [decide_eq_true (p := n > m - k) (by omega), Bool.or_true]
  rw [e, cond_true]
  exact ⟨fun h' => by omega, by omega, fun h' => absurd h' h⟩
theorem sz_in {k : Nat} (h : wideN k) : (0 : Int) ≤ (k : Int) ∧ (k : Int) ≤ 9223372036854775807 := by unfold wideN at h; omega
def smallR (m : Nat) (r : TRow) : Prop := r.key.size ≤ m ∧ r.cells.length ≤ m ∧ ∀ c ∈ r.cells, c.value.size ≤ m
def wideR (r : TRow) : Prop := wideN r.key.size ∧ wideN r.cells.length ∧ ∀ c ∈ r.cells, wideN c.value.size
theorem getD_in {α : Type} (l : List α) (d : α) (i : Nat) (h : i < l.length) : l.getD i d ∈ l := by
 rw [List.getD_eq_getElem?_getD, List.getElem?_eq_getElem h]
 exact List.getElem_mem h
end Go.Proofs.YtkknpeeccejppaaDoor
namespace Go.Proofs.YtkknpeeccejppaaDoor
open Go.RowKit
def ltS (a b : ByteArray) : Bool := Op.bytesLess a.toList b.toList
theorem bless_irrefl : ∀ x : List UInt8, Op.bytesLess x x = false
 | [] => rfl
 | a :: x => by
  unfold Op.bytesLess
  rw [bless_irrefl x]
  simp
theorem bless_trans : ∀ {x y z : List UInt8}, Op.bytesLess x y = true → Op.bytesLess y z = true → Op.bytesLess x z = true
 | x, [], _, h, _ => by cases x <;> cases h
 | _, _ :: _, [], _, h => by cases h
 | [], _ :: _, _ :: _, _, _ => rfl
 | a :: x, b :: y, c :: z, h, g => by
  unfold Op.bytesLess at *
  simp only [Bool.or_eq_true, decide_eq_true_eq, Bool.and_eq_true, beq_iff_eq] at *
  rcases h with h | ⟨rfl, h⟩ <;> rcases g with g | ⟨rfl, g⟩
  ·exact .inl (UInt8.lt_trans h g)
  ·exact .inl h
  ·exact .inl g
  ·exact .inr ⟨rfl, bless_trans h g⟩
theorem bless_total : ∀ {x y : List UInt8}, Op.bytesLess x y = false → x ≠ y → Op.bytesLess y x = true
 | [], [], _, h => absurd rfl h
 | [], _ :: _, h, _ => by cases h
 | _ :: _, [], _, _ => rfl
 | a :: x, b :: y, h, g => by
  unfold Op.bytesLess at *
  simp only [Bool.or_eq_true, Bool.or_eq_false_iff, decide_eq_true_eq, decide_eq_false_iff_not, Bool.and_eq_true, beq_iff_eq] at *
  obtain ⟨h1, h2⟩ := h
  by_cases e : a = b
  ·subst e
   refine .inr ⟨rfl, bless_total (by simpa using h2) fun e => g (by rw [e])⟩
  ·left
   have h1' : ¬ a.toNat < b.toNat := h1
   have h3 : a.toNat ≠ b.toNat := fun h => e (UInt8.toNat_inj.1 h)
   show b.toNat < a.toNat
   omega
theorem ltS_trans {a b c : ByteArray} (h : ltS a b = true) (g : ltS b c = true) : ltS a c = true := bless_trans h g
theorem ltS_ne {a b : ByteArray} (h : ltS a b = true) : a ≠ b := by
 rintro rfl
 unfold ltS at h
 rw [bless_irrefl] at h
 cases h
theorem ltS_total {a b : ByteArray} (h : ltS a b = false) (g : a ≠ b) : ltS b a = true := by
 refine bless_total h fun e => g ?_
 have : (a.toList == b.toList) = true := beq_iff_eq.2 e
 rw [tlb] at this
 exact eq_of_beq this
def rowN (rows : List TRow) (i : Nat) : TRow := rows.getD i (dflt TC.row)
def lastN (rows : List TRow) : Nat → ByteArray
 | 0 => ⟨#[]⟩
 | i + 1 => (rowN rows i).key
def leS (a b : ByteArray) : Bool := ltS a b || a == b
def errM (l : List TGroup) (rows : List TRow) (i : Nat) : Int := bif goodRow l (rowN rows i) != 0 then goodRow l (rowN rows i) else bif bareR (rowN rows i) || leS (rowN rows i).key (lastN rows i) then 100 else 0
def goodMN (l : List TGroup) (rows : List TRow) : Nat → Int
 | 0 => 0
 | i + 1 => bif goodMN l rows i != 0 then goodMN l rows i else errM l rows i
def goodM (l : List TGroup) (rows : List TRow) : Int := bif goodP l != 0 then goodP l else goodMN l rows rows.length
theorem goodMN_0 (l : List TGroup) (rows : List TRow) : ∀ n, goodMN l rows n = 0 ↔ ∀ i, i < n → errM l rows i = 0
 | 0 => ⟨fun _ i h => absurd h (Nat.not_lt_zero _), fun _ => rfl⟩
 | n + 1 => by
  have ih := goodMN_0 l rows n
  unfold goodMN
  cases h : goodMN l rows n != 0 with
  | true =>
   rw [cond_true]
   have h' : goodMN l rows n ≠ 0 := by simpa using h
   exact ⟨fun e => absurd e h', fun e => absurd (ih.2 fun i hi => e i (by omega)) h'⟩
  | false =>
   rw [cond_false]
   have h' : goodMN l rows n = 0 := by simpa using h
   constructor
   ·intro e i hi
    rcases Nat.lt_or_ge i n with g | g
    ·exact ih.1 h' i g
    ·obtain rfl : i = n := by omega
     exact e
   ·intro e
    exact e n (Nat.lt_succ_self n)
theorem goodMN_stop {l : List TGroup} {rows : List TRow} {k : Nat} (h : goodMN l rows k ≠ 0) : ∀ n, k ≤ n → goodMN l rows n = goodMN l rows k
 | 0, hn => by
  obtain rfl : k = 0 := by omega
  rfl
 | n + 1, hn => by
  rcases Nat.lt_or_ge n k with g | g
  ·obtain rfl : k = n + 1 := by omega
   rfl
  ·have ih := goodMN_stop h n g
   have hb : (goodMN l rows k != 0) = true := by simpa using h
   show (bif goodMN l rows n != 0 then goodMN l rows n else _) = _
   rw [ih, hb, cond_true]
theorem goodM_0 {l : List TGroup} {rows : List TRow} : goodM l rows = 0 ↔ goodP l = 0 ∧ ∀ i, i < rows.length → errM l rows i = 0 := by
 unfold goodM
 cases h : goodP l != 0 with
 | true =>
  rw [cond_true]
  have h' : goodP l ≠ 0 := by simpa using h
  exact ⟨fun e => absurd e h', fun e => absurd e.1 h'⟩
 | false =>
  rw [cond_false, goodMN_0]
  have h' : goodP l = 0 := by simpa using h
  exact ⟨fun e => ⟨h', e⟩, fun e => e.2⟩
def Rise (rows : List TRow) : Prop := rows.Pairwise fun a b => ltS a.key b.key = true
end Go.Proofs.YtkknpeeccejppaaDoor
namespace Go.Proofs.YtkknpeeccejppaaDoor
open Go.RowKit
theorem acc_from {X : Type} (mk : Nat → Int → X) (len : Nat) (step : Nat → Int → Int) (P : Nat → Prop) (m c : Int) (s : Bool) (next : X → X) (goes : X → Cnd) (ps : X → List Prop)
  (hs : ∀ i n, i < len → 0 ≤ n → 0 ≤ step i n ∧ (step i n ≤ m → n + c ≤ step i n ∧ P i)) (hc : 0 ≤ c)
  (hg : ∀ i n, i ≤ len → cval (goes (mk i n)) = (decide (i < len) && (s || decide (n ≤ m)))) (hn : ∀ i n, i < len → 0 ≤ n → next (mk i n) = mk (i + 1) (step i n))
  (hp : ∀ i n, i ≤ len → 0 ≤ n → ∀ p ∈ ps (mk i n), p) :
  ∀ (f i : Nat) (n : Int), i ≤ len → len ≤ i + f → 0 ≤ n →
  needX next goes ps f (mk i n) ∧ ∃ k n', iterX next goes f (mk i n) = mk k n' ∧ 0 ≤ n' ∧ (n' ≤ m → n + c * ((len : Int) - (i : Int)) ≤ n' ∧ ∀ j, i ≤ j → j < len → P j)
 | 0, i, n, hi, hf, h0 => by
  obtain rfl : i = len := by omega
  have hb := hg i n (Nat.le_refl _)
  rw [decide_eq_false (Nat.lt_irrefl _), Bool.false_and] at hb
  exact ⟨⟨hp i n hi h0, hb⟩, i, n, rfl, h0, fun _ => ⟨by rw [Int.sub_self, Int.mul_zero]; omega, fun j h1 h2 => by omega⟩⟩
 | f + 1, i, n, hi, hf, h0 => by
  have hb := hg i n hi
  cases hv : cval (goes (mk i n)) with
  | false =>
   have e : iterX next goes (f + 1) (mk i n) = mk i n := by
    show (bif cval (goes (mk i n)) then _ else mk i n) = _
    rw [hv]; rfl
   rw [e]
   refine ⟨⟨hp i n hi h0, fun h => by rw [hv] at h; cases h⟩, i, n, rfl, h0, fun hm => ?_⟩
   rw [hv] at hb
   rw [decide_eq_true hm, Bool.or_true, Bool.and_true] at hb
   have : ¬ i < len := of_decide_eq_false hb.symm
   obtain rfl : i = len := by omega
   exact ⟨by rw [Int.sub_self, Int.mul_zero]; omega, fun j h1 h2 => by omega⟩
  | true =>
   rw [hv] at hb
   have hi' : i < len := by
    cases h : decide (i < len) with
    | true => exact of_decide_eq_true h
    | false => rw [h] at hb; cases hb
   obtain ⟨s1, s2⟩ := hs i n hi' h0
   have e : iterX next goes (f + 1) (mk i n) = iterX next goes f (mk (i + 1) (step i n)) := by
    show (bif cval (goes (mk i n)) then iterX next goes f (next (mk i n)) else mk i n) = _
    rw [hv, hn i n hi' h0]; rfl
   obtain ⟨g1, k, n', g2, g3, g4⟩ := acc_from mk len step P m c s next goes ps hs hc hg hn hp f (i + 1) (step i n) hi' (by omega) s1
   rw [e]
   refine ⟨⟨hp i n hi h0, fun _ => by rw [hn i n hi' h0]; exact g1⟩, k, n', g2, g3, fun hm => ?_⟩
   obtain ⟨a1, a2⟩ := g4 hm
   have hpos : 0 ≤ c * ((len : Int) - ((i + 1 : Nat) : Int)) := Int.mul_nonneg hc (by omega)
   obtain ⟨b1, b2⟩ := s2 (by omega)
   have hd : c * ((len : Int) - (i : Int)) = c * ((len : Int) - ((i + 1 : Nat) : Int)) + c := by
    rw [show ((len : Int) - (i : Int)) = ((len : Int) - ((i + 1 : Nat) : Int)) + 1 by omega, Int.mul_add, Int.mul_one]
   refine ⟨by rw [hd]; omega, fun j h1 h2 => ?_⟩
   by_cases e : j = i
   ·subst e; exact b2
   ·exact a2 j (by omega) h2
theorem acc_loop {X : Type} (mk : Nat → Int → X) (len : Nat) (step : Nat → Int → Int) (P : Nat → Prop) (m c : Int) (s : Bool) (next : X → X) (goes : X → Cnd) (ps : X → List Prop) (f : Nat) (x : X) (n0 : Int) (hx : x = mk 0 n0) (hf : len ≤ f) (h0 : 0 ≤ n0)
  (hs : ∀ i n, i < len → 0 ≤ n → 0 ≤ step i n ∧ (step i n ≤ m → n + c ≤ step i n ∧ P i)) (hc : 0 ≤ c)
  (hg : ∀ i n, i ≤ len → cval (goes (mk i n)) = (decide (i < len) && (s || decide (n ≤ m)))) (hn : ∀ i n, i < len → 0 ≤ n → next (mk i n) = mk (i + 1) (step i n))
  (hp : ∀ i n, i ≤ len → 0 ≤ n → ∀ p ∈ ps (mk i n), p) :
  needX next goes ps f x ∧ ∃ k n', iterX next goes f x = mk k n' ∧ 0 ≤ n' ∧ (n' ≤ m → n0 + c * (len : Int) ≤ n' ∧ ∀ j, j < len → P j) := by
 subst hx
 obtain ⟨h1, k, n', h2, h3, h4⟩ := acc_from mk len step P m c s next goes ps hs hc hg hn hp f 0 n0 (Nat.zero_le _) (by omega) h0
 refine ⟨h1, k, n', h2, h3, fun h => ?_⟩
 obtain ⟨h5, h6⟩ := h4 h
 rw [show ((len : Int) - ((0 : Nat) : Int)) = (len : Int) by omega] at h5
 exact ⟨h5, fun j hj => h6 j (Nat.zero_le _) hj⟩
theorem all_of_at {α : Type} {l : List α} {d : α} {P : α → Prop} (h : ∀ j, j < l.length → P (l.getD j d)) : ∀ x ∈ l, P x := fun x hx => by
 obtain ⟨j, hj, rfl⟩ := List.mem_iff_getElem.1 hx
 have := h j hj
 rw [List.getD_eq_getElem?_getD, List.getElem?_eq_getElem hj] at this
 exact this
end Go.Proofs.YtkknpeeccejppaaDoor
namespace Go.Proofs.YtkknpeeccejppaaDoor
open Go.RowKit
noncomputable def Cn_1 := addC 17 r01_Add_t Cl
theorem Cn_1_ok : COk Tryd.prog Cn_1 := addC_ok r01_Add_tok Cl_ok
abbrev l13_Light_l2_X : Type := (List TChange) × Int × Int × Int
def l13_Light_l2_T (x : l13_Light_l2_X) : St := ⟨122, 0, [(1, .sl .change x.1), (7, .v (.int .i64 x.2.1)), (8, .v (.int .i64 x.2.2.1)), (9, .v (.int .i64 x.2.2.2))], []⟩
def l13_Light_l2_un : St → Option l13_Light_l2_X
 | ⟨122, 0, [(1, .sl .change z0), (7, .v (.int .i64 z1)), (8, .v (.int .i64 z2)), (9, .v (.int .i64 z3))], []⟩ => some (z0, z1, z2, z3)
 | _ => none
theorem l13_Light_l2_unok : ∀ s x, l13_Light_l2_un s = some x → s = l13_Light_l2_T x := fun s x h => by
 unfold l13_Light_l2_un at h
 split at h
 ·cases h; rfl
 ·cases h
def l13_Light_l2_S : Shape := ⟨0, 0, [1, 7, 8, 9], [], [], [], [7], []⟩
def l13_Light_l2_E : Entry := ⟨[], [], [1, 7, 8, 9], []⟩
def l13_Light_l2_f_k0 (a0 : List TChange) (a1 : Int) (a2 : Int) (a3 : Int) : Bool := !!(decide (a3 < (↑(a0.getD a2.toNat (dflt TC.change)).5.length : Int)) && decide (a1 ≤ (6000 : Int)))
def l13_Light_l2_f_1 (a0 : List TChange) (a1 : Int) (a2 : Int) (a3 : Int) : Int := r01_Add_0 (r01_Add_0 (r01_Add_0 a1 (10 : Int) (6000 : Int)) (↑((a0.getD a2.toNat (dflt TC.change)).5.getD a3.toNat (dflt TC.write)).1.size : Int) (6000 : Int)) (↑((a0.getD a2.toNat (dflt TC.change)).5.getD a3.toNat (dflt TC.write)).4.size : Int) (6000 : Int)
def l13_Light_l2_f_10 (a0 : List TChange) (a1 : Int) (a2 : Int) (a3 : Int) : Bool := !(decide (a3 < (↑(a0.getD a2.toNat (dflt TC.change)).5.length : Int)) && decide (a1 ≤ (6000 : Int)))
def l13_Light_l2_next (x : l13_Light_l2_X) : l13_Light_l2_X := (x.1, l13_Light_l2_f_1 x.1 x.2.1 x.2.2.1 x.2.2.2, x.2.2.1, IntKind.i64.wrap (x.2.2.2 + (1 : Int)))
def l13_Light_l2_goes (x : l13_Light_l2_X) : Cnd := some ((l13_Light_l2_f_k0 x.1 x.2.1 x.2.2.1 x.2.2.2))
def l13_Light_l2_psA (x : l13_Light_l2_X) : List Prop := [((0 : Int) ≤ x.2.2.1 ∧ x.2.2.1 < (↑x.1.length : Int)), ((l13_Light_l2_f_k0 x.1 x.2.1 x.2.2.1 x.2.2.2) = true → (0 : Int) ≤ x.2.2.1 ∧ x.2.2.1 < (↑x.1.length : Int)), ((l13_Light_l2_f_k0 x.1 x.2.1 x.2.2.1 x.2.2.2) = true → (0 : Int) ≤ x.2.2.2 ∧ x.2.2.2 < (↑(x.1.getD x.2.2.1.toNat (dflt TC.change)).5.length : Int)), ((l13_Light_l2_f_k0 x.1 x.2.1 x.2.2.1 x.2.2.2) = true → (0 : Int) ≤ x.2.2.1 ∧ x.2.2.1 < (↑x.1.length : Int)), ((l13_Light_l2_f_k0 x.1 x.2.1 x.2.2.1 x.2.2.2) = true → (0 : Int) ≤ x.2.2.2 ∧ x.2.2.2 < (↑(x.1.getD x.2.2.1.toNat (dflt TC.change)).5.length : Int))]
def l13_Light_l2_ps (x : l13_Light_l2_X) : List Prop := [((0 : Int) ≤ x.2.2.1 ∧ x.2.2.1 < (↑x.1.length : Int)), ((l13_Light_l2_f_k0 x.1 x.2.1 x.2.2.1 x.2.2.2) = true → (0 : Int) ≤ x.2.2.1 ∧ x.2.2.1 < (↑x.1.length : Int)), ((l13_Light_l2_f_k0 x.1 x.2.1 x.2.2.1 x.2.2.2) = true → (0 : Int) ≤ x.2.2.2 ∧ x.2.2.2 < (↑(x.1.getD x.2.2.1.toNat (dflt TC.change)).5.length : Int))]
def l13_Light_l2_outs (x : l13_Light_l2_X) : Outs := [(some 2, some (l13_Light_l2_f_10 x.1 x.2.1 x.2.2.1 x.2.2.2), ⟨122, 0, [(7, .v (.int .i64 x.2.1))], []⟩)]
def l13_Light_l2_fuel (x : l13_Light_l2_X) : Nat := ((↑(x.1.getD x.2.2.1.toNat (dflt TC.change)).5.length : Int) - x.2.2.2).toNat
def l13_Light_l2_run (x : l13_Light_l2_X) : l13_Light_l2_X := iterX l13_Light_l2_next l13_Light_l2_goes (l13_Light_l2_fuel x) x
theorem l13_Light_l2_ev (a0 : List TChange) (a1 : Int) (a2 : Int) (a3 : Int) : roundE (envT Cn_1 L0) 9 (loopAt Tryd.prog 9 2) l13_Light_l2_S (l13_Light_l2_T (a0, a1, a2, a3)) = some (l13_Light_l2_psA (a0, a1, a2, a3), l13_Light_l2_outs (a0, a1, a2, a3), l13_Light_l2_goes (a0, a1, a2, a3), l13_Light_l2_T (l13_Light_l2_next (a0, a1, a2, a3))) := by kernel_rfl
theorem l13_Light_l2_hA (a0 : List TChange) (a1 : Int) (a2 : Int) (a3 : Int) (hp : ∀ p ∈ l13_Light_l2_ps (a0, a1, a2, a3), p) : ∀ p ∈ l13_Light_l2_psA (a0, a1, a2, a3), p := by
 have n0 := N0 hp
 have n1 : ((l13_Light_l2_f_k0 a0 a1 a2 a3) = true → (0 : Int) ≤ a2 ∧ a2 < (↑a0.length : Int)) := N0 (N1 hp)
 have n2 : ((l13_Light_l2_f_k0 a0 a1 a2 a3) = true → (0 : Int) ≤ a3 ∧ a3 < (↑(a0.getD a2.toNat (dflt TC.change)).5.length : Int)) := N0 (N1 (N1 hp))
 exact (needs_cons n0 (needs_cons n1 (needs_cons n2 (needs_cons n1 (needs_cons n2 needs_nil)))))
noncomputable def l13_Light_l2_row := rowL (envT Cn_1 L0) (loopAt Tryd.prog 9 2) l13_Light_l2_S l13_Light_l2_E l13_Light_l2_un l13_Light_l2_fuel l13_Light_l2_next l13_Light_l2_goes l13_Light_l2_ps l13_Light_l2_outs
theorem l13_Light_l2_rok : ∀ s b ps outs, l13_Light_l2_row s = some (b, ps, outs) → Wf s ⟨ps, outs, none⟩ ∧ LoopOk (envT C0 L0) b s ps outs :=
 rowP_ok (T := l13_Light_l2_T) Cn_1_ok L0_ok (u := 9) (by kernel_rfl) (by decide) (fun ⟨a0, a1, a2, a3⟩ => l13_Light_l2_ev a0 a1 a2 a3) (fun ⟨a0, a1, a2, a3⟩ => l13_Light_l2_hA a0 a1 a2 a3) l13_Light_l2_unok (fun _ => okOuts_ok (n := 122) rfl) fun _ _ => rfl
noncomputable def l13_Light_l2_L := addLp 2 l13_Light_l2_row L0
theorem l13_Light_l2_Lok : LpOk l13_Light_l2_L := addLp_ok l13_Light_l2_rok L0_ok
abbrev l13_Light_l0_X : Type := (List TChange) × Int × Int
def l13_Light_l0_T (x : l13_Light_l0_X) : St := ⟨122, 0, [(1, .sl .change x.1), (7, .v (.int .i64 x.2.1)), (8, .v (.int .i64 x.2.2))], []⟩
def l13_Light_l0_un : St → Option l13_Light_l0_X
 | ⟨122, 0, [(1, .sl .change z0), (7, .v (.int .i64 z1)), (8, .v (.int .i64 z2))], []⟩ => some (z0, z1, z2)
 | _ => none
theorem l13_Light_l0_unok : ∀ s x, l13_Light_l0_un s = some x → s = l13_Light_l0_T x := fun s x h => by
 unfold l13_Light_l0_un at h
 split at h
 ·cases h; rfl
 ·cases h
def l13_Light_l0_S : Shape := ⟨0, 0, [1, 7, 8], [], [], [], [7], []⟩
def l13_Light_l0_E : Entry := ⟨[], [], [1, 7, 8], []⟩
def l13_Light_l0_f_k0 (a0 : List TChange) (a1 : Int) (a2 : Int) : Bool := !!(decide (a2 < (↑a0.length : Int)) && decide (a1 ≤ (6000 : Int)))
def l13_Light_l0_f_1 (a0 : List TChange) (a1 : Int) (a2 : Int) : Int := (l13_Light_l2_run (a0, r01_Add_0 a1 (10 : Int) (6000 : Int), a2, (0 : Int))).snd.fst
def l13_Light_l0_f_6 (a0 : List TChange) (a1 : Int) (a2 : Int) : Bool := !(decide (a2 < (↑a0.length : Int)) && decide (a1 ≤ (6000 : Int)))
def l13_Light_l0_next (x : l13_Light_l0_X) : l13_Light_l0_X := (x.1, l13_Light_l0_f_1 x.1 x.2.1 x.2.2, IntKind.i64.wrap (x.2.2 + (1 : Int)))
def l13_Light_l0_goes (x : l13_Light_l0_X) : Cnd := some ((l13_Light_l0_f_k0 x.1 x.2.1 x.2.2))
def l13_Light_l0_psA (x : l13_Light_l0_X) : List Prop := [((l13_Light_l0_f_k0 x.1 x.2.1 x.2.2) = true → loopAt Tryd.prog (9 : FuncId) (2 : Nat) = loopAt Tryd.prog (9 : FuncId) (2 : Nat)), ((l13_Light_l0_f_k0 x.1 x.2.1 x.2.2) = true → needX l13_Light_l2_next l13_Light_l2_goes l13_Light_l2_ps (l13_Light_l2_fuel (x.1, r01_Add_0 x.2.1 (10 : Int) (6000 : Int), x.2.2, (0 : Int))) (x.1, r01_Add_0 x.2.1 (10 : Int) (6000 : Int), x.2.2, (0 : Int)))]
def l13_Light_l0_ps (x : l13_Light_l0_X) : List Prop := [((l13_Light_l0_f_k0 x.1 x.2.1 x.2.2) = true → needX l13_Light_l2_next l13_Light_l2_goes l13_Light_l2_ps (l13_Light_l2_fuel (x.1, r01_Add_0 x.2.1 (10 : Int) (6000 : Int), x.2.2, (0 : Int))) (x.1, r01_Add_0 x.2.1 (10 : Int) (6000 : Int), x.2.2, (0 : Int)))]
def l13_Light_l0_outs (x : l13_Light_l0_X) : Outs := [(some 0, some (l13_Light_l0_f_6 x.1 x.2.1 x.2.2), ⟨122, 0, [(7, .v (.int .i64 x.2.1))], []⟩)]
def l13_Light_l0_fuel (x : l13_Light_l0_X) : Nat := ((↑x.1.length : Int) - x.2.2).toNat
def l13_Light_l0_run (x : l13_Light_l0_X) : l13_Light_l0_X := iterX l13_Light_l0_next l13_Light_l0_goes (l13_Light_l0_fuel x) x
theorem l13_Light_l0_ev (a0 : List TChange) (a1 : Int) (a2 : Int) : roundE (envT Cn_1 l13_Light_l2_L) 9 (loopAt Tryd.prog 9 0) l13_Light_l0_S (l13_Light_l0_T (a0, a1, a2)) = some (l13_Light_l0_psA (a0, a1, a2), l13_Light_l0_outs (a0, a1, a2), l13_Light_l0_goes (a0, a1, a2), l13_Light_l0_T (l13_Light_l0_next (a0, a1, a2))) := by kernel_rfl
theorem l13_Light_l0_hA (a0 : List TChange) (a1 : Int) (a2 : Int) (hp : ∀ p ∈ l13_Light_l0_ps (a0, a1, a2), p) : ∀ p ∈ l13_Light_l0_psA (a0, a1, a2), p := by
 have n0 : ((l13_Light_l0_f_k0 a0 a1 a2) = true → loopAt Tryd.prog (9 : FuncId) (2 : Nat) = loopAt Tryd.prog (9 : FuncId) (2 : Nat)) := by intros; rfl
 have n1 := N0 hp
 exact (needs_cons n0 (needs_cons n1 needs_nil))
noncomputable def l13_Light_l0_row := rowL (envT Cn_1 l13_Light_l2_L) (loopAt Tryd.prog 9 0) l13_Light_l0_S l13_Light_l0_E l13_Light_l0_un l13_Light_l0_fuel l13_Light_l0_next l13_Light_l0_goes l13_Light_l0_ps l13_Light_l0_outs
theorem l13_Light_l0_rok : ∀ s b ps outs, l13_Light_l0_row s = some (b, ps, outs) → Wf s ⟨ps, outs, none⟩ ∧ LoopOk (envT C0 L0) b s ps outs :=
 rowP_ok (T := l13_Light_l0_T) Cn_1_ok l13_Light_l2_Lok (u := 9) (by kernel_rfl) (by decide) (fun ⟨a0, a1, a2⟩ => l13_Light_l0_ev a0 a1 a2) (fun ⟨a0, a1, a2⟩ => l13_Light_l0_hA a0 a1 a2) l13_Light_l0_unok (fun _ => okOuts_ok (n := 122) rfl) fun _ _ => rfl
noncomputable def l13_Light_l0_L := addLp 0 l13_Light_l0_row l13_Light_l2_L
theorem l13_Light_l0_Lok : LpOk l13_Light_l0_L := addLp_ok l13_Light_l0_rok l13_Light_l2_Lok
abbrev l13_Light_l8_X : Type := Int × (List TRow) × Int × Int
def l13_Light_l8_T (x : l13_Light_l8_X) : St := ⟨122, 0, [(7, .v (.int .i64 x.1)), (11, .sl .row x.2.1), (12, .v (.int .i64 x.2.2.1)), (13, .v (.int .i64 x.2.2.2))], []⟩
def l13_Light_l8_un : St → Option l13_Light_l8_X
 | ⟨122, 0, [(7, .v (.int .i64 z0)), (11, .sl .row z1), (12, .v (.int .i64 z2)), (13, .v (.int .i64 z3))], []⟩ => some (z0, z1, z2, z3)
 | _ => none
theorem l13_Light_l8_unok : ∀ s x, l13_Light_l8_un s = some x → s = l13_Light_l8_T x := fun s x h => by
 unfold l13_Light_l8_un at h
 split at h
 ·cases h; rfl
 ·cases h
def l13_Light_l8_S : Shape := ⟨0, 0, [7, 11, 12, 13], [], [], [], [7], []⟩
def l13_Light_l8_E : Entry := ⟨[], [], [7, 11, 12, 13], []⟩
def l13_Light_l8_f_k0 (a0 : Int) (a1 : List TRow) (a2 : Int) (a3 : Int) : Bool := !!(decide (a3 < (↑(a1.getD a2.toNat (dflt TC.row)).2.length : Int)) && decide (a0 ≤ (6000 : Int)))
def l13_Light_l8_f_0 (a0 : Int) (a1 : List TRow) (a2 : Int) (a3 : Int) : Int := r01_Add_0 (r01_Add_0 a0 (10 : Int) (6000 : Int)) (↑((a1.getD a2.toNat (dflt TC.row)).2.getD a3.toNat (dflt TC.cell)).4.size : Int) (6000 : Int)
def l13_Light_l8_f_8 (a0 : Int) (a1 : List TRow) (a2 : Int) (a3 : Int) : Bool := !(decide (a3 < (↑(a1.getD a2.toNat (dflt TC.row)).2.length : Int)) && decide (a0 ≤ (6000 : Int)))
def l13_Light_l8_next (x : l13_Light_l8_X) : l13_Light_l8_X := (l13_Light_l8_f_0 x.1 x.2.1 x.2.2.1 x.2.2.2, x.2.1, x.2.2.1, IntKind.i64.wrap (x.2.2.2 + (1 : Int)))
def l13_Light_l8_goes (x : l13_Light_l8_X) : Cnd := some ((l13_Light_l8_f_k0 x.1 x.2.1 x.2.2.1 x.2.2.2))
def l13_Light_l8_psA (x : l13_Light_l8_X) : List Prop := [((0 : Int) ≤ x.2.2.1 ∧ x.2.2.1 < (↑x.2.1.length : Int)), ((l13_Light_l8_f_k0 x.1 x.2.1 x.2.2.1 x.2.2.2) = true → (0 : Int) ≤ x.2.2.1 ∧ x.2.2.1 < (↑x.2.1.length : Int)), ((l13_Light_l8_f_k0 x.1 x.2.1 x.2.2.1 x.2.2.2) = true → (0 : Int) ≤ x.2.2.2 ∧ x.2.2.2 < (↑(x.2.1.getD x.2.2.1.toNat (dflt TC.row)).2.length : Int))]
abbrev l13_Light_l8_ps : l13_Light_l8_X → List Prop := l13_Light_l8_psA
def l13_Light_l8_outs (x : l13_Light_l8_X) : Outs := [(some 8, some (l13_Light_l8_f_8 x.1 x.2.1 x.2.2.1 x.2.2.2), ⟨122, 0, [(7, .v (.int .i64 x.1))], []⟩)]
def l13_Light_l8_fuel (x : l13_Light_l8_X) : Nat := ((↑(x.2.1.getD x.2.2.1.toNat (dflt TC.row)).2.length : Int) - x.2.2.2).toNat
def l13_Light_l8_run (x : l13_Light_l8_X) : l13_Light_l8_X := iterX l13_Light_l8_next l13_Light_l8_goes (l13_Light_l8_fuel x) x
theorem l13_Light_l8_ev (a0 : Int) (a1 : List TRow) (a2 : Int) (a3 : Int) : roundE (envT Cn_1 l13_Light_l0_L) 9 (loopAt Tryd.prog 9 8) l13_Light_l8_S (l13_Light_l8_T (a0, a1, a2, a3)) = some (l13_Light_l8_psA (a0, a1, a2, a3), l13_Light_l8_outs (a0, a1, a2, a3), l13_Light_l8_goes (a0, a1, a2, a3), l13_Light_l8_T (l13_Light_l8_next (a0, a1, a2, a3))) := by kernel_rfl
theorem l13_Light_l8_hA (a0 : Int) (a1 : List TRow) (a2 : Int) (a3 : Int) (hp : ∀ p ∈ l13_Light_l8_ps (a0, a1, a2, a3), p) : ∀ p ∈ l13_Light_l8_psA (a0, a1, a2, a3), p := hp
noncomputable def l13_Light_l8_row := rowL (envT Cn_1 l13_Light_l0_L) (loopAt Tryd.prog 9 8) l13_Light_l8_S l13_Light_l8_E l13_Light_l8_un l13_Light_l8_fuel l13_Light_l8_next l13_Light_l8_goes l13_Light_l8_ps l13_Light_l8_outs
theorem l13_Light_l8_rok : ∀ s b ps outs, l13_Light_l8_row s = some (b, ps, outs) → Wf s ⟨ps, outs, none⟩ ∧ LoopOk (envT C0 L0) b s ps outs :=
 rowP_ok (T := l13_Light_l8_T) Cn_1_ok l13_Light_l0_Lok (u := 9) (by kernel_rfl) (by decide) (fun ⟨a0, a1, a2, a3⟩ => l13_Light_l8_ev a0 a1 a2 a3) (fun ⟨a0, a1, a2, a3⟩ => l13_Light_l8_hA a0 a1 a2 a3) l13_Light_l8_unok (fun _ => okOuts_ok (n := 122) rfl) fun _ _ => rfl
noncomputable def l13_Light_l8_L := addLp 8 l13_Light_l8_row l13_Light_l0_L
theorem l13_Light_l8_Lok : LpOk l13_Light_l8_L := addLp_ok l13_Light_l8_rok l13_Light_l0_Lok
abbrev l13_Light_l6_X : Type := Int × (List TRow) × Int
def l13_Light_l6_T (x : l13_Light_l6_X) : St := ⟨122, 0, [(7, .v (.int .i64 x.1)), (11, .sl .row x.2.1), (12, .v (.int .i64 x.2.2))], []⟩
def l13_Light_l6_un : St → Option l13_Light_l6_X
 | ⟨122, 0, [(7, .v (.int .i64 z0)), (11, .sl .row z1), (12, .v (.int .i64 z2))], []⟩ => some (z0, z1, z2)
 | _ => none
theorem l13_Light_l6_unok : ∀ s x, l13_Light_l6_un s = some x → s = l13_Light_l6_T x := fun s x h => by
 unfold l13_Light_l6_un at h
 split at h
 ·cases h; rfl
 ·cases h
def l13_Light_l6_S : Shape := ⟨0, 0, [7, 11, 12], [], [], [], [7], []⟩
def l13_Light_l6_E : Entry := ⟨[], [], [7, 11, 12], []⟩
def l13_Light_l6_f_k0 (a0 : Int) (a1 : List TRow) (a2 : Int) : Bool := !!(decide (a2 < (↑a1.length : Int)) && decide (a0 ≤ (6000 : Int)))
def l13_Light_l6_f_0 (a0 : Int) (a1 : List TRow) (a2 : Int) : Int := (l13_Light_l8_run (r01_Add_0 (r01_Add_0 a0 (10 : Int) (6000 : Int)) (↑(a1.getD a2.toNat (dflt TC.row)).1.size : Int) (6000 : Int), a1, a2, (0 : Int))).fst
def l13_Light_l6_f_7 (a0 : Int) (a1 : List TRow) (a2 : Int) : Bool := !(decide (a2 < (↑a1.length : Int)) && decide (a0 ≤ (6000 : Int)))
def l13_Light_l6_next (x : l13_Light_l6_X) : l13_Light_l6_X := (l13_Light_l6_f_0 x.1 x.2.1 x.2.2, x.2.1, IntKind.i64.wrap (x.2.2 + (1 : Int)))
def l13_Light_l6_goes (x : l13_Light_l6_X) : Cnd := some ((l13_Light_l6_f_k0 x.1 x.2.1 x.2.2))
def l13_Light_l6_psA (x : l13_Light_l6_X) : List Prop := [((l13_Light_l6_f_k0 x.1 x.2.1 x.2.2) = true → (0 : Int) ≤ x.2.2 ∧ x.2.2 < (↑x.2.1.length : Int)), ((l13_Light_l6_f_k0 x.1 x.2.1 x.2.2) = true → loopAt Tryd.prog (9 : FuncId) (8 : Nat) = loopAt Tryd.prog (9 : FuncId) (8 : Nat)), ((l13_Light_l6_f_k0 x.1 x.2.1 x.2.2) = true → needX l13_Light_l8_next l13_Light_l8_goes l13_Light_l8_ps (l13_Light_l8_fuel (r01_Add_0 (r01_Add_0 x.1 (10 : Int) (6000 : Int)) (↑(x.2.1.getD x.2.2.toNat (dflt TC.row)).1.size : Int) (6000 : Int), x.2.1, x.2.2, (0 : Int))) (r01_Add_0 (r01_Add_0 x.1 (10 : Int) (6000 : Int)) (↑(x.2.1.getD x.2.2.toNat (dflt TC.row)).1.size : Int) (6000 : Int), x.2.1, x.2.2, (0 : Int)))]
def l13_Light_l6_ps (x : l13_Light_l6_X) : List Prop := [((l13_Light_l6_f_k0 x.1 x.2.1 x.2.2) = true → (0 : Int) ≤ x.2.2 ∧ x.2.2 < (↑x.2.1.length : Int)), ((l13_Light_l6_f_k0 x.1 x.2.1 x.2.2) = true → needX l13_Light_l8_next l13_Light_l8_goes l13_Light_l8_ps (l13_Light_l8_fuel (r01_Add_0 (r01_Add_0 x.1 (10 : Int) (6000 : Int)) (↑(x.2.1.getD x.2.2.toNat (dflt TC.row)).1.size : Int) (6000 : Int), x.2.1, x.2.2, (0 : Int))) (r01_Add_0 (r01_Add_0 x.1 (10 : Int) (6000 : Int)) (↑(x.2.1.getD x.2.2.toNat (dflt TC.row)).1.size : Int) (6000 : Int), x.2.1, x.2.2, (0 : Int)))]
def l13_Light_l6_outs (x : l13_Light_l6_X) : Outs := [(some 6, some (l13_Light_l6_f_7 x.1 x.2.1 x.2.2), ⟨122, 0, [(7, .v (.int .i64 x.1))], []⟩)]
def l13_Light_l6_fuel (x : l13_Light_l6_X) : Nat := ((↑x.2.1.length : Int) - x.2.2).toNat
def l13_Light_l6_run (x : l13_Light_l6_X) : l13_Light_l6_X := iterX l13_Light_l6_next l13_Light_l6_goes (l13_Light_l6_fuel x) x
theorem l13_Light_l6_ev (a0 : Int) (a1 : List TRow) (a2 : Int) : roundE (envT Cn_1 l13_Light_l8_L) 9 (loopAt Tryd.prog 9 6) l13_Light_l6_S (l13_Light_l6_T (a0, a1, a2)) = some (l13_Light_l6_psA (a0, a1, a2), l13_Light_l6_outs (a0, a1, a2), l13_Light_l6_goes (a0, a1, a2), l13_Light_l6_T (l13_Light_l6_next (a0, a1, a2))) := by kernel_rfl
theorem l13_Light_l6_hA (a0 : Int) (a1 : List TRow) (a2 : Int) (hp : ∀ p ∈ l13_Light_l6_ps (a0, a1, a2), p) : ∀ p ∈ l13_Light_l6_psA (a0, a1, a2), p := by
 have n0 := N0 hp
 have n1 : ((l13_Light_l6_f_k0 a0 a1 a2) = true → loopAt Tryd.prog (9 : FuncId) (8 : Nat) = loopAt Tryd.prog (9 : FuncId) (8 : Nat)) := by intros; rfl
 have n2 := N0 (N1 hp)
 exact (needs_cons n0 (needs_cons n1 (needs_cons n2 needs_nil)))
noncomputable def l13_Light_l6_row := rowL (envT Cn_1 l13_Light_l8_L) (loopAt Tryd.prog 9 6) l13_Light_l6_S l13_Light_l6_E l13_Light_l6_un l13_Light_l6_fuel l13_Light_l6_next l13_Light_l6_goes l13_Light_l6_ps l13_Light_l6_outs
theorem l13_Light_l6_rok : ∀ s b ps outs, l13_Light_l6_row s = some (b, ps, outs) → Wf s ⟨ps, outs, none⟩ ∧ LoopOk (envT C0 L0) b s ps outs :=
 rowP_ok (T := l13_Light_l6_T) Cn_1_ok l13_Light_l8_Lok (u := 9) (by kernel_rfl) (by decide) (fun ⟨a0, a1, a2⟩ => l13_Light_l6_ev a0 a1 a2) (fun ⟨a0, a1, a2⟩ => l13_Light_l6_hA a0 a1 a2) l13_Light_l6_unok (fun _ => okOuts_ok (n := 122) rfl) fun _ _ => rfl
noncomputable def l13_Light_l6_L := addLp 6 l13_Light_l6_row l13_Light_l8_L
theorem l13_Light_l6_Lok : LpOk l13_Light_l6_L := addLp_ok l13_Light_l6_rok l13_Light_l8_Lok
abbrev l13_Light_l4_X : Type := Int × (List (List TRow)) × Int × Int
def l13_Light_l4_T (x : l13_Light_l4_X) : St := ⟨122, 0, [(7, .v (.int .i64 x.1)), (67, .sl .rows x.2.1), (68, .v (.int .i64 x.2.2.1)), (69, .v (.int .i64 x.2.2.2))], []⟩
def l13_Light_l4_un : St → Option l13_Light_l4_X
 | ⟨122, 0, [(7, .v (.int .i64 z0)), (67, .sl .rows z1), (68, .v (.int .i64 z2)), (69, .v (.int .i64 z3))], []⟩ => some (z0, z1, z2, z3)
 | _ => none
theorem l13_Light_l4_unok : ∀ s x, l13_Light_l4_un s = some x → s = l13_Light_l4_T x := fun s x h => by
 unfold l13_Light_l4_un at h
 split at h
 ·cases h; rfl
 ·cases h
def l13_Light_l4_S : Shape := ⟨0, 0, [7, 67, 68, 69], [], [], [], [7], []⟩
def l13_Light_l4_E : Entry := ⟨[], [], [7, 67, 68, 69], []⟩
def l13_Light_l4_f_0 (a0 : Int) (a1 : List (List TRow)) (_a2 : Int) (a3 : Int) : Int := (l13_Light_l6_run (a0, a1.getD a3.toNat (dflt TC.rows), (0 : Int))).fst
def l13_Light_l4_next (x : l13_Light_l4_X) : l13_Light_l4_X := (l13_Light_l4_f_0 x.1 x.2.1 x.2.2.1 x.2.2.2, x.2.1, x.2.2.1, IntKind.i64.wrap (x.2.2.2 + (1 : Int)))
def l13_Light_l4_goes (x : l13_Light_l4_X) : Cnd := some (!!decide (x.2.2.2 < x.2.2.1))
def l13_Light_l4_psA (x : l13_Light_l4_X) : List Prop := [((!!decide (x.2.2.2 < x.2.2.1)) = true → (0 : Int) ≤ x.2.2.2 ∧ x.2.2.2 < (↑x.2.1.length : Int)), ((!!decide (x.2.2.2 < x.2.2.1)) = true → loopAt Tryd.prog (9 : FuncId) (6 : Nat) = loopAt Tryd.prog (9 : FuncId) (6 : Nat)), ((!!decide (x.2.2.2 < x.2.2.1)) = true → needX l13_Light_l6_next l13_Light_l6_goes l13_Light_l6_ps (l13_Light_l6_fuel (x.1, x.2.1.getD x.2.2.2.toNat (dflt TC.rows), (0 : Int))) (x.1, x.2.1.getD x.2.2.2.toNat (dflt TC.rows), (0 : Int)))]
def l13_Light_l4_ps (x : l13_Light_l4_X) : List Prop := [((!!decide (x.2.2.2 < x.2.2.1)) = true → (0 : Int) ≤ x.2.2.2 ∧ x.2.2.2 < (↑x.2.1.length : Int)), ((!!decide (x.2.2.2 < x.2.2.1)) = true → needX l13_Light_l6_next l13_Light_l6_goes l13_Light_l6_ps (l13_Light_l6_fuel (x.1, x.2.1.getD x.2.2.2.toNat (dflt TC.rows), (0 : Int))) (x.1, x.2.1.getD x.2.2.2.toNat (dflt TC.rows), (0 : Int)))]
def l13_Light_l4_outs (x : l13_Light_l4_X) : Outs := [(some 4, some (!decide (x.2.2.2 < x.2.2.1)), ⟨122, 0, [(7, .v (.int .i64 x.1))], []⟩)]
def l13_Light_l4_fuel (x : l13_Light_l4_X) : Nat := (x.2.2.1 - x.2.2.2).toNat
def l13_Light_l4_run (x : l13_Light_l4_X) : l13_Light_l4_X := iterX l13_Light_l4_next l13_Light_l4_goes (l13_Light_l4_fuel x) x
theorem l13_Light_l4_ev (a0 : Int) (a1 : List (List TRow)) (a2 : Int) (a3 : Int) : roundE (envT Cn_1 l13_Light_l6_L) 9 (loopAt Tryd.prog 9 4) l13_Light_l4_S (l13_Light_l4_T (a0, a1, a2, a3)) = some (l13_Light_l4_psA (a0, a1, a2, a3), l13_Light_l4_outs (a0, a1, a2, a3), l13_Light_l4_goes (a0, a1, a2, a3), l13_Light_l4_T (l13_Light_l4_next (a0, a1, a2, a3))) := by kernel_rfl
theorem l13_Light_l4_hA (a0 : Int) (a1 : List (List TRow)) (a2 : Int) (a3 : Int) (hp : ∀ p ∈ l13_Light_l4_ps (a0, a1, a2, a3), p) : ∀ p ∈ l13_Light_l4_psA (a0, a1, a2, a3), p := by
 have n0 := N0 hp
 have n1 : ((!!decide (a3 < a2)) = true → loopAt Tryd.prog (9 : FuncId) (6 : Nat) = loopAt Tryd.prog (9 : FuncId) (6 : Nat)) := by intros; rfl
 have n2 := N0 (N1 hp)
 exact (needs_cons n0 (needs_cons n1 (needs_cons n2 needs_nil)))
noncomputable def l13_Light_l4_row := rowL (envT Cn_1 l13_Light_l6_L) (loopAt Tryd.prog 9 4) l13_Light_l4_S l13_Light_l4_E l13_Light_l4_un l13_Light_l4_fuel l13_Light_l4_next l13_Light_l4_goes l13_Light_l4_ps l13_Light_l4_outs
theorem l13_Light_l4_rok : ∀ s b ps outs, l13_Light_l4_row s = some (b, ps, outs) → Wf s ⟨ps, outs, none⟩ ∧ LoopOk (envT C0 L0) b s ps outs :=
 rowP_ok (T := l13_Light_l4_T) Cn_1_ok l13_Light_l6_Lok (u := 9) (by kernel_rfl) (by decide) (fun ⟨a0, a1, a2, a3⟩ => l13_Light_l4_ev a0 a1 a2 a3) (fun ⟨a0, a1, a2, a3⟩ => l13_Light_l4_hA a0 a1 a2 a3) l13_Light_l4_unok (fun _ => okOuts_ok (n := 122) rfl) fun _ _ => rfl
noncomputable def l13_Light_l4_L := addLp 4 l13_Light_l4_row l13_Light_l6_L
theorem l13_Light_l4_Lok : LpOk l13_Light_l4_L := addLp_ok l13_Light_l4_rok l13_Light_l6_Lok
def l13_Light_0 (a0 : List TGroup) (a1 : List TChange) (a2 : List (List TRow)) : Bool := decide ((l13_Light_l4_run ((l13_Light_l0_run (a1, r01_Add_0 (0 : Int) (↑a0.length : Int) (6000 : Int), (0 : Int))).snd.fst, a2, (↑a2.length : Int), (0 : Int))).fst ≤ (6000 : Int))
def l13_Light_r (a0 : List TGroup) (a1 : List TChange) (a2 : List (List TRow)) : A := .v (.bool (l13_Light_0 a0 a1 a2))
def l13_Light_o (_a0 : List TGroup) (_a1 : List TChange) (_a2 : List (List TRow)) : Objs := []
def l13_Light_ps (a0 : List TGroup) (a1 : List TChange) (a2 : List (List TRow)) : List Prop := [(needX l13_Light_l0_next l13_Light_l0_goes l13_Light_l0_ps (l13_Light_l0_fuel (a1, r01_Add_0 (0 : Int) (↑a0.length : Int) (6000 : Int), (0 : Int))) (a1, r01_Add_0 (0 : Int) (↑a0.length : Int) (6000 : Int), (0 : Int))), (needX l13_Light_l4_next l13_Light_l4_goes l13_Light_l4_ps (l13_Light_l4_fuel ((l13_Light_l0_run (a1, r01_Add_0 (0 : Int) (↑a0.length : Int) (6000 : Int), (0 : Int))).snd.fst, a2, (↑a2.length : Int), (0 : Int))) ((l13_Light_l0_run (a1, r01_Add_0 (0 : Int) (↑a0.length : Int) (6000 : Int), (0 : Int))).snd.fst, a2, (↑a2.length : Int), (0 : Int)))]
theorem l13_Light_ev (a0 : List TGroup) (a1 : List TChange) (a2 : List (List TRow)) : evF (envT Cn_1 l13_Light_l4_L) 9 9 [.sl .group a0, .sl .change a1, .sl .rows a2] 0 [] = some (1, l13_Light_r a0 a1 a2, 0, l13_Light_o a0 a1 a2, [(loopAt Tryd.prog (9 : FuncId) (0 : Nat) = loopAt Tryd.prog (9 : FuncId) (0 : Nat)), (needX l13_Light_l0_next l13_Light_l0_goes l13_Light_l0_ps (l13_Light_l0_fuel (a1, r01_Add_0 (0 : Int) (↑a0.length : Int) (6000 : Int), (0 : Int))) (a1, r01_Add_0 (0 : Int) (↑a0.length : Int) (6000 : Int), (0 : Int))), (loopAt Tryd.prog (9 : FuncId) (4 : Nat) = loopAt Tryd.prog (9 : FuncId) (4 : Nat)), (needX l13_Light_l4_next l13_Light_l4_goes l13_Light_l4_ps (l13_Light_l4_fuel ((l13_Light_l0_run (a1, r01_Add_0 (0 : Int) (↑a0.length : Int) (6000 : Int), (0 : Int))).snd.fst, a2, (↑a2.length : Int), (0 : Int))) ((l13_Light_l0_run (a1, r01_Add_0 (0 : Int) (↑a0.length : Int) (6000 : Int), (0 : Int))).snd.fst, a2, (↑a2.length : Int), (0 : Int)))]) := by kernel_rfl
theorem l13_Light_c (a0 : List TGroup) (a1 : List TChange) (a2 : List (List TRow)) (hp : ∀ p ∈ l13_Light_ps a0 a1 a2, p) : CallOk Tryd.prog 9 [.sl .group a0, .sl .change a1, .sl .rows a2] 0 [] 1 (l13_Light_r a0 a1 a2) 0 (l13_Light_o a0 a1 a2) := by
 have n1 := N0 hp
 have n3 := N0 (N1 hp)
 exact evF_ok (envP_ok Cn_1_ok l13_Light_l4_Lok) (l13_Light_ev a0 a1 a2) (needs_cons rfl (needs_cons n1 (needs_cons rfl (needs_cons n3 needs_nil))))
def l13_Light_r2 (a0 : List TGroup) (a1 : List TChange) (a2 : List (List TRow)) : A := .v (.bool (l13_Light_0 a0 a1 a2))
def l13_Light_o2 (_a0 : List TGroup) (_a1 : List TChange) (_a2 : List (List TRow)) : Objs := []
def wideCh (c : TChange) : Prop := wideN c.writes.length ∧ ∀ w ∈ c.writes, wideN w.key.size ∧ wideN w.value.size
def smallCh (c : TChange) : Prop := c.writes.length ≤ 6000 ∧ ∀ w ∈ c.writes, w.key.size ≤ 6000 ∧ w.value.size ≤ 6000
def l13_Light_ps2 (a0 : List TGroup) (a1 : List TChange) (a2 : List (List TRow)) : List Prop := [wideN a0.length ∧ (wideN a1.length ∧ ∀ c ∈ a1, wideCh c) ∧ wideN a2.length ∧ ∀ x ∈ a2, wideN x.length ∧ ∀ r ∈ x, wideR r]
theorem add6 {n k : Int} (hn : 0 ≤ n) (hk : 0 ≤ k ∧ k ≤ 9223372036854775807) : 0 ≤ r01_Add_0 n k 6000 ∧ (r01_Add_0 n k 6000 ≤ 6000 → n + k ≤ r01_Add_0 n k 6000 ∧ n + k ≤ 6000) := by
 obtain ⟨h1, h2, h3⟩ := add_ok (n := n) (k := k) (m := 6000) hn hk (by omega)
 exact ⟨h2, fun h => ⟨by rw [h3 (h1 h)]; omega, h1 h⟩⟩
theorem light13_cells (rows : List TRow) (i : Nat) (hi : i < rows.length) (n0 : Int) (h0 : 0 ≤ n0) (hl : wideN (rows.getD i (dflt TC.row)).cells.length) (hw : ∀ c ∈ (rows.getD i (dflt TC.row)).cells, wideN c.value.size) :
  needX l13_Light_l8_next l13_Light_l8_goes l13_Light_l8_ps (l13_Light_l8_fuel (n0, rows, (i : Int), 0)) (n0, rows, (i : Int), 0) ∧
  0 ≤ (l13_Light_l8_run (n0, rows, (i : Int), 0)).fst ∧ ((l13_Light_l8_run (n0, rows, (i : Int), 0)).fst ≤ 6000 → n0 + 10 * ((rows.getD i (dflt TC.row)).cells.length : Int) ≤ (l13_Light_l8_run (n0, rows, (i : Int), 0)).fst ∧ ∀ c ∈ (rows.getD i (dflt TC.row)).cells, c.value.size ≤ 6000) := by
 generalize hcs : (rows.getD i (dflt TC.row)).cells = cs at *
 have hcs2 : (rows.getD i (dflt TC.row)).2 = cs := hcs
 have hgo : ∀ (k : Nat) (n : Int), l13_Light_l8_f_k0 n rows (i : Int) (k : Int) = (decide (k < cs.length) && (false || decide (n ≤ 6000))) := fun k n => by
  unfold l13_Light_l8_f_k0
  rw [Int.toNat_natCast, hcs2, nn, dlt, Bool.false_or]
 unfold wideN at hl
 obtain ⟨h1, k, n', hx, h2, h3⟩ := acc_loop (fun k n => ((n, rows, (i : Int), (k : Int)) : l13_Light_l8_X)) cs.length (fun k n => r01_Add_0 (r01_Add_0 n 10 6000) ((cs.getD k (dflt TC.cell)).4.size : Int) 6000) (fun k => (cs.getD k (dflt TC.cell)).value.size ≤ 6000) 6000 10 false l13_Light_l8_next l13_Light_l8_goes l13_Light_l8_ps (l13_Light_l8_fuel (n0, rows, (i : Int), 0)) (n0, rows, (i : Int), 0) n0 rfl
  (by show cs.length ≤ (((rows.getD ((i : Int)).toNat (dflt TC.row)).2.length : Int) - 0).toNat; rw [Int.toNat_natCast, hcs2]; omega) h0
  (fun k n hk hn => by
   obtain ⟨a1, a2⟩ := add6 (k := 10) hn (by omega)
   obtain ⟨b1, b2⟩ := add6 a1 (sz_in (hw _ (getD_in cs (dflt TC.cell) k hk)))
   refine ⟨b1, fun h => ?_⟩
   obtain ⟨c1, c2⟩ := b2 h
   obtain ⟨d1, d2⟩ := a2 (by omega)
   exact ⟨by omega, by show (cs.getD k (dflt TC.cell)).4.size ≤ 6000; omega⟩)
  (by omega)
  (fun k n _ => hgo k n)
  (fun k n hk _ => by
   show (l13_Light_l8_f_0 n rows (i : Int) (k : Int), rows, (i : Int), IntKind.i64.wrap ((k : Int) + 1)) = (_, rows, (i : Int), ((k + 1 : Nat) : Int))
   rw [wsucc (by omega)]
   unfold l13_Light_l8_f_0
   rw [Int.toNat_natCast, Int.toNat_natCast, hcs2])
  (fun k n _ _ => needs_cons (by show (0 : Int) ≤ (i : Int) ∧ (i : Int) < (rows.length : Int); omega) (needs_cons (fun _ => by show (0 : Int) ≤ (i : Int) ∧ (i : Int) < (rows.length : Int); omega) (needs_cons (fun h => by
   have h' : l13_Light_l8_f_k0 n rows (i : Int) (k : Int) = true := h
   rw [hgo, Bool.and_eq_true] at h'
   have := of_decide_eq_true h'.1
   show (0 : Int) ≤ (k : Int) ∧ (k : Int) < ((rows.getD ((i : Int)).toNat (dflt TC.row)).2.length : Int)
   rw [Int.toNat_natCast, hcs2]
   omega) needs_nil)))
 have hr : l13_Light_l8_run (n0, rows, (i : Int), 0) = (n', rows, (i : Int), (k : Int)) := hx
 rw [hr]
 exact ⟨h1, h2, fun h => ⟨(h3 h).1, all_of_at (h3 h).2⟩⟩
theorem light13_rows (rows : List TRow) (n0 : Int) (h0 : 0 ≤ n0) (hl : wideN rows.length) (hw : ∀ r ∈ rows, wideR r) :
  needX l13_Light_l6_next l13_Light_l6_goes l13_Light_l6_ps (l13_Light_l6_fuel (n0, rows, 0)) (n0, rows, 0) ∧
  0 ≤ (l13_Light_l6_run (n0, rows, 0)).fst ∧ ((l13_Light_l6_run (n0, rows, 0)).fst ≤ 6000 → n0 + 10 * (rows.length : Int) ≤ (l13_Light_l6_run (n0, rows, 0)).fst ∧ ∀ r ∈ rows, smallR 6000 r) := by
 have hgo : ∀ (k : Nat) (n : Int), l13_Light_l6_f_k0 n rows (k : Int) = (decide (k < rows.length) && (false || decide (n ≤ 6000))) := fun k n => by
  unfold l13_Light_l6_f_k0
  rw [nn, dlt, Bool.false_or]
 unfold wideN at hl
 have hin : ∀ (i : Nat) (n : Int), i < rows.length → 0 ≤ n → _ := fun i n hi hn =>
  light13_cells rows i hi (r01_Add_0 (r01_Add_0 n 10 6000) ((rows.getD i (dflt TC.row)).1.size : Int) 6000) (add6 (add6 hn (by omega)).1 (sz_in (hw _ (getD_in rows (dflt TC.row) i hi)).1)).1 (hw _ (getD_in rows (dflt TC.row) i hi)).2.1 (hw _ (getD_in rows (dflt TC.row) i hi)).2.2
 obtain ⟨h1, k, n', hx, h2, h3⟩ := acc_loop (fun k n => ((n, rows, (k : Int)) : l13_Light_l6_X)) rows.length (fun k n => l13_Light_l6_f_0 n rows (k : Int)) (fun k => smallR 6000 (rows.getD k (dflt TC.row))) 6000 10 false l13_Light_l6_next l13_Light_l6_goes l13_Light_l6_ps (l13_Light_l6_fuel (n0, rows, 0)) (n0, rows, 0) n0 rfl
  (by show rows.length ≤ ((rows.length : Int) - 0).toNat; omega) h0
  (fun k n hk hn => by
   obtain ⟨_, g2, g3⟩ := hin k n hk hn
   obtain ⟨a1, a2⟩ := add6 (k := 10) hn (by omega)
   obtain ⟨b1, b2⟩ := add6 a1 (sz_in (hw _ (getD_in rows (dflt TC.row) k hk)).1)
   unfold l13_Light_l6_f_0
   rw [Int.toNat_natCast]
   refine ⟨g2, fun h => ?_⟩
   obtain ⟨c1, c2⟩ := g3 h
   have h' : (l13_Light_l8_run (r01_Add_0 (r01_Add_0 n 10 6000) ((rows.getD k (dflt TC.row)).1.size : Int) 6000, rows, (k : Int), 0)).fst ≤ 6000 := h
   obtain ⟨d1, d2⟩ := b2 (by omega)
   obtain ⟨e1, e2⟩ := a2 (by omega)
   exact ⟨by omega, by show (rows.getD k (dflt TC.row)).1.size ≤ 6000; omega, by omega, c2⟩)
  (by omega)
  (fun k n _ => hgo k n)
  (fun k n hk _ => by
   show (l13_Light_l6_f_0 n rows (k : Int), rows, IntKind.i64.wrap ((k : Int) + 1)) = (_, rows, ((k + 1 : Nat) : Int))
   rw [wsucc (by omega)])
  (fun k n hk hn => by
   have hlt : l13_Light_l6_f_k0 n rows (k : Int) = true → k < rows.length := fun h => by
    rw [hgo, Bool.and_eq_true] at h
    exact of_decide_eq_true h.1
   refine needs_cons (fun h => ?_) (needs_cons (fun h => ?_) needs_nil)
   ·have := hlt h
    show (0 : Int) ≤ (k : Int) ∧ (k : Int) < (rows.length : Int)
    omega
   ·have := (hin k n (hlt h) hn).1
    have e : ((k : Int)).toNat = k := Int.toNat_natCast k
    show needX l13_Light_l8_next l13_Light_l8_goes l13_Light_l8_ps (l13_Light_l8_fuel (r01_Add_0 (r01_Add_0 n 10 6000) ((rows.getD ((k : Int)).toNat (dflt TC.row)).1.size : Int) 6000, rows, (k : Int), 0)) (r01_Add_0 (r01_Add_0 n 10 6000) ((rows.getD ((k : Int)).toNat (dflt TC.row)).1.size : Int) 6000, rows, (k : Int), 0)
    rw [e]
    exact this)
 have hr : l13_Light_l6_run (n0, rows, 0) = (n', rows, (k : Int)) := hx
 rw [hr]
 exact ⟨h1, h2, fun h => ⟨(h3 h).1, all_of_at (h3 h).2⟩⟩
theorem light13_all (xs : List (List TRow)) (n0 : Int) (h0 : 0 ≤ n0) (hl : wideN xs.length) (hw : ∀ x ∈ xs, wideN x.length ∧ ∀ r ∈ x, wideR r) :
  needX l13_Light_l4_next l13_Light_l4_goes l13_Light_l4_ps (l13_Light_l4_fuel (n0, xs, (xs.length : Int), 0)) (n0, xs, (xs.length : Int), 0) ∧
  ((l13_Light_l4_run (n0, xs, (xs.length : Int), 0)).fst ≤ 6000 → n0 ≤ 6000 ∧ ∀ x ∈ xs, x.length ≤ 6000 ∧ ∀ r ∈ x, smallR 6000 r) := by
 unfold wideN at hl
 have hin : ∀ (i : Nat) (n : Int), i < xs.length → 0 ≤ n → _ := fun i n hi hn =>
  light13_rows (xs.getD i (dflt TC.rows)) n hn (hw _ (getD_in xs (dflt TC.rows) i hi)).1 (hw _ (getD_in xs (dflt TC.rows) i hi)).2
 obtain ⟨h1, k, n', hx, h2, h3⟩ := acc_loop (fun k n => ((n, xs, (xs.length : Int), (k : Int)) : l13_Light_l4_X)) xs.length (fun k n => l13_Light_l4_f_0 n xs (xs.length : Int) (k : Int)) (fun k => (xs.getD k (dflt TC.rows)).length ≤ 6000 ∧ ∀ r ∈ xs.getD k (dflt TC.rows), smallR 6000 r) 6000 0 true l13_Light_l4_next l13_Light_l4_goes l13_Light_l4_ps (l13_Light_l4_fuel (n0, xs, (xs.length : Int), 0)) (n0, xs, (xs.length : Int), 0) n0 rfl
  (by show xs.length ≤ ((xs.length : Int) - 0).toNat; omega) h0
  (fun k n hk hn => by
   obtain ⟨_, g2, g3⟩ := hin k n hk hn
   unfold l13_Light_l4_f_0
   rw [Int.toNat_natCast]
   refine ⟨g2, fun h => ?_⟩
   obtain ⟨c1, c2⟩ := g3 h
   have h' : (l13_Light_l6_run (n, xs.getD k (dflt TC.rows), 0)).fst ≤ 6000 := h
   exact ⟨by omega, by omega, c2⟩)
  (Int.le_refl _)
  (fun k n _ => by
   show (!!decide ((k : Int) < (xs.length : Int))) = _
   rw [nn, dlt, Bool.true_or, Bool.and_true])
  (fun k n hk _ => by
   show (l13_Light_l4_f_0 n xs (xs.length : Int) (k : Int), xs, (xs.length : Int), IntKind.i64.wrap ((k : Int) + 1)) = (_, xs, (xs.length : Int), ((k + 1 : Nat) : Int))
   rw [wsucc (by omega)])
  (fun k n hk hn => by
   have hlt : (!!decide ((k : Int) < (xs.length : Int))) = true → k < xs.length := fun h => by
    rw [nn] at h
    have := of_decide_eq_true h
    omega
   refine needs_cons (fun h => ?_) (needs_cons (fun h => ?_) needs_nil)
   ·have := hlt h
    show (0 : Int) ≤ (k : Int) ∧ (k : Int) < (xs.length : Int)
    omega
   ·have := (hin k n (hlt h) hn).1
    have e : ((k : Int)).toNat = k := Int.toNat_natCast k
    show needX l13_Light_l6_next l13_Light_l6_goes l13_Light_l6_ps (l13_Light_l6_fuel (n, xs.getD ((k : Int)).toNat (dflt TC.rows), 0)) (n, xs.getD ((k : Int)).toNat (dflt TC.rows), 0)
    rw [e]
    exact this)
 have hr : l13_Light_l4_run (n0, xs, (xs.length : Int), 0) = (n', xs, (xs.length : Int), (k : Int)) := hx
 rw [hr]
 exact ⟨h1, fun h => ⟨by have h' : n' ≤ 6000 := h; have := (h3 h).1; omega, all_of_at (h3 h).2⟩⟩
theorem light13_writes (cs : List TChange) (i : Nat) (hi : i < cs.length) (n0 : Int) (h0 : 0 ≤ n0) (hw : wideCh (cs.getD i (dflt TC.change))) :
  needX l13_Light_l2_next l13_Light_l2_goes l13_Light_l2_ps (l13_Light_l2_fuel (cs, n0, (i : Int), 0)) (cs, n0, (i : Int), 0) ∧
  0 ≤ (l13_Light_l2_run (cs, n0, (i : Int), 0)).snd.fst ∧ ((l13_Light_l2_run (cs, n0, (i : Int), 0)).snd.fst ≤ 6000 → n0 ≤ (l13_Light_l2_run (cs, n0, (i : Int), 0)).snd.fst ∧ smallCh (cs.getD i (dflt TC.change))) := by
 obtain ⟨hl, hw⟩ := hw
 unfold smallCh
 generalize hcs : (cs.getD i (dflt TC.change)).writes = ws at *
 have hcs2 : (cs.getD i (dflt TC.change)).5 = ws := hcs
 have hgo : ∀ (k : Nat) (n : Int), l13_Light_l2_f_k0 cs n (i : Int) (k : Int) = (decide (k < ws.length) && (false || decide (n ≤ 6000))) := fun k n => by
  unfold l13_Light_l2_f_k0
  rw [Int.toNat_natCast, hcs2, nn, dlt, Bool.false_or]
 unfold wideN at hl
 obtain ⟨h1, k, n', hx, h2, h3⟩ := acc_loop (fun k n => ((cs, n, (i : Int), (k : Int)) : l13_Light_l2_X)) ws.length (fun k n => r01_Add_0 (r01_Add_0 (r01_Add_0 n 10 6000) ((ws.getD k (dflt TC.write)).1.size : Int) 6000) ((ws.getD k (dflt TC.write)).4.size : Int) 6000) (fun k => (ws.getD k (dflt TC.write)).key.size ≤ 6000 ∧ (ws.getD k (dflt TC.write)).value.size ≤ 6000) 6000 10 false l13_Light_l2_next l13_Light_l2_goes l13_Light_l2_ps (l13_Light_l2_fuel (cs, n0, (i : Int), 0)) (cs, n0, (i : Int), 0) n0 rfl
  (by show ws.length ≤ (((cs.getD ((i : Int)).toNat (dflt TC.change)).5.length : Int) - 0).toNat; rw [Int.toNat_natCast, hcs2]; omega) h0
  (fun k n hk hn => by
   obtain ⟨w1, w2⟩ := hw _ (getD_in ws (dflt TC.write) k hk)
   obtain ⟨a1, a2⟩ := add6 (k := 10) hn (by omega)
   obtain ⟨b1, b2⟩ := add6 a1 (sz_in w1)
   obtain ⟨f1, f2⟩ := add6 b1 (sz_in w2)
   refine ⟨f1, fun h => ?_⟩
   obtain ⟨g1, g2⟩ := f2 h
   obtain ⟨c1, c2⟩ := b2 (by omega)
   obtain ⟨d1, d2⟩ := a2 (by omega)
   exact ⟨by omega, by omega, by omega⟩)
  (by omega)
  (fun k n _ => hgo k n)
  (fun k n hk _ => by
   show (cs, l13_Light_l2_f_1 cs n (i : Int) (k : Int), (i : Int), IntKind.i64.wrap ((k : Int) + 1)) = (cs, _, (i : Int), ((k + 1 : Nat) : Int))
   rw [wsucc (by omega)]
   unfold l13_Light_l2_f_1
   rw [Int.toNat_natCast, Int.toNat_natCast, hcs2])
  (fun k n _ _ => needs_cons (by show (0 : Int) ≤ (i : Int) ∧ (i : Int) < (cs.length : Int); omega) (needs_cons (fun _ => by show (0 : Int) ≤ (i : Int) ∧ (i : Int) < (cs.length : Int); omega) (needs_cons (fun h => by
   have h' : l13_Light_l2_f_k0 cs n (i : Int) (k : Int) = true := h
   rw [hgo, Bool.and_eq_true] at h'
   have := of_decide_eq_true h'.1
   show (0 : Int) ≤ (k : Int) ∧ (k : Int) < ((cs.getD ((i : Int)).toNat (dflt TC.change)).5.length : Int)
   rw [Int.toNat_natCast, hcs2]
   omega) needs_nil)))
 have hr : l13_Light_l2_run (cs, n0, (i : Int), 0) = (cs, n', (i : Int), (k : Int)) := hx
 rw [hr]
 refine ⟨h1, h2, fun h => ?_⟩
 have h' : n' ≤ 6000 := h
 obtain ⟨q1, q2⟩ := h3 h
 refine ⟨by show n0 ≤ n'; omega, by omega, ?_⟩
 exact all_of_at (P := fun w : TWrite => w.key.size ≤ 6000 ∧ w.value.size ≤ 6000) q2
theorem light13_changes (cs : List TChange) (n0 : Int) (h0 : 0 ≤ n0) (hl : wideN cs.length) (hw : ∀ c ∈ cs, wideCh c) :
  needX l13_Light_l0_next l13_Light_l0_goes l13_Light_l0_ps (l13_Light_l0_fuel (cs, n0, 0)) (cs, n0, 0) ∧
  0 ≤ (l13_Light_l0_run (cs, n0, 0)).snd.fst ∧ ((l13_Light_l0_run (cs, n0, 0)).snd.fst ≤ 6000 → n0 + 10 * (cs.length : Int) ≤ (l13_Light_l0_run (cs, n0, 0)).snd.fst ∧ ∀ c ∈ cs, smallCh c) := by
 have hgo : ∀ (k : Nat) (n : Int), l13_Light_l0_f_k0 cs n (k : Int) = (decide (k < cs.length) && (false || decide (n ≤ 6000))) := fun k n => by
  unfold l13_Light_l0_f_k0
  rw [nn, dlt, Bool.false_or]
 unfold wideN at hl
 have hin : ∀ (i : Nat) (n : Int), i < cs.length → 0 ≤ n → _ := fun i n hi hn =>
  light13_writes cs i hi (r01_Add_0 n 10 6000) (add6 hn (by omega)).1 (hw _ (getD_in cs (dflt TC.change) i hi))
 obtain ⟨h1, k, n', hx, h2, h3⟩ := acc_loop (fun k n => ((cs, n, (k : Int)) : l13_Light_l0_X)) cs.length (fun k n => l13_Light_l0_f_1 cs n (k : Int)) (fun k => smallCh (cs.getD k (dflt TC.change))) 6000 10 false l13_Light_l0_next l13_Light_l0_goes l13_Light_l0_ps (l13_Light_l0_fuel (cs, n0, 0)) (cs, n0, 0) n0 rfl
  (by show cs.length ≤ ((cs.length : Int) - 0).toNat; omega) h0
  (fun k n hk hn => by
   obtain ⟨_, g2, g3⟩ := hin k n hk hn
   obtain ⟨a1, a2⟩ := add6 (k := 10) hn (by omega)
   unfold l13_Light_l0_f_1
   refine ⟨g2, fun h => ?_⟩
   obtain ⟨c1, c2⟩ := g3 h
   have h' : (l13_Light_l2_run (cs, r01_Add_0 n 10 6000, (k : Int), 0)).snd.fst ≤ 6000 := h
   obtain ⟨e1, e2⟩ := a2 (by omega)
   exact ⟨by omega, c2⟩)
  (by omega)
  (fun k n _ => hgo k n)
  (fun k n hk _ => by
   show (cs, l13_Light_l0_f_1 cs n (k : Int), IntKind.i64.wrap ((k : Int) + 1)) = (cs, _, ((k + 1 : Nat) : Int))
   rw [wsucc (by omega)])
  (fun k n hk hn => needs_cons (fun h => by
    have h' : l13_Light_l0_f_k0 cs n (k : Int) = true := h
    rw [hgo, Bool.and_eq_true] at h'
    exact (hin k n (of_decide_eq_true h'.1) hn).1) needs_nil)
 have hr : l13_Light_l0_run (cs, n0, 0) = (cs, n', (k : Int)) := hx
 rw [hr]
 exact ⟨h1, h2, fun h => ⟨(h3 h).1, all_of_at (h3 h).2⟩⟩
theorem light13_eq (l : List TGroup) (cs : List TChange) (xs : List (List TRow)) (hl : wideN l.length) (hc : wideN cs.length ∧ ∀ c ∈ cs, wideCh c) (hr : wideN xs.length) (hw : ∀ x ∈ xs, wideN x.length ∧ ∀ r ∈ x, wideR r) : (∀ p ∈ l13_Light_ps l cs xs, p) ∧
  (l13_Light_0 l cs xs = true → l.length ≤ 6000 ∧ (cs.length ≤ 6000 ∧ ∀ c ∈ cs, smallCh c) ∧ ∀ x ∈ xs, x.length ≤ 6000 ∧ ∀ r ∈ x, smallR 6000 r) := by
 obtain ⟨a1, a2⟩ := add6 (n := 0) (k := (l.length : Int)) (Int.le_refl _) (sz_in hl)
 obtain ⟨b1, b2, b3⟩ := light13_changes cs _ a1 hc.1 hc.2
 obtain ⟨c1, c2⟩ := light13_all xs _ b2 hr hw
 refine ⟨needs_cons b1 (needs_cons c1 needs_nil), fun h => ?_⟩
 have h' := of_decide_eq_true h
 obtain ⟨d1, d2⟩ := c2 h'
 obtain ⟨e1, e2⟩ := b3 d1
 have := a2 (by omega)
 exact ⟨by omega, ⟨by omega, e2⟩, d2⟩
theorem l13_Light_c2 (a0 : List TGroup) (a1 : List TChange) (a2 : List (List TRow)) (hp : ∀ p ∈ l13_Light_ps2 a0 a1 a2, p) : CallOk Tryd.prog 9 [.sl .group a0, .sl .change a1, .sl .rows a2] 0 [] 1 (l13_Light_r2 a0 a1 a2) 0 (l13_Light_o2 a0 a1 a2) := by
 obtain ⟨h1, h2, h3, h4⟩ := hp _ (List.mem_cons_self ..)
 exact l13_Light_c a0 a1 a2 (light13_eq a0 a1 a2 h1 h2 h3 h4).1
def l13_Light_t : List A → Nat → Objs → Option CRes := rowK [.l .group, .l .change, .l .rows] 0 l13_Light_r2 l13_Light_o2 l13_Light_ps2
theorem l13_Light_tok : TOk Tryd.prog 9 l13_Light_t := rowK_ok (ks := [.l .group, .l .change, .l .rows]) l13_Light_c2
noncomputable def Cn_2 := addC 9 l13_Light_t Cn_1
theorem Cn_2_ok : COk Tryd.prog Cn_2 := addC_ok l13_Light_tok Cn_1_ok
abbrev model_Good_l0_X : Type := (List TGroup) × ByteArray × (List TRow) × Int × Int
def model_Good_l0_T (x : model_Good_l0_X) : St := ⟨38, 0, [(0, .sl .group x.1), (6, .v (.string x.2.1)), (15, .sl .row x.2.2.1), (16, .v (.int .i64 x.2.2.2.1)), (17, .v (.int .i64 x.2.2.2.2))], []⟩
def model_Good_l0_un : St → Option model_Good_l0_X
 | ⟨38, 0, [(0, .sl .group z0), (6, .v (.string z1)), (15, .sl .row z2), (16, .v (.int .i64 z3)), (17, .v (.int .i64 z4))], []⟩ => some (z0, z1, z2, z3, z4)
 | _ => none
theorem model_Good_l0_unok : ∀ s x, model_Good_l0_un s = some x → s = model_Good_l0_T x := fun s x h => by
 unfold model_Good_l0_un at h
 split at h
 ·cases h; rfl
 ·cases h
def model_Good_l0_S : Shape := ⟨0, 0, [0, 6, 15, 16, 17], [], [], [], [4], []⟩
def model_Good_l0_E : Entry := ⟨[], [], [0, 6, 15, 16, 17], []⟩
def model_Good_l0_f_k1 (a0 : List TGroup) (_a1 : ByteArray) (a2 : List TRow) (_a3 : Int) (a4 : Int) : Bool := goodRow a0 (a2.getD a4.toNat (dflt TC.row)) != (0 : Int)
def model_Good_l0_f_k0 (a0 : List TGroup) (a1 : ByteArray) (a2 : List TRow) (a3 : Int) (a4 : Int) : Bool := !!decide (a4 < a3) && ((model_Good_l0_f_k1 a0 a1 a2 a3 a4) || (bareR (a2.getD a4.toNat (dflt TC.row)) || (Op.bytesLess (a2.getD a4.toNat (dflt TC.row)).1.toList a1.toList || (a2.getD a4.toNat (dflt TC.row)).1.toList == a1.toList)))
def model_Good_l0_f_1 (_a0 : List TGroup) (_a1 : ByteArray) (a2 : List TRow) (_a3 : Int) (a4 : Int) : ByteArray := (a2.getD a4.toNat (dflt TC.row)).1
def model_Good_l0_f_5 (a0 : List TGroup) (a1 : ByteArray) (a2 : List TRow) (a3 : Int) (a4 : Int) : Bool := !!decide (a4 < a3) && !(model_Good_l0_f_k0 a0 a1 a2 a3 a4)
def model_Good_l0_f_10 (a0 : List TGroup) (a1 : ByteArray) (a2 : List TRow) (a3 : Int) (a4 : Int) : Int := bif (model_Good_l0_f_k1 a0 a1 a2 a3 a4) then goodRow a0 (a2.getD a4.toNat (dflt TC.row)) else (100 : Int)
def model_Good_l0_next (x : model_Good_l0_X) : model_Good_l0_X := (x.1, model_Good_l0_f_1 x.1 x.2.1 x.2.2.1 x.2.2.2.1 x.2.2.2.2, x.2.2.1, x.2.2.2.1, IntKind.i64.wrap (x.2.2.2.2 + (1 : Int)))
def model_Good_l0_goes (x : model_Good_l0_X) : Cnd := some (model_Good_l0_f_5 x.1 x.2.1 x.2.2.1 x.2.2.2.1 x.2.2.2.2)
def model_Good_l0_psA (x : model_Good_l0_X) : List Prop := [((!!decide (x.2.2.2.2 < x.2.2.2.1)) = true → (0 : Int) ≤ x.2.2.2.2 ∧ x.2.2.2.2 < (↑x.2.2.1.length : Int)), ((!!decide (x.2.2.2.2 < x.2.2.2.1)) = true → (!(model_Good_l0_f_k1 x.1 x.2.1 x.2.2.1 x.2.2.2.1 x.2.2.2.2)) = true → boundP (x.2.2.1.getD x.2.2.2.2.toNat (dflt TC.row)).2.length)]
abbrev model_Good_l0_ps : model_Good_l0_X → List Prop := model_Good_l0_psA
def model_Good_l0_outs (x : model_Good_l0_X) : Outs := [(some 0, some (!decide (x.2.2.2.2 < x.2.2.2.1)), ⟨38, 0, [(4, .dead)], []⟩), (none, some ((model_Good_l0_f_k0 x.1 x.2.1 x.2.2.1 x.2.2.2.1 x.2.2.2.2)), ⟨38, 1, [(4, .v (.int .i64 (model_Good_l0_f_10 x.1 x.2.1 x.2.2.1 x.2.2.2.1 x.2.2.2.2)))], []⟩)]
def model_Good_l0_fuel (x : model_Good_l0_X) : Nat := (x.2.2.2.1 - x.2.2.2.2).toNat
def model_Good_l0_run (x : model_Good_l0_X) : model_Good_l0_X := iterX model_Good_l0_next model_Good_l0_goes (model_Good_l0_fuel x) x
theorem model_Good_l0_ev (a0 : List TGroup) (a1 : ByteArray) (a2 : List TRow) (a3 : Int) (a4 : Int) : roundE (envT Cn_2 L0) 9 (loopAt Tryd.prog 18 0) model_Good_l0_S (model_Good_l0_T (a0, a1, a2, a3, a4)) = some (model_Good_l0_psA (a0, a1, a2, a3, a4), model_Good_l0_outs (a0, a1, a2, a3, a4), model_Good_l0_goes (a0, a1, a2, a3, a4), model_Good_l0_T (model_Good_l0_next (a0, a1, a2, a3, a4))) := by kernel_rfl
theorem model_Good_l0_hA (a0 : List TGroup) (a1 : ByteArray) (a2 : List TRow) (a3 : Int) (a4 : Int) (hp : ∀ p ∈ model_Good_l0_ps (a0, a1, a2, a3, a4), p) : ∀ p ∈ model_Good_l0_psA (a0, a1, a2, a3, a4), p := hp
noncomputable def model_Good_l0_row := rowL (envT Cn_2 L0) (loopAt Tryd.prog 18 0) model_Good_l0_S model_Good_l0_E model_Good_l0_un model_Good_l0_fuel model_Good_l0_next model_Good_l0_goes model_Good_l0_ps model_Good_l0_outs
theorem model_Good_l0_rok : ∀ s b ps outs, model_Good_l0_row s = some (b, ps, outs) → Wf s ⟨ps, outs, none⟩ ∧ LoopOk (envT C0 L0) b s ps outs :=
 rowP_ok (T := model_Good_l0_T) Cn_2_ok L0_ok (u := 9) (by kernel_rfl) (by decide) (fun ⟨a0, a1, a2, a3, a4⟩ => model_Good_l0_ev a0 a1 a2 a3 a4) (fun ⟨a0, a1, a2, a3, a4⟩ => model_Good_l0_hA a0 a1 a2 a3 a4) model_Good_l0_unok (fun _ => okOuts_ok (n := 38) rfl) fun _ _ => rfl
noncomputable def model_Good_l0_L := addLp 0 model_Good_l0_row L0
theorem model_Good_l0_Lok : LpOk model_Good_l0_L := addLp_ok model_Good_l0_rok L0_ok
def model_Good_k5 (a0 : List TGroup) (_a1 : List TRow) : Bool := goodP a0 != (0 : Int)
def model_Good_k4 (a0 : List TGroup) (a1 : List TRow) : List TGroup := (model_Good_l0_run (a0, ByteArray.mk #[], a1, (↑a1.length : Int), (0 : Int))).fst
def model_Good_k3 (a0 : List TGroup) (a1 : List TRow) : ByteArray := (model_Good_l0_run (a0, ByteArray.mk #[], a1, (↑a1.length : Int), (0 : Int))).snd.fst
def model_Good_k2 (a0 : List TGroup) (a1 : List TRow) : List TRow := (model_Good_l0_run (a0, ByteArray.mk #[], a1, (↑a1.length : Int), (0 : Int))).snd.snd.fst
def model_Good_k1 (a0 : List TGroup) (a1 : List TRow) : Int := (model_Good_l0_run (a0, ByteArray.mk #[], a1, (↑a1.length : Int), (0 : Int))).snd.snd.snd.snd
def model_Good_k0 (a0 : List TGroup) (a1 : List TRow) : Int := (model_Good_l0_run (a0, ByteArray.mk #[], a1, (↑a1.length : Int), (0 : Int))).snd.snd.snd.fst
def model_Good_0 (a0 : List TGroup) (a1 : List TRow) : Int := bif (model_Good_k5 a0 a1) then goodP a0 else bif model_Good_l0_f_k0 (model_Good_k4 a0 a1) (model_Good_k3 a0 a1) (model_Good_k2 a0 a1) (model_Good_k0 a0 a1) (model_Good_k1 a0 a1) then model_Good_l0_f_10 (model_Good_k4 a0 a1) (model_Good_k3 a0 a1) (model_Good_k2 a0 a1) (model_Good_k0 a0 a1) (model_Good_k1 a0 a1) else (0 : Int)
def model_Good_r (a0 : List TGroup) (a1 : List TRow) : A := .v (.int .i64 (model_Good_0 a0 a1))
def model_Good_o (_a0 : List TGroup) (_a1 : List TRow) : Objs := []
def model_Good_ps (a0 : List TGroup) (a1 : List TRow) : List Prop := [((!(model_Good_k5 a0 a1)) = true → needX model_Good_l0_next model_Good_l0_goes model_Good_l0_ps (model_Good_l0_fuel (a0, ByteArray.mk #[], a1, (↑a1.length : Int), (0 : Int))) (a0, ByteArray.mk #[], a1, (↑a1.length : Int), (0 : Int)))]
theorem model_Good_ev (a0 : List TGroup) (a1 : List TRow) : evF (envT Cn_2 model_Good_l0_L) 9 18 [.sl .group a0, valA .rows a1] 0 [] = some (1, model_Good_r a0 a1, 0, model_Good_o a0 a1, [((!(model_Good_k5 a0 a1)) = true → loopAt Tryd.prog (18 : FuncId) (0 : Nat) = loopAt Tryd.prog (18 : FuncId) (0 : Nat)), ((!(model_Good_k5 a0 a1)) = true → needX model_Good_l0_next model_Good_l0_goes model_Good_l0_ps (model_Good_l0_fuel (a0, ByteArray.mk #[], a1, (↑a1.length : Int), (0 : Int))) (a0, ByteArray.mk #[], a1, (↑a1.length : Int), (0 : Int)))]) := by kernel_rfl
theorem model_Good_c (a0 : List TGroup) (a1 : List TRow) (hp : ∀ p ∈ model_Good_ps a0 a1, p) : CallOk Tryd.prog 18 [.sl .group a0, valA .rows a1] 0 [] 1 (model_Good_r a0 a1) 0 (model_Good_o a0 a1) := by
 have n0 : ((!(model_Good_k5 a0 a1)) = true → loopAt Tryd.prog (18 : FuncId) (0 : Nat) = loopAt Tryd.prog (18 : FuncId) (0 : Nat)) := by intros; rfl
 have n1 := N0 hp
 exact evF_ok (envP_ok Cn_2_ok model_Good_l0_Lok) (model_Good_ev a0 a1) (needs_cons n0 (needs_cons n1 needs_nil))
def model_Good_r2 (a0 : List TGroup) (a1 : List TRow) : A := .v (.int .i64 (goodM a0 a1))
def model_Good_o2 (_a0 : List TGroup) (_a1 : List TRow) : Objs := []
def model_Good_ps2 (_a0 : List TGroup) (a1 : List TRow) : List Prop := [wideN a1.length]
theorem errM_ne (l : List TGroup) (rows : List TRow) (i : Nat) : (errM l rows i != 0) = (goodRow l (rowN rows i) != 0 || (bareR (rowN rows i) || leS (rowN rows i).key (lastN rows i))) := by
 unfold errM
 cases h : goodRow l (rowN rows i) != 0 with
 | true => rw [cond_true, h, Bool.true_or]
 | false => cases bareR (rowN rows i) || leS (rowN rows i).key (lastN rows i) <;> rfl
theorem model_Good_eq (l : List TGroup) (rows : List TRow) (hb : wideN rows.length) : (∀ p ∈ model_Good_ps l rows, p) ∧ model_Good_0 l rows = goodM l rows := by
 unfold wideN at hb
 have hf : ∀ i : Nat, model_Good_l0_f_k0 l (lastN rows i) rows (rows.length : Int) (i : Int) = (decide (i < rows.length) && errM l rows i != 0) := fun i => by
  rw [errM_ne]
  unfold model_Good_l0_f_k0 model_Good_l0_f_k1 leS ltS
  rw [nn, dlt, Int.toNat_natCast, tlb]
  rfl
 obtain ⟨h1, k, hk, hx, hs, hst, _⟩ := scanB (fun i => ((l, lastN rows i, rows, (rows.length : Int), (i : Int)) : model_Good_l0_X)) rows.length (fun i => errM l rows i != 0) model_Good_l0_next model_Good_l0_goes model_Good_l0_ps (model_Good_l0_fuel (l, ByteArray.mk #[], rows, (rows.length : Int), 0)) (l, ByteArray.mk #[], rows, (rows.length : Int), 0) rfl (by show rows.length ≤ ((rows.length : Int) - 0).toNat; omega)
  (fun i _ _ => by
   show ((!!decide ((i : Int) < (rows.length : Int))) && !model_Good_l0_f_k0 l (lastN rows i) rows (rows.length : Int) (i : Int)) = _
   rw [hf, nn, dlt]
   cases decide (i < rows.length) <;> rfl)
  (fun i hi _ => by
   show (l, (rows.getD ((i : Int)).toNat (dflt TC.row)).1, rows, (rows.length : Int), IntKind.i64.wrap ((i : Int) + 1)) = (l, lastN rows (i + 1), rows, (rows.length : Int), ((i + 1 : Nat) : Int))
   rw [wsucc (by omega), Int.toNat_natCast]
   rfl)
  (fun i hi _ => by
   have hin : (!!decide ((i : Int) < (rows.length : Int))) = true → (i : Int) < (rows.length : Int) := fun h => by rw [nn] at h; exact of_decide_eq_true h
   refine needs_cons (fun h => ⟨by show (0 : Int) ≤ (i : Int); omega, hin h⟩) (needs_cons (fun _ h2 => ?_) needs_nil)
   have h3 : goodRow l (rows.getD ((i : Int)).toNat (dflt TC.row)) = 0 := by
    have h4 : (!(goodRow l (rows.getD ((i : Int)).toNat (dflt TC.row)) != 0)) = true := h2
    simpa using h4
   obtain ⟨g1, g2, _⟩ := goodRow_0 h3
   have := (goodP_0 g1).2
   show boundP (rows.getD ((i : Int)).toNat (dflt TC.row)).cells.length
   unfold boundP
   omega)
 have hr : model_Good_l0_run (l, ByteArray.mk #[], rows, (rows.length : Int), 0) = (l, lastN rows k, rows, (rows.length : Int), (k : Int)) := hx
 refine ⟨needs_cons (fun _ => h1) needs_nil, ?_⟩
 unfold model_Good_0 goodM
 show (bif goodP l != 0 then goodP l else _) = _
 congr 1
 unfold model_Good_k4 model_Good_k3 model_Good_k2 model_Good_k1 model_Good_k0
 rw [hr]
 show (bif model_Good_l0_f_k0 l (lastN rows k) rows (rows.length : Int) (k : Int) then model_Good_l0_f_10 l (lastN rows k) rows (rows.length : Int) (k : Int) else 0) = _
 rw [hf]
 have h0 : goodMN l rows k = 0 := (goodMN_0 l rows k).2 fun i hi => by simpa using hs i hi
 rcases Nat.lt_or_ge k rows.length with h | h
 ·have he := hst h
  rw [decide_eq_true h, he]
  have e1 : goodMN l rows (k + 1) = errM l rows k := by
   show (bif goodMN l rows k != 0 then goodMN l rows k else errM l rows k) = _
   rw [h0]; rfl
  have hne : goodMN l rows (k + 1) ≠ 0 := by rw [e1]; simpa using he
  rw [goodMN_stop hne rows.length h, e1]
  show model_Good_l0_f_10 l (lastN rows k) rows (rows.length : Int) (k : Int) = _
  unfold model_Good_l0_f_10 model_Good_l0_f_k1
  rw [Int.toNat_natCast]
  rw [errM_ne] at he
  unfold errM
  show (bif goodRow l (rowN rows k) != 0 then goodRow l (rowN rows k) else 100) = _
  cases hg : goodRow l (rowN rows k) != 0 with
  | true => rfl
  | false =>
   rw [hg, Bool.false_or] at he
   rw [he]
   rfl
 ·obtain rfl : k = rows.length := by omega
  rw [decide_eq_false (Nat.lt_irrefl _), h0]
  rfl
theorem model_Good_c2 (a0 : List TGroup) (a1 : List TRow) (hp : ∀ p ∈ model_Good_ps2 a0 a1, p) : CallOk Tryd.prog 18 [.sl .group a0, valA .rows a1] 0 [] 1 (model_Good_r2 a0 a1) 0 (model_Good_o2 a0 a1) := by
 have hb : wideN a1.length := hp _ (List.mem_cons_self ..)
 have h := model_Good_c a0 a1 (model_Good_eq a0 a1 hb).1
 unfold model_Good_r at h
 rw [(model_Good_eq a0 a1 hb).2] at h
 exact h
def model_Good_t : List A → Nat → Objs → Option CRes := rowK [.l .group, .t .rows] 0 model_Good_r2 model_Good_o2 model_Good_ps2
theorem model_Good_tok : TOk Tryd.prog 18 model_Good_t := rowK_ok (ks := [.l .group, .t .rows]) model_Good_c2
noncomputable def Cn_3 := addC 18 model_Good_t Cn_2
theorem Cn_3_ok : COk Tryd.prog Cn_3 := addC_ok model_Good_tok Cn_2_ok
noncomputable def Cn := Cn_3
theorem Cn_ok : COk Tryd.prog Cn := Cn_3_ok
end Go.Proofs.YtkknpeeccejppaaDoor
namespace Go.Proofs.YtkknpeeccejppaaDoor
open Go.RowKit
def Lex (r e s : Prop) : Prop := r ∨ (e ∧ s)
theorem lex_trans {r1 r2 r3 e1 e2 e3 s1 s2 s3 : Prop} (hr : r1 → r2 → r3) (hre : r1 → e2 → r3) (her : e1 → r2 → r3) (hee : e1 → e2 → e3) (hs : s1 → s2 → s3) : Lex r1 e1 s1 → Lex r2 e2 s2 → Lex r3 e3 s3
 | .inl a, .inl b => .inl (hr a b)
 | .inl a, .inr b => .inl (hre a b.1)
 | .inr a, .inl b => .inl (her a.1 b)
 | .inr a, .inr b => .inr ⟨hee a.1 b.1, hs a.2 b.2⟩
theorem lex_total {r1 r2 e1 e2 s1 s2 t e : Prop} (h : r1 ∨ e ∨ r2) (h1 : e → e1) (h2 : e → e2) (hs : s1 ∨ t ∨ s2) : Lex r1 e1 s1 ∨ (e ∧ t) ∨ Lex r2 e2 s2 := by
 rcases h with h | h | h
 ·exact .inl (.inl h)
 ·rcases hs with g | g | g
  ·exact .inl (.inr ⟨h1 h, g⟩)
  ·exact .inr (.inl ⟨h, g⟩)
  ·exact .inr (.inr (.inr ⟨h2 h, g⟩))
 ·exact .inr (.inr (.inl h))
def LessP (a b : TCell) : Prop :=
 Lex (a.stamp.n < b.stamp.n) (a.stamp.n = b.stamp.n) (Lex (a.stamp.site < b.stamp.site) (a.stamp.site = b.stamp.site) (Lex (a.gone = false ∧ b.gone = true) (a.gone = b.gone) (Lex (ltS a.value b.value = true) (a.value = b.value) (Lex (a.vec.a < b.vec.a) (a.vec.a = b.vec.a) (a.vec.b < b.vec.b)))))
theorem less_trans {a b c : TCell} : LessP a b → LessP b c → LessP a c :=
 lex_trans (by omega) (by omega) (by omega) (by omega) (lex_trans (by omega) (by omega) (by omega) (by omega)
  (lex_trans (fun h g => by rw [h.2] at g; exact absurd g.1 (by decide)) (fun h g => ⟨h.1, g ▸ h.2⟩) (fun h g => ⟨h ▸ g.1, g.2⟩) (fun h g => h.trans g)
   (lex_trans ltS_trans (fun h g => g ▸ h) (fun h g => h ▸ g) (fun h g => h.trans g) (lex_trans (by omega) (by omega) (by omega) (by omega) (by omega)))))
def sameW (a b : TCell) : Prop := a.stamp.n = b.stamp.n ∧ a.stamp.site = b.stamp.site ∧ a.gone = b.gone ∧ a.value = b.value ∧ a.vec.a = b.vec.a ∧ a.vec.b = b.vec.b
theorem less_total (a b : TCell) : LessP a b ∨ sameW a b ∨ LessP b a := by
 refine lex_total (by omega) id Eq.symm (lex_total (by omega) id Eq.symm (lex_total ?_ id Eq.symm (lex_total ?_ id Eq.symm (lex_total (by omega) id Eq.symm (by omega)))))
 ·cases a.gone <;> cases b.gone <;> simp
 ·by_cases h : a.value = b.value
  ·exact .inr (.inl h)
  ·cases h1 : ltS a.value b.value with
   | true => exact .inl rfl
   | false => exact .inr (.inr (ltS_total h1 h))
def lessC (a b : TCell) : Bool :=
 bif !(a.stamp.n == b.stamp.n && a.stamp.site == b.stamp.site) then decide (a.stamp.n < b.stamp.n) || (a.stamp.n == b.stamp.n && decide (a.stamp.site < b.stamp.site))
 else bif a.gone != b.gone then b.gone
 else bif !(a.value == b.value) then ltS a.value b.value
 else bif a.vec.a != b.vec.a then decide (a.vec.a < b.vec.a)
 else decide (a.vec.b < b.vec.b)
theorem lessC_iff {a b : TCell} : lessC a b = true ↔ LessP a b := by
 unfold lessC LessP Lex
 by_cases h1 : a.stamp.n = b.stamp.n
 ·by_cases h2 : a.stamp.site = b.stamp.site
  ·have e : (a.stamp.n == b.stamp.n && a.stamp.site == b.stamp.site) = true := by rw [h1, h2]; simp
   rw [e, Bool.not_true, cond_false]
   simp only [h1, h2, false_or, true_and, Int.lt_irrefl]
   by_cases h3 : a.gone = b.gone
   ·have e3 : (a.gone != b.gone) = false := by rw [h3]; simp
    have n3 : ¬ (a.gone = false ∧ b.gone = true) := by rw [h3]; rintro ⟨x, y⟩; rw [x] at y; cases y
    rw [e3, cond_false]
    have n3' : ¬ (b.gone = false ∧ b.gone = true) := by rintro ⟨x, y⟩; rw [x] at y; cases y
    simp only [h3, n3', false_or, true_and]
    by_cases h4 : a.value = b.value
    ·have e4 : (a.value == b.value) = true := beq_iff_eq.2 h4
     rw [e4, Bool.not_true, cond_false]
     simp only [h4, true_and]
     have n4' : ¬ ltS b.value b.value = true := fun h => ltS_ne h rfl
     simp only [n4', Bool.false_eq_true, false_or]
     by_cases h5 : a.vec.a = b.vec.a
     ·have e5 : (a.vec.a != b.vec.a) = false := by rw [h5]; simp
      rw [e5, cond_false, decide_eq_true_eq]
      omega
     ·have e5 : (a.vec.a != b.vec.a) = true := by simpa using h5
      rw [e5, cond_true, decide_eq_true_eq]
      omega
    ·have e4 : (a.value == b.value) = false := beq_eq_false_iff_ne.2 h4
     rw [e4, Bool.not_false, cond_true]
     simp only [h4, false_and, or_false]
   ·have e3 : (a.gone != b.gone) = true := by simpa using h3
    rw [e3, cond_true]
    simp only [h3, false_and, or_false]
    revert h3
    cases a.gone <;> cases b.gone <;> simp
  ·have e : (a.stamp.n == b.stamp.n && a.stamp.site == b.stamp.site) = false := by rw [beq_eq_false_iff_ne.2 h2, Bool.and_false]
   rw [e, Bool.not_false, cond_true]
   simp [h1, h2]
 ·have e : (a.stamp.n == b.stamp.n && a.stamp.site == b.stamp.site) = false := by rw [beq_eq_false_iff_ne.2 h1, Bool.false_and]
  rw [e, Bool.not_false, cond_true]
  simp [h1]
def maxC (a b : TCell) : TCell := bif lessC a b then b else a
def wrC0 (a : TCell) : TCell := ⟨a.stamp, a.vec, a.gone, a.value, ⟨0, 0⟩⟩
theorem wr_same {a b : TCell} (h : sameW a b) : wrC0 a = wrC0 b := by
 obtain ⟨⟨an, asi⟩, ⟨ava, avb⟩, ag, av, ad⟩ := a
 obtain ⟨⟨bn, bsi⟩, ⟨bva, bvb⟩, bg, bv, bd⟩ := b
 obtain ⟨h1, h2, h3, h4, h5, h6⟩ := h
 simp only at h1 h2 h3 h4 h5 h6
 subst h1 h2 h3 h4 h5 h6
 rfl
theorem less_wr2 {a b : TCell} : LessP a (wrC0 b) ↔ LessP a b := Iff.rfl
theorem max_cases (a b : TCell) : (LessP a b ∧ maxC a b = b) ∨ (¬ LessP a b ∧ maxC a b = a) := by
 unfold maxC
 cases h : lessC a b with
 | true => exact .inl ⟨lessC_iff.1 h, rfl⟩
 | false => exact .inr ⟨fun g => (by rw [lessC_iff.2 g] at h; cases h), rfl⟩
theorem max_assoc (a b c : TCell) : wrC0 (maxC (maxC a b) c) = wrC0 (maxC a (maxC b c)) := by
 rcases max_cases a b with ⟨h, e⟩ | ⟨h, e⟩ <;> rcases max_cases b c with ⟨g, f⟩ | ⟨g, f⟩
 ·rw [e, f]
  rcases max_cases a c with ⟨_, q⟩ | ⟨r, _⟩
  ·rw [q]
  ·exact absurd (less_trans h g) r
 ·rw [e, f, e]
 ·rw [e, f]
 ·rw [e, f, e]
  rcases max_cases a c with ⟨r, q⟩ | ⟨_, q⟩
  ·rcases less_total b c with t | t | t
   ·exact absurd t g
   ·have := wr_same t
    rw [← less_wr2 (b := c), ← this] at r
    exact absurd (less_wr2.1 r) h
   ·exact absurd (less_trans r t) h
  ·rw [q]
end Go.Proofs.YtkknpeeccejppaaDoor
namespace Go.Proofs.YtkknpeeccejppaaDoor
open Go.RowKit
structure Stt (l : List TGroup) (rows : List TRow) : Prop where
 rise : Rise rows
 good : ∀ r ∈ rows, goodRow l r = 0 ∧ bareR r = false
theorem Stt.tail {l : List TGroup} {x : TRow} {a : List TRow} (h : Stt l (x :: a)) : Stt l a := ⟨(List.pairwise_cons.1 h.rise).2, fun r hr => h.good r (List.mem_cons_of_mem _ hr)⟩
end Go.Proofs.YtkknpeeccejppaaDoor
namespace Go.Proofs.YtkknpeeccejppaaDoor
open Go.RowKit
abbrev r10_All_l0_X : Type := (List TRow) × (List TRow) × Int
def r10_All_l0_T (x : r10_All_l0_X) : St := ⟨27, 0, [(0, .sl .row x.1), (1, .sl .row x.2.1), (5, .v (.int .i64 x.2.2))], []⟩
def r10_All_l0_un : St → Option r10_All_l0_X
 | ⟨27, 0, [(0, .sl .row z0), (1, .sl .row z1), (5, .v (.int .i64 z2))], []⟩ => some (z0, z1, z2)
 | _ => none
theorem r10_All_l0_unok : ∀ s x, r10_All_l0_un s = some x → s = r10_All_l0_T x := fun s x h => by
 unfold r10_All_l0_un at h
 split at h
 ·cases h; rfl
 ·cases h
def r10_All_l0_S : Shape := ⟨0, 0, [0, 1, 5], [], [], [], [4], []⟩
def r10_All_l0_E : Entry := ⟨[], [], [0, 1, 5], []⟩
def r10_All_l0_f_k1 (a0 : List TRow) (_a1 : List TRow) (a2 : Int) : Bool := !!decide (a2 < (↑a0.length : Int))
def r10_All_l0_f_k0 (a0 : List TRow) (a1 : List TRow) (a2 : Int) : Bool := (r10_All_l0_f_k1 a0 a1 a2) && !eqRw (a0.getD a2.toNat (dflt TC.row)) (a1.getD a2.toNat (dflt TC.row))
def r10_All_l0_f_3 (a0 : List TRow) (a1 : List TRow) (a2 : Int) : Bool := (r10_All_l0_f_k1 a0 a1 a2) && !(r10_All_l0_f_k0 a0 a1 a2)
def r10_All_l0_next (x : r10_All_l0_X) : r10_All_l0_X := (x.1, x.2.1, IntKind.i64.wrap (x.2.2 + (1 : Int)))
def r10_All_l0_goes (x : r10_All_l0_X) : Cnd := some (r10_All_l0_f_3 x.1 x.2.1 x.2.2)
def r10_All_l0_psA (x : r10_All_l0_X) : List Prop := [((r10_All_l0_f_k1 x.1 x.2.1 x.2.2) = true → (0 : Int) ≤ x.2.2 ∧ x.2.2 < (↑x.1.length : Int)), ((r10_All_l0_f_k1 x.1 x.2.1 x.2.2) = true → (0 : Int) ≤ x.2.2 ∧ x.2.2 < (↑x.2.1.length : Int)), ((r10_All_l0_f_k1 x.1 x.2.1 x.2.2) = true → boundP (x.1.getD x.2.2.toNat (dflt TC.row)).2.length)]
abbrev r10_All_l0_ps : r10_All_l0_X → List Prop := r10_All_l0_psA
def r10_All_l0_outs (x : r10_All_l0_X) : Outs := [(some 0, some (!decide (x.2.2 < (↑x.1.length : Int))), ⟨27, 0, [(4, .dead)], []⟩), (none, some ((r10_All_l0_f_k0 x.1 x.2.1 x.2.2)), ⟨27, 0, [(4, .v (.bool (false)))], []⟩)]
def r10_All_l0_fuel (x : r10_All_l0_X) : Nat := ((↑x.1.length : Int) - x.2.2).toNat
def r10_All_l0_run (x : r10_All_l0_X) : r10_All_l0_X := iterX r10_All_l0_next r10_All_l0_goes (r10_All_l0_fuel x) x
theorem r10_All_l0_ev (a0 : List TRow) (a1 : List TRow) (a2 : Int) : roundE (envT Cn L0) 9 (loopAt Tryd.prog 12 0) r10_All_l0_S (r10_All_l0_T (a0, a1, a2)) = some (r10_All_l0_psA (a0, a1, a2), r10_All_l0_outs (a0, a1, a2), r10_All_l0_goes (a0, a1, a2), r10_All_l0_T (r10_All_l0_next (a0, a1, a2))) := by kernel_rfl
theorem r10_All_l0_hA (a0 : List TRow) (a1 : List TRow) (a2 : Int) (hp : ∀ p ∈ r10_All_l0_ps (a0, a1, a2), p) : ∀ p ∈ r10_All_l0_psA (a0, a1, a2), p := hp
noncomputable def r10_All_l0_row := rowL (envT Cn L0) (loopAt Tryd.prog 12 0) r10_All_l0_S r10_All_l0_E r10_All_l0_un r10_All_l0_fuel r10_All_l0_next r10_All_l0_goes r10_All_l0_ps r10_All_l0_outs
theorem r10_All_l0_rok : ∀ s b ps outs, r10_All_l0_row s = some (b, ps, outs) → Wf s ⟨ps, outs, none⟩ ∧ LoopOk (envT C0 L0) b s ps outs :=
 rowP_ok (T := r10_All_l0_T) Cn_ok L0_ok (u := 9) (by kernel_rfl) (by decide) (fun ⟨a0, a1, a2⟩ => r10_All_l0_ev a0 a1 a2) (fun ⟨a0, a1, a2⟩ => r10_All_l0_hA a0 a1 a2) r10_All_l0_unok (fun _ => okOuts_ok (n := 27) rfl) fun _ _ => rfl
noncomputable def r10_All_l0_L := addLp 0 r10_All_l0_row L0
theorem r10_All_l0_Lok : LpOk r10_All_l0_L := addLp_ok r10_All_l0_rok L0_ok
def r10_All_k1 (a0 : List TRow) (a1 : List TRow) : r10_All_l0_X := r10_All_l0_run (a0, a1, (0 : Int))
def r10_All_k0 (a0 : List TRow) (a1 : List TRow) : Bool := (↑a0.length : Int) != (↑a1.length : Int)
def r10_All_0 (a0 : List TRow) (a1 : List TRow) : Bool := bif (r10_All_k0 a0 a1) then false else bif r10_All_l0_f_k0 (r10_All_k1 a0 a1).fst (r10_All_k1 a0 a1).snd.fst (r10_All_k1 a0 a1).snd.snd then false else true
def r10_All_r (a0 : List TRow) (a1 : List TRow) : A := .v (.bool (r10_All_0 a0 a1))
def r10_All_o (_a0 : List TRow) (_a1 : List TRow) : Objs := []
def r10_All_ps (a0 : List TRow) (a1 : List TRow) : List Prop := [((!(r10_All_k0 a0 a1)) = true → needX r10_All_l0_next r10_All_l0_goes r10_All_l0_ps (r10_All_l0_fuel (a0, a1, (0 : Int))) (a0, a1, (0 : Int)))]
theorem r10_All_ev (a0 : List TRow) (a1 : List TRow) : evF (envT Cn r10_All_l0_L) 9 12 [valA .rows a0, valA .rows a1] 0 [] = some (1, r10_All_r a0 a1, 0, r10_All_o a0 a1, [((!(r10_All_k0 a0 a1)) = true → loopAt Tryd.prog (12 : FuncId) (0 : Nat) = loopAt Tryd.prog (12 : FuncId) (0 : Nat)), ((!(r10_All_k0 a0 a1)) = true → needX r10_All_l0_next r10_All_l0_goes r10_All_l0_ps (r10_All_l0_fuel (a0, a1, (0 : Int))) (a0, a1, (0 : Int)))]) := by kernel_rfl
theorem r10_All_c (a0 : List TRow) (a1 : List TRow) (hp : ∀ p ∈ r10_All_ps a0 a1, p) : CallOk Tryd.prog 12 [valA .rows a0, valA .rows a1] 0 [] 1 (r10_All_r a0 a1) 0 (r10_All_o a0 a1) := by
 have n0 : ((!(r10_All_k0 a0 a1)) = true → loopAt Tryd.prog (12 : FuncId) (0 : Nat) = loopAt Tryd.prog (12 : FuncId) (0 : Nat)) := by intros; rfl
 have n1 := N0 hp
 exact evF_ok (envP_ok Cn_ok r10_All_l0_Lok) (r10_All_ev a0 a1) (needs_cons n0 (needs_cons n1 needs_nil))
def eqRs (a b : List TRow) : Bool := a.length == b.length && allN a.length fun i => eqRw (a.getD i (dflt TC.row)) (b.getD i (dflt TC.row))
def r10_All_r2 (a0 : List TRow) (a1 : List TRow) : A := .v (.bool (eqRs a0 a1))
def r10_All_o2 (_a0 : List TRow) (_a1 : List TRow) : Objs := []
def r10_All_ps2 (a0 : List TRow) (_a1 : List TRow) : List Prop := [wideN a0.length, ∀ r ∈ a0, boundP r.cells.length]
theorem r10_All_eq (a b : List TRow) (hl : wideN a.length) (hb : ∀ r ∈ a, boundP r.cells.length) : (∀ p ∈ r10_All_ps a b, p) ∧ r10_All_0 a b = eqRs a b := by
 unfold wideN at hl
 have hk0 : r10_All_k0 a b = (a.length != b.length) := by
  show ((a.length : Int) != (b.length : Int)) = _
  rw [Bool.eq_iff_iff, bne_iff_ne, bne_iff_ne]; omega
 have main : r10_All_k0 a b = false → needX r10_All_l0_next r10_All_l0_goes r10_All_l0_ps (r10_All_l0_fuel (a, b, 0)) (a, b, 0) ∧ r10_All_l0_f_k0 (r10_All_l0_run (a, b, 0)).1 (r10_All_l0_run (a, b, 0)).2.1 (r10_All_l0_run (a, b, 0)).2.2 = !allN a.length fun i => eqRw (a.getD i (dflt TC.row)) (b.getD i (dflt TC.row)) := fun h0 => by
  rw [hk0] at h0
  have hlen : a.length = b.length := by simpa using h0
  have hf : ∀ i : Nat, r10_All_l0_f_k0 a b (i : Int) = (decide (i < a.length) && !eqRw (a.getD i (dflt TC.row)) (b.getD i (dflt TC.row))) := fun i => by
   unfold r10_All_l0_f_k0 r10_All_l0_f_k1
   rw [nn, dlt, Int.toNat_natCast]
  obtain ⟨h1, k, hk, hx, _, _, hb'⟩ := scanB (fun i => ((a, b, (i : Int)) : r10_All_l0_X)) a.length (fun i => !eqRw (a.getD i (dflt TC.row)) (b.getD i (dflt TC.row))) r10_All_l0_next r10_All_l0_goes r10_All_l0_ps (r10_All_l0_fuel (a, b, 0)) (a, b, 0) rfl (by show a.length ≤ ((a.length : Int) - 0).toNat; omega)
   (fun i _ _ => by
    show ((!!decide ((i : Int) < (a.length : Int))) && !r10_All_l0_f_k0 a b (i : Int)) = _
    rw [hf, nn, dlt]
    cases decide (i < a.length) <;> rfl)
   (fun i hi _ => by
    show (a, b, IntKind.i64.wrap ((i : Int) + 1)) = (a, b, ((i + 1 : Nat) : Int))
    rw [wsucc (by omega)])
   (fun i hi _ => by
    have hin : (!!decide ((i : Int) < (a.length : Int))) = true → (i : Int) < (a.length : Int) := fun h => by rw [nn] at h; exact of_decide_eq_true h
    refine needs_cons (fun h => ⟨by show (0 : Int) ≤ (i : Int); omega, hin h⟩) (needs_cons (fun h => ⟨by show (0 : Int) ≤ (i : Int); omega, by have := hin h; show (i : Int) < (b.length : Int); omega⟩) (needs_cons (fun h => ?_) needs_nil))
    have h5 := hin h
    have e : ((i : Int)).toNat = i := Int.toNat_natCast i
    show boundP (a.getD ((i : Int)).toNat (dflt TC.row)).2.length
    rw [e]
    exact hb _ (getD_in a (dflt TC.row) i (by omega)))
  refine ⟨h1, ?_⟩
  have hr : r10_All_l0_run (a, b, 0) = (a, b, (k : Int)) := hx
  rw [hr]
  show r10_All_l0_f_k0 a b (k : Int) = _
  rw [hf, hb']
  congr 1
  exact allN_congr fun i _ => Bool.not_not _
 refine ⟨needs_cons (fun h => (main (by simpa using h)).1) needs_nil, ?_⟩
 unfold r10_All_0 eqRs
 cases h0 : r10_All_k0 a b with
 | true =>
  rw [hk0] at h0
  have e : (a.length == b.length) = false := by simpa using h0
  rw [e]
  rfl
 | false =>
  have h1 := h0
  rw [hk0] at h1
  have e : (a.length == b.length) = true := by simpa using h1
  rw [cond_false, e, Bool.true_and]
  have m := (main h0).2
  show (!r10_All_l0_f_k0 (r10_All_l0_run (a, b, 0)).1 (r10_All_l0_run (a, b, 0)).2.1 (r10_All_l0_run (a, b, 0)).2.2) = _
  rw [m, Bool.not_not]
theorem r10_All_c2 (a0 : List TRow) (a1 : List TRow) (hp : ∀ p ∈ r10_All_ps2 a0 a1, p) : CallOk Tryd.prog 12 [valA .rows a0, valA .rows a1] 0 [] 1 (r10_All_r2 a0 a1) 0 (r10_All_o2 a0 a1) := by
 have hb : wideN a0.length := hp _ (List.mem_cons_self ..)
 have hc : ∀ r ∈ a0, boundP r.cells.length := hp _ (List.mem_cons_of_mem _ (List.mem_cons_self ..))
 have h := r10_All_c a0 a1 (r10_All_eq a0 a1 hb hc).1
 unfold r10_All_r at h
 rw [(r10_All_eq a0 a1 hb hc).2] at h
 exact h
theorem eqRs_self (a : List TRow) : eqRs a a = true := by
 unfold eqRs
 rw [beq_self_eq_true, Bool.true_and, allN_iff]
 exact fun i _ => eqRw_iff.2 rfl
def r10_All_t : List A → Nat → Objs → Option CRes := rowK [.t .rows, .t .rows] 0 r10_All_r2 r10_All_o2 r10_All_ps2
theorem r10_All_tok : TOk Tryd.prog 12 r10_All_t := rowK_ok (ks := [.t .rows, .t .rows]) r10_All_c2
end Go.Proofs.YtkknpeeccejppaaDoor
namespace Go.Proofs.YtkknpeeccejppaaDoor
open Go.RowKit
theorem callOk_vfr {P : Program} {f : FuncId} {args : List A} {v : Value} (h : CallOk P f args 0 [] 1 (.v v) 0 []) (hf : freeL args = true) (nx : Nat) (o : Objs) : CallOk P f args nx o 1 (.v v) nx o := fun F N R vs hh ha =>
 (callOk_frame (o := o) (callOk_shift h (Nat.le_refl _) hf nx []) (Nat.le_refl _) F N R vs hh ha).mono fun e R' ⟨y, F', N', e1, e2, e3, e4, e5⟩ => by
  obtain rfl := e4.v_inv
  exact ⟨_, F', N', e1, e2, e3, .v _, e5⟩
abbrev RowT := List A → Nat → Objs → Option CRes
def kB (b : Bool) (t : RowT) : RowT := fun args nx o => match t args nx o with
 | some (k, .v (.bool c), nx', o', ps) => some (k, .v (.bool b), nx', o', (c = b) :: ps)
 | _ => none
theorem kB_ok {P : Program} {f : FuncId} {b : Bool} {t : RowT} (h : TOk P f t) : TOk P f (kB b t) := fun args nx o k x nx' o' ps he => by
 unfold kB at he
 split at he <;> first | (cases he; done) | skip
 rename_i c nx1 o1 ps1 heq
 cases he
 obtain ⟨h1, h2⟩ := h _ _ _ _ _ _ _ _ heq
 exact ⟨fun hp => by obtain rfl := N0 hp; exact h1 (N1 hp), h2⟩
def kI (n : Int) (t : RowT) : RowT := fun args nx o => match t args nx o with
 | some (k, .v (.int .i64 c), nx', o', ps) => some (k, .v (.int .i64 n), nx', o', (c = n) :: ps)
 | _ => none
theorem kI_ok {P : Program} {f : FuncId} {n : Int} {t : RowT} (h : TOk P f t) : TOk P f (kI n t) := fun args nx o k x nx' o' ps he => by
 unfold kI at he
 split at he <;> first | (cases he; done) | skip
 rename_i c nx1 o1 ps1 heq
 cases he
 obtain ⟨h1, h2⟩ := h _ _ _ _ _ _ _ _ heq
 exact ⟨fun hp => by obtain rfl := N0 hp; exact h1 (N1 hp), h2⟩
def above (n : Int) : Int := Int.ofNat (Nat.succ (n.toNat - 1))
theorem above_eq {n : Int} (h : 0 < n) : above n = n := by
 show (((n.toNat - 1) + 1 : Nat) : Int) = n
 omega
def kP (t : RowT) : RowT := fun args nx o => match t args nx o with
 | some (k, .v (.int .i64 c), nx', o', ps) => some (k, .v (.int .i64 (above c)), nx', o', (0 < c) :: ps)
 | _ => none
theorem kP_ok {P : Program} {f : FuncId} {t : RowT} (h : TOk P f t) : TOk P f (kP t) := fun args nx o k x nx' o' ps he => by
 unfold kP at he
 split at he <;> first | (cases he; done) | skip
 rename_i c nx1 o1 ps1 heq
 cases he
 obtain ⟨h1, h2⟩ := h _ _ _ _ _ _ _ _ heq
 exact ⟨fun hp => by rw [above_eq (N0 hp)]; exact h1 (N1 hp), h2⟩
end Go.Proofs.YtkknpeeccejppaaDoor
namespace Go.Proofs.YtkknpeeccejppaaDoor
open Go.RowKit
noncomputable def Cmk4_1 := addC 5 l24_lives_t Csq
theorem Cmk4_1_ok : COk Tryd.prog Cmk4_1 := addC_ok l24_lives_tok Csq_ok
noncomputable def Cmk4_2 := addC 9 l13_Light_t Cmk4_1
theorem Cmk4_2_ok : COk Tryd.prog Cmk4_2 := addC_ok l13_Light_tok Cmk4_1_ok
noncomputable def Cmk4_3 := addC 12 r10_All_t Cmk4_2
theorem Cmk4_3_ok : COk Tryd.prog Cmk4_3 := addC_ok r10_All_tok Cmk4_2_ok
noncomputable def Cmk4_4 := addC 19 (inl (envT Cmk4_3 L0) 20 19) Cmk4_3
theorem Cmk4_4_ok : COk Tryd.prog Cmk4_4 := addC_ok (inl_ok (envP_ok Cmk4_3_ok L0_ok) 20 19) Cmk4_3_ok
noncomputable def Cmk4 := Cmk4_4
theorem Cmk4_ok : COk Tryd.prog Cmk4 := Cmk4_4_ok
end Go.Proofs.YtkknpeeccejppaaDoor
namespace Go.Proofs.YtkknpeeccejppaaDoor
open Go.RowKit
noncomputable def Cmk5_1 := addC 18 (kI 0 model_Good_t) Cmk4
theorem Cmk5_1_ok : COk Tryd.prog Cmk5_1 := addC_ok (kI_ok model_Good_tok) Cmk4_ok
abbrev mnewA_l0_X : Type := (List TRow) × Int × Int × (List TGroup) × Int × Int × Int × (List UInt8) × (List UInt8) × (List UInt8) × (List TRow)
def mnewA_l0_T (x : mnewA_l0_X) : St := ⟨40, 4, [(7, .own 1 0), (21, .sl .row x.1), (22, .v (.int .i64 x.2.1)), (23, .v (.int .i64 x.2.2.1))], [(1, some (.rcd 78 [.sl .group x.2.2.2.1, .dq 3, .v (.int .u32 x.2.2.2.2.1), .v (.int .i32 x.2.2.2.2.2.1), .v (.int .u32 x.2.2.2.2.2.2.1), .av .u8 8192 x.2.2.2.2.2.2.2.1, .av .u8 512 x.2.2.2.2.2.2.2.2.1, .av .u8 32 x.2.2.2.2.2.2.2.2.2.1])), (3, some (.deep 38 .row x.2.2.2.2.2.2.2.2.2.2))]⟩
def mnewA_l0_un : St → Option mnewA_l0_X
 | ⟨40, 4, [(7, .own 1 0), (21, .sl .row z0), (22, .v (.int .i64 z1)), (23, .v (.int .i64 z2))], [(1, some (.rcd 78 [.sl .group z3, .dq 3, .v (.int .u32 z4), .v (.int .i32 z5), .v (.int .u32 z6), .av .u8 8192 z7, .av .u8 512 z8, .av .u8 32 z9])), (3, some (.deep 38 .row z10))]⟩ => some (z0, z1, z2, z3, z4, z5, z6, z7, z8, z9, z10)
 | _ => none
theorem mnewA_l0_unok : ∀ s x, mnewA_l0_un s = some x → s = mnewA_l0_T x := fun s x h => by
 unfold mnewA_l0_un at h
 split at h
 ·cases h; rfl
 ·cases h
def mnewA_l0_S : Shape := ⟨3, 4, [7, 21, 22, 23], [], [(1, 1), (7, 3)], [1, 7], [], [1, 3]⟩
def mnewA_l0_E : Entry := ⟨[.frz 0, .seg 1 [none, none, none, none, none, some (.u8, 8192), some (.u8, 512), some (.u8, 32)], .nilE 1 1 38 .row], [(1, 1), (2, 3)], [7, 21, 22, 23], [1, 2]⟩
def mnewA_l0_f_10 (a0 : List TRow) (_a1 : Int) (a2 : Int) (_a3 : List TGroup) (_a4 : Int) (_a5 : Int) (_a6 : Int) (_a7 : List UInt8) (_a8 : List UInt8) (_a9 : List UInt8) (a10 : List TRow) : List TRow := a10 ++ [setI TC.row TC.cell (TRow.mk (a0.getD a2.toNat (dflt TC.row)).1 []) ([] ++ (a0.getD a2.toNat (dflt TC.row)).2)]
def mnewA_l0_next (x : mnewA_l0_X) : mnewA_l0_X := (x.1, x.2.1, IntKind.i64.wrap (x.2.2.1 + (1 : Int)), x.2.2.2.1, x.2.2.2.2.1, x.2.2.2.2.2.1, x.2.2.2.2.2.2.1, x.2.2.2.2.2.2.2.1, x.2.2.2.2.2.2.2.2.1, x.2.2.2.2.2.2.2.2.2.1, mnewA_l0_f_10 x.1 x.2.1 x.2.2.1 x.2.2.2.1 x.2.2.2.2.1 x.2.2.2.2.2.1 x.2.2.2.2.2.2.1 x.2.2.2.2.2.2.2.1 x.2.2.2.2.2.2.2.2.1 x.2.2.2.2.2.2.2.2.2.1 x.2.2.2.2.2.2.2.2.2.2)
def mnewA_l0_goes (x : mnewA_l0_X) : Cnd := some (!!decide (x.2.2.1 < x.2.1))
def mnewA_l0_psA (x : mnewA_l0_X) : List Prop := [((!!decide (x.2.2.1 < x.2.1)) = true → (0 : Int) ≤ x.2.2.1 ∧ x.2.2.1 < (↑x.1.length : Int)), ((!!decide (x.2.2.1 < x.2.1)) = true → boundP ((0 : Nat) + (x.1.getD x.2.2.1.toNat (dflt TC.row)).2.length)), ((!!decide (x.2.2.1 < x.2.1)) = true → boundP (x.2.2.2.2.2.2.2.2.2.2.length + (1 : Nat)))]
abbrev mnewA_l0_ps : mnewA_l0_X → List Prop := mnewA_l0_psA
def mnewA_l0_outs (x : mnewA_l0_X) : Outs := [(some 0, some (!decide (x.2.2.1 < x.2.1)), ⟨40, 4, [], [(1, some (.rcd 78 [.sl .group x.2.2.2.1, .dq 3, .v (.int .u32 x.2.2.2.2.1), .v (.int .i32 x.2.2.2.2.2.1), .v (.int .u32 x.2.2.2.2.2.2.1), .av .u8 8192 x.2.2.2.2.2.2.2.1, .av .u8 512 x.2.2.2.2.2.2.2.2.1, .av .u8 32 x.2.2.2.2.2.2.2.2.2.1])), (3, some (.deep 38 .row x.2.2.2.2.2.2.2.2.2.2))]⟩)]
def mnewA_l0_fuel (x : mnewA_l0_X) : Nat := (x.2.1 - x.2.2.1).toNat
def mnewA_l0_run (x : mnewA_l0_X) : mnewA_l0_X := iterX mnewA_l0_next mnewA_l0_goes (mnewA_l0_fuel x) x
theorem mnewA_l0_ev (a0 : List TRow) (a1 : Int) (a2 : Int) (a3 : List TGroup) (a4 : Int) (a5 : Int) (a6 : Int) (a7 : List UInt8) (a8 : List UInt8) (a9 : List UInt8) (a10 : List TRow) : roundE (envT Cmk5_1 L0) 9 (loopAt Tryd.prog 10 0) mnewA_l0_S (mnewA_l0_T (a0, a1, a2, a3, a4, a5, a6, a7, a8, a9, a10)) = some (mnewA_l0_psA (a0, a1, a2, a3, a4, a5, a6, a7, a8, a9, a10), mnewA_l0_outs (a0, a1, a2, a3, a4, a5, a6, a7, a8, a9, a10), mnewA_l0_goes (a0, a1, a2, a3, a4, a5, a6, a7, a8, a9, a10), mnewA_l0_T (mnewA_l0_next (a0, a1, a2, a3, a4, a5, a6, a7, a8, a9, a10))) := by kernel_rfl
theorem mnewA_l0_hA (a0 : List TRow) (a1 : Int) (a2 : Int) (a3 : List TGroup) (a4 : Int) (a5 : Int) (a6 : Int) (a7 : List UInt8) (a8 : List UInt8) (a9 : List UInt8) (a10 : List TRow) (hp : ∀ p ∈ mnewA_l0_ps (a0, a1, a2, a3, a4, a5, a6, a7, a8, a9, a10), p) : ∀ p ∈ mnewA_l0_psA (a0, a1, a2, a3, a4, a5, a6, a7, a8, a9, a10), p := hp
noncomputable def mnewA_l0_row := rowL (envT Cmk5_1 L0) (loopAt Tryd.prog 10 0) mnewA_l0_S mnewA_l0_E mnewA_l0_un mnewA_l0_fuel mnewA_l0_next mnewA_l0_goes mnewA_l0_ps mnewA_l0_outs
theorem mnewA_l0_rok : ∀ s b ps outs, mnewA_l0_row s = some (b, ps, outs) → Wf s ⟨ps, outs, none⟩ ∧ LoopOk (envT C0 L0) b s ps outs :=
 rowP_ok (T := mnewA_l0_T) Cmk5_1_ok L0_ok (u := 9) (by kernel_rfl) (by decide) (fun ⟨a0, a1, a2, a3, a4, a5, a6, a7, a8, a9, a10⟩ => mnewA_l0_ev a0 a1 a2 a3 a4 a5 a6 a7 a8 a9 a10) (fun ⟨a0, a1, a2, a3, a4, a5, a6, a7, a8, a9, a10⟩ => mnewA_l0_hA a0 a1 a2 a3 a4 a5 a6 a7 a8 a9 a10) mnewA_l0_unok (fun _ => okOuts_ok (n := 40) rfl) fun _ _ => rfl
noncomputable def mnewA_l0_L := addLp 0 mnewA_l0_row L0
theorem mnewA_l0_Lok : LpOk mnewA_l0_L := addLp_ok mnewA_l0_rok L0_ok
def mnewA_0 (a0 : List TGroup) (a1 : List TRow) : List TGroup := (mnewA_l0_run (a1, (↑a1.length : Int), (0 : Int), [] ++ a0, (0 : Int), (0 : Int), (0 : Int), List.replicate (8192 : Nat) (dflt TC.u8), List.replicate (512 : Nat) (dflt TC.u8), [UInt8.ofNat (0 : Nat), UInt8.ofNat (0 : Nat), UInt8.ofNat (0 : Nat), UInt8.ofNat (0 : Nat), UInt8.ofNat (0 : Nat), UInt8.ofNat (0 : Nat), UInt8.ofNat (0 : Nat), UInt8.ofNat (0 : Nat), UInt8.ofNat (0 : Nat), UInt8.ofNat (0 : Nat), UInt8.ofNat (0 : Nat), UInt8.ofNat (0 : Nat), UInt8.ofNat (0 : Nat), UInt8.ofNat (0 : Nat), UInt8.ofNat (0 : Nat), UInt8.ofNat (0 : Nat), UInt8.ofNat (0 : Nat), UInt8.ofNat (0 : Nat), UInt8.ofNat (0 : Nat), UInt8.ofNat (0 : Nat), UInt8.ofNat (0 : Nat), UInt8.ofNat (0 : Nat), UInt8.ofNat (0 : Nat), UInt8.ofNat (0 : Nat), UInt8.ofNat (0 : Nat), UInt8.ofNat (0 : Nat), UInt8.ofNat (0 : Nat), UInt8.ofNat (0 : Nat), UInt8.ofNat (0 : Nat), UInt8.ofNat (0 : Nat), UInt8.ofNat (0 : Nat), UInt8.ofNat (0 : Nat)], [])).snd.snd.snd.fst
def mnewA_1 (a0 : List TGroup) (a1 : List TRow) : Int := (mnewA_l0_run (a1, (↑a1.length : Int), (0 : Int), [] ++ a0, (0 : Int), (0 : Int), (0 : Int), List.replicate (8192 : Nat) (dflt TC.u8), List.replicate (512 : Nat) (dflt TC.u8), [UInt8.ofNat (0 : Nat), UInt8.ofNat (0 : Nat), UInt8.ofNat (0 : Nat), UInt8.ofNat (0 : Nat), UInt8.ofNat (0 : Nat), UInt8.ofNat (0 : Nat), UInt8.ofNat (0 : Nat), UInt8.ofNat (0 : Nat), UInt8.ofNat (0 : Nat), UInt8.ofNat (0 : Nat), UInt8.ofNat (0 : Nat), UInt8.ofNat (0 : Nat), UInt8.ofNat (0 : Nat), UInt8.ofNat (0 : Nat), UInt8.ofNat (0 : Nat), UInt8.ofNat (0 : Nat), UInt8.ofNat (0 : Nat), UInt8.ofNat (0 : Nat), UInt8.ofNat (0 : Nat), UInt8.ofNat (0 : Nat), UInt8.ofNat (0 : Nat), UInt8.ofNat (0 : Nat), UInt8.ofNat (0 : Nat), UInt8.ofNat (0 : Nat), UInt8.ofNat (0 : Nat), UInt8.ofNat (0 : Nat), UInt8.ofNat (0 : Nat), UInt8.ofNat (0 : Nat), UInt8.ofNat (0 : Nat), UInt8.ofNat (0 : Nat), UInt8.ofNat (0 : Nat), UInt8.ofNat (0 : Nat)], [])).snd.snd.snd.snd.fst
def mnewA_2 (a0 : List TGroup) (a1 : List TRow) : Int := (mnewA_l0_run (a1, (↑a1.length : Int), (0 : Int), [] ++ a0, (0 : Int), (0 : Int), (0 : Int), List.replicate (8192 : Nat) (dflt TC.u8), List.replicate (512 : Nat) (dflt TC.u8), [UInt8.ofNat (0 : Nat), UInt8.ofNat (0 : Nat), UInt8.ofNat (0 : Nat), UInt8.ofNat (0 : Nat), UInt8.ofNat (0 : Nat), UInt8.ofNat (0 : Nat), UInt8.ofNat (0 : Nat), UInt8.ofNat (0 : Nat), UInt8.ofNat (0 : Nat), UInt8.ofNat (0 : Nat), UInt8.ofNat (0 : Nat), UInt8.ofNat (0 : Nat), UInt8.ofNat (0 : Nat), UInt8.ofNat (0 : Nat), UInt8.ofNat (0 : Nat), UInt8.ofNat (0 : Nat), UInt8.ofNat (0 : Nat), UInt8.ofNat (0 : Nat), UInt8.ofNat (0 : Nat), UInt8.ofNat (0 : Nat), UInt8.ofNat (0 : Nat), UInt8.ofNat (0 : Nat), UInt8.ofNat (0 : Nat), UInt8.ofNat (0 : Nat), UInt8.ofNat (0 : Nat), UInt8.ofNat (0 : Nat), UInt8.ofNat (0 : Nat), UInt8.ofNat (0 : Nat), UInt8.ofNat (0 : Nat), UInt8.ofNat (0 : Nat), UInt8.ofNat (0 : Nat), UInt8.ofNat (0 : Nat)], [])).snd.snd.snd.snd.snd.fst
def mnewA_3 (a0 : List TGroup) (a1 : List TRow) : Int := (mnewA_l0_run (a1, (↑a1.length : Int), (0 : Int), [] ++ a0, (0 : Int), (0 : Int), (0 : Int), List.replicate (8192 : Nat) (dflt TC.u8), List.replicate (512 : Nat) (dflt TC.u8), [UInt8.ofNat (0 : Nat), UInt8.ofNat (0 : Nat), UInt8.ofNat (0 : Nat), UInt8.ofNat (0 : Nat), UInt8.ofNat (0 : Nat), UInt8.ofNat (0 : Nat), UInt8.ofNat (0 : Nat), UInt8.ofNat (0 : Nat), UInt8.ofNat (0 : Nat), UInt8.ofNat (0 : Nat), UInt8.ofNat (0 : Nat), UInt8.ofNat (0 : Nat), UInt8.ofNat (0 : Nat), UInt8.ofNat (0 : Nat), UInt8.ofNat (0 : Nat), UInt8.ofNat (0 : Nat), UInt8.ofNat (0 : Nat), UInt8.ofNat (0 : Nat), UInt8.ofNat (0 : Nat), UInt8.ofNat (0 : Nat), UInt8.ofNat (0 : Nat), UInt8.ofNat (0 : Nat), UInt8.ofNat (0 : Nat), UInt8.ofNat (0 : Nat), UInt8.ofNat (0 : Nat), UInt8.ofNat (0 : Nat), UInt8.ofNat (0 : Nat), UInt8.ofNat (0 : Nat), UInt8.ofNat (0 : Nat), UInt8.ofNat (0 : Nat), UInt8.ofNat (0 : Nat), UInt8.ofNat (0 : Nat)], [])).snd.snd.snd.snd.snd.snd.fst
def mnewA_4 (a0 : List TGroup) (a1 : List TRow) : List UInt8 := (mnewA_l0_run (a1, (↑a1.length : Int), (0 : Int), [] ++ a0, (0 : Int), (0 : Int), (0 : Int), List.replicate (8192 : Nat) (dflt TC.u8), List.replicate (512 : Nat) (dflt TC.u8), [UInt8.ofNat (0 : Nat), UInt8.ofNat (0 : Nat), UInt8.ofNat (0 : Nat), UInt8.ofNat (0 : Nat), UInt8.ofNat (0 : Nat), UInt8.ofNat (0 : Nat), UInt8.ofNat (0 : Nat), UInt8.ofNat (0 : Nat), UInt8.ofNat (0 : Nat), UInt8.ofNat (0 : Nat), UInt8.ofNat (0 : Nat), UInt8.ofNat (0 : Nat), UInt8.ofNat (0 : Nat), UInt8.ofNat (0 : Nat), UInt8.ofNat (0 : Nat), UInt8.ofNat (0 : Nat), UInt8.ofNat (0 : Nat), UInt8.ofNat (0 : Nat), UInt8.ofNat (0 : Nat), UInt8.ofNat (0 : Nat), UInt8.ofNat (0 : Nat), UInt8.ofNat (0 : Nat), UInt8.ofNat (0 : Nat), UInt8.ofNat (0 : Nat), UInt8.ofNat (0 : Nat), UInt8.ofNat (0 : Nat), UInt8.ofNat (0 : Nat), UInt8.ofNat (0 : Nat), UInt8.ofNat (0 : Nat), UInt8.ofNat (0 : Nat), UInt8.ofNat (0 : Nat), UInt8.ofNat (0 : Nat)], [])).snd.snd.snd.snd.snd.snd.snd.fst
def mnewA_5 (a0 : List TGroup) (a1 : List TRow) : List UInt8 := (mnewA_l0_run (a1, (↑a1.length : Int), (0 : Int), [] ++ a0, (0 : Int), (0 : Int), (0 : Int), List.replicate (8192 : Nat) (dflt TC.u8), List.replicate (512 : Nat) (dflt TC.u8), [UInt8.ofNat (0 : Nat), UInt8.ofNat (0 : Nat), UInt8.ofNat (0 : Nat), UInt8.ofNat (0 : Nat), UInt8.ofNat (0 : Nat), UInt8.ofNat (0 : Nat), UInt8.ofNat (0 : Nat), UInt8.ofNat (0 : Nat), UInt8.ofNat (0 : Nat), UInt8.ofNat (0 : Nat), UInt8.ofNat (0 : Nat), UInt8.ofNat (0 : Nat), UInt8.ofNat (0 : Nat), UInt8.ofNat (0 : Nat), UInt8.ofNat (0 : Nat), UInt8.ofNat (0 : Nat), UInt8.ofNat (0 : Nat), UInt8.ofNat (0 : Nat), UInt8.ofNat (0 : Nat), UInt8.ofNat (0 : Nat), UInt8.ofNat (0 : Nat), UInt8.ofNat (0 : Nat), UInt8.ofNat (0 : Nat), UInt8.ofNat (0 : Nat), UInt8.ofNat (0 : Nat), UInt8.ofNat (0 : Nat), UInt8.ofNat (0 : Nat), UInt8.ofNat (0 : Nat), UInt8.ofNat (0 : Nat), UInt8.ofNat (0 : Nat), UInt8.ofNat (0 : Nat), UInt8.ofNat (0 : Nat)], [])).snd.snd.snd.snd.snd.snd.snd.snd.fst
def mnewA_6 (a0 : List TGroup) (a1 : List TRow) : List UInt8 := (mnewA_l0_run (a1, (↑a1.length : Int), (0 : Int), [] ++ a0, (0 : Int), (0 : Int), (0 : Int), List.replicate (8192 : Nat) (dflt TC.u8), List.replicate (512 : Nat) (dflt TC.u8), [UInt8.ofNat (0 : Nat), UInt8.ofNat (0 : Nat), UInt8.ofNat (0 : Nat), UInt8.ofNat (0 : Nat), UInt8.ofNat (0 : Nat), UInt8.ofNat (0 : Nat), UInt8.ofNat (0 : Nat), UInt8.ofNat (0 : Nat), UInt8.ofNat (0 : Nat), UInt8.ofNat (0 : Nat), UInt8.ofNat (0 : Nat), UInt8.ofNat (0 : Nat), UInt8.ofNat (0 : Nat), UInt8.ofNat (0 : Nat), UInt8.ofNat (0 : Nat), UInt8.ofNat (0 : Nat), UInt8.ofNat (0 : Nat), UInt8.ofNat (0 : Nat), UInt8.ofNat (0 : Nat), UInt8.ofNat (0 : Nat), UInt8.ofNat (0 : Nat), UInt8.ofNat (0 : Nat), UInt8.ofNat (0 : Nat), UInt8.ofNat (0 : Nat), UInt8.ofNat (0 : Nat), UInt8.ofNat (0 : Nat), UInt8.ofNat (0 : Nat), UInt8.ofNat (0 : Nat), UInt8.ofNat (0 : Nat), UInt8.ofNat (0 : Nat), UInt8.ofNat (0 : Nat), UInt8.ofNat (0 : Nat)], [])).snd.snd.snd.snd.snd.snd.snd.snd.snd.fst
def mnewA_7 (a0 : List TGroup) (a1 : List TRow) : List TRow := (mnewA_l0_run (a1, (↑a1.length : Int), (0 : Int), [] ++ a0, (0 : Int), (0 : Int), (0 : Int), List.replicate (8192 : Nat) (dflt TC.u8), List.replicate (512 : Nat) (dflt TC.u8), [UInt8.ofNat (0 : Nat), UInt8.ofNat (0 : Nat), UInt8.ofNat (0 : Nat), UInt8.ofNat (0 : Nat), UInt8.ofNat (0 : Nat), UInt8.ofNat (0 : Nat), UInt8.ofNat (0 : Nat), UInt8.ofNat (0 : Nat), UInt8.ofNat (0 : Nat), UInt8.ofNat (0 : Nat), UInt8.ofNat (0 : Nat), UInt8.ofNat (0 : Nat), UInt8.ofNat (0 : Nat), UInt8.ofNat (0 : Nat), UInt8.ofNat (0 : Nat), UInt8.ofNat (0 : Nat), UInt8.ofNat (0 : Nat), UInt8.ofNat (0 : Nat), UInt8.ofNat (0 : Nat), UInt8.ofNat (0 : Nat), UInt8.ofNat (0 : Nat), UInt8.ofNat (0 : Nat), UInt8.ofNat (0 : Nat), UInt8.ofNat (0 : Nat), UInt8.ofNat (0 : Nat), UInt8.ofNat (0 : Nat), UInt8.ofNat (0 : Nat), UInt8.ofNat (0 : Nat), UInt8.ofNat (0 : Nat), UInt8.ofNat (0 : Nat), UInt8.ofNat (0 : Nat), UInt8.ofNat (0 : Nat)], [])).snd.snd.snd.snd.snd.snd.snd.snd.snd.snd
def mnewA_r (_a0 : List TGroup) (_a1 : List TRow) : A := .tup [.own 0 0, .v (.int .i64 ((0 : Int)))]
def mnewA_o (a0 : List TGroup) (a1 : List TRow) : Objs := [(0, some (.rcd 78 [.sl .group (mnewA_0 a0 a1), .dq 1, .v (.int .u32 (mnewA_1 a0 a1)), .v (.int .i32 (mnewA_2 a0 a1)), .v (.int .u32 (mnewA_3 a0 a1)), .av .u8 8192 (mnewA_4 a0 a1), .av .u8 512 (mnewA_5 a0 a1), .av .u8 32 (mnewA_6 a0 a1)])), (1, some (.deep 38 .row (mnewA_7 a0 a1)))]
def mnewA_ps (a0 : List TGroup) (a1 : List TRow) : List Prop := [(goodM a0 a1 = (0 : Int)), (wideN a1.length), (boundP ((0 : Nat) + a0.length)), (needX mnewA_l0_next mnewA_l0_goes mnewA_l0_ps (mnewA_l0_fuel (a1, (↑a1.length : Int), (0 : Int), [] ++ a0, (0 : Int), (0 : Int), (0 : Int), List.replicate (8192 : Nat) (dflt TC.u8), List.replicate (512 : Nat) (dflt TC.u8), [UInt8.ofNat (0 : Nat), UInt8.ofNat (0 : Nat), UInt8.ofNat (0 : Nat), UInt8.ofNat (0 : Nat), UInt8.ofNat (0 : Nat), UInt8.ofNat (0 : Nat), UInt8.ofNat (0 : Nat), UInt8.ofNat (0 : Nat), UInt8.ofNat (0 : Nat), UInt8.ofNat (0 : Nat), UInt8.ofNat (0 : Nat), UInt8.ofNat (0 : Nat), UInt8.ofNat (0 : Nat), UInt8.ofNat (0 : Nat), UInt8.ofNat (0 : Nat), UInt8.ofNat (0 : Nat), UInt8.ofNat (0 : Nat), UInt8.ofNat (0 : Nat), UInt8.ofNat (0 : Nat), UInt8.ofNat (0 : Nat), UInt8.ofNat (0 : Nat), UInt8.ofNat (0 : Nat), UInt8.ofNat (0 : Nat), UInt8.ofNat (0 : Nat), UInt8.ofNat (0 : Nat), UInt8.ofNat (0 : Nat), UInt8.ofNat (0 : Nat), UInt8.ofNat (0 : Nat), UInt8.ofNat (0 : Nat), UInt8.ofNat (0 : Nat), UInt8.ofNat (0 : Nat), UInt8.ofNat (0 : Nat)], [])) (a1, (↑a1.length : Int), (0 : Int), [] ++ a0, (0 : Int), (0 : Int), (0 : Int), List.replicate (8192 : Nat) (dflt TC.u8), List.replicate (512 : Nat) (dflt TC.u8), [UInt8.ofNat (0 : Nat), UInt8.ofNat (0 : Nat), UInt8.ofNat (0 : Nat), UInt8.ofNat (0 : Nat), UInt8.ofNat (0 : Nat), UInt8.ofNat (0 : Nat), UInt8.ofNat (0 : Nat), UInt8.ofNat (0 : Nat), UInt8.ofNat (0 : Nat), UInt8.ofNat (0 : Nat), UInt8.ofNat (0 : Nat), UInt8.ofNat (0 : Nat), UInt8.ofNat (0 : Nat), UInt8.ofNat (0 : Nat), UInt8.ofNat (0 : Nat), UInt8.ofNat (0 : Nat), UInt8.ofNat (0 : Nat), UInt8.ofNat (0 : Nat), UInt8.ofNat (0 : Nat), UInt8.ofNat (0 : Nat), UInt8.ofNat (0 : Nat), UInt8.ofNat (0 : Nat), UInt8.ofNat (0 : Nat), UInt8.ofNat (0 : Nat), UInt8.ofNat (0 : Nat), UInt8.ofNat (0 : Nat), UInt8.ofNat (0 : Nat), UInt8.ofNat (0 : Nat), UInt8.ofNat (0 : Nat), UInt8.ofNat (0 : Nat), UInt8.ofNat (0 : Nat), UInt8.ofNat (0 : Nat)], []))]
theorem mnewA_ev (a0 : List TGroup) (a1 : List TRow) : evF (envT Cmk5_1 mnewA_l0_L) 1040 10 [.sl .group a0, .sl .row a1] 0 [] = some (1, mnewA_r a0 a1, 2, mnewA_o a0 a1, [(goodM a0 a1 = (0 : Int)), (wideN a1.length), (boundP ((0 : Nat) + a0.length)), (loopAt Tryd.prog (10 : FuncId) (0 : Nat) = loopAt Tryd.prog (10 : FuncId) (0 : Nat)), ((0 : Int) ≤ (0 : Int) ∧ (0 : Int) < (256 : Int)), ((0 : Int) ≤ (0 : Int) ∧ (0 : Int) < (256 : Int)), ((0 : Int) ≤ (0 : Int) ∧ (0 : Int) < (256 : Int)), ((0 : Int) ≤ (0 : Int) ∧ (0 : Int) < (256 : Int)), ((0 : Int) ≤ (0 : Int) ∧ (0 : Int) < (256 : Int)), ((0 : Int) ≤ (0 : Int) ∧ (0 : Int) < (256 : Int)), ((0 : Int) ≤ (0 : Int) ∧ (0 : Int) < (256 : Int)), ((0 : Int) ≤ (0 : Int) ∧ (0 : Int) < (256 : Int)), ((0 : Int) ≤ (0 : Int) ∧ (0 : Int) < (256 : Int)), ((0 : Int) ≤ (0 : Int) ∧ (0 : Int) < (256 : Int)), ((0 : Int) ≤ (0 : Int) ∧ (0 : Int) < (256 : Int)), ((0 : Int) ≤ (0 : Int) ∧ (0 : Int) < (256 : Int)), ((0 : Int) ≤ (0 : Int) ∧ (0 : Int) < (256 : Int)), ((0 : Int) ≤ (0 : Int) ∧ (0 : Int) < (256 : Int)), ((0 : Int) ≤ (0 : Int) ∧ (0 : Int) < (256 : Int)), ((0 : Int) ≤ (0 : Int) ∧ (0 : Int) < (256 : Int)), ((0 : Int) ≤ (0 : Int) ∧ (0 : Int) < (256 : Int)), ((0 : Int) ≤ (0 : Int) ∧ (0 : Int) < (256 : Int)), ((0 : Int) ≤ (0 : Int) ∧ (0 : Int) < (256 : Int)), ((0 : Int) ≤ (0 : Int) ∧ (0 : Int) < (256 : Int)), ((0 : Int) ≤ (0 : Int) ∧ (0 : Int) < (256 : Int)), ((0 : Int) ≤ (0 : Int) ∧ (0 : Int) < (256 : Int)), ((0 : Int) ≤ (0 : Int) ∧ (0 : Int) < (256 : Int)), ((0 : Int) ≤ (0 : Int) ∧ (0 : Int) < (256 : Int)), ((0 : Int) ≤ (0 : Int) ∧ (0 : Int) < (256 : Int)), ((0 : Int) ≤ (0 : Int) ∧ (0 : Int) < (256 : Int)), ((0 : Int) ≤ (0 : Int) ∧ (0 : Int) < (256 : Int)), ((0 : Int) ≤ (0 : Int) ∧ (0 : Int) < (256 : Int)), ((0 : Int) ≤ (0 : Int) ∧ (0 : Int) < (256 : Int)), ((0 : Int) ≤ (0 : Int) ∧ (0 : Int) < (256 : Int)), ((0 : Int) ≤ (0 : Int) ∧ (0 : Int) < (256 : Int)), ((0 : Int) ≤ (0 : Int) ∧ (0 : Int) < (256 : Int)), (needX mnewA_l0_next mnewA_l0_goes mnewA_l0_ps (mnewA_l0_fuel (a1, (↑a1.length : Int), (0 : Int), [] ++ a0, (0 : Int), (0 : Int), (0 : Int), List.replicate (8192 : Nat) (dflt TC.u8), List.replicate (512 : Nat) (dflt TC.u8), [UInt8.ofNat (0 : Nat), UInt8.ofNat (0 : Nat), UInt8.ofNat (0 : Nat), UInt8.ofNat (0 : Nat), UInt8.ofNat (0 : Nat), UInt8.ofNat (0 : Nat), UInt8.ofNat (0 : Nat), UInt8.ofNat (0 : Nat), UInt8.ofNat (0 : Nat), UInt8.ofNat (0 : Nat), UInt8.ofNat (0 : Nat), UInt8.ofNat (0 : Nat), UInt8.ofNat (0 : Nat), UInt8.ofNat (0 : Nat), UInt8.ofNat (0 : Nat), UInt8.ofNat (0 : Nat), UInt8.ofNat (0 : Nat), UInt8.ofNat (0 : Nat), UInt8.ofNat (0 : Nat), UInt8.ofNat (0 : Nat), UInt8.ofNat (0 : Nat), UInt8.ofNat (0 : Nat), UInt8.ofNat (0 : Nat), UInt8.ofNat (0 : Nat), UInt8.ofNat (0 : Nat), UInt8.ofNat (0 : Nat), UInt8.ofNat (0 : Nat), UInt8.ofNat (0 : Nat), UInt8.ofNat (0 : Nat), UInt8.ofNat (0 : Nat), UInt8.ofNat (0 : Nat), UInt8.ofNat (0 : Nat)], [])) (a1, (↑a1.length : Int), (0 : Int), [] ++ a0, (0 : Int), (0 : Int), (0 : Int), List.replicate (8192 : Nat) (dflt TC.u8), List.replicate (512 : Nat) (dflt TC.u8), [UInt8.ofNat (0 : Nat), UInt8.ofNat (0 : Nat), UInt8.ofNat (0 : Nat), UInt8.ofNat (0 : Nat), UInt8.ofNat (0 : Nat), UInt8.ofNat (0 : Nat), UInt8.ofNat (0 : Nat), UInt8.ofNat (0 : Nat), UInt8.ofNat (0 : Nat), UInt8.ofNat (0 : Nat), UInt8.ofNat (0 : Nat), UInt8.ofNat (0 : Nat), UInt8.ofNat (0 : Nat), UInt8.ofNat (0 : Nat), UInt8.ofNat (0 : Nat), UInt8.ofNat (0 : Nat), UInt8.ofNat (0 : Nat), UInt8.ofNat (0 : Nat), UInt8.ofNat (0 : Nat), UInt8.ofNat (0 : Nat), UInt8.ofNat (0 : Nat), UInt8.ofNat (0 : Nat), UInt8.ofNat (0 : Nat), UInt8.ofNat (0 : Nat), UInt8.ofNat (0 : Nat), UInt8.ofNat (0 : Nat), UInt8.ofNat (0 : Nat), UInt8.ofNat (0 : Nat), UInt8.ofNat (0 : Nat), UInt8.ofNat (0 : Nat), UInt8.ofNat (0 : Nat), UInt8.ofNat (0 : Nat)], []))]) := by kernel_rfl
theorem mnewA_c (a0 : List TGroup) (a1 : List TRow) (hp : ∀ p ∈ mnewA_ps a0 a1, p) : CallOk Tryd.prog 10 [.sl .group a0, .sl .row a1] 0 [] 1 (mnewA_r a0 a1) 2 (mnewA_o a0 a1) := by
 have n0 := N0 hp
 have n1 := N0 (N1 hp)
 have n2 := N0 (N1 (N1 hp))
 have n4 : ((0 : Int) ≤ (0 : Int) ∧ (0 : Int) < (256 : Int)) := by first | rfl | decide +kernel
 have n36 := N0 (N1 (N1 (N1 hp)))
 exact evF_ok (envP_ok Cmk5_1_ok mnewA_l0_Lok) (mnewA_ev a0 a1) (needs_cons n0 (needs_cons n1 (needs_cons n2 (needs_cons rfl (needs_cons n4 (needs_cons n4 (needs_cons n4 (needs_cons n4 (needs_cons n4 (needs_cons n4 (needs_cons n4 (needs_cons n4 (needs_cons n4 (needs_cons n4 (needs_cons n4 (needs_cons n4 (needs_cons n4 (needs_cons n4 (needs_cons n4 (needs_cons n4 (needs_cons n4 (needs_cons n4 (needs_cons n4 (needs_cons n4 (needs_cons n4 (needs_cons n4 (needs_cons n4 (needs_cons n4 (needs_cons n4 (needs_cons n4 (needs_cons n4 (needs_cons n4 (needs_cons n4 (needs_cons n4 (needs_cons n4 (needs_cons n4 (needs_cons n36 needs_nil)))))))))))))))))))))))))))))))))))))
end Go.Proofs.YtkknpeeccejppaaDoor
namespace Go.Proofs.YtkknpeeccejppaaDoor
open Go.RowKit
noncomputable def Cmk6_1 := addC 18 (kP model_Good_t) Cmk4
theorem Cmk6_1_ok : COk Tryd.prog Cmk6_1 := addC_ok (kP_ok model_Good_tok) Cmk4_ok
def mnewB_r (a0 : List TGroup) (a1 : List TRow) : A := .v (.tuple ⟨[.pointer none, .int .i64 (above (goodM a0 a1))]⟩)
def mnewB_o (_a0 : List TGroup) (_a1 : List TRow) : Objs := []
def mnewB_ps (a0 : List TGroup) (a1 : List TRow) : List Prop := [((0 : Int) < goodM a0 a1), (wideN a1.length)]
theorem mnewB_ev (a0 : List TGroup) (a1 : List TRow) : evF (envT Cmk6_1 L0) 1040 10 [.sl .group a0, .sl .row a1] 0 [] = some (1, mnewB_r a0 a1, 0, mnewB_o a0 a1, mnewB_ps a0 a1) := by kernel_rfl
theorem mnewB_c (a0 : List TGroup) (a1 : List TRow) (hp : ∀ p ∈ mnewB_ps a0 a1, p) : CallOk Tryd.prog 10 [.sl .group a0, .sl .row a1] 0 [] 1 (mnewB_r a0 a1) 0 (mnewB_o a0 a1) := evF_ok (envP_ok Cmk6_1_ok L0_ok) (mnewB_ev a0 a1) hp
end Go.Proofs.YtkknpeeccejppaaDoor
namespace Go.Proofs.YtkknpeeccejppaaDoor
open Go.RowKit
noncomputable def Cmk7_1 := addC 23 (inl (envT Cmk4 L0) 20 23) Cmk4
theorem Cmk7_1_ok : COk Tryd.prog Cmk7_1 := addC_ok (inl_ok (envP_ok Cmk4_ok L0_ok) 20 23) Cmk4_ok
abbrev mfault_l0_X : Type := (List Int) × Int × Int
def mfault_l0_T (x : mfault_l0_X) : St := ⟨28, 0, [(11, .sl .i64 x.1), (12, .v (.int .i64 x.2.1)), (13, .v (.int .i64 x.2.2))], []⟩
def mfault_l0_un : St → Option mfault_l0_X
 | ⟨28, 0, [(11, .sl .i64 z0), (12, .v (.int .i64 z1)), (13, .v (.int .i64 z2))], []⟩ => some (z0, z1, z2)
 | _ => none
theorem mfault_l0_unok : ∀ s x, mfault_l0_un s = some x → s = mfault_l0_T x := fun s x h => by
 unfold mfault_l0_un at h
 split at h
 ·cases h; rfl
 ·cases h
def mfault_l0_S : Shape := ⟨0, 0, [11, 12, 13], [], [], [], [6], []⟩
def mfault_l0_E : Entry := ⟨[], [], [11, 12, 13], []⟩
def mfault_l0_f_k0 (a0 : List Int) (a1 : Int) (a2 : Int) : Bool := !!decide (a2 < a1) && (decide (a0.getD a2.toNat (dflt TC.i64) < (0 : Int)) || decide (a0.getD a2.toNat (dflt TC.i64) ≥ (16 : Int)))
def mfault_l0_f_3 (a0 : List Int) (a1 : Int) (a2 : Int) : Bool := !!decide (a2 < a1) && !(mfault_l0_f_k0 a0 a1 a2)
def mfault_l0_next (x : mfault_l0_X) : mfault_l0_X := (x.1, x.2.1, IntKind.i64.wrap (x.2.2 + (1 : Int)))
def mfault_l0_goes (x : mfault_l0_X) : Cnd := some (mfault_l0_f_3 x.1 x.2.1 x.2.2)
def mfault_l0_psA (x : mfault_l0_X) : List Prop := [((!!decide (x.2.2 < x.2.1)) = true → (0 : Int) ≤ x.2.2 ∧ x.2.2 < (↑x.1.length : Int))]
abbrev mfault_l0_ps : mfault_l0_X → List Prop := mfault_l0_psA
def mfault_l0_outs (x : mfault_l0_X) : Outs := [(some 0, some (!decide (x.2.2 < x.2.1)), ⟨28, 0, [(6, .dead)], []⟩), (none, some ((mfault_l0_f_k0 x.1 x.2.1 x.2.2)), ⟨28, 0, [(6, .v (.int .i64 ((240 : Int))))], []⟩)]
def mfault_l0_fuel (x : mfault_l0_X) : Nat := (x.2.1 - x.2.2).toNat
def mfault_l0_run (x : mfault_l0_X) : mfault_l0_X := iterX mfault_l0_next mfault_l0_goes (mfault_l0_fuel x) x
theorem mfault_l0_ev (a0 : List Int) (a1 : Int) (a2 : Int) : roundE (envT Cmk7_1 L0) 9 (loopAt Tryd.prog 20 0) mfault_l0_S (mfault_l0_T (a0, a1, a2)) = some (mfault_l0_psA (a0, a1, a2), mfault_l0_outs (a0, a1, a2), mfault_l0_goes (a0, a1, a2), mfault_l0_T (mfault_l0_next (a0, a1, a2))) := by kernel_rfl
theorem mfault_l0_hA (a0 : List Int) (a1 : Int) (a2 : Int) (hp : ∀ p ∈ mfault_l0_ps (a0, a1, a2), p) : ∀ p ∈ mfault_l0_psA (a0, a1, a2), p := hp
noncomputable def mfault_l0_row := rowL (envT Cmk7_1 L0) (loopAt Tryd.prog 20 0) mfault_l0_S mfault_l0_E mfault_l0_un mfault_l0_fuel mfault_l0_next mfault_l0_goes mfault_l0_ps mfault_l0_outs
theorem mfault_l0_rok : ∀ s b ps outs, mfault_l0_row s = some (b, ps, outs) → Wf s ⟨ps, outs, none⟩ ∧ LoopOk (envT C0 L0) b s ps outs :=
 rowP_ok (T := mfault_l0_T) Cmk7_1_ok L0_ok (u := 9) (by kernel_rfl) (by decide) (fun ⟨a0, a1, a2⟩ => mfault_l0_ev a0 a1 a2) (fun ⟨a0, a1, a2⟩ => mfault_l0_hA a0 a1 a2) mfault_l0_unok (fun _ => okOuts_ok (n := 28) rfl) fun _ _ => rfl
noncomputable def mfault_l0_L := addLp 0 mfault_l0_row L0
theorem mfault_l0_Lok : LpOk mfault_l0_L := addLp_ok mfault_l0_rok L0_ok
def mfault_k1 (a0 : List TGroup) (_a1 : List TRow) (_a2 : List Int) (_a3 : Int) : Bool := (↑a0.length : Int) == (0 : Int)
def mfault_k0 (_a0 : List TGroup) (_a1 : List TRow) (a2 : List Int) (_a3 : Int) : mfault_l0_X := mfault_l0_run (a2, (↑a2.length : Int), (0 : Int))
def mfault_0 (a0 : List TGroup) (a1 : List TRow) (a2 : List Int) (a3 : Int) : Int := bif (mfault_k1 a0 a1 a2 a3) then (1 : Int) else bif mfault_l0_f_k0 (mfault_k0 a0 a1 a2 a3).fst (mfault_k0 a0 a1 a2 a3).snd.fst (mfault_k0 a0 a1 a2 a3).snd.snd then (240 : Int) else bif decide ((↑a2.length : Int) > a3) then (240 : Int) else (0 : Int)
def mfault_r (a0 : List TGroup) (a1 : List TRow) (a2 : List Int) (a3 : Int) : A := .v (.int .i64 (mfault_0 a0 a1 a2 a3))
def mfault_o (_a0 : List TGroup) (_a1 : List TRow) (_a2 : List Int) (_a3 : Int) : Objs := []
def mfault_ps (a0 : List TGroup) (a1 : List TRow) (a2 : List Int) (a3 : Int) : List Prop := [((!(mfault_k1 a0 a1 a2 a3)) = true → needX mfault_l0_next mfault_l0_goes mfault_l0_ps (mfault_l0_fuel (a2, (↑a2.length : Int), (0 : Int))) (a2, (↑a2.length : Int), (0 : Int)))]
theorem mfault_ev (a0 : List TGroup) (a1 : List TRow) (a2 : List Int) (a3 : Int) : evF (envT Cmk7_1 mfault_l0_L) 9 20 [.ref [.sl .group a0, .sl .row a1], .sl .i64 a2, .v (.int .i64 a3)] 0 [] = some (1, mfault_r a0 a1 a2 a3, 0, mfault_o a0 a1 a2 a3, [((!(mfault_k1 a0 a1 a2 a3)) = true → loopAt Tryd.prog (20 : FuncId) (0 : Nat) = loopAt Tryd.prog (20 : FuncId) (0 : Nat)), ((!(mfault_k1 a0 a1 a2 a3)) = true → needX mfault_l0_next mfault_l0_goes mfault_l0_ps (mfault_l0_fuel (a2, (↑a2.length : Int), (0 : Int))) (a2, (↑a2.length : Int), (0 : Int)))]) := by kernel_rfl
theorem mfault_c (a0 : List TGroup) (a1 : List TRow) (a2 : List Int) (a3 : Int) (hp : ∀ p ∈ mfault_ps a0 a1 a2 a3, p) : CallOk Tryd.prog 20 [.ref [.sl .group a0, .sl .row a1], .sl .i64 a2, .v (.int .i64 a3)] 0 [] 1 (mfault_r a0 a1 a2 a3) 0 (mfault_o a0 a1 a2 a3) := by
 have n0 : ((!(mfault_k1 a0 a1 a2 a3)) = true → loopAt Tryd.prog (20 : FuncId) (0 : Nat) = loopAt Tryd.prog (20 : FuncId) (0 : Nat)) := by intros; rfl
 have n1 := N0 hp
 exact evF_ok (envP_ok Cmk7_1_ok mfault_l0_Lok) (mfault_ev a0 a1 a2 a3) (needs_cons n0 (needs_cons n1 needs_nil))
abbrev und_l0_X : Type := (List Int) × Int × Int × TVec
def und_l0_T (x : und_l0_X) : St := ⟨25, 1, [(4, .own 0 0), (12, .sl .i64 x.1), (13, .v (.int .i64 x.2.1)), (14, .v (.int .i64 x.2.2.1))], [(0, some (.box 44 [.v (.int .i64 x.2.2.2.a), .v (.int .i64 x.2.2.2.b)]))]⟩
def und_l0_un : St → Option und_l0_X
 | ⟨25, 1, [(4, .own 0 0), (12, .sl .i64 z0), (13, .v (.int .i64 z1)), (14, .v (.int .i64 z2))], [(0, some (.box 44 [.v (.int .i64 z3), .v (.int .i64 z4)]))]⟩ => some (z0, z1, z2, ⟨z3, z4⟩)
 | _ => none
theorem und_l0_unok : ∀ s x, und_l0_un s = some x → s = und_l0_T x := fun s x h => by
 unfold und_l0_un at h
 split at h
 ·cases h; rfl
 ·cases h
def und_l0_S : Shape := ⟨1, 1, [4, 12, 13, 14], [], [(0, 0)], [0], [3], [0]⟩
def und_l0_E : Entry := ⟨[], [(0, 0)], [4, 12, 13, 14], [0]⟩
def und_l0_f_k0 (a0 : List Int) (a1 : Int) (a2 : Int) (a3 : TVec) : Bool := !!decide (a2 < a1) && (bif a2.toNat.beq (0 : Nat) then a3.1 else a3.2) != a0.getD a2.toNat (dflt TC.i64)
def und_l0_f_4 (a0 : List Int) (a1 : Int) (a2 : Int) (a3 : TVec) : Bool := !!decide (a2 < a1) && !(und_l0_f_k0 a0 a1 a2 a3)
def und_l0_next (x : und_l0_X) : und_l0_X := (x.1, x.2.1, IntKind.i64.wrap (x.2.2.1 + (1 : Int)), x.2.2.2)
def und_l0_goes (x : und_l0_X) : Cnd := some (und_l0_f_4 x.1 x.2.1 x.2.2.1 x.2.2.2)
def und_l0_psA (x : und_l0_X) : List Prop := [((!!decide (x.2.2.1 < x.2.1)) = true → (0 : Int) ≤ x.2.2.1 ∧ x.2.2.1 < (↑x.1.length : Int)), ((!!decide (x.2.2.1 < x.2.1)) = true → (0 : Int) ≤ x.2.2.1 ∧ x.2.2.1 < (2 : Int)), ((!!decide (x.2.2.1 < x.2.1)) = true → x.2.2.1.toNat < (2 : Nat))]
def und_l0_ps (x : und_l0_X) : List Prop := [((!!decide (x.2.2.1 < x.2.1)) = true → (0 : Int) ≤ x.2.2.1 ∧ x.2.2.1 < (↑x.1.length : Int)), ((!!decide (x.2.2.1 < x.2.1)) = true → (0 : Int) ≤ x.2.2.1 ∧ x.2.2.1 < (2 : Int))]
def und_l0_outs (x : und_l0_X) : Outs := [(some 0, some (!decide (x.2.2.1 < x.2.1)), ⟨25, 1, [(3, .dead)], [(0, some (.box 44 [.v (.int .i64 x.2.2.2.1), .v (.int .i64 x.2.2.2.2)]))]⟩), (none, some ((und_l0_f_k0 x.1 x.2.1 x.2.2.1 x.2.2.2)), ⟨25, 1, [(3, .v (.bool (false)))], [(0, some (.box 44 [.v (.int .i64 x.2.2.2.1), .v (.int .i64 x.2.2.2.2)]))]⟩)]
def und_l0_fuel (x : und_l0_X) : Nat := (x.2.1 - x.2.2.1).toNat
def und_l0_run (x : und_l0_X) : und_l0_X := iterX und_l0_next und_l0_goes (und_l0_fuel x) x
theorem und_l0_ev (a0 : List Int) (a1 : Int) (a2 : Int) (a3 : TVec) : roundE (envT Cmk7_1 L0) 9 (loopAt Tryd.prog 21 0) und_l0_S (und_l0_T (a0, a1, a2, a3)) = some (und_l0_psA (a0, a1, a2, a3), und_l0_outs (a0, a1, a2, a3), und_l0_goes (a0, a1, a2, a3), und_l0_T (und_l0_next (a0, a1, a2, a3))) := by kernel_rfl
theorem und_l0_hA (a0 : List Int) (a1 : Int) (a2 : Int) (a3 : TVec) (hp : ∀ p ∈ und_l0_ps (a0, a1, a2, a3), p) : ∀ p ∈ und_l0_psA (a0, a1, a2, a3), p := by
 have n0 := N0 hp
 have n1 : ((!!decide (a2 < a1)) = true → (0 : Int) ≤ a2 ∧ a2 < (2 : Int)) := N0 (N1 hp)
 have n2 : ((!!decide (a2 < a1)) = true → a2.toNat < (2 : Nat)) := by intro h0; have g := n1 h0; omega
 exact (needs_cons n0 (needs_cons n1 (needs_cons n2 needs_nil)))
noncomputable def und_l0_row := rowL (envT Cmk7_1 L0) (loopAt Tryd.prog 21 0) und_l0_S und_l0_E und_l0_un und_l0_fuel und_l0_next und_l0_goes und_l0_ps und_l0_outs
theorem und_l0_rok : ∀ s b ps outs, und_l0_row s = some (b, ps, outs) → Wf s ⟨ps, outs, none⟩ ∧ LoopOk (envT C0 L0) b s ps outs :=
 rowP_ok (T := und_l0_T) Cmk7_1_ok L0_ok (u := 9) (by kernel_rfl) (by decide) (fun ⟨a0, a1, a2, a3⟩ => und_l0_ev a0 a1 a2 a3) (fun ⟨a0, a1, a2, a3⟩ => und_l0_hA a0 a1 a2 a3) und_l0_unok (fun _ => okOuts_ok (n := 25) rfl) fun _ _ => rfl
noncomputable def und_l0_L := addLp 0 und_l0_row L0
theorem und_l0_Lok : LpOk und_l0_L := addLp_ok und_l0_rok L0_ok
def und_k0 (a0 : Int) (a1 : List Int) : und_l0_X := und_l0_run (a1, (↑a1.length : Int), (0 : Int), TVec.mk (IntKind.i64.wrap (a0.tdiv (16 : Int))) (a0.tmod (16 : Int)))
def und_0 (a0 : Int) (a1 : List Int) : Bool := bif und_l0_f_k0 (und_k0 a0 a1).fst (und_k0 a0 a1).snd.fst (und_k0 a0 a1).snd.snd.fst (und_k0 a0 a1).snd.snd.snd then false else true
def und_r (a0 : Int) (a1 : List Int) : A := .v (.bool (und_0 a0 a1))
def und_o (_a0 : Int) (_a1 : List Int) : Objs := []
def und_ps (a0 : Int) (a1 : List Int) : List Prop := [(needX und_l0_next und_l0_goes und_l0_ps (und_l0_fuel (a1, (↑a1.length : Int), (0 : Int), TVec.mk (IntKind.i64.wrap (a0.tdiv (16 : Int))) (a0.tmod (16 : Int)))) (a1, (↑a1.length : Int), (0 : Int), TVec.mk (IntKind.i64.wrap (a0.tdiv (16 : Int))) (a0.tmod (16 : Int))))]
theorem und_ev (a0 : Int) (a1 : List Int) : evF (envT Cmk7_1 und_l0_L) 9 21 [.v (.int .i64 a0), .ref [.sl .i64 a1]] 0 [] = some (1, und_r a0 a1, 0, und_o a0 a1, [(loopAt Tryd.prog (21 : FuncId) (0 : Nat) = loopAt Tryd.prog (21 : FuncId) (0 : Nat)), (needX und_l0_next und_l0_goes und_l0_ps (und_l0_fuel (a1, (↑a1.length : Int), (0 : Int), TVec.mk (IntKind.i64.wrap (a0.tdiv (16 : Int))) (a0.tmod (16 : Int)))) (a1, (↑a1.length : Int), (0 : Int), TVec.mk (IntKind.i64.wrap (a0.tdiv (16 : Int))) (a0.tmod (16 : Int))))]) := by kernel_rfl
theorem und_c (a0 : Int) (a1 : List Int) (hp : ∀ p ∈ und_ps a0 a1, p) : CallOk Tryd.prog 21 [.v (.int .i64 a0), .ref [.sl .i64 a1]] 0 [] 1 (und_r a0 a1) 0 (und_o a0 a1) := by
 have n1 := N0 hp
 exact evF_ok (envP_ok Cmk7_1_ok und_l0_Lok) (und_ev a0 a1) (needs_cons rfl (needs_cons n1 needs_nil))
noncomputable def Cmk7 := Cmk7_1
theorem Cmk7_ok : COk Tryd.prog Cmk7 := Cmk7_1_ok
end Go.Proofs.YtkknpeeccejppaaDoor
namespace Go.Proofs.YtkknpeeccejppaaDoor
open Go.RowKit
theorem deep_sl {F F2 : Nat → Prop} {N : Nm} {nx : Nat} {R : World} {i : Nat} {e : TypeId} {c : TC} {l : List (U c)} (hob : ObR F N nx R i (.deep e c l)) (hF : ∀ g, F g → F2 g) (hf : ∀ g, foot N i (.deep e c l) g → F2 g) : Hv F2 N nx R (.sl c l) (fam (N.q i) 0) := by
 obtain ⟨col, c', zs, h1, h2, h3, h4, h5⟩ := hob
 have hw : Ext F N nx R F2 N nx R := Ext.wide hF
 have hin : ∀ k, k < l.length → ∃ l' : List (U c'), (enc c (l.getD k (dflt c)))[col]? = some (.sl c' l') ∧ Hv F2 N nx R (.sl c' l') (fam (N.q i) (k + 1)) := fun k hk => by
  obtain ⟨l', e', us, k1, k2, k3⟩ := h4 k _ (getD_some hk)
  exact ⟨l', k1, (sl_of_own k2 (fun j hj => (k3 j hj).step hw) (fun g hg => hf g ⟨k + 1, by omega, hg⟩)).1⟩
 have hel : ∀ k, k < l.length → HL F2 N nx R (enc c (l.getD k (dflt c))) ((zs.drop (k * size c)).take (size c)) := fun k hk => by
  obtain ⟨l', k1, k2⟩ := hin k hk
  have hk3 := (h3 k (l.getD k (dflt c)) (getD_some hk)).step hw
  have go : ∀ (cs : List A) (vs : List Value), (∀ (p : Nat) (c2 : TC) (l2 : List (U c2)), cs[p]? = some (.sl c2 l2) → Hv F2 N nx R (.sl c2 l2) (fam (N.q i) (k + 1))) → HL F2 N nx R (encI i k cs) vs → HL F2 N nx R cs vs := fun cs => by
   induction cs with
   | nil => intro vs _ hh; rw [hh.inv0]; exact HL.nil
   | cons x r ih =>
    intro vs hc hh
    cases x
    case sl c2 l2 =>
     obtain ⟨w, ws, rfl, w1, w2⟩ := hh.inv
     rw [w1.iv_inv.2]
     exact HL.cons (hc 0 c2 l2 rfl) (ih ws (fun p c3 l3 hp => hc (p + 1) c3 l3 hp) w2)
    all_goals
     obtain ⟨w, ws, rfl, w1, w2⟩ := hh.inv
     exact HL.cons w1 (ih ws (fun p c3 l3 hp => hc (p + 1) c3 l3 hp) w2)
  refine go _ _ (fun p c2 l2 hp => ?_) hk3
  obtain rfl := colOf_only h1 _ p c2 l2 hp
  rw [k1] at hp
  cases hp
  exact k2
 exact (sl_of_own h2 hel (fun g hg => hf g ⟨0, by omega, hg⟩)).1
theorem callOk_rec2 {P : Program} {f : FuncId} {args : List A} {k m : Nat} {v : Value} {os : Objs} {te t2 : TypeId} {c1 c2 : TC} {gl : List (U c1)} {rows : List (U c2)} {rest : List A} (h : CallOk P f args 0 [] k (.tup [.own 0 0, .v v]) m os)
  (h0 : lookO 0 os = some (.rcd te (.sl c1 gl :: .dq 1 :: rest))) (h2 : lookO 1 os = some (.deep t2 c2 rows)) : CallOk P f args 0 [] k (.tup [.ref [.sl c1 gl, .sl c2 rows], .v v]) 0 [] := fun F N R vs hh ha =>
 Calls.mono (P := P) (h F N R vs hh ha) fun e0 R' ⟨y, F', N', e1, e2, e3, e4, e5⟩ => by
  let F2 : Nat → Prop := fun g => F' g ∨ Foot N' os g
  obtain ⟨_, o0⟩ := e2.ob 0 _ h0
  obtain ⟨_, o2⟩ := e2.ob 1 _ h2
  have hF : ∀ g, F' g → F2 g := fun g hg => .inl hg
  have hw : Ext F' N' m R' F2 N' m R' := Ext.wide hF
  have s2 : Hv F2 N' m R' (.sl c2 rows) (fam (N'.q 1) 0) := deep_sl o2 hF fun g hg => .inr ⟨1, _, h2, hg⟩
  obtain ⟨us, u1, u2⟩ := o0
  obtain ⟨v1, t1, rfl, a1, a2, u3⟩ := u1
  obtain ⟨v2, t2, rfl, b1, b2, u4⟩ := u3
  have s1 : Hv F2 N' m R' (.sl c1 gl) v1 := a1.step hw
  obtain ⟨_, rfl⟩ := b1.dq_inv
  rw [one_cells (a2 rfl), one_cells (b2 rfl)] at u2
  obtain ⟨ws, rfl, w1⟩ := e4.tup_inv
  obtain ⟨x1, y1, rfl, w2, w3⟩ := w1.inv
  obtain ⟨x2, y2, rfl, w4, w5⟩ := w3.inv
  obtain rfl := w5.inv0
  obtain ⟨_, rfl⟩ := w2.own_inv
  obtain rfl := w4.v_inv
  have hr : Hv F2 N' m R' (.ref [.sl c1 gl, .sl c2 rows]) (.pointer (some ⟨N'.b 0, 0, none⟩)) := by
   refine .ref ⟨N'.b 0, 0, none⟩ (.inr ⟨0, _, h0, rfl⟩) (fun j x hx => ?_) fun j x y hx hy => ?_
   ·rw [add_mk, blk_cell u2]
    match j, hx with
    | 0, _ => exact ⟨_, rfl⟩
    | 1, _ => exact ⟨_, rfl⟩
   ·rw [add_mk, blk_cell u2] at hy
    match j, hx, hy with
    | 0, hx, hy => cases hx; cases hy; exact s1
    | 1, hx, hy => cases hx; cases hy; exact s2
  have hn : ∀ i j, i < m → (fun _ => none : Nat → Option Nat) i = some j → j < 0 ∧ N'.b j = N'.b i ∧ N'.q j = N'.q i := fun i j _ hj => by cases hj
  have q1 : Hv F2 N' m R' (.tup [.ref [.sl c1 gl, .sl c2 rows], .v x2]) (.tuple [.pointer (some ⟨N'.b 0, 0, none⟩), x2].toArray) := .tup [_, _] rfl fun j x w hx hw => by
   match j, hx, hw with
   | 0, hx, hw => cases hx; cases hw; exact hr
   | 1, hx, hw => cases hx; cases hw; exact .v _
  have q2 := Hv.pk (N' := N') (nx' := 0) (ρ := fun _ => none) hn q1
  refine ⟨_, F2, N', e1, ⟨fun g hg => ?_, fun i ob hi => (by cases hi), fun i ob g hi => (by cases hi), fun i j x y g hi => (by cases hi), fun x hx => ⟨.inl (e2.gl x hx).1, (e2.gl x hx).2⟩⟩, ⟨Nat.le_refl _, fun i hi => absurd hi (Nat.not_lt_zero _), fun i hi => absurd hi (Nat.not_lt_zero _), fun g hg => .inl (e3.f g hg), fun g hg => ?_, fun g ⟨i, ob, hi, _⟩ => (by cases hi), e3.os, e3.tape, e3.output, e3.size, e3.keep⟩, q2, e5⟩
  ·rcases hg with hg | ⟨i, ob, hi, hg⟩
   ·exact e2.flt g hg
   ·exact (e2.ob i ob hi).2.lt hg
  ·rcases hg with hg | hg
   ·exact e3.fnew g hg
   ·rcases e3.foot g hg with h | h
    ·exact .inr (.inl h)
    ·exact .inr (.inr h)
end Go.Proofs.YtkknpeeccejppaaDoor
namespace Go.Proofs.YtkknpeeccejppaaDoor
open Go.RowKit
section
variable {F : Nat → Prop} {N : Nm} {nx : Nat} {R : World} {o : Objs}
end
theorem callOk_lend {P : Program} {f : FuncId} {args args' : List A} {k nx1 nx : Nat} {b : Value} {o o1 : Objs} (h : CallOk P f args' nx [] k (.v b) nx1 o1) (hk : k ≤ 1)
  (ha : ∀ (F : Nat → Prop) (N : Nm) (R : World) (vs : List Value), HRel F N nx o R → HL F N nx R args vs → HL (fun g => F g ∨ Foot N o g) N nx R args' vs) : CallOk P f args nx o 1 (.v b) nx o := fun F N R vs hh hl => by
 have hh1 : HRel (fun g => F g ∨ Foot N o g) N nx [] R := ⟨fun g hg => by
   rcases hg with h | ⟨i, ob, hi, hg⟩
   ·exact hh.flt g h
   ·exact (hh.ob i ob hi).2.lt hg, fun i ob hi => (by cases hi), fun i ob g hi => (by cases hi), fun i j x y g hi => (by cases hi), fun x hx => ⟨.inl (hh.gl x hx).1, (hh.gl x hx).2⟩⟩
 refine (h _ N R vs hh1 (ha F N R vs hh hl)).mono fun e R' ⟨y, F', N', e1, _, _, e4, e5⟩ => ?_
 have hb := e5 hk
 exact ⟨y, F, N, e1, (hh.grow hb).1, Step.of_below hb, by rw [e4.v_inv]; exact .v _, fun _ => hb⟩
theorem box_ref {F : Nat → Prop} {N : Nm} {nx : Nat} {R : World} {o : Objs} (hh : HRel F N nx o R) {i : Nat} {e : TypeId} {cs : List A} (hi : lookO i o = some (.box e cs)) {v : Value} (hv : Hv F N nx R (.own i 0) v) : Hv (fun g => F g ∨ Foot N o g) N nx R (.ref cs) v := by
 obtain ⟨_, vs, g1, g2⟩ := hh.ob i _ hi
 obtain ⟨_, rfl⟩ := hv.own_inv
 have hl := (g1.step (Ext.wide (F' := fun g => F g ∨ Foot N o g) fun g hg => .inl hg))
 refine .ref ⟨N.b i, 0, none⟩ (.inr ⟨i, _, hi, rfl⟩) (fun j x hx => ?_) fun j x y hx hy => ?_
 ·rw [add_mk, blk_cell g2]
  have := g1.length
  have hj : j < cs.length := by
   rcases Nat.lt_or_ge j cs.length with h | h
   ·exact h
   ·rw [List.getElem?_eq_none h] at hx; cases hx
  exact ⟨vs[j]'(by omega), by rw [List.getElem?_toArray, Nat.zero_add, List.getElem?_eq_getElem (by omega)]⟩
 ·rw [add_mk, blk_cell g2, List.getElem?_toArray, Nat.zero_add] at hy
  exact hl.at.2 j x y hx hy
end Go.Proofs.YtkknpeeccejppaaDoor
namespace Go.Proofs.YtkknpeeccejppaaDoor
open Go.RowKit
def badN (n : Int) : Bool := decide (n < 0) || decide (n ≥ 16)
def faultE (l : List TGroup) (path : List Int) (most : Int) : Int := bif (l.length : Int) == 0 then 1 else bif path.any badN then 240 else bif decide ((path.length : Int) > most) then 240 else 0
theorem mfault_eq (l : List TGroup) (rows : List TRow) (path : List Int) (most : Int) (hp : wideN path.length) : (∀ p ∈ mfault_ps l rows path most, p) ∧ mfault_0 l rows path most = faultE l path most := by
 unfold wideN at hp
 have hf : ∀ i : Nat, mfault_l0_f_k0 path (path.length : Int) (i : Int) = (decide (i < path.length) && badN (path.getD i 0)) := fun i => by
  unfold mfault_l0_f_k0
  rw [nn, dlt, Int.toNat_natCast]
  rfl
 obtain ⟨h1, k, hk, hx, hs, hst, hb⟩ := scanB (fun i => ((path, (path.length : Int), (i : Int)) : mfault_l0_X)) path.length (fun i => badN (path.getD i 0)) mfault_l0_next mfault_l0_goes mfault_l0_ps (mfault_l0_fuel (path, (path.length : Int), 0)) (path, (path.length : Int), 0) rfl (by show path.length ≤ ((path.length : Int) - 0).toNat; omega)
  (fun i _ _ => by
   show mfault_l0_f_3 path (path.length : Int) (i : Int) = _
   unfold mfault_l0_f_3
   rw [hf, nn, dlt]
   cases decide (i < path.length) <;> rfl)
  (fun i hi _ => by
   show (path, (path.length : Int), IntKind.i64.wrap ((i : Int) + 1)) = _
   rw [wsucc (by omega)])
  (fun i hi _ => by
   refine needs_cons (fun h => ?_) needs_nil
   rw [nn, dlt] at h
   have := of_decide_eq_true h
   show (0 : Int) ≤ (i : Int) ∧ (i : Int) < (path.length : Int)
   omega)
 refine ⟨needs_cons (fun _ => h1) needs_nil, ?_⟩
 have hr : mfault_k0 l rows path most = (path, (path.length : Int), (k : Int)) := hx
 have hany : (decide (k < path.length) && badN (path.getD k 0)) = path.any badN := by
  rw [hb]
  unfold allN
  rw [Bool.eq_iff_iff, Bool.not_eq_true', List.any_eq_true, Bool.eq_false_iff, Ne, List.all_eq_true]
  constructor
  ·intro h
   refine Classical.byContradiction fun hn => h fun i hi => ?_
   cases hbi : badN (path.getD i 0) with
   | false => rfl
   | true =>
    have hi' := List.mem_range.1 hi
    exact absurd ⟨path.getD i 0, by rw [List.getD_eq_getElem?_getD, List.getElem?_eq_getElem hi']; exact List.getElem_mem hi', hbi⟩ hn
  ·rintro ⟨x, hx, hbx⟩ h
   obtain ⟨i, hi, rfl⟩ := List.mem_iff_getElem.1 hx
   have := h i (List.mem_range.2 hi)
   rw [List.getD_eq_getElem?_getD, List.getElem?_eq_getElem hi] at this
   rw [show ((some path[i]).getD 0) = path[i] from rfl, hbx] at this
   cases this
 unfold mfault_0 faultE mfault_k1
 rw [hr]
 show (bif _ then 1 else bif mfault_l0_f_k0 path (path.length : Int) (k : Int) then 240 else _) = _
 rw [hf, hany]
def undP (n : Int) (path : List Int) : Bool := match path with
 | [] => true
 | [p] => n.tdiv 16 == p
 | p :: q :: _ => n.tdiv 16 == p && n.tmod 16 == q
theorem und_eq (n : Int) (path : List Int) (hn : 0 ≤ n ∧ n < 256) (hp : path.length ≤ 2) : (∀ p ∈ und_ps n path, p) ∧ und_0 n path = undP n path := by
 have hw : IntKind.i64.wrap (n.tdiv 16) = n.tdiv 16 := by
  rw [Int.tdiv_eq_ediv_of_nonneg hn.1]
  exact i64_in (by omega)
 have hf : ∀ i : Nat, und_l0_f_k0 path (path.length : Int) (i : Int) ⟨n.tdiv 16, n.tmod 16⟩ = (decide (i < path.length) && (bif i.beq 0 then n.tdiv 16 else n.tmod 16) != path.getD i 0) := fun i => by
  unfold und_l0_f_k0
  rw [nn, dlt, Int.toNat_natCast]
  rfl
 obtain ⟨h1, k, hk, hx, hs, hst, hb⟩ := scanB (fun i => ((path, (path.length : Int), (i : Int), ⟨n.tdiv 16, n.tmod 16⟩) : und_l0_X)) path.length (fun i => (bif i.beq 0 then n.tdiv 16 else n.tmod 16) != path.getD i 0) und_l0_next und_l0_goes und_l0_ps (und_l0_fuel (path, (path.length : Int), 0, ⟨n.tdiv 16, n.tmod 16⟩)) (path, (path.length : Int), 0, ⟨n.tdiv 16, n.tmod 16⟩) rfl (by show path.length ≤ ((path.length : Int) - 0).toNat; omega)
  (fun i _ _ => by
   show und_l0_f_4 path (path.length : Int) (i : Int) ⟨n.tdiv 16, n.tmod 16⟩ = _
   unfold und_l0_f_4
   rw [hf, nn, dlt]
   cases decide (i < path.length) <;> rfl)
  (fun i hi _ => by
   show (path, (path.length : Int), IntKind.i64.wrap ((i : Int) + 1), (⟨n.tdiv 16, n.tmod 16⟩ : TVec)) = _
   rw [wsucc (by omega)])
  (fun i hi _ => by
   refine needs_cons (fun h => ?_) (needs_cons (fun h => ?_) needs_nil)
   all_goals
    rw [nn, dlt] at h
    have := of_decide_eq_true h
   ·show (0 : Int) ≤ (i : Int) ∧ (i : Int) < (path.length : Int)
    omega
   ·show (0 : Int) ≤ (i : Int) ∧ (i : Int) < 2
    omega)
 have hr : und_k0 n path = (path, (path.length : Int), (k : Int), ⟨n.tdiv 16, n.tmod 16⟩) := by
  unfold und_k0
  rw [hw]
  exact hx
 refine ⟨needs_cons (by rw [hw]; exact h1) needs_nil, ?_⟩
 unfold und_0
 rw [hr]
 show (bif und_l0_f_k0 path (path.length : Int) (k : Int) ⟨n.tdiv 16, n.tmod 16⟩ then false else true) = _
 rw [hf, hb]
 have e : ∀ b : Bool, (bif !b then false else true) = b := fun b => by cases b <;> rfl
 rw [e]
 match path, hp with
 | [], _ => rfl
 | [p], _ =>
  show ([0].all fun i => !((bif i.beq 0 then n.tdiv 16 else n.tmod 16) != [p].getD i 0)) = (n.tdiv 16 == p)
  show ((!(n.tdiv 16 != p)) && true) = _
  rw [Bool.and_true]
  show (!(!(n.tdiv 16 == p))) = _
  rw [Bool.not_not]
 | [p, q], _ =>
  show ((!(!(n.tdiv 16 == p))) && ((!(!(n.tmod 16 == q))) && true)) = (n.tdiv 16 == p && n.tmod 16 == q)
  rw [Bool.not_not, Bool.not_not, Bool.and_true]
 | _ :: _ :: _ :: _, h => simp at h
def faultR (l : List TGroup) (path : List Int) (most : Int) : Prop := faultE l path most = 0 ∧ wideN path.length
def faultA_t : List A → Nat → Objs → Option CRes
 | [.ref [.sl .group l, .sl .row _], .sl .i64 path, .v (.int .i64 most)], nx, o => some (1, .v (.int .i64 0), nx, o, [faultR l path most])
 | _, _, _ => none
theorem faultA_tok : TOk Tryd.prog 20 faultA_t := fun args nx o k x nx' o' ps h => by
 unfold faultA_t at h
 split at h <;> first | (cases h; done) | skip
 rename_i l rows path most
 cases h
 refine ⟨fun hp => ?_, [], rfl⟩
 obtain ⟨h1, h2⟩ := N0 hp
 obtain ⟨g1, g2⟩ := mfault_eq l rows path most h2
 have h3 := mfault_c l rows path most g1
 unfold mfault_r mfault_o at h3
 rw [g2, h1] at h3
 exact callOk_vfr h3 rfl nx o
def undA_t : List A → Nat → Objs → Option CRes
 | [.v (.int .i64 n), .own b 0], nx, o => match lookO b o with
  | some (.box _ [.sl .i64 path]) => some (1, .v (.bool (undP n path)), nx, o, [(0 ≤ n ∧ n < 256) ∧ path.length ≤ 2])
  | _ => none
 | _, _, _ => none
theorem undA_tok : TOk Tryd.prog 21 undA_t := fun args nx o k x nx' o' ps h => by
 unfold undA_t at h
 split at h <;> first | (cases h; done) | skip
 rename_i n b
 split at h <;> first | (cases h; done) | skip
 rename_i e path hb
 cases h
 refine ⟨fun hp => ?_, [], rfl⟩
 obtain ⟨h1, h2⟩ := N0 hp
 obtain ⟨g1, g2⟩ := und_eq n path h1 h2
 have h3 := und_c n path g1
 unfold und_r und_o at h3
 rw [g2] at h3
 refine callOk_lend (callOk_shift h3 (Nat.le_refl _) rfl nx []) (Nat.le_refl _) fun F N R vs hh hl => ?_
 obtain ⟨v1, w1, rfl, a1, a2⟩ := hl.inv
 obtain ⟨v2, w2, rfl, a3, a4⟩ := a2.inv
 obtain rfl := a4.inv0
 exact HL.cons (a1.step (Ext.wide fun g hg => .inl hg)) (HL.cons (box_ref hh hb a3) HL.nil)
end Go.Proofs.YtkknpeeccejppaaDoor
namespace Go.Proofs.YtkknpeeccejppaaDoor
open Go.RowKit
noncomputable def Cmk8_1 := addC 20 faultA_t Cmk7
theorem Cmk8_1_ok : COk Tryd.prog Cmk8_1 := addC_ok faultA_tok Cmk7_ok
noncomputable def Cmk8_2 := addC 21 undA_t Cmk8_1
theorem Cmk8_2_ok : COk Tryd.prog Cmk8_2 := addC_ok undA_tok Cmk8_1_ok
abbrev mrows_l0_X : Type := (List TRow) × Int × Int × (List Int) × (List TRow)
def mrows_l0_T (x : mrows_l0_X) : St := ⟨38, 3, [(4, .dq 2), (7, .fn 21 [] [.own 0 0]), (20, .sl .row x.1), (21, .v (.int .i64 x.2.1)), (22, .v (.int .i64 x.2.2.1))], [(0, some (.box 24 [.sl .i64 x.2.2.2.1])), (2, some (.deep 38 .row x.2.2.2.2))]⟩
def mrows_l0_un : St → Option mrows_l0_X
 | ⟨38, 3, [(4, .dq 2), (7, .fn 21 [] [.own 0 0]), (20, .sl .row z0), (21, .v (.int .i64 z1)), (22, .v (.int .i64 z2))], [(0, some (.box 24 [.sl .i64 z3])), (2, some (.deep 38 .row z4))]⟩ => some (z0, z1, z2, z3, z4)
 | _ => none
theorem mrows_l0_unok : ∀ s x, mrows_l0_un s = some x → s = mrows_l0_T x := fun s x h => by
 unfold mrows_l0_un at h
 split at h
 ·cases h; rfl
 ·cases h
def mrows_l0_S : Shape := ⟨2, 3, [4, 7, 20, 21, 22], [], [(0, 0), (7, 2)], [0, 7], [4], [2, 0]⟩
def mrows_l0_E : Entry := ⟨[.nilD 4 38 .row], [(0, 0), (1, 2)], [4, 7, 20, 21, 22], [0, 1]⟩
def mrows_l0_f_4 (a0 : List TRow) (_a1 : Int) (a2 : Int) (a3 : List Int) (a4 : List TRow) : List TRow := bif undP (firstN (a0.getD a2.toNat (dflt TC.row)).1.data.toList) a3 then a4 ++ [setI TC.row TC.cell (TRow.mk (a0.getD a2.toNat (dflt TC.row)).1 []) ([] ++ (a0.getD a2.toNat (dflt TC.row)).2)] else a4
def mrows_l0_next (x : mrows_l0_X) : mrows_l0_X := (x.1, x.2.1, IntKind.i64.wrap (x.2.2.1 + (1 : Int)), x.2.2.2.1, mrows_l0_f_4 x.1 x.2.1 x.2.2.1 x.2.2.2.1 x.2.2.2.2)
def mrows_l0_goes (x : mrows_l0_X) : Cnd := some (!!decide (x.2.2.1 < x.2.1))
def mrows_l0_psA (x : mrows_l0_X) : List Prop := [((!!decide (x.2.2.1 < x.2.1)) = true → (0 : Int) ≤ x.2.2.1 ∧ x.2.2.1 < (↑x.1.length : Int)), ((!!decide (x.2.2.1 < x.2.1)) = true → (x.1.getD x.2.2.1.toNat (dflt TC.row)).1.data.toList.length ≤ (137438953472 : Nat)), ((!!decide (x.2.2.1 < x.2.1)) = true → ((0 : Int) ≤ firstN (x.1.getD x.2.2.1.toNat (dflt TC.row)).1.data.toList ∧ firstN (x.1.getD x.2.2.1.toNat (dflt TC.row)).1.data.toList < (256 : Int)) ∧ x.2.2.2.1.length ≤ (2 : Nat)), ((!!decide (x.2.2.1 < x.2.1)) = true → undP (firstN (x.1.getD x.2.2.1.toNat (dflt TC.row)).1.data.toList) x.2.2.2.1 = true → boundP ((0 : Nat) + (x.1.getD x.2.2.1.toNat (dflt TC.row)).2.length)), ((!!decide (x.2.2.1 < x.2.1)) = true → undP (firstN (x.1.getD x.2.2.1.toNat (dflt TC.row)).1.data.toList) x.2.2.2.1 = true → boundP (x.2.2.2.2.length + (1 : Nat)))]
abbrev mrows_l0_ps : mrows_l0_X → List Prop := mrows_l0_psA
def mrows_l0_outs (x : mrows_l0_X) : Outs := [(some 0, some (!decide (x.2.2.1 < x.2.1)), ⟨38, 3, [(4, .dq 2)], [(2, some (.deep 38 .row x.2.2.2.2)), (0, some (.box 24 [.sl .i64 x.2.2.2.1]))]⟩)]
def mrows_l0_fuel (x : mrows_l0_X) : Nat := (x.2.1 - x.2.2.1).toNat
def mrows_l0_run (x : mrows_l0_X) : mrows_l0_X := iterX mrows_l0_next mrows_l0_goes (mrows_l0_fuel x) x
theorem mrows_l0_ev (a0 : List TRow) (a1 : Int) (a2 : Int) (a3 : List Int) (a4 : List TRow) : roundE (envT Cmk8_2 L0) 9 (loopAt Tryd.prog 11 0) mrows_l0_S (mrows_l0_T (a0, a1, a2, a3, a4)) = some (mrows_l0_psA (a0, a1, a2, a3, a4), mrows_l0_outs (a0, a1, a2, a3, a4), mrows_l0_goes (a0, a1, a2, a3, a4), mrows_l0_T (mrows_l0_next (a0, a1, a2, a3, a4))) := by kernel_rfl
theorem mrows_l0_hA (a0 : List TRow) (a1 : Int) (a2 : Int) (a3 : List Int) (a4 : List TRow) (hp : ∀ p ∈ mrows_l0_ps (a0, a1, a2, a3, a4), p) : ∀ p ∈ mrows_l0_psA (a0, a1, a2, a3, a4), p := hp
noncomputable def mrows_l0_row := rowL (envT Cmk8_2 L0) (loopAt Tryd.prog 11 0) mrows_l0_S mrows_l0_E mrows_l0_un mrows_l0_fuel mrows_l0_next mrows_l0_goes mrows_l0_ps mrows_l0_outs
theorem mrows_l0_rok : ∀ s b ps outs, mrows_l0_row s = some (b, ps, outs) → Wf s ⟨ps, outs, none⟩ ∧ LoopOk (envT C0 L0) b s ps outs :=
 rowP_ok (T := mrows_l0_T) Cmk8_2_ok L0_ok (u := 9) (by kernel_rfl) (by decide) (fun ⟨a0, a1, a2, a3, a4⟩ => mrows_l0_ev a0 a1 a2 a3 a4) (fun ⟨a0, a1, a2, a3, a4⟩ => mrows_l0_hA a0 a1 a2 a3 a4) mrows_l0_unok (fun _ => okOuts_ok (n := 38) rfl) fun _ _ => rfl
noncomputable def mrows_l0_L := addLp 0 mrows_l0_row L0
theorem mrows_l0_Lok : LpOk mrows_l0_L := addLp_ok mrows_l0_rok L0_ok
def mrows_0 (_a0 : List TGroup) (a1 : List TRow) (a2 : List Int) : List TRow := (mrows_l0_run (a1, (↑a1.length : Int), (0 : Int), a2, [])).snd.snd.snd.snd
def mrows_r (_a0 : List TGroup) (_a1 : List TRow) (_a2 : List Int) : A := .tup [.dq 0, .v (.int .i64 ((0 : Int)))]
def mrows_o (a0 : List TGroup) (a1 : List TRow) (a2 : List Int) : Objs := [(0, some (.deep 38 .row (mrows_0 a0 a1 a2)))]
def mrows_ps (a0 : List TGroup) (a1 : List TRow) (a2 : List Int) : List Prop := [(faultR a0 a2 (2 : Int)), (needX mrows_l0_next mrows_l0_goes mrows_l0_ps (mrows_l0_fuel (a1, (↑a1.length : Int), (0 : Int), a2, [])) (a1, (↑a1.length : Int), (0 : Int), a2, []))]
theorem mrows_ev (a0 : List TGroup) (a1 : List TRow) (a2 : List Int) : evF (envT Cmk8_2 mrows_l0_L) 1040 11 [.ref [.sl .group a0, .sl .row a1], .sl .i64 a2] 0 [] = some (1, mrows_r a0 a1 a2, 1, mrows_o a0 a1 a2, [(faultR a0 a2 (2 : Int)), (loopAt Tryd.prog (11 : FuncId) (0 : Nat) = loopAt Tryd.prog (11 : FuncId) (0 : Nat)), (needX mrows_l0_next mrows_l0_goes mrows_l0_ps (mrows_l0_fuel (a1, (↑a1.length : Int), (0 : Int), a2, [])) (a1, (↑a1.length : Int), (0 : Int), a2, []))]) := by kernel_rfl
theorem mrows_c (a0 : List TGroup) (a1 : List TRow) (a2 : List Int) (hp : ∀ p ∈ mrows_ps a0 a1 a2, p) : CallOk Tryd.prog 11 [.ref [.sl .group a0, .sl .row a1], .sl .i64 a2] 0 [] 1 (mrows_r a0 a1 a2) 1 (mrows_o a0 a1 a2) := by
 have n0 := N0 hp
 have n2 := N0 (N1 hp)
 exact evF_ok (envP_ok Cmk8_2_ok mrows_l0_Lok) (mrows_ev a0 a1 a2) (needs_cons n0 (needs_cons rfl (needs_cons n2 needs_nil)))
end Go.Proofs.YtkknpeeccejppaaDoor
namespace Go.Proofs.YtkknpeeccejppaaDoor
open Go.RowKit
theorem goodPs_nn : ∀ (seen : List ByteArray) (l : List TGroup), 0 ≤ goodPs seen l
 | _, [] => Int.le_refl _
 | seen, g :: r => by
  unfold goodPs
  cases !(nameB g.name && polB g.policy) with
  | true => exact (by decide : (0 : Int) ≤ 2)
  | false =>
   cases seen.any (fun s => s == g.name) with
   | true => exact (by decide : (0 : Int) ≤ 70)
   | false => exact goodPs_nn _ r
theorem goodP_nn (l : List TGroup) : 0 ≤ goodP l := by
 unfold goodP
 cases l.length == 0 with
 | true => exact (by decide : (0 : Int) ≤ 2)
 | false =>
  cases decide (4 < l.length) with
  | true => exact (by decide : (0 : Int) ≤ 3)
  | false => exact goodPs_nn _ l
theorem goodRow_nn (l : List TGroup) (r : TRow) : 0 ≤ goodRow l r := by
 unfold goodRow
 cases goodP l != 0 with
 | true => exact goodP_nn l
 | false =>
  cases r.key.size == 0 with
  | true => exact (by decide : (0 : Int) ≤ 2)
  | false =>
   cases decide (32 < r.key.size) with
   | true => exact (by decide : (0 : Int) ≤ 3)
   | false =>
    cases r.cells.length != l.length with
    | true => exact (by decide : (0 : Int) ≤ 100)
    | false =>
     cases (l.zip r.cells).all (fun x => goodC x.1.policy x.2) with
     | true => exact (by decide : (0 : Int) ≤ 0)
     | false => exact (by decide : (0 : Int) ≤ 80)
theorem errM_nn (l : List TGroup) (rows : List TRow) (i : Nat) : 0 ≤ errM l rows i := by
 unfold errM
 cases goodRow l (rowN rows i) != 0 with
 | true => exact goodRow_nn _ _
 | false =>
  cases bareR (rowN rows i) || leS (rowN rows i).key (lastN rows i) with
  | true => exact (by decide : (0 : Int) ≤ 100)
  | false => exact (by decide : (0 : Int) ≤ 0)
theorem goodMN_nn (l : List TGroup) (rows : List TRow) : ∀ n, 0 ≤ goodMN l rows n
 | 0 => Int.le_refl _
 | n + 1 => by
  unfold goodMN
  cases goodMN l rows n != 0 with
  | true => exact goodMN_nn l rows n
  | false => exact errM_nn l rows n
theorem goodM_nn (l : List TGroup) (rows : List TRow) : 0 ≤ goodM l rows := by
 unfold goodM
 cases goodP l != 0 with
 | true => exact goodP_nn l
 | false => exact goodMN_nn _ _ _
end Go.Proofs.YtkknpeeccejppaaDoor
namespace Go.Proofs.YtkknpeeccejppaaDoor
open Go.RowKit
theorem scanAll {X : Type} (mk : Nat → X) (n : Nat) (next : X → X) (goes : X → Cnd) (ps : X → List Prop) (f : Nat) (x : X) (hx : x = mk 0) (hf : n ≤ f)
  (hg : ∀ i, i ≤ n → cval (goes (mk i)) = decide (i < n)) (hn : ∀ i, i < n → next (mk i) = mk (i + 1)) (hp : ∀ i, i ≤ n → ∀ p ∈ ps (mk i), p) :
  needX next goes ps f x ∧ iterX next goes f x = mk n := by
 obtain ⟨h1, k, hk, hx, _, hst, _⟩ := scanB mk n (fun _ => false) next goes ps f x hx hf (fun i hi _ => by rw [hg i hi, Bool.not_false, Bool.and_true]) (fun i hi _ => hn i hi) (fun i hi _ => hp i hi)
 have hkn : k = n := by
  rcases Nat.lt_or_ge k n with h | h
  ·exact absurd (hst h) (by decide)
  ·omega
 subst hkn
 exact ⟨h1, hx⟩
theorem take_get {α : Type} (l : List α) (d : α) (i : Nat) (h : i < l.length) : l.take (i + 1) = l.take i ++ [l.getD i d] := by
 rw [List.take_add_one, List.getD_eq_getElem?_getD, List.getElem?_eq_getElem h]
 rfl
def newN (l : List TGroup) (rows : List TRow) : Prop := goodM l rows = 0 ∧ boundP l.length ∧ boundP rows.length ∧ ∀ r ∈ rows, boundP r.cells.length
theorem mnewA_run (rows : List TRow) (g : List TGroup) (i1 i2 i3 : Int) (v m r : List UInt8) (hb : boundP rows.length) (hc : ∀ r ∈ rows, boundP r.cells.length) :
  needX mnewA_l0_next mnewA_l0_goes mnewA_l0_ps (mnewA_l0_fuel (rows, (rows.length : Int), 0, g, i1, i2, i3, v, m, r, [])) (rows, (rows.length : Int), 0, g, i1, i2, i3, v, m, r, []) ∧
  mnewA_l0_run (rows, (rows.length : Int), 0, g, i1, i2, i3, v, m, r, []) = (rows, (rows.length : Int), (rows.length : Int), g, i1, i2, i3, v, m, r, rows) := by
 unfold boundP at hb
 obtain ⟨h1, hx⟩ := scanAll (fun i => ((rows, (rows.length : Int), (i : Int), g, i1, i2, i3, v, m, r, rows.take i) : mnewA_l0_X)) rows.length mnewA_l0_next mnewA_l0_goes mnewA_l0_ps (mnewA_l0_fuel (rows, (rows.length : Int), 0, g, i1, i2, i3, v, m, r, [])) (rows, (rows.length : Int), 0, g, i1, i2, i3, v, m, r, []) rfl (by show rows.length ≤ ((rows.length : Int) - 0).toNat; omega)
  (fun i _ => by
   show (!!decide ((i : Int) < (rows.length : Int))) = _
   rw [nn, dlt])
  (fun i hi => by
   have e := take_get rows (dflt TC.row) i hi
   have : mnewA_l0_next (rows, (rows.length : Int), (i : Int), g, i1, i2, i3, v, m, r, rows.take i) = (rows, (rows.length : Int), IntKind.i64.wrap ((i : Int) + 1), g, i1, i2, i3, v, m, r, rows.take i ++ [rows.getD ((i : Int)).toNat (dflt TC.row)]) := rfl
   rw [this, wsucc (by omega), Int.toNat_natCast, e])
  (fun i hi => by
   refine needs_cons (fun h => ?_) (needs_cons (fun h => ?_) (needs_cons (fun h => ?_) needs_nil))
   all_goals
    rw [nn, dlt] at h
    have hi' := of_decide_eq_true h
   ·show (0 : Int) ≤ (i : Int) ∧ (i : Int) < (rows.length : Int)
    omega
   ·show boundP (0 + (rows.getD ((i : Int)).toNat (dflt TC.row)).2.length)
    rw [Int.toNat_natCast, Nat.zero_add]
    exact hc _ (getD_in rows (dflt TC.row) i hi')
   ·show boundP ((rows.take i).length + 1)
    rw [List.length_take]
    unfold boundP
    omega)
 refine ⟨h1, ?_⟩
 have hr : mnewA_l0_run (rows, (rows.length : Int), 0, g, i1, i2, i3, v, m, r, []) = _ := hx
 rw [hr, List.take_length]
def newA_t : List A → Nat → Objs → Option CRes
 | [.sl .group l, .sl .row rows], nx, o => some (1, .tup [.ref [.sl .group l, .sl .row rows], .v (.int .i64 0)], nx, o, [newN l rows])
 | _, _, _ => none
theorem newA_tok : TOk Tryd.prog 10 newA_t := fun args nx o k x nx' o' ps h => by
 unfold newA_t at h
 split at h <;> first | (cases h; done) | skip
 rename_i l rows
 cases h
 refine ⟨fun hp => ?_, [], rfl⟩
 obtain ⟨h1, h2, h3, h4⟩ := N0 hp
 obtain ⟨g1, g2⟩ := mnewA_run rows ([] ++ l) 0 0 0 (List.replicate 8192 (dflt TC.u8)) (List.replicate 512 (dflt TC.u8)) (List.replicate 32 (dflt TC.u8)) h3 h4
 have hw : wideN rows.length := by unfold boundP at h3; unfold wideN; omega
 have hc := mnewA_c l rows (needs_cons h1 (needs_cons hw (needs_cons (by rw [Nat.zero_add]; exact h2) (needs_cons g1 needs_nil))))
 have e0 : mnewA_0 l rows = l := congrArg (fun x : mnewA_l0_X => x.2.2.2.1) g2
 have e7 : mnewA_7 l rows = rows := congrArg (fun x : mnewA_l0_X => x.2.2.2.2.2.2.2.2.2.2) g2
 unfold mnewA_r mnewA_o at hc
 rw [e0, e7] at hc
 have h5 := callOk_rec2 (c1 := .group) (c2 := .row) hc rfl rfl
 exact callOk_shift h5 (Nat.le_refl _) rfl nx o
def newB_t : List A → Nat → Objs → Option CRes
 | [.sl .group l, .sl .row rows], nx, o => some (1, .v (.tuple ⟨[.pointer none, .int .i64 (above (goodM l rows))]⟩), nx, o, [0 < goodM l rows ∧ wideN rows.length])
 | _, _, _ => none
theorem newB_tok : TOk Tryd.prog 10 newB_t := fun args nx o k x nx' o' ps h => by
 unfold newB_t at h
 split at h <;> first | (cases h; done) | skip
 rename_i l rows
 cases h
 refine ⟨fun hp => ?_, [], rfl⟩
 obtain ⟨h1, h2⟩ := N0 hp
 exact callOk_vfr (mnewB_c l rows (needs_cons h1 (needs_cons h2 needs_nil))) rfl nx o
def placeN (r : TRow) : Int := firstN r.key.data.toList
def undR (rows : List TRow) (path : List Int) : List TRow := rows.filter fun r => undP (placeN r) path
def rowsN (l : List TGroup) (rows : List TRow) (path : List Int) : Prop := (l ≠ [] ∧ path.any badN = false ∧ path.length ≤ 2) ∧ boundP rows.length ∧ (∀ r ∈ rows, boundP r.cells.length) ∧ ∀ r ∈ rows, r.key.size ≤ 137438953472
theorem mrows_eq (l : List TGroup) (rows : List TRow) (path : List Int) (h : rowsN l rows path) : (∀ p ∈ mrows_ps l rows path, p) ∧ mrows_0 l rows path = undR rows path := by
 obtain ⟨⟨h1, h2, h3⟩, hb, hc, hk⟩ := h
 have hb' := hb
 unfold boundP at hb'
 have fl : ∀ i : Nat, (undR (rows.take i) path).length ≤ i := fun i => Nat.le_trans (List.length_filter_le ..) (by rw [List.length_take]; omega)
 obtain ⟨g1, hx⟩ := scanAll (fun i => ((rows, (rows.length : Int), (i : Int), path, undR (rows.take i) path) : mrows_l0_X)) rows.length mrows_l0_next mrows_l0_goes mrows_l0_ps (mrows_l0_fuel (rows, (rows.length : Int), 0, path, [])) (rows, (rows.length : Int), 0, path, []) rfl (by show rows.length ≤ ((rows.length : Int) - 0).toNat; omega)
  (fun i _ => by
   show (!!decide ((i : Int) < (rows.length : Int))) = _
   rw [nn, dlt])
  (fun i hi => by
   have e := take_get rows (dflt TC.row) i hi
   have : mrows_l0_next (rows, (rows.length : Int), (i : Int), path, undR (rows.take i) path) = (rows, (rows.length : Int), IntKind.i64.wrap ((i : Int) + 1), path, bif undP (placeN (rows.getD ((i : Int)).toNat (dflt TC.row))) path then undR (rows.take i) path ++ [rows.getD ((i : Int)).toNat (dflt TC.row)] else undR (rows.take i) path) := rfl
   rw [this, wsucc (by omega), Int.toNat_natCast]
   have e2 : undR (rows.take (i + 1)) path = bif undP (placeN (rows.getD i (dflt TC.row))) path then undR (rows.take i) path ++ [rows.getD i (dflt TC.row)] else undR (rows.take i) path := by
    unfold undR
    rw [e, List.filter_append]
    cases hu : undP (placeN (rows.getD i (dflt TC.row))) path with
    | true => rw [List.filter_cons_of_pos (p := fun r => undP (placeN r) path) hu]; rfl
    | false => rw [List.filter_cons_of_neg (p := fun r => undP (placeN r) path) (by rw [hu]; exact Bool.false_ne_true), List.filter_nil, List.append_nil]; rfl
   rw [e2])
  (fun i hi => by
   have hin : (!!decide ((i : Int) < (rows.length : Int))) = true → i < rows.length := fun h => by rw [nn, dlt] at h; exact of_decide_eq_true h
   have hr : i < rows.length → rows.getD i (dflt TC.row) ∈ rows := fun h => getD_in rows (dflt TC.row) i h
   have hs : ∀ k : ByteArray, k.data.toList.length = k.size := fun k => Array.length_toList
   refine needs_cons (fun h => ?_) (needs_cons (fun h => ?_) (needs_cons (fun h => ⟨firstN_lt _, h3⟩) (needs_cons (fun h _ => ?_) (needs_cons (fun h _ => ?_) needs_nil))))
   ·have := hin h
    show (0 : Int) ≤ (i : Int) ∧ (i : Int) < (rows.length : Int)
    omega
   ·show (rows.getD ((i : Int)).toNat (dflt TC.row)).1.data.toList.length ≤ 137438953472
    rw [Int.toNat_natCast, hs]
    exact hk _ (hr (hin h))
   ·show boundP (0 + (rows.getD ((i : Int)).toNat (dflt TC.row)).2.length)
    rw [Int.toNat_natCast, Nat.zero_add]
    exact hc _ (hr (hin h))
   ·have := fl i
    have := hin h
    show boundP ((undR (rows.take i) path).length + 1)
    unfold boundP
    omega)
 have hr : mrows_l0_run (rows, (rows.length : Int), 0, path, []) = _ := hx
 refine ⟨needs_cons ⟨?_, by unfold wideN; omega⟩ (needs_cons g1 needs_nil), ?_⟩
 ·unfold faultE
  have e1 : ((l.length : Int) == 0) = false := by
   rw [beq_eq_false_iff_ne]
   intro e
   have : l.length = 0 := by omega
   exact h1 (List.length_eq_zero_iff.1 this)
  rw [e1, h2, decide_eq_false (by omega)]
  rfl
 ·unfold mrows_0
  rw [hr, List.take_length]
def rows_t : List A → Nat → Objs → Option CRes
 | [.ref [.sl .group l, .sl .row rows], y], nx, o => match argL .i64 y with
  | some path => some (1, .tup [.dq nx, .v (.int .i64 0)], nx + 1, (nx, some (.deep 38 .row (undR rows path))) :: o, [rowsN l rows path])
  | none => none
 | _, _, _ => none
theorem rows_tok : TOk Tryd.prog 11 rows_t := fun args nx o k x nx' o' ps h => by
 unfold rows_t at h
 split at h <;> first | (cases h; done) | skip
 rename_i l rows y
 split at h <;> first | (cases h; done) | skip
 rename_i path hy
 cases h
 refine ⟨fun hp => ?_, [_], rfl⟩
 obtain ⟨g1, g2⟩ := mrows_eq l rows path (N0 hp)
 have hc := mrows_c l rows path g1
 unfold mrows_r mrows_o at hc
 rw [g2] at hc
 refine callOk_args (callOk_shift hc (Nat.le_refl _) rfl nx o) fun F N R vs hl => ?_
 obtain ⟨v1, w1, rfl, a1, a2⟩ := hl.inv
 obtain ⟨v2, w2, rfl, a3, a4⟩ := a2.inv
 obtain rfl := a4.inv0
 exact HL.cons a1 (HL.cons (argL_ok hy a3) HL.nil)
end Go.Proofs.YtkknpeeccejppaaDoor
namespace Go.Proofs.YtkknpeeccejppaaDoor
open Go.RowKit
noncomputable def Cmk9_1 := addC 9 (kB true l13_Light_t) Cmk4
theorem Cmk9_1_ok : COk Tryd.prog Cmk9_1 := addC_ok (kB_ok l13_Light_tok) Cmk4_ok
noncomputable def Cmk9_2 := addC 10 newA_t Cmk9_1
theorem Cmk9_2_ok : COk Tryd.prog Cmk9_2 := addC_ok newA_tok Cmk9_1_ok
noncomputable def Cmk9_3 := addC 11 rows_t Cmk9_2
theorem Cmk9_3_ok : COk Tryd.prog Cmk9_3 := addC_ok rows_tok Cmk9_2_ok
abbrev mpA_l2_X : Type := Int × Int × Int × Int × (List TRow)
def mpA_l2_T (x : mpA_l2_X) : St := ⟨103, 4, [(7, .v (.int .i64 x.1)), (8, .v (.int .i64 x.2.1)), (50, .dq 3), (51, .v (.int .i64 x.2.2.1)), (52, .v (.int .i64 x.2.2.2.1))], [(3, some (.deep 38 .row x.2.2.2.2))]⟩
def mpA_l2_un : St → Option mpA_l2_X
 | ⟨103, 4, [(7, .v (.int .i64 z0)), (8, .v (.int .i64 z1)), (50, .dq 3), (51, .v (.int .i64 z2)), (52, .v (.int .i64 z3))], [(3, some (.deep 38 .row z4))]⟩ => some (z0, z1, z2, z3, z4)
 | _ => none
theorem mpA_l2_unok : ∀ s x, mpA_l2_un s = some x → s = mpA_l2_T x := fun s x h => by
 unfold mpA_l2_un at h
 split at h
 ·cases h; rfl
 ·cases h
def mpA_l2_S : Shape := ⟨3, 4, [7, 8, 50, 51, 52], [], [(3, 3)], [3], [7, 4], [3]⟩
def mpA_l2_E : Entry := ⟨[], [(2, 3)], [7, 8, 50, 51, 52], [2]⟩
def mpA_l2_f_k1 (_a0 : Int) (_a1 : Int) (_a2 : Int) (_a3 : Int) (_a4 : List TRow) : Bool := (↑(2 : Nat) : Int) != (2 : Int)
def mpA_l2_f_k0 (a0 : Int) (a1 : Int) (a2 : Int) (a3 : Int) (a4 : List TRow) : Bool := !!decide (a3 < a2) && ((mpA_l2_f_k1 a0 a1 a2 a3 a4) || merkle_Path_0 (a4.getD a3.toNat (dflt TC.row)).1 != IntKind.i64.wrap (a1.tdiv (16 : Int)) || (firstN (a4.getD a3.toNat (dflt TC.row)).1.data.toList).tmod (16 : Int) != a1.tmod (16 : Int))
def mpA_l2_f_5 (a0 : Int) (a1 : Int) (a2 : Int) (a3 : Int) (a4 : List TRow) : Bool := !!decide (a3 < a2) && !(mpA_l2_f_k0 a0 a1 a2 a3 a4)
def mpA_l2_next (x : mpA_l2_X) : mpA_l2_X := (IntKind.i64.wrap (x.1 + (1 : Int)), x.2.1, x.2.2.1, IntKind.i64.wrap (x.2.2.2.1 + (1 : Int)), x.2.2.2.2)
def mpA_l2_goes (x : mpA_l2_X) : Cnd := some (mpA_l2_f_5 x.1 x.2.1 x.2.2.1 x.2.2.2.1 x.2.2.2.2)
def mpA_l2_psA (x : mpA_l2_X) : List Prop := [((!!decide (x.2.2.2.1 < x.2.2.1)) = true → (0 : Int) ≤ x.2.2.2.1 ∧ x.2.2.2.1 < (↑x.2.2.2.2.length : Int)), ((!!decide (x.2.2.2.1 < x.2.2.1)) = true → x.2.2.2.1.toNat < x.2.2.2.2.length), ((!!decide (x.2.2.2.1 < x.2.2.1)) = true → x.2.2.2.1.toNat < x.2.2.2.2.length), ((!!decide (x.2.2.2.1 < x.2.2.1)) = true → (x.2.2.2.2.getD x.2.2.2.1.toNat (dflt TC.row)).1.data.toList.length ≤ (137438953472 : Nat)), ((!!decide (x.2.2.2.1 < x.2.2.1)) = true → (mpA_l2_f_k1 x.1 x.2.1 x.2.2.1 x.2.2.2.1 x.2.2.2.2) = false → (0 : Int) ≤ (0 : Int) ∧ (0 : Int) < (↑(2 : Nat) : Int)), ((!!decide (x.2.2.2.1 < x.2.2.1)) = true → (mpA_l2_f_k1 x.1 x.2.1 x.2.2.1 x.2.2.2.1 x.2.2.2.2) = false → (0 : Nat) < (2 : Nat)), ((!!decide (x.2.2.2.1 < x.2.2.1)) = true → ((mpA_l2_f_k1 x.1 x.2.1 x.2.2.1 x.2.2.2.1 x.2.2.2.2) || merkle_Path_0 (x.2.2.2.2.getD x.2.2.2.1.toNat (dflt TC.row)).1 != IntKind.i64.wrap (x.2.1.tdiv (16 : Int))) = false → (0 : Int) ≤ (1 : Int) ∧ (1 : Int) < (↑(2 : Nat) : Int)), ((!!decide (x.2.2.2.1 < x.2.2.1)) = true → ((mpA_l2_f_k1 x.1 x.2.1 x.2.2.1 x.2.2.2.1 x.2.2.2.2) || merkle_Path_0 (x.2.2.2.2.getD x.2.2.2.1.toNat (dflt TC.row)).1 != IntKind.i64.wrap (x.2.1.tdiv (16 : Int))) = false → (1 : Nat) < (2 : Nat))]
def mpA_l2_ps (x : mpA_l2_X) : List Prop := [((!!decide (x.2.2.2.1 < x.2.2.1)) = true → (0 : Int) ≤ x.2.2.2.1 ∧ x.2.2.2.1 < (↑x.2.2.2.2.length : Int)), ((!!decide (x.2.2.2.1 < x.2.2.1)) = true → (x.2.2.2.2.getD x.2.2.2.1.toNat (dflt TC.row)).1.data.toList.length ≤ (137438953472 : Nat))]
def mpA_l2_outs (x : mpA_l2_X) : Outs := [(some 2, some (!decide (x.2.2.2.1 < x.2.2.1)), ⟨103, 4, [(7, .v (.int .i64 x.1)), (4, .dead)], [(3, some (.deep 38 .row x.2.2.2.2))]⟩), (none, some ((mpA_l2_f_k0 x.1 x.2.1 x.2.2.1 x.2.2.2.1 x.2.2.2.2)), ⟨103, 6, [(7, .v (.int .i64 x.1)), (4, .v (.bool (false)))], [(3, some (.deep 38 .row x.2.2.2.2))]⟩)]
def mpA_l2_fuel (x : mpA_l2_X) : Nat := (x.2.2.1 - x.2.2.2.1).toNat
def mpA_l2_run (x : mpA_l2_X) : mpA_l2_X := iterX mpA_l2_next mpA_l2_goes (mpA_l2_fuel x) x
theorem mpA_l2_ev (a0 : Int) (a1 : Int) (a2 : Int) (a3 : Int) (a4 : List TRow) : roundE (envT Cmk9_3 L0) 9 (loopAt Tryd.prog 4 2) mpA_l2_S (mpA_l2_T (a0, a1, a2, a3, a4)) = some (mpA_l2_psA (a0, a1, a2, a3, a4), mpA_l2_outs (a0, a1, a2, a3, a4), mpA_l2_goes (a0, a1, a2, a3, a4), mpA_l2_T (mpA_l2_next (a0, a1, a2, a3, a4))) := by kernel_rfl
theorem mpA_l2_hA (a0 : Int) (a1 : Int) (a2 : Int) (a3 : Int) (a4 : List TRow) (hp : ∀ p ∈ mpA_l2_ps (a0, a1, a2, a3, a4), p) : ∀ p ∈ mpA_l2_psA (a0, a1, a2, a3, a4), p := by
 have n0 : ((!!decide (a3 < a2)) = true → (0 : Int) ≤ a3 ∧ a3 < (↑a4.length : Int)) := N0 hp
 have n1 : ((!!decide (a3 < a2)) = true → a3.toNat < a4.length) := by intro h0; have g := n0 h0; omega
 have n3 := N0 (N1 hp)
 have n4 : ((!!decide (a3 < a2)) = true → (mpA_l2_f_k1 a0 a1 a2 a3 a4) = false → (0 : Int) ≤ (0 : Int) ∧ (0 : Int) < (↑(2 : Nat) : Int)) := by omega
 have n5 : ((!!decide (a3 < a2)) = true → (mpA_l2_f_k1 a0 a1 a2 a3 a4) = false → (0 : Nat) < (2 : Nat)) := by omega
 have n6 : ((!!decide (a3 < a2)) = true → ((mpA_l2_f_k1 a0 a1 a2 a3 a4) || merkle_Path_0 (a4.getD a3.toNat (dflt TC.row)).1 != IntKind.i64.wrap (a1.tdiv (16 : Int))) = false → (0 : Int) ≤ (1 : Int) ∧ (1 : Int) < (↑(2 : Nat) : Int)) := by omega
 have n7 : ((!!decide (a3 < a2)) = true → ((mpA_l2_f_k1 a0 a1 a2 a3 a4) || merkle_Path_0 (a4.getD a3.toNat (dflt TC.row)).1 != IntKind.i64.wrap (a1.tdiv (16 : Int))) = false → (1 : Nat) < (2 : Nat)) := by omega
 exact (needs_cons n0 (needs_cons n1 (needs_cons n1 (needs_cons n3 (needs_cons n4 (needs_cons n5 (needs_cons n6 (needs_cons n7 needs_nil))))))))
noncomputable def mpA_l2_row := rowL (envT Cmk9_3 L0) (loopAt Tryd.prog 4 2) mpA_l2_S mpA_l2_E mpA_l2_un mpA_l2_fuel mpA_l2_next mpA_l2_goes mpA_l2_ps mpA_l2_outs
theorem mpA_l2_rok : ∀ s b ps outs, mpA_l2_row s = some (b, ps, outs) → Wf s ⟨ps, outs, none⟩ ∧ LoopOk (envT C0 L0) b s ps outs :=
 rowP_ok (T := mpA_l2_T) Cmk9_3_ok L0_ok (u := 9) (by kernel_rfl) (by decide) (fun ⟨a0, a1, a2, a3, a4⟩ => mpA_l2_ev a0 a1 a2 a3 a4) (fun ⟨a0, a1, a2, a3, a4⟩ => mpA_l2_hA a0 a1 a2 a3 a4) mpA_l2_unok (fun _ => okOuts_ok (n := 103) rfl) fun _ _ => rfl
noncomputable def mpA_l2_L := addLp 2 mpA_l2_row L0
theorem mpA_l2_Lok : LpOk mpA_l2_L := addLp_ok mpA_l2_rok L0_ok
abbrev mpA_l0_X : Type := (List TGroup) × (List TRow) × Int × Int
def mpA_l0_T (x : mpA_l0_X) : St := ⟨103, 1, [(5, .ref [.sl .group x.1, .sl .row x.2.1]), (7, .v (.int .i64 x.2.2.1)), (35, .v (.int .i64 x.2.2.2))], []⟩
def mpA_l0_un : St → Option mpA_l0_X
 | ⟨103, 1, [(5, .ref [.sl .group z0, .sl .row z1]), (7, .v (.int .i64 z2)), (35, .v (.int .i64 z3))], []⟩ => some (z0, z1, z2, z3)
 | _ => none
theorem mpA_l0_unok : ∀ s x, mpA_l0_un s = some x → s = mpA_l0_T x := fun s x h => by
 unfold mpA_l0_un at h
 split at h
 ·cases h; rfl
 ·cases h
def mpA_l0_S : Shape := ⟨1, 1, [5, 7, 35], [], [], [], [7, 4], []⟩
def mpA_l0_E : Entry := ⟨[], [], [5, 7, 35], []⟩
def mpA_l0_f_k3 (_a0 : List TGroup) (_a1 : List TRow) (_a2 : Int) (a3 : Int) : Bool := !!decide (a3 < (256 : Int))
def mpA_l0_f_k2 (_a0 : List TGroup) (a1 : List TRow) (_a2 : Int) (a3 : Int) : List TRow := undR a1 [IntKind.i64.wrap (a3.tdiv (16 : Int)), a3.tmod (16 : Int)]
def mpA_l0_f_k1 (a0 : List TGroup) (a1 : List TRow) (a2 : Int) (a3 : Int) : Int := (mpA_l2_run (a2, a3, (↑(mpA_l0_f_k2 a0 a1 a2 a3).length : Int), (0 : Int), (mpA_l0_f_k2 a0 a1 a2 a3))).fst
def mpA_l0_f_k0 (a0 : List TGroup) (a1 : List TRow) (a2 : Int) (a3 : Int) : Bool := (mpA_l0_f_k3 a0 a1 a2 a3) && mpA_l2_f_k0 (mpA_l0_f_k1 a0 a1 a2 a3) (mpA_l2_run (a2, a3, (↑(mpA_l0_f_k2 a0 a1 a2 a3).length : Int), (0 : Int), (mpA_l0_f_k2 a0 a1 a2 a3))).snd.fst (mpA_l2_run (a2, a3, (↑(mpA_l0_f_k2 a0 a1 a2 a3).length : Int), (0 : Int), (mpA_l0_f_k2 a0 a1 a2 a3))).snd.snd.fst (mpA_l2_run (a2, a3, (↑(mpA_l0_f_k2 a0 a1 a2 a3).length : Int), (0 : Int), (mpA_l0_f_k2 a0 a1 a2 a3))).snd.snd.snd.fst (mpA_l2_run (a2, a3, (↑(mpA_l0_f_k2 a0 a1 a2 a3).length : Int), (0 : Int), (mpA_l0_f_k2 a0 a1 a2 a3))).snd.snd.snd.snd
def mpA_l0_f_4 (a0 : List TGroup) (a1 : List TRow) (a2 : Int) (a3 : Int) : Bool := (mpA_l0_f_k3 a0 a1 a2 a3) && !(mpA_l0_f_k0 a0 a1 a2 a3)
def mpA_l0_next (x : mpA_l0_X) : mpA_l0_X := (x.1, x.2.1, (mpA_l0_f_k1 x.1 x.2.1 x.2.2.1 x.2.2.2), IntKind.i64.wrap (x.2.2.2 + (1 : Int)))
def mpA_l0_goes (x : mpA_l0_X) : Cnd := some (mpA_l0_f_4 x.1 x.2.1 x.2.2.1 x.2.2.2)
def mpA_l0_psA (x : mpA_l0_X) : List Prop := [((mpA_l0_f_k3 x.1 x.2.1 x.2.2.1 x.2.2.2) = true → rowsN x.1 x.2.1 [IntKind.i64.wrap (x.2.2.2.tdiv (16 : Int)), x.2.2.2.tmod (16 : Int)]), ((mpA_l0_f_k3 x.1 x.2.1 x.2.2.1 x.2.2.2) = true → true = true → loopAt Tryd.prog (4 : FuncId) (2 : Nat) = loopAt Tryd.prog (4 : FuncId) (2 : Nat)), ((mpA_l0_f_k3 x.1 x.2.1 x.2.2.1 x.2.2.2) = true → true = true → needX mpA_l2_next mpA_l2_goes mpA_l2_ps (mpA_l2_fuel (x.2.2.1, x.2.2.2, (↑(mpA_l0_f_k2 x.1 x.2.1 x.2.2.1 x.2.2.2).length : Int), (0 : Int), (mpA_l0_f_k2 x.1 x.2.1 x.2.2.1 x.2.2.2))) (x.2.2.1, x.2.2.2, (↑(mpA_l0_f_k2 x.1 x.2.1 x.2.2.1 x.2.2.2).length : Int), (0 : Int), (mpA_l0_f_k2 x.1 x.2.1 x.2.2.1 x.2.2.2)))]
def mpA_l0_ps (x : mpA_l0_X) : List Prop := [((mpA_l0_f_k3 x.1 x.2.1 x.2.2.1 x.2.2.2) = true → rowsN x.1 x.2.1 [IntKind.i64.wrap (x.2.2.2.tdiv (16 : Int)), x.2.2.2.tmod (16 : Int)]), ((mpA_l0_f_k3 x.1 x.2.1 x.2.2.1 x.2.2.2) = true → true = true → needX mpA_l2_next mpA_l2_goes mpA_l2_ps (mpA_l2_fuel (x.2.2.1, x.2.2.2, (↑(mpA_l0_f_k2 x.1 x.2.1 x.2.2.1 x.2.2.2).length : Int), (0 : Int), (mpA_l0_f_k2 x.1 x.2.1 x.2.2.1 x.2.2.2))) (x.2.2.1, x.2.2.2, (↑(mpA_l0_f_k2 x.1 x.2.1 x.2.2.1 x.2.2.2).length : Int), (0 : Int), (mpA_l0_f_k2 x.1 x.2.1 x.2.2.1 x.2.2.2)))]
def mpA_l0_outs (x : mpA_l0_X) : Outs := [(some 0, some (!decide (x.2.2.2 < (256 : Int))), ⟨103, 1, [(7, .v (.int .i64 x.2.2.1)), (4, .dead)], []⟩), (none, some ((mpA_l0_f_k0 x.1 x.2.1 x.2.2.1 x.2.2.2)), ⟨103, 6, [(7, .v (.int .i64 ((mpA_l0_f_k1 x.1 x.2.1 x.2.2.1 x.2.2.2)))), (4, .v (.bool false))], []⟩)]
def mpA_l0_fuel (x : mpA_l0_X) : Nat := ((256 : Int) - x.2.2.2).toNat
def mpA_l0_run (x : mpA_l0_X) : mpA_l0_X := iterX mpA_l0_next mpA_l0_goes (mpA_l0_fuel x) x
theorem mpA_l0_ev (a0 : List TGroup) (a1 : List TRow) (a2 : Int) (a3 : Int) : roundE (envT Cmk9_3 mpA_l2_L) 9 (loopAt Tryd.prog 4 0) mpA_l0_S (mpA_l0_T (a0, a1, a2, a3)) = some (mpA_l0_psA (a0, a1, a2, a3), mpA_l0_outs (a0, a1, a2, a3), mpA_l0_goes (a0, a1, a2, a3), mpA_l0_T (mpA_l0_next (a0, a1, a2, a3))) := by kernel_rfl
theorem mpA_l0_hA (a0 : List TGroup) (a1 : List TRow) (a2 : Int) (a3 : Int) (hp : ∀ p ∈ mpA_l0_ps (a0, a1, a2, a3), p) : ∀ p ∈ mpA_l0_psA (a0, a1, a2, a3), p := by
 have n0 := N0 hp
 have n1 : ((mpA_l0_f_k3 a0 a1 a2 a3) = true → true = true → loopAt Tryd.prog (4 : FuncId) (2 : Nat) = loopAt Tryd.prog (4 : FuncId) (2 : Nat)) := by intros; rfl
 have n2 := N0 (N1 hp)
 exact (needs_cons n0 (needs_cons n1 (needs_cons n2 needs_nil)))
noncomputable def mpA_l0_row := rowL (envT Cmk9_3 mpA_l2_L) (loopAt Tryd.prog 4 0) mpA_l0_S mpA_l0_E mpA_l0_un mpA_l0_fuel mpA_l0_next mpA_l0_goes mpA_l0_ps mpA_l0_outs
theorem mpA_l0_rok : ∀ s b ps outs, mpA_l0_row s = some (b, ps, outs) → Wf s ⟨ps, outs, none⟩ ∧ LoopOk (envT C0 L0) b s ps outs :=
 rowP_ok (T := mpA_l0_T) Cmk9_3_ok mpA_l2_Lok (u := 9) (by kernel_rfl) (by decide) (fun ⟨a0, a1, a2, a3⟩ => mpA_l0_ev a0 a1 a2 a3) (fun ⟨a0, a1, a2, a3⟩ => mpA_l0_hA a0 a1 a2 a3) mpA_l0_unok (fun _ => okOuts_ok (n := 103) rfl) fun _ _ => rfl
noncomputable def mpA_l0_L := addLp 0 mpA_l0_row mpA_l2_L
theorem mpA_l0_Lok : LpOk mpA_l0_L := addLp_ok mpA_l0_rok mpA_l2_Lok
def mpA_k1 (a0 : List TGroup) (a1 : List TRow) : Bool := (mpA_l0_run (a0, a1, (0 : Int), (0 : Int))).snd.snd.fst == (↑a1.length : Int)
def mpA_k0 (a0 : List TGroup) (a1 : List TRow) : Bool := mpA_l0_f_k0 (mpA_l0_run (a0, a1, (0 : Int), (0 : Int))).fst (mpA_l0_run (a0, a1, (0 : Int), (0 : Int))).snd.fst (mpA_l0_run (a0, a1, (0 : Int), (0 : Int))).snd.snd.fst (mpA_l0_run (a0, a1, (0 : Int), (0 : Int))).snd.snd.snd
def mpA_0 (a0 : List TGroup) (a1 : List TRow) : Bool := bif (mpA_k0 a0 a1) then false else (mpA_k1 a0 a1) && eqRs (undR a1 []) a1 && true
def mpA_r (a0 : List TGroup) (a1 : List TRow) : A := .v (.bool (mpA_0 a0 a1))
def mpA_o (_a0 : List TGroup) (_a1 : List TRow) : Objs := []
def mpA_ps (a0 : List TGroup) (a1 : List TRow) : List Prop := [(l13_Light_0 a0 [] [a1] = true), (wideN a0.length ∧ (wideN (0 : Nat) ∧ ∀ (c : TChange), c ∈ [] → wideCh c) ∧ wideN (1 : Nat) ∧ ∀ (x : List TRow), x ∈ [a1] → wideN x.length ∧ ∀ (r : TRow), r ∈ x → wideR r), (newN a0 a1), (needX mpA_l0_next mpA_l0_goes mpA_l0_ps (256 : Nat) (a0, a1, (0 : Int), (0 : Int))), ((!(mpA_k0 a0 a1)) = true → rowsN a0 a1 []), ((!(mpA_k0 a0 a1)) = true → (mpA_k1 a0 a1) = true → wideN (undR a1 []).length), ((!(mpA_k0 a0 a1)) = true → (mpA_k1 a0 a1) = true → ∀ (r : TRow), r ∈ undR a1 [] → boundP r.2.length)]
theorem mpA_ev (a0 : List TGroup) (a1 : List TRow) : evF (envT Cmk9_3 mpA_l0_L) 1040 4 [.sl .group a0, .sl .row a1] 0 [] = some (1, mpA_r a0 a1, 0, mpA_o a0 a1, [(l13_Light_0 a0 [] [a1] = true), (wideN a0.length ∧ (wideN (0 : Nat) ∧ ∀ (c : TChange), c ∈ [] → wideCh c) ∧ wideN (1 : Nat) ∧ ∀ (x : List TRow), x ∈ [a1] → wideN x.length ∧ ∀ (r : TRow), r ∈ x → wideR r), (newN a0 a1), (loopAt Tryd.prog (4 : FuncId) (0 : Nat) = loopAt Tryd.prog (4 : FuncId) (0 : Nat)), (needX mpA_l0_next mpA_l0_goes mpA_l0_ps (256 : Nat) (a0, a1, (0 : Int), (0 : Int))), ((!(mpA_k0 a0 a1)) = true → rowsN a0 a1 []), ((!(mpA_k0 a0 a1)) = true → (mpA_k1 a0 a1) = true → wideN (undR a1 []).length), ((!(mpA_k0 a0 a1)) = true → (mpA_k1 a0 a1) = true → ∀ (r : TRow), r ∈ undR a1 [] → boundP r.2.length)]) := by kernel_rfl
theorem mpA_c (a0 : List TGroup) (a1 : List TRow) (hp : ∀ p ∈ mpA_ps a0 a1, p) : CallOk Tryd.prog 4 [.sl .group a0, .sl .row a1] 0 [] 1 (mpA_r a0 a1) 0 (mpA_o a0 a1) := by
 have n0 := N0 hp
 have n1 := N0 (N1 hp)
 have n2 := N0 (N1 (N1 hp))
 have n4 := N0 (N1 (N1 (N1 hp)))
 have n5 := N0 (N1 (N1 (N1 (N1 hp))))
 have n6 := N0 (N1 (N1 (N1 (N1 (N1 hp)))))
 have n7 := N0 (N1 (N1 (N1 (N1 (N1 (N1 hp))))))
 exact evF_ok (envP_ok Cmk9_3_ok mpA_l0_Lok) (mpA_ev a0 a1) (needs_cons n0 (needs_cons n1 (needs_cons n2 (needs_cons rfl (needs_cons n4 (needs_cons n5 (needs_cons n6 (needs_cons n7 needs_nil))))))))
end Go.Proofs.YtkknpeeccejppaaDoor
namespace Go.Proofs.YtkknpeeccejppaaDoor
open Go.RowKit
noncomputable def Cmka1_1 := addC 9 (kB true l13_Light_t) Cmk4
theorem Cmka1_1_ok : COk Tryd.prog Cmka1_1 := addC_ok (kB_ok l13_Light_tok) Cmk4_ok
noncomputable def Cmka1_2 := addC 10 newB_t Cmka1_1
theorem Cmka1_2_ok : COk Tryd.prog Cmka1_2 := addC_ok newB_tok Cmka1_1_ok
def mpB_r (_a0 : List TGroup) (_a1 : List TRow) : A := .v (.bool (true))
def mpB_o (_a0 : List TGroup) (_a1 : List TRow) : Objs := []
def mpB_ps (a0 : List TGroup) (a1 : List TRow) : List Prop := [(l13_Light_0 a0 [] [a1] = true), (wideN a0.length ∧ (wideN (0 : Nat) ∧ ∀ (c : TChange), c ∈ [] → wideCh c) ∧ wideN (1 : Nat) ∧ ∀ (x : List TRow), x ∈ [a1] → wideN x.length ∧ ∀ (r : TRow), r ∈ x → wideR r), ((0 : Int) < goodM a0 a1 ∧ wideN a1.length)]
theorem mpB_ev (a0 : List TGroup) (a1 : List TRow) : evF (envT Cmka1_2 L0) 1040 4 [.sl .group a0, .sl .row a1] 0 [] = some (1, mpB_r a0 a1, 0, mpB_o a0 a1, mpB_ps a0 a1) := by kernel_rfl
theorem mpB_c (a0 : List TGroup) (a1 : List TRow) (hp : ∀ p ∈ mpB_ps a0 a1, p) : CallOk Tryd.prog 4 [.sl .group a0, .sl .row a1] 0 [] 1 (mpB_r a0 a1) 0 (mpB_o a0 a1) := evF_ok (envP_ok Cmka1_2_ok L0_ok) (mpB_ev a0 a1) hp
end Go.Proofs.YtkknpeeccejppaaDoor
namespace Go.Proofs.YtkknpeeccejppaaDoor
open Go.RowKit
noncomputable def Cmka2_1 := addC 9 (kB false l13_Light_t) Cmk4
theorem Cmka2_1_ok : COk Tryd.prog Cmka2_1 := addC_ok (kB_ok l13_Light_tok) Cmk4_ok
def mpC_r (_a0 : List TGroup) (_a1 : List TRow) : A := .v (.bool (true))
def mpC_o (_a0 : List TGroup) (_a1 : List TRow) : Objs := []
def mpC_ps (a0 : List TGroup) (a1 : List TRow) : List Prop := [(l13_Light_0 a0 [] [a1] = false), (wideN a0.length ∧ (wideN (0 : Nat) ∧ ∀ (c : TChange), c ∈ [] → wideCh c) ∧ wideN (1 : Nat) ∧ ∀ (x : List TRow), x ∈ [a1] → wideN x.length ∧ ∀ (r : TRow), r ∈ x → wideR r)]
theorem mpC_ev (a0 : List TGroup) (a1 : List TRow) : evF (envT Cmka2_1 L0) 1040 4 [.sl .group a0, .sl .row a1] 0 [] = some (1, mpC_r a0 a1, 0, mpC_o a0 a1, mpC_ps a0 a1) := by kernel_rfl
theorem mpC_c (a0 : List TGroup) (a1 : List TRow) (hp : ∀ p ∈ mpC_ps a0 a1, p) : CallOk Tryd.prog 4 [.sl .group a0, .sl .row a1] 0 [] 1 (mpC_r a0 a1) 0 (mpC_o a0 a1) := evF_ok (envP_ok Cmka2_1_ok L0_ok) (mpC_ev a0 a1) hp
end Go.Proofs.YtkknpeeccejppaaDoor
namespace Go.Proofs.YtkknpeeccejppaaDoor
open Go.RowKit
theorem placeN_lt (r : TRow) : 0 ≤ placeN r ∧ placeN r < 256 := firstN_lt _
theorem undP_two {n i : Int} (hn : 0 ≤ n ∧ n < 256) (hi : 0 ≤ i ∧ i < 256) : undP n [IntKind.i64.wrap (i.tdiv 16), i.tmod 16] = (n == i) := by
 rw [Int.tdiv_eq_ediv_of_nonneg hi.1, Int.tmod_eq_emod_of_nonneg hi.1, i64_in (by omega)]
 show (n.tdiv 16 == i / 16 && n.tmod 16 == i % 16) = _
 rw [Int.tdiv_eq_ediv_of_nonneg hn.1, Int.tmod_eq_emod_of_nonneg hn.1, Bool.eq_iff_iff, Bool.and_eq_true, beq_iff_eq, beq_iff_eq, beq_iff_eq]
 omega
theorem undR_two (rows : List TRow) {i : Int} (hi : 0 ≤ i ∧ i < 256) : undR rows [IntKind.i64.wrap (i.tdiv 16), i.tmod 16] = rows.filter fun r => placeN r == i := by
 unfold undR
 congr 1
 exact funext fun r => undP_two (placeN_lt r) hi
theorem undR_nil (rows : List TRow) : undR rows [] = rows := by
 unfold undR
 exact List.filter_eq_self.2 fun _ _ => rfl
def cntP (rows : List TRow) (i : Nat) : Nat := (rows.filter fun r => decide (placeN r < (i : Int))).length
theorem cntP_succ (i : Nat) : ∀ rows : List TRow, cntP rows (i + 1) = cntP rows i + (rows.filter fun r => placeN r == (i : Int)).length
 | [] => rfl
 | r :: rows => by
  have ih := cntP_succ i rows
  unfold cntP at ih ⊢
  rcases Int.lt_trichotomy (placeN r) (i : Int) with h | h | h
  ·rw [List.filter_cons_of_pos (by exact decide_eq_true (by omega)), List.filter_cons_of_pos (by exact decide_eq_true h), List.filter_cons_of_neg (by rw [beq_iff_eq]; omega), List.length_cons, List.length_cons, ih]
   omega
  ·rw [List.filter_cons_of_pos (by exact decide_eq_true (by omega)), List.filter_cons_of_neg (by rw [decide_eq_true_iff]; omega), List.filter_cons_of_pos (by rw [beq_iff_eq]; exact h), List.length_cons, List.length_cons, ih]
   omega
  ·rw [List.filter_cons_of_neg (by rw [decide_eq_true_iff]; omega), List.filter_cons_of_neg (by rw [decide_eq_true_iff]; omega), List.filter_cons_of_neg (by rw [beq_iff_eq]; omega), ih]
theorem cntP_all (rows : List TRow) : cntP rows 256 = rows.length := by
 unfold cntP
 rw [List.filter_eq_self.2 fun r _ => decide_eq_true (by have := (placeN_lt r).2; omega)]
theorem cntP_le (rows : List TRow) (i : Nat) : cntP rows i ≤ rows.length := List.length_filter_le ..
theorem mp_l2 (n : Nat) {i : Nat} (x : List TRow) (hx : ∀ r ∈ x, placeN r = (i : Int)) (hk : ∀ r ∈ x, r.key.size ≤ 137438953472) (hl : n + x.length ≤ 1099511627776) :
  needX mpA_l2_next mpA_l2_goes mpA_l2_ps (mpA_l2_fuel ((n : Int), (i : Int), (x.length : Int), 0, x)) ((n : Int), (i : Int), (x.length : Int), 0, x) ∧
  mpA_l2_run ((n : Int), (i : Int), (x.length : Int), 0, x) = (((n + x.length : Nat) : Int), (i : Int), (x.length : Int), (x.length : Int), x) ∧
  ∀ (m : Int), mpA_l2_f_k0 m (i : Int) (x.length : Int) (x.length : Int) x = false := by
 have hk0 : ∀ (m : Int) (j : Nat), mpA_l2_f_k0 m (i : Int) (x.length : Int) (j : Int) x = false := fun m j => by
  unfold mpA_l2_f_k0
  by_cases hj : j < x.length
  ·have hm := hx _ (getD_in x (dflt TC.row) j hj)
   have e1 : merkle_Path_0 (x.getD ((j : Int)).toNat (dflt TC.row)).1 = IntKind.i64.wrap ((i : Int).tdiv 16) := by
    unfold merkle_Path_0
    rw [Int.toNat_natCast]
    show IntKind.i64.wrap ((placeN (x.getD j (dflt TC.row))).tdiv 16) = _
    rw [hm]
   have e2 : (firstN (x.getD ((j : Int)).toNat (dflt TC.row)).1.data.toList).tmod 16 = (i : Int).tmod 16 := by
    rw [Int.toNat_natCast]
    show (placeN (x.getD j (dflt TC.row))).tmod 16 = _
    rw [hm]
   rw [e1, e2, bne_self_eq_false, bne_self_eq_false]
   unfold mpA_l2_f_k1
   rw [nn, dlt, decide_eq_true hj]
   rfl
  ·rw [nn, dlt, decide_eq_false hj]
   rfl
 obtain ⟨h1, h2⟩ := scanAll (fun j => ((((n + j : Nat) : Int), (i : Int), (x.length : Int), (j : Int), x) : mpA_l2_X)) x.length mpA_l2_next mpA_l2_goes mpA_l2_ps (mpA_l2_fuel ((n : Int), (i : Int), (x.length : Int), 0, x)) ((n : Int), (i : Int), (x.length : Int), 0, x) rfl (by show x.length ≤ ((x.length : Int) - 0).toNat; omega)
  (fun j _ => by
   show mpA_l2_f_5 ((n + j : Nat) : Int) (i : Int) (x.length : Int) (j : Int) x = _
   unfold mpA_l2_f_5
   rw [hk0, nn, dlt, Bool.not_false, Bool.and_true])
  (fun j hj => by
   show (IntKind.i64.wrap (((n + j : Nat) : Int) + 1), (i : Int), (x.length : Int), IntKind.i64.wrap ((j : Int) + 1), x) = _
   rw [wsucc (by omega), wsucc (by omega)]
   rfl)
  (fun j hj => by
   refine needs_cons (fun h => ?_) (needs_cons (fun h => ?_) needs_nil)
   all_goals
    rw [nn, dlt] at h
    have hj' := of_decide_eq_true h
   ·show (0 : Int) ≤ (j : Int) ∧ (j : Int) < (x.length : Int)
    omega
   ·show (x.getD ((j : Int)).toNat (dflt TC.row)).1.data.toList.length ≤ 137438953472
    rw [Int.toNat_natCast, show (x.getD j (dflt TC.row)).1.data.toList.length = (x.getD j (dflt TC.row)).1.size from Array.length_toList]
    exact hk _ (getD_in x (dflt TC.row) j hj'))
 exact ⟨h1, h2, fun m => hk0 m x.length⟩
set_option maxRecDepth 20000 in
theorem mp_l0 (l : List TGroup) (rows : List TRow) (hl : l ≠ []) (hb : rows.length ≤ 100000) (hc : ∀ r ∈ rows, boundP r.cells.length) (hk : ∀ r ∈ rows, r.key.size ≤ 137438953472) :
  needX mpA_l0_next mpA_l0_goes mpA_l0_ps 256 (l, rows, 0, 0) ∧ mpA_l0_run (l, rows, 0, 0) = (l, rows, (rows.length : Int), 256) ∧ mpA_k0 l rows = false := by
 have hbp : boundP rows.length := by unfold boundP; omega
 have part : ∀ i : Nat, i < 256 → mpA_l0_f_k2 l rows ((cntP rows i : Nat) : Int) (i : Int) = rows.filter fun r => placeN r == (i : Int) := fun i hi => by
  unfold mpA_l0_f_k2
  exact undR_two rows (by omega)
 have inner : ∀ i : Nat, i < 256 → _ := fun i _ => mp_l2 (cntP rows i) (rows.filter fun r => placeN r == (i : Int)) (fun r hr => by have := (List.mem_filter.1 hr).2; exact eq_of_beq this) (fun r hr => hk r (List.mem_filter.1 hr).1) (by have := cntP_succ i rows; have := cntP_le rows (i + 1); omega)
 have hk0 : ∀ i : Nat, mpA_l0_f_k0 l rows ((cntP rows i : Nat) : Int) (i : Int) = false := fun i => by
  unfold mpA_l0_f_k0 mpA_l0_f_k1 mpA_l0_f_k3
  by_cases hi : i < 256
  ·obtain ⟨_, h2, h3⟩ := inner i hi
   rw [part i hi, h2]
   show (_ && mpA_l2_f_k0 _ _ _ _ _) = false
   rw [h3, Bool.and_false]
  ·rw [nn, decide_eq_false (by omega)]
   rfl
 obtain ⟨h1, h2⟩ := scanAll (fun i => ((l, rows, ((cntP rows i : Nat) : Int), (i : Int)) : mpA_l0_X)) 256 mpA_l0_next mpA_l0_goes mpA_l0_ps 256 (l, rows, 0, 0)
  (by
   have : cntP rows 0 = 0 := by
    unfold cntP
    rw [List.filter_eq_nil_iff.2 fun r _ => by rw [decide_eq_true_iff]; have := (placeN_lt r).1; omega]
    rfl
   rw [this]
   rfl) (Nat.le_refl _)
  (fun i hi => by
   show mpA_l0_f_4 l rows ((cntP rows i : Nat) : Int) (i : Int) = _
   unfold mpA_l0_f_4 mpA_l0_f_k3
   rw [hk0, nn, Bool.not_false, Bool.and_true]
   have e : ((i : Int) < 256) = (i < 256) := propext (by omega)
   exact decide_eq_decide.2 (by rw [e]))
  (fun i hi => by
   obtain ⟨_, e, _⟩ := inner i hi
   show (l, rows, mpA_l0_f_k1 l rows ((cntP rows i : Nat) : Int) (i : Int), IntKind.i64.wrap ((i : Int) + 1)) = _
   unfold mpA_l0_f_k1
   rw [part i hi, e, wsucc (by omega), cntP_succ])
  (fun i hi => by
   refine needs_cons (fun h => ?_) (needs_cons (fun h _ => ?_) needs_nil)
   all_goals
    have h : (!!decide ((i : Int) < 256)) = true := h
    rw [nn] at h
    have hi' := of_decide_eq_true h
   ·refine ⟨⟨hl, ?_, Nat.le_refl _⟩, hbp, hc, hk⟩
    show (badN (IntKind.i64.wrap ((i : Int).tdiv 16)) || (badN ((i : Int).tmod 16) || false)) = false
    unfold badN
    rw [Int.tdiv_eq_ediv_of_nonneg (by omega), Int.tmod_eq_emod_of_nonneg (by omega), i64_in (by omega), decide_eq_false (p := (i : Int) / 16 < 0) (by omega), decide_eq_false (p := (i : Int) / 16 ≥ 16) (by omega), decide_eq_false (p := (i : Int) % 16 < 0) (by omega), decide_eq_false (p := (i : Int) % 16 ≥ 16) (by omega)]
    rfl
   ·have := (inner i (by omega)).1
    rw [← part i (by omega)] at this
    exact this)
 have hr : mpA_l0_run (l, rows, 0, 0) = (l, rows, (rows.length : Int), 256) := by
  have : mpA_l0_run (l, rows, 0, 0) = (l, rows, ((cntP rows 256 : Nat) : Int), ((256 : Nat) : Int)) := h2
  rw [this, cntP_all, show ((256 : Nat) : Int) = 256 by omega]
 refine ⟨h1, hr, ?_⟩
 unfold mpA_k0
 rw [hr]
 have := hk0 256
 rw [cntP_all] at this
 exact this
def l24_mp_0 (_a0 : List TGroup) (_a1 : List TRow) : Bool := true
def l24_mp_r (a0 : List TGroup) (a1 : List TRow) : A := .v (.bool (l24_mp_0 a0 a1))
def l24_mp_o (_a0 : List TGroup) (_a1 : List TRow) : Objs := []
def l24_mp_ps (a0 : List TGroup) (a1 : List TRow) : List Prop := [wideN a0.length, wideN a1.length, ∀ r ∈ a1, wideR r]
theorem l24_mp_c (a0 : List TGroup) (a1 : List TRow) (hp : ∀ p ∈ l24_mp_ps a0 a1, p) : CallOk Tryd.prog 4 [.sl .group a0, .sl .row a1] 0 [] 1 (l24_mp_r a0 a1) 0 (l24_mp_o a0 a1) := by
 have w0 := N0 hp
 have w1 := N0 (N1 hp)
 have w2 := N0 (N1 (N1 hp))
 have hw : wideN a0.length ∧ (wideN (0 : Nat) ∧ ∀ (c : TChange), c ∈ [] → wideCh c) ∧ wideN (1 : Nat) ∧ ∀ (x : List TRow), x ∈ [a1] → wideN x.length ∧ ∀ (r : TRow), r ∈ x → wideR r :=
  ⟨w0, ⟨Nat.zero_le _, fun _ h => (nomatch h)⟩, by show (1 : Nat) ≤ 9223372036854775807; omega, fun x hx => by rw [List.mem_singleton.1 hx]; exact ⟨w1, w2⟩⟩
 obtain ⟨_, hli⟩ := light13_eq a0 [] [a1] hw.1 hw.2.1 hw.2.2.1 hw.2.2.2
 cases hl : l13_Light_0 a0 [] [a1] with
 | false => exact mpC_c a0 a1 (needs_cons hl (needs_cons hw needs_nil))
 | true =>
  have hg := goodM_nn a0 a1
  rcases Int.lt_or_eq_of_le hg with hpos | hz
  ·exact mpB_c a0 a1 (needs_cons hl (needs_cons hw (needs_cons ⟨hpos, w1⟩ needs_nil)))
  ·have hz := hz.symm
   have hL := hli hl
   obtain ⟨p1, p2⟩ := goodP_0 (goodM_0.1 hz).1
   have hne : a0 ≠ [] := fun e => by rw [e] at p1; exact absurd p1 (by decide)
   have hrow : a1.length ≤ 6000 ∧ ∀ r ∈ a1, smallR 6000 r := hL.2.2 a1 (List.mem_singleton.2 rfl)
   have hgl := hL.1
   have hc : ∀ r ∈ a1, boundP r.cells.length := fun r hr => by have := (hrow.2 r hr).2.1; unfold boundP; omega
   have hk : ∀ r ∈ a1, r.key.size ≤ 137438953472 := fun r hr => by have := (hrow.2 r hr).1; omega
   have hb : boundP a1.length := by unfold boundP; omega
   obtain ⟨q1, q2, q3⟩ := mp_l0 a0 a1 hne (by omega) hc hk
   have e1 : mpA_k1 a0 a1 = true := by unfold mpA_k1; rw [q2]; exact beq_self_eq_true _
   have h := mpA_c a0 a1 (needs_cons hl (needs_cons hw (needs_cons ⟨hz, by unfold boundP; omega, hb, hc⟩ (needs_cons q1 (needs_cons (fun _ => ⟨⟨hne, rfl, Nat.zero_le _⟩, hb, hc, hk⟩) (needs_cons (fun _ _ => by rw [undR_nil]; exact w1) (needs_cons (fun _ _ => by rw [undR_nil]; exact hc) needs_nil)))))))
   have e0 : mpA_0 a0 a1 = true := by
    unfold mpA_0
    rw [q3, e1, undR_nil, eqRs_self]
    rfl
   unfold mpA_r at h
   rw [e0] at h
   exact h
theorem mpt_true (a0 : List TGroup) (a1 : List TRow) (w0 : a0.length ≤ maxLen ∧ ∀ y ∈ a0, Wfd .group y) (w1 : a1.length ≤ maxLen ∧ ∀ y ∈ a1, Wfd .row y) : (∀ p ∈ l24_mp_ps a0 a1, p) ∧ l24_mp_0 a0 a1 = true :=
 ⟨needs_cons w0.1 (needs_cons w1.1 (needs_cons (fun r hr => ⟨(w1.2 r hr).1, (w1.2 r hr).2.1, fun c hc => ((w1.2 r hr).2.2 c hc).2.2.2.1⟩) needs_nil)), rfl⟩
end Go.Proofs.YtkknpeeccejppaaDoor
namespace Go.Proofs.YtkknpeeccejppaaDoor
open Go.RowKit
set_option maxRecDepth 100000
theorem op3 : Opn Tryd.prog .i64 3 := opn_i64 Tryd.underlying3
theorem op4 : Opn Tryd.prog .bool 4 := opn_bool Tryd.underlying4
theorem op9 : Opn Tryd.prog .str 9 := opn_str Tryd.underlying9
theorem op84 : Opn Tryd.prog .group 84 := fun en w base spare held m cs y h => by
 obtain ⟨xs, n, _, _, hl, hz, hg⟩ := DataW.trod_struct Tryd.underlying84 h
 have hz : xs.length = 2 := hz
 have hl : cs.length = 2 := hl.trans (by kernel_rfl)
 obtain ⟨x0, w0, g0⟩ := fldO (i := 0) (o := 0) (k := 1) op9 rfl rfl rfl (by kernel_rfl) (by omega) hg
 obtain ⟨x1, w1, g1⟩ := fldO (i := 1) (o := 1) (k := 1) op3 rfl rfl rfl (by kernel_rfl) (by omega) hg
 exact ⟨⟨x0, x1⟩, ⟨w0, w1⟩, fun F N nx hF => HLd (o := 0) (k := 1) (g0 F N nx hF) (HLd (o := 1) (k := 1) (g1 F N nx hF) (HLe (o := 2) hl))⟩
theorem opL27 : OpnLs Tryd.prog .group 27 := opn_list Tryd.underlying27 (by kernel_rfl) op84
theorem op43 : Opn Tryd.prog .stamp 43 := fun en w base spare held m cs y h => by
 obtain ⟨xs, n, _, _, hl, hz, hg⟩ := DataW.trod_struct Tryd.underlying43 h
 have hz : xs.length = 2 := hz
 have hl : cs.length = 2 := hl.trans (by kernel_rfl)
 obtain ⟨x0, w0, g0⟩ := fldO (i := 0) (o := 0) (k := 1) op3 rfl rfl rfl (by kernel_rfl) (by omega) hg
 obtain ⟨x1, w1, g1⟩ := fldO (i := 1) (o := 1) (k := 1) op3 rfl rfl rfl (by kernel_rfl) (by omega) hg
 exact ⟨⟨x0, x1⟩, ⟨w0, w1⟩, fun F N nx hF => HLd (o := 0) (k := 1) (g0 F N nx hF) (HLd (o := 1) (k := 1) (g1 F N nx hF) (HLe (o := 2) hl))⟩
theorem op45 : Opn Tryd.prog .vec 45 := fun en w base spare held m cs y h => by
 obtain ⟨xs, n, _, _, hl, hz, hg⟩ := DataW.trod_array Tryd.underlying45 h
 have hl : cs.length = 2 := hl.trans (by kernel_rfl)
 obtain ⟨x0, w0, g0⟩ := arrO (i := 0) (k := 1) op3 (by kernel_rfl) (by omega) (by omega) hg
 obtain ⟨x1, w1, g1⟩ := arrO (i := 1) (k := 1) op3 (by kernel_rfl) (by omega) (by omega) hg
 exact ⟨⟨x0, x1⟩, ⟨w0, w1⟩, fun F N nx hF => HLd (o := 0) (k := 1) (g0 F N nx hF) (HLd (o := 1) (k := 1) (g1 F N nx hF) (HLe (o := 2) hl))⟩
theorem op47 : Opn Tryd.prog .cell 47 := fun en w base spare held m cs y h => by
 obtain ⟨xs, n, _, _, hl, hz, hg⟩ := DataW.trod_struct Tryd.underlying47 h
 have hz : xs.length = 5 := hz
 have hl : cs.length = 8 := hl.trans (by kernel_rfl)
 obtain ⟨x0, w0, g0⟩ := fldO (i := 0) (o := 0) (k := 2) op43 rfl rfl rfl (by kernel_rfl) (by omega) hg
 obtain ⟨x1, w1, g1⟩ := fldO (i := 1) (o := 2) (k := 2) op45 rfl rfl rfl (by kernel_rfl) (by omega) hg
 obtain ⟨x2, w2, g2⟩ := fldO (i := 2) (o := 4) (k := 1) op4 rfl rfl rfl (by kernel_rfl) (by omega) hg
 obtain ⟨x3, w3, g3⟩ := fldO (i := 3) (o := 5) (k := 1) op9 rfl rfl rfl (by kernel_rfl) (by omega) hg
 obtain ⟨x4, w4, g4⟩ := fldO (i := 4) (o := 6) (k := 2) op45 rfl rfl rfl (by kernel_rfl) (by omega) hg
 exact ⟨⟨x0, x1, x2, x3, x4⟩, ⟨w0, w1, w2, w3, w4⟩, fun F N nx hF => HLd (o := 0) (k := 2) (g0 F N nx hF) (HLd (o := 2) (k := 2) (g1 F N nx hF) (HLd (o := 4) (k := 1) (g2 F N nx hF) (HLd (o := 5) (k := 1) (g3 F N nx hF) (HLd (o := 6) (k := 2) (g4 F N nx hF) (HLe (o := 8) hl)))))⟩
theorem opL36 : OpnLs Tryd.prog .cell 36 := opn_list Tryd.underlying36 (by kernel_rfl) op47
theorem op38 : Opn Tryd.prog .row 38 := fun en w base spare held m cs y h => by
 obtain ⟨xs, n, _, _, hl, hz, hg⟩ := DataW.trod_struct Tryd.underlying38 h
 have hz : xs.length = 2 := hz
 have hl : cs.length = 2 := hl.trans (by kernel_rfl)
 obtain ⟨x0, w0, g0⟩ := fldO (i := 0) (o := 0) (k := 1) op9 rfl rfl rfl (by kernel_rfl) (by omega) hg
 obtain ⟨x1, w1, g1⟩ := fldL (i := 1) (o := 1) (k := 1) opL36 rfl rfl rfl (by kernel_rfl) (by omega) hg
 exact ⟨⟨x0, x1⟩, ⟨w0, w1⟩, fun F N nx hF => HLd (o := 0) (k := 1) (g0 F N nx hF) (HLd (o := 1) (k := 1) (g1 F N nx hF) (HLe (o := 2) hl))⟩
theorem opL28 : OpnLs Tryd.prog .row 28 := opn_list Tryd.underlying28 (by kernel_rfl) op38
end Go.Proofs.YtkknpeeccejppaaDoor
namespace Go.Proofs.YtkknpeeccejppaaDoor
open Go.ChangeShapes Go.WideShapes Go.ChangeAt Go.RowKit
theorem own : ownKnob Tryd.prog.godebug = none := by kernel_rfl
theorem laidOut : laidOutB Tryd.prog = true := by kernel_rfl
section
variable {P : Program} {H : Type} {enc : TypeId × Value → H} {w : World} {base : Nat} {spare : Nat → Bool} {held : Bool} {v : Value} {d : DataW H} {p : List MemPlace}
end
theorem below_trodAll {H : Type} {enc : TypeId × Value → H} {W W' : World} (hb : Below W.heap.size W W') : ∀ (ts : List TypeId) (vs : List Value) (ds : List (DataW H)) (ps : List MemPlace),
  (∀ t ∈ ts, Tryd.prog.readableRec t = true ∧ t < Tryd.prog.types.size) → DataW.TrodAll enc Tryd.prog W 0 (fun _ => true) true ts vs ds ps → (∀ x ∈ ps, x.block < W.heap.size) →
  DataW.TrodAll enc Tryd.prog W' 0 (fun b => decide (b < W.heap.size)) true ts vs ds ps
 | [], vs, ds, ps, _, h, _ => by
  obtain ⟨rfl, rfl, rfl⟩ := trodAll_nil h
  exact trodAll_mk0
 | t :: ts, vs, ds, ps, hr, h, hlt => by
  obtain ⟨v, vs', d, ds', p, q, rfl, rfl, rfl, h0, h1⟩ := trodAll_cons h
  exact trodAll_cons_mk (Below.trod laidOut (hr t (by simp)).1 (hr t (by simp)).2 h0 hb fun x hx => hlt x (by simp [hx]))
   (below_trodAll hb ts vs' ds' q (fun t' ht' => hr t' (by simp [ht'])) h1 fun x hx => hlt x (by simp [hx]))
end Go.Proofs.YtkknpeeccejppaaDoor
namespace Go.Proofs.YtkknpeeccejppaaDoor
open Go.RowKit Go.WideShapes Go.ChangeShapes
section
variable {H : Type} {en : TypeId × Value → H} {P : Program} {w : World} {base : Nat} {spare : Nat → Bool} {held : Bool} {t e : TypeId} {v : Value} {d : DataW H} {p : List MemPlace} {r : Reach} {b0 : Nat} {c : TC}
theorem arg_list (ht : P.underlying t = some (.slice e)) (ho : OpnLs P c t) (hv : Value.okWide P w r b0 t v) (h : DataW.Trod en P w base spare held t v d p) :
  ∃ l : List (U c), (l.length ≤ maxLen ∧ ∀ x ∈ l, Wfd c x) ∧ ∀ (F : Nat → Prop) (N : Nm) (nx : Nat), FB w F → Hv F N nx w (.sl c l) v := by
 obtain ⟨a, len, cap, rfl⟩ := okWide_slice ht hv
 obtain ⟨fuel, hf⟩ := h
 obtain ⟨l, h1, h2⟩ := ho en w base spare held fuel _ _ hf
 refine ⟨l, h1, fun F N nx hF => ?_⟩
 obtain ⟨y, ys, e, h3, _⟩ := (h2 F N nx hF).inv
 have e' : [Value.slice a len cap] = y :: ys := e
 cases e'
 exact h3
end
theorem call_topG {P : Program} {f : FuncId} {args : List A} {nx' : Nat} {o' : Objs} {b : Bool} (h : CallOk P f args 0 [] 1 (.v (.bool b)) nx' o') (W : World) (hgl : GlobOk (fun b => b < W.heap.size) W) (vs : List Value) (ha : ∀ (F : Nat → Prop) (N : Nm) (nx : Nat), FB W F → HL F N nx W args vs) :
  Calls P f vs.toArray W fun e W' => e = .returned (.bool b) ∧ Below W.heap.size W W' := by
 have hr : HRel (fun b => b < W.heap.size) ⟨fun _ => 0, fun _ => .nilFunc⟩ 0 [] W := ⟨fun g hg => hg, fun i ob hi => (by cases hi), fun i ob g hi => (by cases hi), fun i j x y g hi => (by cases hi), hgl⟩
 refine (h _ _ W vs hr (ha _ _ _ fun b hb => hb)).mono fun e W' ⟨y, F', N', he, _, _, hy, hb⟩ => ?_
 rw [hy.v_inv] at he
 exact ⟨he, hb (Nat.le_refl _)⟩
end Go.Proofs.YtkknpeeccejppaaDoor
namespace Go.Proofs.YtkknpeeccejppaaDoor
open Go.RowKit Go.ChangeShapes Go.WideShapes Go.ChangeAt
theorem laid_ints {P : Program} {t e : TypeId} {n : Nat} {H : Type} {en : TypeId × Value → H} {W : World} {base : Nat} {spare : Nat → Bool} {held : Bool} {fuel : Nat} {k : IntKind} (hu : P.underlying t = some (.array n e)) (he : P.underlying e = some (.int k)) (hc : P.cellsOf e = 1) (ht : P.cellsOf t = n) {cs : List Value} {l : List Int} {p : List MemPlace}
  (h : DataW.trod en P W base spare held fuel t cs = some (.agg (l.map fun x => .lit (.int k x)), p)) : cs = l.map (fun x => Value.int k x) := by
 obtain ⟨xs, m, _, hx, hl, hn, hg⟩ := DataW.trod_array hu h
 rw [ht] at hl
 rw [hc] at hg
 have e1 : xs.map (·.1) = l.map fun x => DataW.lit (.int k x) := by
  have := congrArg Prod.fst hx
  simpa using this.symm
 have hln : l.length = n := by
  have := congrArg List.length e1
  simpa [hn] using this.symm
 refine List.ext_getElem? fun i => ?_
 by_cases hi : i < n
 ·have h1 := hg i hi
  have hxi : xs[i]? = some xs[i] := List.getElem?_eq_getElem (by omega)
  rw [hxi] at h1
  obtain ⟨m', e2, e3, _⟩ := DataW.trod_int he h1
  have e4 := congrArg (·[i]?) e1
  simp only [List.getElem?_map, hxi, Option.map_some] at e4
  have hli : l[i]? = some l[i] := List.getElem?_eq_getElem (by omega)
  rw [hli, Option.map_some, e3] at e4
  have e5 : m' = l[i] := by simpa using e4
  rw [List.getElem?_map, hli, Option.map_some, ← e5]
  have e6 : ((cs.drop (i * 1)).take 1)[0]? = some (Value.int k m') := by rw [e2]; rfl
  rw [List.getElem?_take_of_lt (by omega), List.getElem?_drop] at e6
  simpa using e6
 ·rw [List.getElem?_eq_none (by omega), List.getElem?_eq_none (by rw [List.length_map]; omega)]
abbrev laidL : List (String × DataW Unit) := [("gemel/sha.rounds", Rows.laid_gemel_sha_rounds)]
theorem door_met (os : Os) (args : Array Value) : laidMetH Tryd.prog laidL ((World.doorLaid Tryd.prog 400 os).forCall (fun _ _ => 0) ⟨#[], args, []⟩).memory :=
 laidMetH_of_parts3 (fuel := 8) (laidMet_of_run' 8 (by kernel_rfl) (by kernel_rfl)) (by kernel_rfl) (by kernel_rfl)
def gIx : Nat := match globs with
 | [(i, _)] => i
 | _ => 0
theorem gName : Tryd.prog.globalNamed "gemel/sha.rounds" = some gIx := by kernel_rfl
theorem gType : (Tryd.prog.globals[gIx]?).map (·.type) = some 118 := by kernel_rfl
def roundsL : List Int := match globs with
 | [(_, ⟨.u32, _, l⟩)] => l
 | _ => []
theorem laid_is : (Rows.laid_gemel_sha_rounds : DataW Unit) = .agg (roundsL.map fun x => .lit (.int .u32 x)) := by kernel_rfl
theorem globs_is : globs = [(gIx, ⟨.u32, rfl, roundsL⟩)] := by kernel_rfl
theorem glob_ok {W : World} (h : laidMetH Tryd.prog laidL W) : GlobOk (fun b => b < W.heap.size) W := by
 rw [MakeChecks.laidMetH_plain _ _ _ (by kernel_rfl)] at h
 obtain ⟨ps, ⟨g0, t0, cs0, f0, p0, q0, hg0, ht0, hv0, hd0, _, hps⟩, _, hcell⟩ := h
 obtain rfl := Option.some.inj (gName.symm.trans hg0)
 obtain rfl := Option.some.inj (gType.symm.trans ht0)
 rw [laid_is] at hd0
 have hcs := laid_ints (l := roundsL) Tryd.underlying118 Tryd.underlying66 (by kernel_rfl) (by kernel_rfl) hd0
 have hlen : cs0.toList.length = 64 := by rw [hcs, List.length_map]; kernel_rfl
 have hsz : cs0.size = 64 := by rw [← Array.length_toList]; exact hlen
 have hm : MemPlace.cell gIx 0 ∈ ps := by
  rw [hps]
  refine List.mem_append.2 (.inl (List.mem_append.2 (.inl ?_)))
  unfold MemPlace.row
  rw [hsz]
  exact List.mem_map.2 ⟨0, List.mem_range.2 (by decide), rfl⟩
 obtain ⟨⟨c, t, hc⟩, _⟩ := hcell gIx 0 hm
 have hcc : c = cs0 := by
  unfold World.var? at hv0
  rw [gName] at hv0
  simp only [Option.bind_some, hc] at hv0
  exact Option.some.inj hv0
 subst hcc
 intro x hx
 rw [globs_is] at hx
 obtain rfl := List.mem_singleton.1 hx
 refine ⟨blk_lt hc, t, ?_⟩
 show W.heap[gIx]? = some (.cells (roundsL.map (sv .u32)).toArray t (0, 0))
 rw [hc]
 congr 2
 apply Array.ext'
 rw [hcs]
 rfl
end Go.Proofs.YtkknpeeccejppaaDoor
namespace Go.Proofs.YtkknpeeccejppaaDoor.merkleParts
open Go.ChangeShapes Go.WideShapes Go.ChangeAt Go.RowKit
theorem lifted (os : Os) (started : os.Started) (H : Type) (enc : TypeId × Value → H) :
  ReturnsInHanded {} Tryd.checked os 4 .any (fun w args => (Rows.merklePartsSpec.pre enc Tryd.prog Tryd.f4 [] false w args ∧ laidMetH Tryd.prog laidL w) ∧ sizedMet enc Tryd.prog Tryd.f4 (OpenSpec.ofChange Rows.merklePartsSpec) false w args)
   (Rows.merklePartsSpec.post enc Tryd.prog Tryd.f4 false true false false) := by
 refine returnsInHanded_of_change_and (C := Tryd.checked) (X := fun w _ => laidMetH Tryd.prog laidL w) (fun _ _ _ hh h => h.of_heap hh) own started (by kernel_rfl) Tryd.func4
  (ChangeSpec.witness_shaped (enc := enc) (C := Tryd.checked) (os := os) (X := fun w _ => laidMetH Tryd.prog laidL w) false (World.doorLaid Tryd.prog 400 os) #[.slice none 0 0, .slice none 0 0] 8 rfl (World.shaped_of_RefB (by kernel_rfl) (by kernel_rfl)) (by kernel_rfl) (by kernel_rfl) (by kernel_rfl) (door_met os _)) ?_
 intro W base args ds gs before hval0 hW _ _ hL _
 have hval : ∀ (j : Nat) t v, Tryd.f4.params[j]? = some t → args[j]? = some v → Value.okWide Tryd.prog W .any base t v := hval0
 have hW' := hW
 have hlt : ∀ x ∈ before, x.block < W.heap.size := fun x hx => hW.lt x hx
 obtain ⟨p, q, hA0, hV, rfl, hfz, hnd⟩ := hW
 have hA : DataW.TrodAll enc Tryd.prog W 0 (fun _ => true) true Tryd.f4.params.toList args.toList ds p := hA0
 rw [Tryd.params4] at hA hval
 have hA' := hA
 obtain ⟨v0, vs0, d0, ds0, p0, q0, hargs, rfl, rfl, h0, r0⟩ := trodAll_cons hA
 obtain ⟨v1, vs1, d1, ds1, p1, q1, rfl, rfl, rfl, h1, r1⟩ := trodAll_cons r0
 obtain ⟨rfl, rfl, rfl⟩ := trodAll_nil r1
 obtain rfl : args = #[v0, v1] := by cases args; simp_all
 obtain ⟨rfl, rfl⟩ := trodVars_none hV
 obtain ⟨a0, w0, g0⟩ := arg_list Tryd.underlying27 opL27 (hval 0 27 v0 rfl rfl) h0
 obtain ⟨a1, w1, g1⟩ := arg_list Tryd.underlying28 opL28 (hval 1 28 v1 rfl rfl) h1
 obtain ⟨hn, ht⟩ := mpt_true a0 a1 w0 w1
 have hc := l24_mp_c a0 a1 hn
 have hr : l24_mp_r a0 a1 = .v (.bool true) := by show A.v (.bool (l24_mp_0 a0 a1)) = _; rw [ht]
 rw [hr] at hc
 refine (call_topG hc W (glob_ok hL) [v0, v1] fun F N nx hF => HL.cons (g0 F N nx hF) (HL.cons (g1 F N nx hF) (HL.nil))).mono fun e W' ⟨he, bel⟩ => ?_
 subst he
 have hread : ∀ t ∈ [27, 28], Tryd.prog.readableRec t = true ∧ t < Tryd.prog.types.size := by
  intro t ht
  simp only [List.mem_cons, List.not_mem_nil, or_false] at ht
  rcases ht with rfl | rfl
  all_goals exact ⟨by kernel_rfl, of_decide_eq_true (by kernel_rfl)⟩
 exact ⟨_, rfl, _, _, _, [], _, [], hW', trodAll_mk1 (shut_bool Tryd.underlying4 _),
  below_trodAll bel _ _ _ _ hread hA' (fun x hx => hlt x (by simpa using hx)), rfl, bel.frame _, fun h => by cases h⟩
theorem tA : Tryd.prog.funcNamed Rows.merklePartsRow.func = some 4 := by kernel_rfl
theorem b0 : (Rows.merklePartsRow.wf (OpenSpec.ofChange Rows.merklePartsSpec)) = true := by kernel_rfl
theorem b1 : (laidOutB Tryd.prog) = true := by kernel_rfl
theorem b2 : (mapsRowed Tryd.prog) = true := by kernel_rfl
theorem b3 : (Tryd.f4.params.all (Tryd.prog.readableRec ·)) = true := by kernel_rfl
theorem b4 : (namedTie Tryd.prog Rows.merklePartsRow.named Rows.merklePartsSpec.vars) = true := by kernel_rfl
theorem b5 : ((Rows.merklePartsRow.stops == [])) = true := by kernel_rfl
theorem b6 : ((Tryd.prog.stops == [])) = true := by kernel_rfl
theorem b7 : ((Rows.merklePartsRow.knobs == [])) = true := by kernel_rfl
theorem b8 : ((Tryd.prog.stopKnobs == [])) = true := by kernel_rfl
theorem b9 : ((Rows.merklePartsRow.inPlace == Tryd.prog.inPlace 4)) = true := by kernel_rfl
theorem b10 : ((Rows.merklePartsRow.unfollowed == Tryd.prog.unfollowed 4)) = true := by kernel_rfl
theorem b11 : ((Rows.merklePartsRow.recurses == Tryd.prog.recurses 4)) = true := by kernel_rfl
theorem b12 : ((Rows.merklePartsRow.named == Tryd.prog.varsNamed 4)) = true := by kernel_rfl
theorem b13 : ((Rows.merklePartsRow.maps == (Tryd.f4.params.toList ++ Rows.merklePartsSpec.plain.varTypes Tryd.prog).any (Tryd.prog.mapsRec ·))) = true := by kernel_rfl
theorem b14 : ((Rows.merklePartsRow.ifaces == (Tryd.f4.params.toList ++ Rows.merklePartsSpec.plain.varTypes Tryd.prog).any (Tryd.prog.ifacesRec ·))) = true := by kernel_rfl
theorem b15 : ((Rows.merklePartsRow.mapsOut == Tryd.prog.mapsAmong Tryd.f4.resultTypes.toList)) = true := by kernel_rfl
theorem b16 : ((Rows.merklePartsRow.loops == (Tryd.f4.params.toList ++ Rows.merklePartsSpec.plain.varTypes Tryd.prog).any (Tryd.prog.loopsFrom ·))) = true := by kernel_rfl
theorem b17 : ((Rows.merklePartsRow.wideKeys == (Tryd.f4.params.toList ++ Rows.merklePartsSpec.plain.varTypes Tryd.prog ++ Tryd.f4.resultTypes.toList).any (Tryd.prog.wideKeysFrom ·))) = true := by kernel_rfl
theorem b18 : (Rows.merklePartsSpec.vars.all (Tryd.prog.varReadable ·)) = true := by kernel_rfl
theorem b19 : (Tryd.f4.resultTypes.all (fun t => Tryd.prog.readableRec t && decide (t < Tryd.prog.types.size))) = true := by kernel_rfl
theorem b20 : ((Rows.merklePartsRow.ifacesOut == Tryd.f4.resultTypes.toList.any (Tryd.prog.ifacesRec ·))) = true := by kernel_rfl
theorem b21 : ((Rows.merklePartsRow.loopsOut == Tryd.f4.resultTypes.toList.any (Tryd.prog.loopsFrom ·))) = true := by kernel_rfl
theorem b22 : ((Rows.merklePartsRow.plainKeys == Tryd.prog.plainKeys)) = true := by kernel_rfl
theorem b23 : (Rows.merklePartsRow.shortTexts.isNone) = true := by kernel_rfl
theorem b24 : (Tryd.prog.stopsHeard) = true := by kernel_rfl
theorem b25 : (Tryd.prog.mayEnter) = true := by kernel_rfl
theorem b26 : ((Rows.merklePartsRow.lifted == Tryd.prog.liftsFinal)) = true := by kernel_rfl
theorem b27 : ((Tryd.prog.make == some Rows.merklePartsRow.make)) = true := by kernel_rfl
theorem b28 : ((Rows.merklePartsRow.kinds == (if Rows.merklePartsRow.domain.isEmpty then [] else Tryd.f4.params.toList.map fun t => match Tryd.prog.underlying t with | some (.int k) => some k | _ => none))) = true := by kernel_rfl
theorem b29 : ((Rows.merklePartsRow.pinned == Rows.merklePartsRow.pinnedBy)) = true := by kernel_rfl
theorem b30 : ((Rows.merklePartsRow.veiled == (Tryd.f4.params.toList ++ Rows.merklePartsSpec.plain.varTypes Tryd.prog ++ Tryd.f4.resultTypes.toList).any (Tryd.prog.veiledRec ·))) = true := by kernel_rfl
theorem b31 : (Rows.merklePartsRow.veiledFits Tryd.prog Tryd.f4.params.toList (Tryd.f4.params.toList ++ Rows.merklePartsSpec.plain.varTypes Tryd.prog ++ Tryd.f4.resultTypes.toList)) = true := by kernel_rfl
theorem andI {a b : Bool} (h : a = true) (g : b = true) : (a && b) = true := by rw [h, g]; rfl
theorem tB : joinedFacts Tryd.prog 4 Tryd.f4 Rows.merklePartsSpec Rows.merklePartsRow = true := by
 unfold joinedFacts
 exact (andI (andI (andI (andI (andI (andI (andI (andI (andI (andI (andI (andI (andI (andI (andI (andI (andI (andI (andI (andI (andI (andI (andI (andI (andI (andI (andI (andI (andI (andI (andI b0 b1) b2) b3) b4) b5) b6) b7) b8) b9) b10) b11) b12) b13) b14) b15) b16) b17) b18) b19) b20) b21) b22) b23) b24) b25) b26) b27) b28) b29) b30) b31)
theorem tC : Tryd.f4.isInstance Tryd.prog Rows.merklePartsRow.origin Rows.merklePartsRow.targs := of_decide_eq_true (by kernel_rfl)
theorem tD0 : decide (Check.packageOf Tryd.f4.name = "main") = false := by kernel_rfl
theorem tD : Tryd.f4.isWrapper Tryd.prog Rows.merklePartsRow.wrapper Rows.merklePartsRow.mainSum := by
 unfold Func.isWrapper
 rw [if_neg (of_decide_eq_false tD0)]
 exact ⟨rfl, rfl⟩
theorem over : Rows.merklePartsRow.holds Tryd.pinned (OpenSpec.ofChange Rows.merklePartsSpec) :=
 OpenClaim.holds_of_wide 4 Tryd.f4 rfl rfl rfl rfl rfl rfl rfl ⟨rfl, rfl, rfl, rfl, rfl⟩ rfl rfl rfl rfl rfl tA Tryd.func4 tB tC tD
  (fun os started H enc _ => lifted os started H enc)
theorem proved : Rows.MerklePartsCardSaid :=
 Claim7.holds_tied_plain_at .later [] [.data] true (true, "072e1f491989b42311508017d6b2e2f88728a093cb25e5e986a8992b5e14597a") false
  over (fun _ h => by cases h) (by kernel_rfl) (fun _ h => by cases h) merkleParts_row_tie rfl ⟨rfl, rfl⟩ (by kernel_rfl) rfl
  (fun f fn hf hfn => by
   obtain rfl : f = 4 := Option.some.inj ((show Tryd.prog.funcNamed "gemel/gemellaw24.MerkleParts" = some 4 by kernel_rfl).symm.trans hf) |>.symm
   obtain rfl : fn = Tryd.f4 := (Option.some.inj (Tryd.func4.symm.trans hfn)).symm
   exact ⟨by kernel_rfl, fun j t ht => by
    rw [Tryd.params4] at ht
    have hm : t ∈ [27, 28] := by simpa using Array.mem_of_getElem? ht
    have hall : ([27, 28].all fun u => !Tryd.prog.wantsStandIn u) = true := by kernel_rfl
    exact (show Tryd.prog.wantsStandIn t = false by simpa using List.all_eq_true.1 hall t hm)⟩)
  (by kernel_rfl)
end Go.Proofs.YtkknpeeccejppaaDoor.merkleParts
