/- made by a program (rowgen.py): SortedApart: for every input the law returns true, and each argument reads behind the call as it read before. -/
import Derived.Test.YtnfmceffbnaanaaKSrf
import Derived.Test.YtnfmceffbnaanaaRows

namespace Go.Proofs.Ytnfmceffbnaanaa
open Go.RowKit
def mT (acts : List TAct) : Nat → List TRow
 | 0 => []
 | i + 1 => actSet (mT acts i) (acts.getD i (dflt TC.act))
theorem mT_ok {acts : List TAct} (h : ∀ a ∈ acts, smallA a) : ∀ i, i ≤ acts.length → OkM i (mT acts i)
 | 0, _ => OkM.nil
 | i + 1, hi => (mT_ok h i (by omega)).actSet (h _ (getD_in acts (dflt TC.act) i (by omega)))
def moreA (m : List TRow) (a : TAct) : List TRow := bif a.kind == 1 then dropR m a.row.key else actSet m a
def mU (m : List TRow) (acts : List TAct) : Nat → List TRow
 | 0 => m
 | i + 1 => moreA (mU m acts i) (acts.getD i (dflt TC.act))
theorem mU_ok {m : List TRow} {n : Nat} (hm : OkM n m) {acts : List TAct} (h : ∀ a ∈ acts, smallA a) : ∀ i, i ≤ acts.length → OkM (n + i) (mU m acts i)
 | 0, _ => hm
 | i + 1, hi => by
  have ih := mU_ok hm h i (by omega)
  show OkM (n + i + 1) (moreA (mU m acts i) (acts.getD i (dflt TC.act)))
  unfold moreA
  cases (acts.getD i (dflt TC.act)).kind == 1 with
  | true => exact ih.drop _
  | false => exact ih.actSet (h _ (getD_in acts (dflt TC.act) i (by omega)))
theorem ap_f3 (acts : List TAct) (n : Int) (i : Nat) (m : List TRow) : l11_SortedApart_l0_f_3 acts n (i : Int) m = actSet m (acts.getD i (dflt TC.act)) := by
 have same : (bif (acts.getD i (dflt TC.act)).1 == (4 : Int) then (acts.getD i (dflt TC.act)).2.1 else (acts.getD i (dflt TC.act)).2.1) = (acts.getD i (dflt TC.act)).2.1 := by
  cases (acts.getD i (dflt TC.act)).1 == (4 : Int) <;> rfl
 unfold l11_SortedApart_l0_f_3 l11_SortedApart_l0_f_k1 l11_SortedApart_l0_f_k0
 rw [Int.toNat_natCast, same]
 rfl
theorem ap_k0 (acts : List TAct) (n : Int) (i : Nat) (m : List TRow) : l11_SortedApart_l0_f_k0 acts n (i : Int) m = actCells (acts.getD i (dflt TC.act)) := by
 unfold l11_SortedApart_l0_f_k0
 rw [Int.toNat_natCast]
 rfl
theorem ap_g3 (acts : List TAct) (n : Int) (i : Nat) (m : List TRow) : l11_SortedApart_l2_f_3 acts n (i : Int) m = moreA m (acts.getD i (dflt TC.act)) := by
 have same : (bif (acts.getD i (dflt TC.act)).1 == (4 : Int) then (acts.getD i (dflt TC.act)).2.1 else (acts.getD i (dflt TC.act)).2.1) = (acts.getD i (dflt TC.act)).2.1 := by
  cases (acts.getD i (dflt TC.act)).1 == (4 : Int) <;> rfl
 unfold l11_SortedApart_l2_f_3 l11_SortedApart_l2_f_k1 l11_SortedApart_l2_f_k0
 rw [Int.toNat_natCast, same]
 rfl
theorem ap_h0 (acts : List TAct) (n : Int) (i : Nat) (m : List TRow) : l11_SortedApart_l2_f_k0 acts n (i : Int) m = actCells (acts.getD i (dflt TC.act)) := by
 unfold l11_SortedApart_l2_f_k0
 rw [Int.toNat_natCast]
 rfl
theorem ap_l0 {acts : List TAct} (hn : acts.length ≤ 1000) (ha : ∀ a ∈ acts, smallA a) :
  needX l11_SortedApart_l0_next l11_SortedApart_l0_goes l11_SortedApart_l0_ps (l11_SortedApart_l0_fuel (acts, (acts.length : Int), (0 : Int), [])) (acts, (acts.length : Int), (0 : Int), []) ∧
  l11_SortedApart_l0_run (acts, (acts.length : Int), (0 : Int), []) = (acts, (acts.length : Int), (acts.length : Int), mT acts acts.length) :=
 scanAll (fun i => ((acts, (acts.length : Int), (i : Int), mT acts i) : l11_SortedApart_l0_X)) acts.length l11_SortedApart_l0_next l11_SortedApart_l0_goes l11_SortedApart_l0_ps (l11_SortedApart_l0_fuel (acts, (acts.length : Int), (0 : Int), [])) (acts, (acts.length : Int), (0 : Int), []) rfl (by show acts.length ≤ ((acts.length : Int) - 0).toNat; omega)
  (fun i hi => by
   show (!!decide ((i : Int) < (acts.length : Int))) = _
   rw [nn, dlt])
  (fun i hi => by
   show (acts, (acts.length : Int), IntKind.i64.wrap ((i : Int) + 1), l11_SortedApart_l0_f_3 acts (acts.length : Int) (i : Int) (mT acts i)) = _
   rw [ap_f3, wsucc (by omega)]
   rfl)
  (fun i hi => by
   have ok := mT_ok ha i hi
   have hin : (!!decide ((i : Int) < (acts.length : Int))) = true → i < acts.length := fun h => by rw [nn, dlt] at h; exact of_decide_eq_true h
   have sm : i < acts.length → smallA (acts.getD i (dflt TC.act)) := fun h => ha _ (getD_in acts (dflt TC.act) i h)
   have b2 : ∀ {k : Nat}, k ≤ 2000 → boundP k := fun h => by unfold boundP; omega
   refine needs_cons (fun h => ?_) (needs_cons (fun h => ?_) (needs_cons (fun h _ => ?_) (needs_cons (fun h _ => ?_) needs_nil)))
   ·have := hin h
    show (0 : Int) ≤ (i : Int) ∧ (i : Int) < (acts.length : Int)
    omega
   ·show boundP (0 + (acts.getD ((i : Int)).toNat (dflt TC.act)).2.2.length)
    rw [Int.toNat_natCast, Nat.zero_add]
    exact b2 (sm (hin h)).1
   ·show boundP (l11_SortedApart_l0_f_k0 acts (acts.length : Int) (i : Int) (mT acts i)).length
    rw [ap_k0]
    exact b2 (actCells_len (sm (hin h))).1
   ·exact ok.few (by omega))
theorem ap_l2 {acts : List TAct} (hn : acts.length ≤ 1000) (ha : ∀ a ∈ acts, smallA a) {m : List TRow} {n : Nat} (hm : OkM n m) (hn2 : n ≤ 1000) :
  needX l11_SortedApart_l2_next l11_SortedApart_l2_goes l11_SortedApart_l2_ps (l11_SortedApart_l2_fuel (acts, (acts.length : Int), (0 : Int), m)) (acts, (acts.length : Int), (0 : Int), m) ∧
  l11_SortedApart_l2_run (acts, (acts.length : Int), (0 : Int), m) = (acts, (acts.length : Int), (acts.length : Int), mU m acts acts.length) :=
 scanAll (fun i => ((acts, (acts.length : Int), (i : Int), mU m acts i) : l11_SortedApart_l2_X)) acts.length l11_SortedApart_l2_next l11_SortedApart_l2_goes l11_SortedApart_l2_ps (l11_SortedApart_l2_fuel (acts, (acts.length : Int), (0 : Int), m)) (acts, (acts.length : Int), (0 : Int), m) rfl (by show acts.length ≤ ((acts.length : Int) - 0).toNat; omega)
  (fun i hi => by
   show (!!decide ((i : Int) < (acts.length : Int))) = _
   rw [nn, dlt])
  (fun i hi => by
   show (acts, (acts.length : Int), IntKind.i64.wrap ((i : Int) + 1), l11_SortedApart_l2_f_3 acts (acts.length : Int) (i : Int) (mU m acts i)) = _
   rw [ap_g3, wsucc (by omega)]
   rfl)
  (fun i hi => by
   have ok := mU_ok hm ha i hi
   have hin : (!!decide ((i : Int) < (acts.length : Int))) = true → i < acts.length := fun h => by rw [nn, dlt] at h; exact of_decide_eq_true h
   have sm : i < acts.length → smallA (acts.getD i (dflt TC.act)) := fun h => ha _ (getD_in acts (dflt TC.act) i h)
   have b2 : ∀ {k : Nat}, k ≤ 2000 → boundP k := fun h => by unfold boundP; omega
   refine needs_cons (fun h => ?_) (needs_cons (fun h _ _ => ?_) (needs_cons (fun h _ => ?_) (needs_cons (fun h _ _ => ?_) (needs_cons (fun h _ _ => ?_) needs_nil))))
   ·have := hin h
    show (0 : Int) ≤ (i : Int) ∧ (i : Int) < (acts.length : Int)
    omega
   ·exact ok.few (by omega)
   ·show boundP (0 + (acts.getD ((i : Int)).toNat (dflt TC.act)).2.2.length)
    rw [Int.toNat_natCast, Nat.zero_add]
    exact b2 (sm (hin h)).1
   ·show boundP (l11_SortedApart_l2_f_k0 acts (acts.length : Int) (i : Int) (mU m acts i)).length
    rw [ap_h0]
    exact b2 (actCells_len (sm (hin h))).1
   ·exact ok.few (by omega))
theorem dropR_head {x : TRow} {a : List TRow} (h : SortR (x :: a)) : dropR (x :: a) x.key = a := by
 obtain ⟨h1, _⟩ := List.pairwise_cons.1 h
 unfold dropR
 rw [List.filter_cons_of_neg (by rw [kLt_irrefl]; exact Bool.false_ne_true), List.filter_cons_of_neg (by rw [kLt_irrefl]; exact Bool.false_ne_true), List.filter_eq_nil_iff.2 fun y hy => by rw [kLt_asymm (h1 y hy)]; exact Bool.false_ne_true, filter_all h1]
 rfl
theorem ap_l4 {m : List TRow} {n : Nat} (hm : OkM n m) (hn : n ≤ 1000) :
  needX l11_SortedApart_l4_next l11_SortedApart_l4_goes l11_SortedApart_l4_ps (l11_SortedApart_l4_fuel ((m.length : Int), (0 : Int), m, m)) ((m.length : Int), (0 : Int), m, m) ∧
  l11_SortedApart_l4_run ((m.length : Int), (0 : Int), m, m) = ((m.length : Int), (m.length : Int), [], m) := by
 have hl := hm.len
 obtain ⟨h1, h2⟩ := scanAll (fun i => (((m.length : Int), (i : Int), m.drop i, m) : l11_SortedApart_l4_X)) m.length l11_SortedApart_l4_next l11_SortedApart_l4_goes l11_SortedApart_l4_ps (l11_SortedApart_l4_fuel ((m.length : Int), (0 : Int), m, m)) ((m.length : Int), (0 : Int), m, m) rfl (by show m.length ≤ ((m.length : Int) - 0).toNat; omega)
  (fun i hi => by
   show (!!decide ((i : Int) < (m.length : Int))) = _
   rw [nn, dlt])
  (fun i hi => by
   have e : m.drop i = m.getD i (dflt TC.row) :: m.drop (i + 1) := by
    rw [List.drop_eq_getElem_cons hi, List.getD_eq_getElem?_getD, List.getElem?_eq_getElem hi]
    rfl
   have hs : SortR (m.drop i) := hm.sort.sublist (List.drop_sublist i m)
   show ((m.length : Int), IntKind.i64.wrap ((i : Int) + 1), l11_SortedApart_l4_f_2 (m.length : Int) (i : Int) (m.drop i) m, m) = _
   unfold l11_SortedApart_l4_f_2
   rw [Int.toNat_natCast, wsucc (by omega)]
   rw [e] at hs
   have := dropR_head hs
   rw [← e] at this
   show ((m.length : Int), _, dropR (m.drop i) (m.getD i (dflt TC.row)).key, m) = _
   rw [this])
  (fun i hi => by
   refine needs_cons (fun h => ?_) (needs_cons (fun h _ => ?_) needs_nil)
   ·rw [nn, dlt] at h
    have := of_decide_eq_true h
    show (0 : Int) ≤ (i : Int) ∧ (i : Int) < (m.length : Int)
    omega
   ·show (m.drop i).length ≤ 1099511627775
    rw [List.length_drop]
    omega)
 refine ⟨h1, ?_⟩
 have hr : l11_SortedApart_l4_run ((m.length : Int), (0 : Int), m, m) = _ := h2
 rw [hr, List.drop_length]
theorem ap_true (acts more : List TAct) (w : acts.length ≤ maxLen ∧ ∀ y ∈ acts, Wfd .act y) (w' : more.length ≤ maxLen ∧ ∀ y ∈ more, Wfd .act y) : (∀ p ∈ l11_SortedApart_ps acts more, p) ∧ l11_SortedApart_0 acts more = true := by
 obtain ⟨g1, g2⟩ := lightA_eq acts w.1 fun a ha => wideA_of (w.2 a ha)
 obtain ⟨g1', g2'⟩ := lightA_eq more w'.1 fun a ha => wideA_of (w'.2 a ha)
 cases hl : (!l11_light_0 acts || !l11_light_0 more) with
 | true =>
  have no : ∀ {q : Prop}, (!(!l11_light_0 acts || !l11_light_0 more)) = true → q := fun h => by rw [hl] at h; cases h
  refine ⟨needs_cons g1 (needs_cons (fun _ => g1') (needs_cons no (needs_cons no (needs_cons no (needs_cons no (needs_cons no (needs_cons no (needs_cons no (needs_cons no (needs_cons no (needs_cons no (needs_cons no (needs_cons no (needs_cons no (needs_cons no needs_nil))))))))))))))), ?_⟩
  unfold l11_SortedApart_0
  rw [hl]
  rfl
 | false =>
  have hl' := hl
  rw [Bool.or_eq_false_iff] at hl'
  obtain ⟨hn, ha⟩ := g2 (by simpa using hl'.1)
  obtain ⟨hn', ha'⟩ := g2' (by simpa using hl'.2)
  obtain ⟨q1, q2⟩ := ap_l0 hn ha
  have ok := mT_ok ha acts.length (Nat.le_refl _)
  obtain ⟨r1, r2⟩ := ap_l2 hn' ha' ok hn
  have ok2 := mU_ok ok ha' more.length (Nat.le_refl _)
  obtain ⟨s1, s2⟩ := ap_l4 ok hn
  have hm := ok.len
  have hm2 := ok2.len
  have e4 : l11_SortedApart_k4 acts more = mT acts acts.length := by unfold l11_SortedApart_k4; rw [q2]
  have e3 : l11_SortedApart_k3 acts more = mT acts acts.length := by
   unfold l11_SortedApart_k3
   rw [e4]
   exact scan_all (by omega)
  have e2 : l11_SortedApart_k2 acts more = mU (mT acts acts.length) more more.length := by
   unfold l11_SortedApart_k2
   rw [e4, r2]
   exact scan_all (by show ((mU (mT acts acts.length) more more.length).length : Int) ≤ _; omega)
  have e1 : l11_SortedApart_k1 acts more = false := by unfold l11_SortedApart_k1; rw [eqRs_self]; rfl
  have e0 : l11_SortedApart_k0 acts more = true := by
   unfold l11_SortedApart_k0
   rw [e2, e3, e4, r2, s2]
   show ((0 : Int) == 0 && _) = true
   rw [beq_self_eq_true, beq_self_eq_true]
   rfl
  have sp : ScanP (mT acts acts.length) := ok.scanP (by omega)
  have sp2 : ScanP (mU (mT acts acts.length) more more.length) := ok2.scanP (by omega)
  have wd : wideN (mT acts acts.length).length := by unfold wideN; omega
  refine ⟨needs_cons g1 (needs_cons (fun _ => g1') (needs_cons (fun _ _ => q1) (needs_cons (fun _ _ => ?_) (needs_cons (fun _ _ _ => ?_) (needs_cons (fun _ _ _ _ => ?_) (needs_cons (fun _ _ _ _ => ?_) (needs_cons (fun _ _ _ => ?_) (needs_cons (fun _ _ _ => ?_) (needs_cons (fun _ _ _ => ?_) (needs_cons (fun _ _ _ => ?_) (needs_cons (fun _ _ _ _ => ?_) (needs_cons (fun _ _ _ _ => ?_) (needs_cons (fun _ _ _ _ _ => ?_) (needs_cons (fun _ _ _ _ _ _ => ?_) (needs_cons (fun _ _ _ _ _ _ => ?_) needs_nil))))))))))))))), ?_⟩
  ·rw [e4]; exact sp
  ·rw [e4]; exact sp
  ·rw [e3]; exact wd
  ·rw [e3]; exact sp.2
  ·rw [e4]; exact r1
  ·rw [e4]; exact sp
  ·rw [e3]; exact wd
  ·rw [e3]; exact sp.2
  ·rw [e4, r2]; exact sp2
  ·rw [e3, e4]; exact s1
  ·rw [e4, r2]; exact sp2
  ·rw [e2]; unfold wideN; omega
  ·rw [e2]; exact sp2.2
  ·unfold l11_SortedApart_0
   rw [hl, e1, e0, eqRs_self]
   rfl
end Go.Proofs.Ytnfmceffbnaanaa
namespace Go.Proofs.Ytnfmceffbnaanaa
open Go.RowKit
set_option maxRecDepth 100000
theorem op3 : Opn Try.prog .i64 3 := opn_i64 Try.underlying3
theorem op4 : Opn Try.prog .bool 4 := opn_bool Try.underlying4
theorem op9 : Opn Try.prog .str 9 := opn_str Try.underlying9
theorem op60 : Opn Try.prog .stamp 60 := fun en w base spare held m cs y h => by
 obtain ⟨xs, n, _, _, hl, hz, hg⟩ := DataW.trod_struct Try.underlying60 h
 have hz : xs.length = 2 := hz
 have hl : cs.length = 2 := hl.trans (by kernel_rfl)
 obtain ⟨x0, w0, g0⟩ := fldO (i := 0) (o := 0) (k := 1) op3 rfl rfl rfl (by kernel_rfl) (by omega) hg
 obtain ⟨x1, w1, g1⟩ := fldO (i := 1) (o := 1) (k := 1) op3 rfl rfl rfl (by kernel_rfl) (by omega) hg
 exact ⟨⟨x0, x1⟩, ⟨w0, w1⟩, fun F N nx hF => HLd (o := 0) (k := 1) (g0 F N nx hF) (HLd (o := 1) (k := 1) (g1 F N nx hF) (HLe (o := 2) hl))⟩
theorem op62 : Opn Try.prog .vec 62 := fun en w base spare held m cs y h => by
 obtain ⟨xs, n, _, _, hl, hz, hg⟩ := DataW.trod_array Try.underlying62 h
 have hl : cs.length = 2 := hl.trans (by kernel_rfl)
 obtain ⟨x0, w0, g0⟩ := arrO (i := 0) (k := 1) op3 (by kernel_rfl) (by omega) (by omega) hg
 obtain ⟨x1, w1, g1⟩ := arrO (i := 1) (k := 1) op3 (by kernel_rfl) (by omega) (by omega) hg
 exact ⟨⟨x0, x1⟩, ⟨w0, w1⟩, fun F N nx hF => HLd (o := 0) (k := 1) (g0 F N nx hF) (HLd (o := 1) (k := 1) (g1 F N nx hF) (HLe (o := 2) hl))⟩
theorem op64 : Opn Try.prog .cell 64 := fun en w base spare held m cs y h => by
 obtain ⟨xs, n, _, _, hl, hz, hg⟩ := DataW.trod_struct Try.underlying64 h
 have hz : xs.length = 5 := hz
 have hl : cs.length = 8 := hl.trans (by kernel_rfl)
 obtain ⟨x0, w0, g0⟩ := fldO (i := 0) (o := 0) (k := 2) op60 rfl rfl rfl (by kernel_rfl) (by omega) hg
 obtain ⟨x1, w1, g1⟩ := fldO (i := 1) (o := 2) (k := 2) op62 rfl rfl rfl (by kernel_rfl) (by omega) hg
 obtain ⟨x2, w2, g2⟩ := fldO (i := 2) (o := 4) (k := 1) op4 rfl rfl rfl (by kernel_rfl) (by omega) hg
 obtain ⟨x3, w3, g3⟩ := fldO (i := 3) (o := 5) (k := 1) op9 rfl rfl rfl (by kernel_rfl) (by omega) hg
 obtain ⟨x4, w4, g4⟩ := fldO (i := 4) (o := 6) (k := 2) op62 rfl rfl rfl (by kernel_rfl) (by omega) hg
 exact ⟨⟨x0, x1, x2, x3, x4⟩, ⟨w0, w1, w2, w3, w4⟩, fun F N nx hF => HLd (o := 0) (k := 2) (g0 F N nx hF) (HLd (o := 2) (k := 2) (g1 F N nx hF) (HLd (o := 4) (k := 1) (g2 F N nx hF) (HLd (o := 5) (k := 1) (g3 F N nx hF) (HLd (o := 6) (k := 2) (g4 F N nx hF) (HLe (o := 8) hl)))))⟩
theorem opL27 : OpnLs Try.prog .cell 27 := opn_list Try.underlying27 (by kernel_rfl) op64
theorem op29 : Opn Try.prog .row 29 := fun en w base spare held m cs y h => by
 obtain ⟨xs, n, _, _, hl, hz, hg⟩ := DataW.trod_struct Try.underlying29 h
 have hz : xs.length = 2 := hz
 have hl : cs.length = 2 := hl.trans (by kernel_rfl)
 obtain ⟨x0, w0, g0⟩ := fldO (i := 0) (o := 0) (k := 1) op9 rfl rfl rfl (by kernel_rfl) (by omega) hg
 obtain ⟨x1, w1, g1⟩ := fldL (i := 1) (o := 1) (k := 1) opL27 rfl rfl rfl (by kernel_rfl) (by omega) hg
 exact ⟨⟨x0, x1⟩, ⟨w0, w1⟩, fun F N nx hF => HLd (o := 0) (k := 1) (g0 F N nx hF) (HLd (o := 1) (k := 1) (g1 F N nx hF) (HLe (o := 2) hl))⟩
theorem op31 : Opn Try.prog .act 31 := fun en w base spare held m cs y h => by
 obtain ⟨xs, n, _, _, hl, hz, hg⟩ := DataW.trod_struct Try.underlying31 h
 have hz : xs.length = 4 := hz
 have hl : cs.length = 5 := hl.trans (by kernel_rfl)
 obtain ⟨x0, w0, g0⟩ := fldO (i := 0) (o := 0) (k := 1) op3 rfl rfl rfl (by kernel_rfl) (by omega) hg
 obtain ⟨x1, w1, g1⟩ := fldO (i := 1) (o := 1) (k := 2) op29 rfl rfl rfl (by kernel_rfl) (by omega) hg
 obtain ⟨x2, w2, g2⟩ := fldO (i := 2) (o := 3) (k := 1) op9 rfl rfl rfl (by kernel_rfl) (by omega) hg
 obtain ⟨x3, w3, g3⟩ := fldO (i := 3) (o := 4) (k := 1) op3 rfl rfl rfl (by kernel_rfl) (by omega) hg
 exact ⟨⟨x0, x1, x2, x3⟩, ⟨w0, w1, w2, w3⟩, fun F N nx hF => HLd (o := 0) (k := 1) (g0 F N nx hF) (HLd (o := 1) (k := 2) (g1 F N nx hF) (HLd (o := 3) (k := 1) (g2 F N nx hF) (HLd (o := 4) (k := 1) (g3 F N nx hF) (HLe (o := 5) hl))))⟩
theorem opL22 : OpnLs Try.prog .act 22 := opn_list Try.underlying22 (by kernel_rfl) op31
end Go.Proofs.Ytnfmceffbnaanaa
namespace Go.Proofs.Ytnfmceffbnaanaa
open Go.ChangeShapes Go.WideShapes Go.ChangeAt Go.RowKit
theorem own : ownKnob Try.prog.godebug = none := by kernel_rfl
theorem laidOut : laidOutB Try.prog = true := by kernel_rfl
section
variable {P : Program} {H : Type} {enc : TypeId × Value → H} {w : World} {base : Nat} {spare : Nat → Bool} {held : Bool} {v : Value} {d : DataW H} {p : List MemPlace}
end
theorem below_trodAll {H : Type} {enc : TypeId × Value → H} {W W' : World} (hb : Below W.heap.size W W') : ∀ (ts : List TypeId) (vs : List Value) (ds : List (DataW H)) (ps : List MemPlace),
  (∀ t ∈ ts, Try.prog.readableRec t = true ∧ t < Try.prog.types.size) → DataW.TrodAll enc Try.prog W 0 (fun _ => true) true ts vs ds ps → (∀ x ∈ ps, x.block < W.heap.size) →
  DataW.TrodAll enc Try.prog W' 0 (fun b => decide (b < W.heap.size)) true ts vs ds ps
 | [], vs, ds, ps, _, h, _ => by
  obtain ⟨rfl, rfl, rfl⟩ := trodAll_nil h
  exact trodAll_mk0
 | t :: ts, vs, ds, ps, hr, h, hlt => by
  obtain ⟨v, vs', d, ds', p, q, rfl, rfl, rfl, h0, h1⟩ := trodAll_cons h
  exact trodAll_cons_mk (Below.trod laidOut (hr t (by simp)).1 (hr t (by simp)).2 h0 hb fun x hx => hlt x (by simp [hx]))
   (below_trodAll hb ts vs' ds' q (fun t' ht' => hr t' (by simp [ht'])) h1 fun x hx => hlt x (by simp [hx]))
end Go.Proofs.Ytnfmceffbnaanaa
namespace Go.Proofs.Ytnfmceffbnaanaa
open Go.RowKit Go.WideShapes Go.ChangeShapes
section
variable {H : Type} {en : TypeId × Value → H} {P : Program} {w : World} {base : Nat} {spare : Nat → Bool} {held : Bool} {t e : TypeId} {v : Value} {d : DataW H} {p : List MemPlace} {r : Reach} {b0 : Nat} {c : TC}
theorem arg_list (ht : P.underlying t = some (.slice e)) (ho : OpnLs P c t) (hv : Value.okWide P w r b0 t v) (h : DataW.Trod en P w base spare held t v d p) :
  ∃ l : List (U c), (l.length ≤ maxLen ∧ ∀ x ∈ l, Wfd c x) ∧ ∀ (F : Nat → Prop) (N : Nm) (nx : Nat), FB w F → Hv F N nx w (.sl c l) v := by
 obtain ⟨a, len, cap, rfl⟩ := okWide_slice ht hv
 obtain ⟨fuel, hf⟩ := h
 obtain ⟨l, h1, h2⟩ := ho en w base spare held fuel _ _ hf
 refine ⟨l, h1, fun F N nx hF => ?_⟩
 obtain ⟨y, ys, e, h3, _⟩ := (h2 F N nx hF).inv
 have e' : [Value.slice a len cap] = y :: ys := e
 cases e'
 exact h3
end
theorem call_topG {P : Program} {f : FuncId} {args : List A} {nx' : Nat} {o' : Objs} {b : Bool} (h : CallOk P f args 0 [] 1 (.v (.bool b)) nx' o') (W : World) (hgl : GlobOk (fun b => b < W.heap.size) W) (vs : List Value) (ha : ∀ (F : Nat → Prop) (N : Nm) (nx : Nat), FB W F → HL F N nx W args vs) :
  Calls P f vs.toArray W fun e W' => e = .returned (.bool b) ∧ Below W.heap.size W W' := by
 have hr : HRel (fun b => b < W.heap.size) ⟨fun _ => 0, fun _ => .nilFunc⟩ 0 [] W := ⟨fun g hg => hg, fun i ob hi => (by cases hi), fun i ob g hi => (by cases hi), fun i j x y g hi => (by cases hi), hgl⟩
 refine (h _ _ W vs hr (ha _ _ _ fun b hb => hb)).mono fun e W' ⟨y, F', N', he, _, _, hy, hb⟩ => ?_
 rw [hy.v_inv] at he
 exact ⟨he, hb (Nat.le_refl _)⟩
end Go.Proofs.Ytnfmceffbnaanaa
namespace Go.Proofs.Ytnfmceffbnaanaa.sortedApart
open Go.ChangeShapes Go.WideShapes Go.ChangeAt Go.RowKit
set_option maxRecDepth 100000 in
theorem lifted (os : Os) (started : os.Started) (H : Type) (enc : TypeId × Value → H) :
  ReturnsInHanded {} Try.checked os 6 .any (Rows.sortedApartSpec.pre6 enc Try.prog Try.f6 Rows.sortedApartRow.domain false) (Rows.sortedApartSpec.post enc Try.prog Try.f6 false true false false) := by
 refine returnsInHanded_of_change (C := Try.checked) own started (by kernel_rfl) Try.func6
  (ChangeSpec.witness6 (enc := enc) (C := Try.checked) false ⟨#[], #[.slice none 0 0, .slice none 0 0], []⟩ 8 (by kernel_rfl) (by kernel_rfl) (by kernel_rfl) (by kernel_rfl)) ?_
 intro W base args ds gs before hval0 hW hcnd _
 have hval : ∀ (j : Nat) t v, Try.f6.params[j]? = some t → args[j]? = some v → Value.okWide Try.prog W .any base t v := hval0
 have hW' := hW
 have hlt : ∀ x ∈ before, x.block < W.heap.size := fun x hx => hW.lt x hx
 obtain ⟨p, q, hA0, hV, rfl, hfz, hnd⟩ := hW
 have hA : DataW.TrodAll enc Try.prog W 0 (fun _ => true) true Try.f6.params.toList args.toList ds p := hA0
 rw [Try.params6] at hA hval
 have hA' := hA
 obtain ⟨v0, vs0, d0, ds0, p0, q0, hargs, rfl, rfl, h0, r0⟩ := trodAll_cons hA
 obtain ⟨v1, vs1, d1, ds1, p1, q1, rfl, rfl, rfl, h1, r1⟩ := trodAll_cons r0
 obtain ⟨rfl, rfl, rfl⟩ := trodAll_nil r1
 obtain rfl : args = #[v0, v1] := by cases args; simp_all
 obtain ⟨rfl, rfl⟩ := trodVars_none hV
 obtain ⟨a0, w0, g0⟩ := arg_list Try.underlying22 opL22 (hval 0 22 v0 rfl rfl) h0
 obtain ⟨a1, w1, g1⟩ := arg_list Try.underlying22 opL22 (hval 1 22 v1 rfl rfl) h1
 obtain ⟨hn, ht⟩ := ap_true a0 a1 w0 w1
 have hc := l11_SortedApart_c a0 a1 hn
 have hr : l11_SortedApart_r a0 a1 = .v (.bool true) := by show A.v (.bool (l11_SortedApart_0 a0 a1)) = _; rw [ht]
 rw [hr] at hc
 refine (call_topG hc W (fun x hx => (nomatch hx)) [v0, v1] fun F N nx hF => HL.cons (g0 F N nx hF) (HL.cons (g1 F N nx hF) (HL.nil))).mono fun e W' ⟨he, bel⟩ => ?_
 subst he
 have hread : ∀ t ∈ [22, 22], Try.prog.readableRec t = true ∧ t < Try.prog.types.size := by
  intro t ht
  simp only [List.mem_cons, List.not_mem_nil, or_false] at ht
  rcases ht with rfl | rfl
  all_goals exact ⟨by kernel_rfl, of_decide_eq_true (by kernel_rfl)⟩
 exact ⟨_, rfl, _, _, _, [], _, [], hW', trodAll_mk1 (shut_bool Try.underlying4 _),
  below_trodAll bel _ _ _ _ hread hA' (fun x hx => hlt x (by simpa using hx)), rfl, bel.frame _, fun h => by cases h⟩
theorem tA : Try.prog.funcNamed Rows.sortedApartRow.func = some 6 := by kernel_rfl
theorem b0 : (Rows.sortedApartRow.wf (OpenSpec.ofChange Rows.sortedApartSpec)) = true := by kernel_rfl
theorem b1 : (laidOutB Try.prog) = true := by kernel_rfl
theorem b2 : (mapsRowed Try.prog) = true := by kernel_rfl
theorem b3 : (Try.f6.params.all (Try.prog.readableRec ·)) = true := by kernel_rfl
theorem b4 : (namedTie Try.prog Rows.sortedApartRow.named Rows.sortedApartSpec.vars) = true := by kernel_rfl
theorem b5 : ((Rows.sortedApartRow.stops == [])) = true := by kernel_rfl
theorem b6 : ((Try.prog.stops == [])) = true := by kernel_rfl
theorem b7 : ((Rows.sortedApartRow.knobs == [])) = true := by kernel_rfl
theorem b8 : ((Try.prog.stopKnobs == [])) = true := by kernel_rfl
theorem b9 : ((Rows.sortedApartRow.inPlace == Try.prog.inPlace 6)) = true := by kernel_rfl
theorem b10 : ((Rows.sortedApartRow.unfollowed == Try.prog.unfollowed 6)) = true := by kernel_rfl
theorem b11 : ((Rows.sortedApartRow.recurses == Try.prog.recurses 6)) = true := by kernel_rfl
theorem b12 : ((Rows.sortedApartRow.named == Try.prog.varsNamed 6)) = true := by kernel_rfl
theorem b13 : ((Rows.sortedApartRow.maps == (Try.f6.params.toList ++ Rows.sortedApartSpec.plain.varTypes Try.prog).any (Try.prog.mapsRec ·))) = true := by kernel_rfl
theorem b14 : ((Rows.sortedApartRow.ifaces == (Try.f6.params.toList ++ Rows.sortedApartSpec.plain.varTypes Try.prog).any (Try.prog.ifacesRec ·))) = true := by kernel_rfl
theorem b15 : ((Rows.sortedApartRow.mapsOut == Try.prog.mapsAmong Try.f6.resultTypes.toList)) = true := by kernel_rfl
theorem b16 : ((Rows.sortedApartRow.loops == (Try.f6.params.toList ++ Rows.sortedApartSpec.plain.varTypes Try.prog).any (Try.prog.loopsFrom ·))) = true := by kernel_rfl
theorem b17 : ((Rows.sortedApartRow.wideKeys == (Try.f6.params.toList ++ Rows.sortedApartSpec.plain.varTypes Try.prog ++ Try.f6.resultTypes.toList).any (Try.prog.wideKeysFrom ·))) = true := by kernel_rfl
theorem b18 : (Rows.sortedApartSpec.vars.all (Try.prog.varReadable ·)) = true := by kernel_rfl
theorem b19 : (Try.f6.resultTypes.all (fun t => Try.prog.readableRec t && decide (t < Try.prog.types.size))) = true := by kernel_rfl
theorem b20 : ((Rows.sortedApartRow.ifacesOut == Try.f6.resultTypes.toList.any (Try.prog.ifacesRec ·))) = true := by kernel_rfl
theorem b21 : ((Rows.sortedApartRow.loopsOut == Try.f6.resultTypes.toList.any (Try.prog.loopsFrom ·))) = true := by kernel_rfl
theorem b22 : ((Rows.sortedApartRow.plainKeys == Try.prog.plainKeys)) = true := by kernel_rfl
theorem b23 : (Rows.sortedApartRow.shortTexts.isNone) = true := by kernel_rfl
theorem b24 : (Try.prog.stopsHeard) = true := by kernel_rfl
theorem b25 : (Try.prog.mayEnter) = true := by kernel_rfl
theorem b26 : ((Rows.sortedApartRow.lifted == Try.prog.liftsFinal)) = true := by kernel_rfl
theorem b27 : ((Try.prog.make == some Rows.sortedApartRow.make)) = true := by kernel_rfl
theorem b28 : ((Rows.sortedApartRow.kinds == (if Rows.sortedApartRow.domain.isEmpty then [] else Try.f6.params.toList.map fun t => match Try.prog.underlying t with | some (.int k) => some k | _ => none))) = true := by kernel_rfl
theorem b29 : ((Rows.sortedApartRow.pinned == Rows.sortedApartRow.pinnedBy)) = true := by kernel_rfl
theorem b30 : ((Rows.sortedApartRow.veiled == (Try.f6.params.toList ++ Rows.sortedApartSpec.plain.varTypes Try.prog ++ Try.f6.resultTypes.toList).any (Try.prog.veiledRec ·))) = true := by kernel_rfl
theorem b31 : (Rows.sortedApartRow.veiledFits Try.prog Try.f6.params.toList (Try.f6.params.toList ++ Rows.sortedApartSpec.plain.varTypes Try.prog ++ Try.f6.resultTypes.toList)) = true := by kernel_rfl
theorem andI {a b : Bool} (h : a = true) (g : b = true) : (a && b) = true := by rw [h, g]; rfl
set_option maxRecDepth 100000 in
theorem tB : joinedFacts Try.prog 6 Try.f6 Rows.sortedApartSpec Rows.sortedApartRow = true := by
 unfold joinedFacts
 exact (andI (andI (andI (andI (andI (andI (andI (andI (andI (andI (andI (andI (andI (andI (andI (andI (andI (andI (andI (andI (andI (andI (andI (andI (andI (andI (andI (andI (andI (andI (andI b0 b1) b2) b3) b4) b5) b6) b7) b8) b9) b10) b11) b12) b13) b14) b15) b16) b17) b18) b19) b20) b21) b22) b23) b24) b25) b26) b27) b28) b29) b30) b31)
theorem tC : Try.f6.isInstance Try.prog Rows.sortedApartRow.origin Rows.sortedApartRow.targs := of_decide_eq_true (by kernel_rfl)
theorem tD0 : decide (Check.packageOf Try.f6.name = "main") = false := by kernel_rfl
theorem tD : Try.f6.isWrapper Try.prog Rows.sortedApartRow.wrapper Rows.sortedApartRow.mainSum := by
 unfold Func.isWrapper
 rw [if_neg (of_decide_eq_false tD0)]
 exact ⟨rfl, rfl⟩
theorem over : Rows.sortedApartRow.holds Try.pinned (OpenSpec.ofChange Rows.sortedApartSpec) :=
 OpenClaim.holds_of_wide 6 Try.f6 rfl rfl rfl rfl rfl rfl rfl ⟨rfl, rfl, rfl, rfl, rfl⟩ rfl rfl rfl rfl rfl tA Try.func6 tB tC tD
  (fun os started H enc _ => lifted os started H enc)
theorem proved : Rows.SortedApartSaid := over
end Go.Proofs.Ytnfmceffbnaanaa.sortedApart
