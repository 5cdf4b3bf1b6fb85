/- made by a program (rowgen.py): RowBytes: for every input the law returns true, and each argument reads behind the call as it read before. -/
import Derived.Test.YteebobbhhgmeiaaKRbe
import Derived.Test.YteebobbhhgmeiaaRows

namespace Go.Proofs.Yteebobbhhgmeiaa
open Go.RowKit
def polN (l : List TGroup) (i : Nat) : Int := (l.getD i (dflt TC.group)).policy
def cellN (cs : List TCell) (i : Nat) : TCell := cs.getD i (dflt TC.cell)
theorem good_at {l : List TGroup} {cs : List TCell} (hl : cs.length = l.length) : (l.zip cs).all (fun x => goodC x.1.policy x.2) = true ↔ ∀ i, i < l.length → goodC (polN l i) (cellN cs i) = true := by
 rw [zip_N l cs (dflt TC.group) (dflt TC.cell) (fun g c => goodC g.policy c) hl, allN_iff]
 exact Iff.rfl
end Go.Proofs.Yteebobbhhgmeiaa
namespace Go.Proofs.Yteebobbhhgmeiaa
open Go.RowKit
def gotC (b : List UInt8) (l : List TGroup) (a : Int) (i : Nat) : TCell × Int × Int := getC (b.drop a.toNat) (polN l i)
def atN (b : List UInt8) (l : List TGroup) (a : Int) : Nat → Int
 | 0 => a
 | i + 1 => atN b l a i + (gotC b l (atN b l a i) i).2.1
def csN (b : List UInt8) (l : List TGroup) (a : Int) : Nat → List TCell
 | 0 => []
 | i + 1 => csN b l a i ++ [(gotC b l (atN b l a i) i).1]
def badG (b : List UInt8) (l : List TGroup) (a : Int) (i : Nat) : Bool := (gotC b l (atN b l a i) i).2.2 != 0
theorem at_ok {b : List UInt8} {l : List TGroup} {a : Int} (ha : 0 ≤ a ∧ a ≤ (b.length : Int)) : ∀ i, (∀ j, j < i → badG b l a j = false) → 0 ≤ atN b l a i ∧ atN b l a i ≤ (b.length : Int)
 | 0, _ => ha
 | i + 1, h => by
  obtain ⟨h1, h2⟩ := at_ok ha i fun j hj => h j (by omega)
  have hb := h i (Nat.lt_succ_self i)
  unfold badG at hb
  have h0 : (gotC b l (atN b l a i) i).2.2 = 0 := by simpa using hb
  have hg : getC (b.drop (atN b l a i).toNat) (polN l i) = ((gotC b l (atN b l a i) i).1, (gotC b l (atN b l a i) i).2.1, 0) := by
   rw [← h0]; rfl
  obtain ⟨_, k, r, hr⟩ := getC_front hg
  have hlen := congrArg List.length hr
  rw [List.length_drop, List.length_append] at hlen
  show 0 ≤ atN b l a i + (gotC b l (atN b l a i) i).2.1 ∧ atN b l a i + (gotC b l (atN b l a i) i).2.1 ≤ _
  rw [k]
  omega
theorem cs_len (b : List UInt8) (l : List TGroup) (a : Int) : ∀ i, (csN b l a i).length = i
 | 0 => rfl
 | i + 1 => by
  unfold csN
  rw [List.length_append, cs_len b l a i]
  rfl
def encN (l : List TGroup) (cs : List TCell) (i : Nat) : List UInt8 := ((l.zip cs).take i).flatMap fun x => putC x.1.policy x.2
theorem enc_succ {l : List TGroup} {cs : List TCell} (hl : cs.length = l.length) {i : Nat} (hi : i < l.length) : encN l cs (i + 1) = encN l cs i ++ putC (polN l i) (cellN cs i) := by
 unfold encN
 have hz : i < (l.zip cs).length := by rw [List.length_zip]; omega
 rw [List.take_add_one, List.getElem?_eq_getElem hz, List.flatMap_append, List.getElem_zip]
 have e1 : l[i] = l.getD i (dflt TC.group) := by rw [List.getD_eq_getElem?_getD, List.getElem?_eq_getElem hi]; rfl
 have e2 : cs[i] = cs.getD i (dflt TC.cell) := by rw [List.getD_eq_getElem?_getD, List.getElem?_eq_getElem (by omega)]; rfl
 rw [e1, e2]
 simp [polN, cellN]
theorem enc_all {l : List TGroup} {cs : List TCell} (hl : cs.length = l.length) : encN l cs l.length = (l.zip cs).flatMap fun x => putC x.1.policy x.2 := by
 unfold encN
 rw [List.take_of_length_le (by rw [List.length_zip]; omega)]
theorem got_back {l : List TGroup} {cs : List TCell} (hl : cs.length = l.length) (hg : ∀ i, i < l.length → goodC (polN l i) (cellN cs i) = true) (pre rest : List UInt8) : ∀ i, i ≤ l.length →
  atN (pre ++ encN l cs l.length ++ rest) l (pre.length : Int) i = ((pre ++ encN l cs i).length : Int) ∧ csN (pre ++ encN l cs l.length ++ rest) l (pre.length : Int) i = cs.take i ∧ ∀ j, j < i → badG (pre ++ encN l cs l.length ++ rest) l (pre.length : Int) j = false
 | 0, _ => ⟨by show (pre.length : Int) = _; simp [encN], by simp [csN], fun j hj => absurd hj (Nat.not_lt_zero _)⟩
 | i + 1, hi => by
  obtain ⟨h1, h2, h3⟩ := got_back hl hg pre rest i (by omega)
  have hsplit : ∃ t, encN l cs l.length = encN l cs i ++ (putC (polN l i) (cellN cs i) ++ t) := by
   refine ⟨((l.zip cs).drop (i + 1)).flatMap fun x => putC x.1.policy x.2, ?_⟩
   rw [← List.append_assoc, ← enc_succ hl (by omega), enc_all hl]
   unfold encN
   rw [← List.flatMap_append, List.take_append_drop]
  obtain ⟨t, ht⟩ := hsplit
  have hd : (pre ++ encN l cs l.length ++ rest).drop (pre ++ encN l cs i).length = putC (polN l i) (cellN cs i) ++ (t ++ rest) := by
   rw [ht]
   have : pre ++ (encN l cs i ++ (putC (polN l i) (cellN cs i) ++ t)) ++ rest = (pre ++ encN l cs i) ++ (putC (polN l i) (cellN cs i) ++ (t ++ rest)) := by simp [List.append_assoc]
   rw [this, List.drop_left]
  have hgot : gotC (pre ++ encN l cs l.length ++ rest) l (atN (pre ++ encN l cs l.length ++ rest) l (pre.length : Int) i) i = (cellN cs i, ((putC (polN l i) (cellN cs i)).length : Int), 0) := by
   unfold gotC
   rw [h1, Int.toNat_natCast, hd]
   exact getC_back (hg i (by omega)) _
  refine ⟨?_, ?_, fun j hj => ?_⟩
  ·show atN _ l _ i + (gotC _ l (atN _ l _ i) i).2.1 = _
   rw [hgot, h1, enc_succ hl (by omega)]
   simp only [List.length_append]
   omega
  ·show csN _ l _ i ++ [(gotC _ l (atN _ l _ i) i).1] = _
   rw [hgot, h2, List.take_add_one, List.getElem?_eq_getElem (by omega)]
   have e2 : cs[i]'(by omega) = cellN cs i := by unfold cellN; rw [List.getD_eq_getElem?_getD, List.getElem?_eq_getElem (by omega)]; rfl
   rw [e2]
   rfl
  ·by_cases e : j = i
   ·subst e
    unfold badG
    rw [hgot]
    rfl
   ·exact h3 j (by omega)
end Go.Proofs.Yteebobbhhgmeiaa
namespace Go.Proofs.Yteebobbhhgmeiaa
open Go.RowKit
noncomputable def Cx_1 := addC 60 l10_light_t Cl
theorem Cx_1_ok : COk Try.prog Cx_1 := addC_ok l10_light_tok Cl_ok
noncomputable def Cx_2 := addC 61 l10_lives_t Cx_1
theorem Cx_2_ok : COk Try.prog Cx_2 := addC_ok l10_lives_tok Cx_1_ok
noncomputable def Cx_3 := addC 79 row_Put_t Cx_2
theorem Cx_3_ok : COk Try.prog Cx_3 := addC_ok row_Put_tok Cx_2_ok
noncomputable def Cx_4 := addC 126 r01_PutText_t Cx_3
theorem Cx_4_ok : COk Try.prog Cx_4 := addC_ok r01_PutText_tok Cx_3_ok
noncomputable def Cx_5 := addC 139 r01_GetText_t Cx_4
theorem Cx_5_ok : COk Try.prog Cx_5 := addC_ok r01_GetText_tok Cx_4_ok
noncomputable def Cx_6 := addC 57 r08_Put_t Cx_5
theorem Cx_6_ok : COk Try.prog Cx_6 := addC_ok r08_Put_tok Cx_5_ok
noncomputable def Cx_7 := addC 55 r08_Get_t Cx_6
theorem Cx_7_ok : COk Try.prog Cx_7 := addC_ok r08_Get_tok Cx_6_ok
abbrev row_Get_l0_X : Type := (List UInt8) × Int × (List TGroup) × Int × Int × ByteArray × ByteArray × (List TCell)
def row_Get_l0_T (x : row_Get_l0_X) : St := ⟨69, 4, [(0, .sl .u8 x.1), (4, .own 0 0), (9, .v (.int .i64 x.2.1)), (11, .own 1 0), (38, .sl .group x.2.2.1), (39, .v (.int .i64 x.2.2.2.1)), (40, .v (.int .i64 x.2.2.2.2.1))], [(0, some (.box 71 [.v (.string x.2.2.2.2.2.1), .v (.slice none 0 0)])), (1, some (.box 71 [.v (.string x.2.2.2.2.2.2.1), .sq 3])), (3, some (.arr 55 8 (.ty .cell x.2.2.2.2.2.2.2)))]⟩
def row_Get_l0_un : St → Option row_Get_l0_X
 | ⟨69, 4, [(0, .sl .u8 z0), (4, .own 0 0), (9, .v (.int .i64 z1)), (11, .own 1 0), (38, .sl .group z2), (39, .v (.int .i64 z3)), (40, .v (.int .i64 z4))], [(0, some (.box 71 [.v (.string z5), .v (.slice none 0 0)])), (1, some (.box 71 [.v (.string z6), .sq 3])), (3, some (.arr 55 8 (.ty .cell z7)))]⟩ => some (z0, z1, z2, z3, z4, z5, z6, z7)
 | _ => none
theorem row_Get_l0_unok : ∀ s x, row_Get_l0_un s = some x → s = row_Get_l0_T x := fun s x h => by
 unfold row_Get_l0_un at h
 split at h
 ·cases h; rfl
 ·cases h
def row_Get_l0_S : Shape := ⟨3, 4, [0, 4, 9, 11, 38, 39, 40], [], [(0, 0), (1, 1), (7, 3)], [0, 1, 7], [9, 5, 6], [0, 1, 3]⟩
def row_Get_l0_E : Entry := ⟨[.nilB 1 1 55 .cell], [(0, 0), (1, 1), (2, 3)], [0, 4, 9, 11, 38, 39, 40], [0, 1, 2]⟩
def row_Get_l0_f_k1 (a0 : List UInt8) (a1 : Int) (_a2 : List TGroup) (_a3 : Int) (_a4 : Int) (_a5 : ByteArray) (_a6 : ByteArray) (_a7 : List TCell) : List UInt8 := List.take ((↑a0.length : Int).toNat - a1.toNat) (List.drop a1.toNat a0)
def row_Get_l0_f_k0 (a0 : List UInt8) (a1 : Int) (a2 : List TGroup) (a3 : Int) (a4 : Int) (a5 : ByteArray) (a6 : ByteArray) (a7 : List TCell) : Bool := !!decide (a4 < a3) && (getC (row_Get_l0_f_k1 a0 a1 a2 a3 a4 a5 a6 a7) (a2.getD a4.toNat (dflt TC.group)).2).snd.snd != (0 : Int)
def row_Get_l0_f_1 (a0 : List UInt8) (a1 : Int) (a2 : List TGroup) (a3 : Int) (a4 : Int) (a5 : ByteArray) (a6 : ByteArray) (a7 : List TCell) : Int := IntKind.i64.wrap (a1 + (getC (row_Get_l0_f_k1 a0 a1 a2 a3 a4 a5 a6 a7) (a2.getD a4.toNat (dflt TC.group)).2).snd.fst)
def row_Get_l0_f_7 (a0 : List UInt8) (a1 : Int) (a2 : List TGroup) (a3 : Int) (a4 : Int) (a5 : ByteArray) (a6 : ByteArray) (a7 : List TCell) : List TCell := a7 ++ [(getC (row_Get_l0_f_k1 a0 a1 a2 a3 a4 a5 a6 a7) (a2.getD a4.toNat (dflt TC.group)).2).fst]
def row_Get_l0_f_8 (a0 : List UInt8) (a1 : Int) (a2 : List TGroup) (a3 : Int) (a4 : Int) (a5 : ByteArray) (a6 : ByteArray) (a7 : List TCell) : Bool := !!decide (a4 < a3) && !(row_Get_l0_f_k0 a0 a1 a2 a3 a4 a5 a6 a7)
def row_Get_l0_f_18 (a0 : List UInt8) (a1 : Int) (a2 : List TGroup) (a3 : Int) (a4 : Int) (a5 : ByteArray) (a6 : ByteArray) (a7 : List TCell) : Bool := (row_Get_l0_f_k0 a0 a1 a2 a3 a4 a5 a6 a7)
def row_Get_l0_f_20 (_a0 : List UInt8) (_a1 : Int) (_a2 : List TGroup) (_a3 : Int) (_a4 : Int) (_a5 : ByteArray) (_a6 : ByteArray) (_a7 : List TCell) : ByteArray := ByteArray.mk #[]
def row_Get_l0_next (x : row_Get_l0_X) : row_Get_l0_X := (x.1, row_Get_l0_f_1 x.1 x.2.1 x.2.2.1 x.2.2.2.1 x.2.2.2.2.1 x.2.2.2.2.2.1 x.2.2.2.2.2.2.1 x.2.2.2.2.2.2.2, x.2.2.1, x.2.2.2.1, IntKind.i64.wrap (x.2.2.2.2.1 + (1 : Int)), x.2.2.2.2.2.1, x.2.2.2.2.2.2.1, row_Get_l0_f_7 x.1 x.2.1 x.2.2.1 x.2.2.2.1 x.2.2.2.2.1 x.2.2.2.2.2.1 x.2.2.2.2.2.2.1 x.2.2.2.2.2.2.2)
def row_Get_l0_goes (x : row_Get_l0_X) : Cnd := some (row_Get_l0_f_8 x.1 x.2.1 x.2.2.1 x.2.2.2.1 x.2.2.2.2.1 x.2.2.2.2.2.1 x.2.2.2.2.2.2.1 x.2.2.2.2.2.2.2)
def row_Get_l0_psA (x : row_Get_l0_X) : List Prop := [((!!decide (x.2.2.2.2.1 < x.2.2.2.1)) = true → (0 : Int) ≤ x.2.2.2.2.1 ∧ x.2.2.2.2.1 < (↑x.2.2.1.length : Int)), ((!!decide (x.2.2.2.2.1 < x.2.2.2.1)) = true → (0 : Int) ≤ x.2.1 ∧ x.2.1 ≤ (↑x.1.length : Int) ∧ (↑x.1.length : Int) ≤ (↑x.1.length : Int)), ((!!decide (x.2.2.2.2.1 < x.2.2.2.1)) = true → boundP (row_Get_l0_f_k1 x.1 x.2.1 x.2.2.1 x.2.2.2.1 x.2.2.2.2.1 x.2.2.2.2.2.1 x.2.2.2.2.2.2.1 x.2.2.2.2.2.2.2).length), ((!!decide (x.2.2.2.2.1 < x.2.2.2.1)) = true → (!(getC (row_Get_l0_f_k1 x.1 x.2.1 x.2.2.1 x.2.2.2.1 x.2.2.2.2.1 x.2.2.2.2.2.1 x.2.2.2.2.2.2.1 x.2.2.2.2.2.2.2) (x.2.2.1.getD x.2.2.2.2.1.toNat (dflt TC.group)).2).snd.snd != (0 : Int)) = true → boundP (x.2.2.2.2.2.2.2.length + (1 : Nat)))]
def row_Get_l0_ps (x : row_Get_l0_X) : List Prop := [((!!decide (x.2.2.2.2.1 < x.2.2.2.1)) = true → (0 : Int) ≤ x.2.2.2.2.1 ∧ x.2.2.2.2.1 < (↑x.2.2.1.length : Int)), ((!!decide (x.2.2.2.2.1 < x.2.2.2.1)) = true → (0 : Int) ≤ x.2.1 ∧ x.2.1 ≤ (↑x.1.length : Int) ∧ (↑x.1.length : Int) ≤ (↑x.1.length : Int)), ((!!decide (x.2.2.2.2.1 < x.2.2.2.1)) = true → boundP (row_Get_l0_f_k1 x.1 x.2.1 x.2.2.1 x.2.2.2.1 x.2.2.2.2.1 x.2.2.2.2.2.1 x.2.2.2.2.2.2.1 x.2.2.2.2.2.2.2).length), ((!!decide (x.2.2.2.2.1 < x.2.2.2.1)) = true → (!(getC (row_Get_l0_f_k1 x.1 x.2.1 x.2.2.1 x.2.2.2.1 x.2.2.2.2.1 x.2.2.2.2.2.1 x.2.2.2.2.2.2.1 x.2.2.2.2.2.2.2) (x.2.2.1.getD x.2.2.2.2.1.toNat (dflt TC.group)).2).snd.snd != (0 : Int)) = true → boundP (x.2.2.2.2.2.2.2.length + (1 : Nat)))]
def row_Get_l0_outs (x : row_Get_l0_X) : Outs := [(some 0, some (!decide (x.2.2.2.2.1 < x.2.2.2.1)), ⟨69, 4, [(9, .v (.int .i64 x.2.1)), (5, .dead), (6, .dead)], [(0, some (.box 71 [.v (.string x.2.2.2.2.2.1), .v (.slice none 0 0)])), (1, some (.box 71 [.v (.string x.2.2.2.2.2.2.1), .sq 3])), (3, some (.arr 55 8 (.ty .cell x.2.2.2.2.2.2.2)))]⟩), (none, some (row_Get_l0_f_18 x.1 x.2.1 x.2.2.1 x.2.2.2.1 x.2.2.2.2.1 x.2.2.2.2.2.1 x.2.2.2.2.2.2.1 x.2.2.2.2.2.2.2), ⟨69, 6, [(9, .v (.int .i64 x.2.1)), (5, .v (.int .i64 ((0 : Int)))), (6, .v (.int .i64 ((100 : Int))))], [(0, some (.box 71 [.v (.string (row_Get_l0_f_20 x.1 x.2.1 x.2.2.1 x.2.2.2.1 x.2.2.2.2.1 x.2.2.2.2.2.1 x.2.2.2.2.2.2.1 x.2.2.2.2.2.2.2)), .v (.slice none 0 0)])), (1, some (.box 71 [.v (.string x.2.2.2.2.2.2.1), .sq 3])), (3, some (.arr 55 8 (.ty .cell x.2.2.2.2.2.2.2)))]⟩)]
def row_Get_l0_fuel (x : row_Get_l0_X) : Nat := (x.2.2.2.1 - x.2.2.2.2.1).toNat
def row_Get_l0_run (x : row_Get_l0_X) : row_Get_l0_X := iterX row_Get_l0_next row_Get_l0_goes (row_Get_l0_fuel x) x
set_option maxRecDepth 100000 in
theorem row_Get_l0_ev (a0 : List UInt8) (a1 : Int) (a2 : List TGroup) (a3 : Int) (a4 : Int) (a5 : ByteArray) (a6 : ByteArray) (a7 : List TCell) : roundE (envT Cx_7 L0) 9 (loopAt Try.prog 77 0) row_Get_l0_S (row_Get_l0_T (a0, a1, a2, a3, a4, a5, a6, a7)) = some (row_Get_l0_psA (a0, a1, a2, a3, a4, a5, a6, a7), row_Get_l0_outs (a0, a1, a2, a3, a4, a5, a6, a7), row_Get_l0_goes (a0, a1, a2, a3, a4, a5, a6, a7), row_Get_l0_T (row_Get_l0_next (a0, a1, a2, a3, a4, a5, a6, a7))) := by kernel_rfl
set_option maxRecDepth 100000 in
theorem row_Get_l0_hA (a0 : List UInt8) (a1 : Int) (a2 : List TGroup) (a3 : Int) (a4 : Int) (a5 : ByteArray) (a6 : ByteArray) (a7 : List TCell) (hp : ∀ p ∈ row_Get_l0_ps (a0, a1, a2, a3, a4, a5, a6, a7), p) : ∀ p ∈ row_Get_l0_psA (a0, a1, a2, a3, a4, a5, a6, a7), p := by
 have n0 : ((!!decide (a4 < a3)) = true → (0 : Int) ≤ a4 ∧ a4 < (↑a2.length : Int)) := hp _ (List.mem_cons_self ..)
 have n1 : ((!!decide (a4 < a3)) = true → (0 : Int) ≤ a1 ∧ a1 ≤ (↑a0.length : Int) ∧ (↑a0.length : Int) ≤ (↑a0.length : Int)) := hp _ (List.mem_cons_of_mem _ (List.mem_cons_self ..))
 have n2 : ((!!decide (a4 < a3)) = true → boundP (row_Get_l0_f_k1 a0 a1 a2 a3 a4 a5 a6 a7).length) := hp _ (List.mem_cons_of_mem _ (List.mem_cons_of_mem _ (List.mem_cons_self ..)))
 have n3 : ((!!decide (a4 < a3)) = true → (!(getC (row_Get_l0_f_k1 a0 a1 a2 a3 a4 a5 a6 a7) (a2.getD a4.toNat (dflt TC.group)).2).snd.snd != (0 : Int)) = true → boundP (a7.length + (1 : Nat))) := hp _ (List.mem_cons_of_mem _ (List.mem_cons_of_mem _ (List.mem_cons_of_mem _ (List.mem_cons_self ..))))
 exact (needs_cons n0 (needs_cons n1 (needs_cons n2 (needs_cons n3 needs_nil))))
noncomputable def row_Get_l0_row := rowL (envT Cx_7 L0) (loopAt Try.prog 77 0) row_Get_l0_S row_Get_l0_E row_Get_l0_un row_Get_l0_fuel row_Get_l0_next row_Get_l0_goes row_Get_l0_ps row_Get_l0_outs
theorem row_Get_l0_rok : ∀ s b ps outs, row_Get_l0_row s = some (b, ps, outs) → Wf s ⟨ps, outs, none⟩ ∧ LoopOk (envT C0 L0) b s ps outs :=
 rowP_ok (T := row_Get_l0_T) Cx_7_ok L0_ok (u := 9) (by kernel_rfl) (by decide) (fun ⟨a0, a1, a2, a3, a4, a5, a6, a7⟩ => row_Get_l0_ev a0 a1 a2 a3 a4 a5 a6 a7) (fun ⟨a0, a1, a2, a3, a4, a5, a6, a7⟩ => row_Get_l0_hA a0 a1 a2 a3 a4 a5 a6 a7) row_Get_l0_unok (fun _ => okOuts_ok (n := 69) rfl) fun _ _ => rfl
noncomputable def row_Get_l0_L := addLp 0 row_Get_l0_row L0
theorem row_Get_l0_Lok : LpOk row_Get_l0_L := addLp_ok row_Get_l0_rok L0_ok
def row_Get_k6 (_a0 : List UInt8) (a1 : List TGroup) : Bool := goodP a1 != (0 : Int)
def row_Get_k5 (a0 : List UInt8) (_a1 : List TGroup) : Bool := (getT a0 (32 : Int)).snd.snd != (0 : Int) || (getT a0 (32 : Int)).fst.toList == (ByteArray.mk #[]).toList
def row_Get_k4 (a0 : List UInt8) (a1 : List TGroup) : row_Get_l0_X := row_Get_l0_run (a0, (getT a0 (32 : Int)).snd.fst, a1, (↑a1.length : Int), (0 : Int), ByteArray.mk #[], (getT a0 (32 : Int)).fst, [])
def row_Get_k3 (a0 : List UInt8) (a1 : List TGroup) : Int := (row_Get_k4 a0 a1).snd.fst
def row_Get_k2 (a0 : List UInt8) (a1 : List TGroup) : List TCell := (row_Get_k4 a0 a1).snd.snd.snd.snd.snd.snd.snd
def row_Get_k1 (a0 : List UInt8) (a1 : List TGroup) : ByteArray := (row_Get_k4 a0 a1).snd.snd.snd.snd.snd.snd.fst
def row_Get_k0 (a0 : List UInt8) (a1 : List TGroup) : Bool := row_Get_l0_f_18 (row_Get_k4 a0 a1).fst (row_Get_k3 a0 a1) (row_Get_k4 a0 a1).snd.snd.fst (row_Get_k4 a0 a1).snd.snd.snd.fst (row_Get_k4 a0 a1).snd.snd.snd.snd.fst (row_Get_k4 a0 a1).snd.snd.snd.snd.snd.fst (row_Get_k1 a0 a1) (row_Get_k2 a0 a1)
def row_Get_0 (a0 : List UInt8) (a1 : List TGroup) : ByteArray := bif (row_Get_k6 a0 a1) then ByteArray.mk #[] else bif (row_Get_k5 a0 a1) then ByteArray.mk #[] else bif (row_Get_k0 a0 a1) then row_Get_l0_f_20 (row_Get_k4 a0 a1).fst (row_Get_k3 a0 a1) (row_Get_k4 a0 a1).snd.snd.fst (row_Get_k4 a0 a1).snd.snd.snd.fst (row_Get_k4 a0 a1).snd.snd.snd.snd.fst (row_Get_k4 a0 a1).snd.snd.snd.snd.snd.fst (row_Get_k1 a0 a1) (row_Get_k2 a0 a1) else (row_Get_k1 a0 a1)
def row_Get_1 (a0 : List UInt8) (a1 : List TGroup) : Int := bif (row_Get_k6 a0 a1) then (0 : Int) else bif (row_Get_k5 a0 a1) then (0 : Int) else bif (row_Get_k0 a0 a1) then (0 : Int) else (row_Get_k3 a0 a1)
def row_Get_2 (a0 : List UInt8) (a1 : List TGroup) : Int := bif (row_Get_k6 a0 a1) then goodP a1 else bif (row_Get_k5 a0 a1) then (100 : Int) else bif (row_Get_k0 a0 a1) then (100 : Int) else (0 : Int)
def row_Get_3 (a0 : List UInt8) (a1 : List TGroup) : List TCell := bif (row_Get_k6 a0 a1) then [] else bif (row_Get_k5 a0 a1) then [] else bif (row_Get_k0 a0 a1) then [] else (row_Get_k2 a0 a1)
def row_Get_r (a0 : List UInt8) (a1 : List TGroup) : A := .tup [.agg [.v (.string (row_Get_0 a0 a1)), .sq 0], .v (.int .i64 (row_Get_1 a0 a1)), .v (.int .i64 (row_Get_2 a0 a1))]
def row_Get_o (a0 : List UInt8) (a1 : List TGroup) : Objs := [(0, some (.arr 55 8 (.ty .cell (row_Get_3 a0 a1))))]
def row_Get_ps (a0 : List UInt8) (a1 : List TGroup) : List Prop := [((!(row_Get_k6 a0 a1)) = true → boundP a0.length), ((!(row_Get_k6 a0 a1)) = true → (!(row_Get_k5 a0 a1)) = true → needX row_Get_l0_next row_Get_l0_goes row_Get_l0_ps (row_Get_l0_fuel (a0, (getT a0 (32 : Int)).snd.fst, a1, (↑a1.length : Int), (0 : Int), ByteArray.mk #[], (getT a0 (32 : Int)).fst, [])) (a0, (getT a0 (32 : Int)).snd.fst, a1, (↑a1.length : Int), (0 : Int), ByteArray.mk #[], (getT a0 (32 : Int)).fst, []))]
set_option maxRecDepth 100000 in
theorem row_Get_ev (a0 : List UInt8) (a1 : List TGroup) : evF (envT Cx_7 row_Get_l0_L) 9 77 [valA .bytes a0, .sl .group a1] 0 [] = some (1, row_Get_r a0 a1, 1, row_Get_o a0 a1, [((!(row_Get_k6 a0 a1)) = true → boundP a0.length), ((!(row_Get_k6 a0 a1)) = true → (!(row_Get_k5 a0 a1)) = true → loopAt Try.prog (77 : FuncId) (0 : Nat) = loopAt Try.prog (77 : FuncId) (0 : Nat)), ((!(row_Get_k6 a0 a1)) = true → (!(row_Get_k5 a0 a1)) = true → needX row_Get_l0_next row_Get_l0_goes row_Get_l0_ps (row_Get_l0_fuel (a0, (getT a0 (32 : Int)).snd.fst, a1, (↑a1.length : Int), (0 : Int), ByteArray.mk #[], (getT a0 (32 : Int)).fst, [])) (a0, (getT a0 (32 : Int)).snd.fst, a1, (↑a1.length : Int), (0 : Int), ByteArray.mk #[], (getT a0 (32 : Int)).fst, []))]) := by kernel_rfl
set_option maxRecDepth 100000 in
theorem row_Get_c (a0 : List UInt8) (a1 : List TGroup) (hp : ∀ p ∈ row_Get_ps a0 a1, p) : CallOk Try.prog 77 [valA .bytes a0, .sl .group a1] 0 [] 1 (row_Get_r a0 a1) 1 (row_Get_o a0 a1) := by
 have n0 : ((!(row_Get_k6 a0 a1)) = true → boundP a0.length) := hp _ (List.mem_cons_self ..)
 have n1 : ((!(row_Get_k6 a0 a1)) = true → (!(row_Get_k5 a0 a1)) = true → loopAt Try.prog (77 : FuncId) (0 : Nat) = loopAt Try.prog (77 : FuncId) (0 : Nat)) := by intros; rfl
 have n2 : ((!(row_Get_k6 a0 a1)) = true → (!(row_Get_k5 a0 a1)) = true → needX row_Get_l0_next row_Get_l0_goes row_Get_l0_ps (row_Get_l0_fuel (a0, (getT a0 (32 : Int)).snd.fst, a1, (↑a1.length : Int), (0 : Int), ByteArray.mk #[], (getT a0 (32 : Int)).fst, [])) (a0, (getT a0 (32 : Int)).snd.fst, a1, (↑a1.length : Int), (0 : Int), ByteArray.mk #[], (getT a0 (32 : Int)).fst, [])) := hp _ (List.mem_cons_of_mem _ (List.mem_cons_self ..))
 exact evF_ok (envP_ok Cx_7_ok row_Get_l0_Lok) (row_Get_ev a0 a1) (needs_cons n0 (needs_cons n1 (needs_cons n2 needs_nil)))
def keyOk (b : List UInt8) : Bool := !((getT b 32).2.2 != 0 || (getT b 32).1 == ⟨#[]⟩)
def getE (b : List UInt8) (l : List TGroup) : Int := bif goodP l != 0 then goodP l else bif !keyOk b then 100 else bif !allN l.length (fun i => !badG b l (getT b 32).2.1 i) then 100 else 0
def getK (b : List UInt8) (l : List TGroup) : ByteArray := bif getE b l == 0 then (getT b 32).1 else ⟨#[]⟩
def getA (b : List UInt8) (l : List TGroup) : Int := bif getE b l == 0 then atN b l (getT b 32).2.1 l.length else 0
def getL (b : List UInt8) (l : List TGroup) : List TCell := bif getE b l == 0 then csN b l (getT b 32).2.1 l.length else []
def row_Get_r2 (a0 : List UInt8) (a1 : List TGroup) : A := .tup [.agg [.v (.string (getK a0 a1)), .sq 0], .v (.int .i64 (getA a0 a1)), .v (.int .i64 (getE a0 a1))]
def row_Get_o2 (a0 : List UInt8) (a1 : List TGroup) : Objs := [(0, some (.arr 55 8 (.ty .cell (getL a0 a1))))]
def row_Get_ps2 (a0 : List UInt8) (_a1 : List TGroup) : List Prop := [boundP a0.length]
theorem row_Get_loop (b : List UInt8) (l : List TGroup) (z key : ByteArray) (a : Int) (ha : 0 ≤ a ∧ a ≤ (b.length : Int)) (hb : boundP b.length) (h4 : l.length ≤ 4) :
  needX row_Get_l0_next row_Get_l0_goes row_Get_l0_ps (row_Get_l0_fuel (b, a, l, (l.length : Int), 0, z, key, [])) (b, a, l, (l.length : Int), 0, z, key, []) ∧
  ∃ k, k ≤ l.length ∧ row_Get_l0_run (b, a, l, (l.length : Int), 0, z, key, []) = (b, atN b l a k, l, (l.length : Int), (k : Int), z, key, csN b l a k) ∧ (k < l.length → badG b l a k = true) ∧ (decide (k < l.length) && badG b l a k) = !allN l.length (fun i => !badG b l a i) ∧ (∀ j, j < k → badG b l a j = false) := by
 have hb' := hb
 unfold boundP at hb'
 have hd : ∀ i, row_Get_l0_f_k1 b (atN b l a i) l (l.length : Int) (i : Int) z key (csN b l a i) = b.drop (atN b l a i).toNat := fun i => by
  unfold row_Get_l0_f_k1
  rw [Int.toNat_natCast]
  exact List.take_of_length_le (by rw [List.length_drop]; omega)
 have hk0 : ∀ i, row_Get_l0_f_k0 b (atN b l a i) l (l.length : Int) (i : Int) z key (csN b l a i) = (decide (i < l.length) && badG b l a i) := fun i => by
  unfold row_Get_l0_f_k0
  rw [hd, nn, dlt, Int.toNat_natCast]
  rfl
 obtain ⟨h1, k, hk, hx, hs, hst, hall⟩ := scanB (fun i => (b, atN b l a i, l, (l.length : Int), (i : Int), z, key, csN b l a i) : Nat → row_Get_l0_X) l.length (fun i => badG b l a i) row_Get_l0_next row_Get_l0_goes row_Get_l0_ps (row_Get_l0_fuel (b, a, l, (l.length : Int), 0, z, key, [])) (b, a, l, (l.length : Int), 0, z, key, []) rfl (by show l.length ≤ ((l.length : Int) - 0).toNat; omega)
  (fun i _ _ => by
   show (!!decide ((i : Int) < (l.length : Int)) && !row_Get_l0_f_k0 b (atN b l a i) l (l.length : Int) (i : Int) z key (csN b l a i)) = _
   rw [hk0, nn, dlt]
   cases decide (i < l.length) <;> rfl)
  (fun i hi hs => by
   obtain ⟨o1, o2⟩ := at_ok ha (i + 1) hs
   show (b, row_Get_l0_f_1 b (atN b l a i) l (l.length : Int) (i : Int) z key (csN b l a i), l, (l.length : Int), IntKind.i64.wrap ((i : Int) + 1), z, key, row_Get_l0_f_7 b (atN b l a i) l (l.length : Int) (i : Int) z key (csN b l a i)) = (b, atN b l a (i + 1), l, (l.length : Int), ((i + 1 : Nat) : Int), z, key, csN b l a (i + 1))
   unfold row_Get_l0_f_1 row_Get_l0_f_7
   rw [hd, wsucc (by omega), Int.toNat_natCast]
   have e : IntKind.i64.wrap (atN b l a i + (getC (b.drop (atN b l a i).toNat) (l.getD i (dflt TC.group)).2).snd.fst) = atN b l a (i + 1) := i64_in (n := atN b l a (i + 1)) (by omega)
   rw [e]
   rfl)
  (fun i hi hs => by
   have hin : (!!decide ((i : Int) < (l.length : Int))) = true → (i : Int) < (l.length : Int) := fun h => by rw [nn] at h; exact of_decide_eq_true h
   obtain ⟨o1, o2⟩ := at_ok ha i hs
   have hl := cs_len b l a i
   refine needs_cons (fun h => ⟨by show (0 : Int) ≤ (i : Int); omega, hin h⟩) (needs_cons (fun _ => ⟨o1, o2, Int.le_refl _⟩) (needs_cons (fun _ => ?_) (needs_cons (fun h _ => ?_) needs_nil)))
   ·show boundP (row_Get_l0_f_k1 b (atN b l a i) l (l.length : Int) (i : Int) z key (csN b l a i)).length
    rw [hd, List.length_drop]
    unfold boundP
    omega
   ·show boundP ((csN b l a i).length + 1)
    rw [hl]
    unfold boundP
    omega)
 exact ⟨h1, k, hk, hx, hst, hall, hs⟩
theorem row_Get_c2 (a0 : List UInt8) (a1 : List TGroup) (hp : ∀ p ∈ row_Get_ps2 a0 a1, p) : CallOk Try.prog 77 [valA .bytes a0, .sl .group a1] 0 [] 1 (row_Get_r2 a0 a1) 1 (row_Get_o2 a0 a1) := by
 have hb : boundP a0.length := hp _ (List.mem_cons_self ..)
 have hgp : (!(row_Get_k6 a0 a1)) = true → goodP a1 = 0 := fun h => by
  have h' : (!(goodP a1 != 0)) = true := h
  simpa using h'
 have hl : goodP a1 = 0 → _ := fun g => row_Get_loop a0 a1 (ByteArray.mk #[]) (getT a0 32).1 (getT a0 32).2.1 (getT_bounds a0 32) hb (goodP_0 g).2
 have h := row_Get_c a0 a1 (needs_cons (fun _ => hb) (needs_cons (fun g _ => (hl (hgp g)).1) needs_nil))
 have e : row_Get_0 a0 a1 = getK a0 a1 ∧ row_Get_1 a0 a1 = getA a0 a1 ∧ row_Get_2 a0 a1 = getE a0 a1 ∧ row_Get_3 a0 a1 = getL a0 a1 := by
  have k5 : row_Get_k5 a0 a1 = !keyOk a0 := by
   unfold row_Get_k5 keyOk
   rw [tlb, Bool.not_not]
  have k6 : row_Get_k6 a0 a1 = (goodP a1 != 0) := rfl
  unfold row_Get_0 row_Get_1 row_Get_2 row_Get_3 getK getA getL getE
  rw [k5, k6]
  cases g1 : goodP a1 != 0 with
  | true =>
   have : (goodP a1 == 0) = false := by simpa using g1
   simp only [cond_true, this]
   refine ⟨?_, ?_, ?_, ?_⟩ <;> first | rfl | trivial
  | false =>
   simp only [cond_false]
   cases g2 : keyOk a0 with
   | false => refine ⟨?_, ?_, ?_, ?_⟩ <;> first | rfl | trivial
   | true =>
    obtain ⟨_, k, hk, hx, hst, hall, hs⟩ := hl (by simpa using g1)
    have hk4 : row_Get_k4 a0 a1 = (a0, atN a0 a1 (getT a0 32).2.1 k, a1, (a1.length : Int), (k : Int), ByteArray.mk #[], (getT a0 32).1, csN a0 a1 (getT a0 32).2.1 k) := hx
    have hk0 : row_Get_k0 a0 a1 = !allN a1.length (fun i => !badG a0 a1 (getT a0 32).2.1 i) := by
     unfold row_Get_k0 row_Get_l0_f_18 row_Get_k1 row_Get_k2 row_Get_k3
     rw [hk4, ← hall]
     unfold row_Get_l0_f_k0 row_Get_l0_f_k1
     simp only [Int.toNat_natCast]
     rw [nn, dlt, List.take_of_length_le (by rw [List.length_drop]; omega)]
     rfl
    rw [hk0]
    cases g3 : allN a1.length (fun i => !badG a0 a1 (getT a0 32).2.1 i) with
    | false => refine ⟨?_, ?_, ?_, ?_⟩ <;> first | rfl | trivial
    | true =>
     have hkn : k = a1.length := by
      rcases Nat.lt_or_ge k a1.length with q | q
      ·have := hst q
       rw [g3, decide_eq_true q, this] at hall
       cases hall
      ·omega
     unfold row_Get_k1 row_Get_k2 row_Get_k3
     rw [hk4, hkn]
     refine ⟨?_, ?_, ?_, ?_⟩ <;> first | rfl | trivial
 unfold row_Get_r row_Get_o at h
 rw [e.1, e.2.1, e.2.2.1, e.2.2.2] at h
 exact h
def row_Get_t : List A → Nat → Objs → Option CRes
 | [y0, y1], nx, o => match argU .bytes y0, argL .group y1 with
  | some (a0, p0), some a1 => some (1, (row_Get_r2 a0 a1).pk (shiftR nx), nx + 1, shiftO nx (row_Get_o2 a0 a1) ++ o, p0 ++ (row_Get_ps2 a0 a1))
  | _, _ => none
 | _, _, _ => none
theorem row_Get_tok : TOk Try.prog 77 row_Get_t := fun args nx o k x nx' o' ps h => by
 unfold row_Get_t at h
 split at h <;> first | (cases h; done) | skip
 split at h <;> first | (cases h; done) | skip
 rename_i a0 p0 a1 e0 e1
 cases h
 refine ⟨fun hp => ?_, _, rfl⟩
 have q0 := fun p hm => hp p (List.mem_append.2 (.inl hm))
 have r0 := fun p hm => hp p (List.mem_append.2 (.inr hm))
 refine callOk_args (callOk_shift (row_Get_c2 a0 a1 r0) (Nat.le_refl _) (freeL_cons (valA_free _ _) (freeL_cons rfl freeL_nil)) nx o) fun F N R vs hl => ?_
 obtain ⟨v0, w0, rfl, h0, hl⟩ := hl.inv
 obtain ⟨v1, w1, rfl, h1, hl⟩ := hl.inv
 exact HL.cons (argU_ok e0 q0 h0) (HL.cons (argL_ok e1 h1) (hl))
noncomputable def Cx_8 := addC 77 row_Get_t Cx_7
theorem Cx_8_ok : COk Try.prog Cx_8 := addC_ok row_Get_tok Cx_7_ok
noncomputable def Cx := Cx_8
theorem Cx_ok : COk Try.prog Cx := Cx_8_ok
end Go.Proofs.Yteebobbhhgmeiaa
namespace Go.Proofs.Yteebobbhhgmeiaa
open Go.RowKit
abbrev r10_Get_l0_X : Type := (List UInt8) × (List TGroup) × Int × Int × ByteArray × ByteArray × (List TCell)
def r10_Get_l0_T (x : r10_Get_l0_X) : St := ⟨69, 4, [(0, .sl .u8 x.1), (1, .sl .group x.2.1), (4, .own 0 0), (9, .v (.int .i64 x.2.2.1)), (10, .own 1 0), (11, .v (.int .i64 x.2.2.2.1))], [(0, some (.box 71 [.v (.string x.2.2.2.2.1), .v (.slice none 0 0)])), (1, some (.box 71 [.v (.string x.2.2.2.2.2.1), .sq 3])), (3, some (.arr 55 8 (.ty .cell x.2.2.2.2.2.2)))]⟩
def r10_Get_l0_un : St → Option r10_Get_l0_X
 | ⟨69, 4, [(0, .sl .u8 z0), (1, .sl .group z1), (4, .own 0 0), (9, .v (.int .i64 z2)), (10, .own 1 0), (11, .v (.int .i64 z3))], [(0, some (.box 71 [.v (.string z4), .v (.slice none 0 0)])), (1, some (.box 71 [.v (.string z5), .sq 3])), (3, some (.arr 55 8 (.ty .cell z6)))]⟩ => some (z0, z1, z2, z3, z4, z5, z6)
 | _ => none
theorem r10_Get_l0_unok : ∀ s x, r10_Get_l0_un s = some x → s = r10_Get_l0_T x := fun s x h => by
 unfold r10_Get_l0_un at h
 split at h
 ·cases h; rfl
 ·cases h
def r10_Get_l0_S : Shape := ⟨3, 4, [0, 1, 4, 9, 10, 11], [], [(0, 0), (1, 1), (6, 3)], [0, 1, 6], [9, 5, 6], [0, 1, 3]⟩
def r10_Get_l0_E : Entry := ⟨[.nilB 1 1 55 .cell], [(0, 0), (1, 1), (2, 3)], [0, 1, 4, 9, 10, 11], [0, 1, 2]⟩
def r10_Get_l0_f_k2 (_a0 : List UInt8) (a1 : List TGroup) (_a2 : Int) (a3 : Int) (_a4 : ByteArray) (_a5 : ByteArray) (_a6 : List TCell) : Bool := !!decide (a3 < (↑a1.length : Int))
def r10_Get_l0_f_k1 (a0 : List UInt8) (_a1 : List TGroup) (a2 : Int) (_a3 : Int) (_a4 : ByteArray) (_a5 : ByteArray) (_a6 : List TCell) : List UInt8 := List.take ((↑a0.length : Int).toNat - a2.toNat) (List.drop a2.toNat a0)
def r10_Get_l0_f_k0 (a0 : List UInt8) (a1 : List TGroup) (a2 : Int) (a3 : Int) (a4 : ByteArray) (a5 : ByteArray) (a6 : List TCell) : Bool := (r10_Get_l0_f_k2 a0 a1 a2 a3 a4 a5 a6) && (getC (r10_Get_l0_f_k1 a0 a1 a2 a3 a4 a5 a6) (a1.getD a3.toNat (dflt TC.group)).2).snd.snd != (0 : Int)
def r10_Get_l0_f_2 (a0 : List UInt8) (a1 : List TGroup) (a2 : Int) (a3 : Int) (a4 : ByteArray) (a5 : ByteArray) (a6 : List TCell) : Int := IntKind.i64.wrap (a2 + (getC (r10_Get_l0_f_k1 a0 a1 a2 a3 a4 a5 a6) (a1.getD a3.toNat (dflt TC.group)).2).snd.fst)
def r10_Get_l0_f_6 (a0 : List UInt8) (a1 : List TGroup) (a2 : Int) (a3 : Int) (a4 : ByteArray) (a5 : ByteArray) (a6 : List TCell) : List TCell := a6 ++ [(getC (r10_Get_l0_f_k1 a0 a1 a2 a3 a4 a5 a6) (a1.getD a3.toNat (dflt TC.group)).2).fst]
def r10_Get_l0_f_7 (a0 : List UInt8) (a1 : List TGroup) (a2 : Int) (a3 : Int) (a4 : ByteArray) (a5 : ByteArray) (a6 : List TCell) : Bool := (r10_Get_l0_f_k2 a0 a1 a2 a3 a4 a5 a6) && !(r10_Get_l0_f_k0 a0 a1 a2 a3 a4 a5 a6)
def r10_Get_l0_f_19 (_a0 : List UInt8) (_a1 : List TGroup) (_a2 : Int) (_a3 : Int) (_a4 : ByteArray) (_a5 : ByteArray) (_a6 : List TCell) : ByteArray := ByteArray.mk #[]
def r10_Get_l0_next (x : r10_Get_l0_X) : r10_Get_l0_X := (x.1, x.2.1, r10_Get_l0_f_2 x.1 x.2.1 x.2.2.1 x.2.2.2.1 x.2.2.2.2.1 x.2.2.2.2.2.1 x.2.2.2.2.2.2, IntKind.i64.wrap (x.2.2.2.1 + (1 : Int)), x.2.2.2.2.1, x.2.2.2.2.2.1, r10_Get_l0_f_6 x.1 x.2.1 x.2.2.1 x.2.2.2.1 x.2.2.2.2.1 x.2.2.2.2.2.1 x.2.2.2.2.2.2)
def r10_Get_l0_goes (x : r10_Get_l0_X) : Cnd := some (r10_Get_l0_f_7 x.1 x.2.1 x.2.2.1 x.2.2.2.1 x.2.2.2.2.1 x.2.2.2.2.2.1 x.2.2.2.2.2.2)
def r10_Get_l0_psA (x : r10_Get_l0_X) : List Prop := [((r10_Get_l0_f_k2 x.1 x.2.1 x.2.2.1 x.2.2.2.1 x.2.2.2.2.1 x.2.2.2.2.2.1 x.2.2.2.2.2.2) = true → (0 : Int) ≤ x.2.2.1 ∧ x.2.2.1 ≤ (↑x.1.length : Int) ∧ (↑x.1.length : Int) ≤ (↑x.1.length : Int)), ((r10_Get_l0_f_k2 x.1 x.2.1 x.2.2.1 x.2.2.2.1 x.2.2.2.2.1 x.2.2.2.2.2.1 x.2.2.2.2.2.2) = true → (0 : Int) ≤ x.2.2.2.1 ∧ x.2.2.2.1 < (↑x.2.1.length : Int)), ((r10_Get_l0_f_k2 x.1 x.2.1 x.2.2.1 x.2.2.2.1 x.2.2.2.2.1 x.2.2.2.2.2.1 x.2.2.2.2.2.2) = true → boundP (r10_Get_l0_f_k1 x.1 x.2.1 x.2.2.1 x.2.2.2.1 x.2.2.2.2.1 x.2.2.2.2.2.1 x.2.2.2.2.2.2).length), ((r10_Get_l0_f_k2 x.1 x.2.1 x.2.2.1 x.2.2.2.1 x.2.2.2.2.1 x.2.2.2.2.2.1 x.2.2.2.2.2.2) = true → (!(getC (r10_Get_l0_f_k1 x.1 x.2.1 x.2.2.1 x.2.2.2.1 x.2.2.2.2.1 x.2.2.2.2.2.1 x.2.2.2.2.2.2) (x.2.1.getD x.2.2.2.1.toNat (dflt TC.group)).2).snd.snd != (0 : Int)) = true → boundP (x.2.2.2.2.2.2.length + (1 : Nat)))]
def r10_Get_l0_ps (x : r10_Get_l0_X) : List Prop := [((r10_Get_l0_f_k2 x.1 x.2.1 x.2.2.1 x.2.2.2.1 x.2.2.2.2.1 x.2.2.2.2.2.1 x.2.2.2.2.2.2) = true → (0 : Int) ≤ x.2.2.1 ∧ x.2.2.1 ≤ (↑x.1.length : Int) ∧ (↑x.1.length : Int) ≤ (↑x.1.length : Int)), ((r10_Get_l0_f_k2 x.1 x.2.1 x.2.2.1 x.2.2.2.1 x.2.2.2.2.1 x.2.2.2.2.2.1 x.2.2.2.2.2.2) = true → (0 : Int) ≤ x.2.2.2.1 ∧ x.2.2.2.1 < (↑x.2.1.length : Int)), ((r10_Get_l0_f_k2 x.1 x.2.1 x.2.2.1 x.2.2.2.1 x.2.2.2.2.1 x.2.2.2.2.2.1 x.2.2.2.2.2.2) = true → boundP (r10_Get_l0_f_k1 x.1 x.2.1 x.2.2.1 x.2.2.2.1 x.2.2.2.2.1 x.2.2.2.2.2.1 x.2.2.2.2.2.2).length), ((r10_Get_l0_f_k2 x.1 x.2.1 x.2.2.1 x.2.2.2.1 x.2.2.2.2.1 x.2.2.2.2.2.1 x.2.2.2.2.2.2) = true → (!(getC (r10_Get_l0_f_k1 x.1 x.2.1 x.2.2.1 x.2.2.2.1 x.2.2.2.2.1 x.2.2.2.2.2.1 x.2.2.2.2.2.2) (x.2.1.getD x.2.2.2.1.toNat (dflt TC.group)).2).snd.snd != (0 : Int)) = true → boundP (x.2.2.2.2.2.2.length + (1 : Nat)))]
def r10_Get_l0_outs (x : r10_Get_l0_X) : Outs := [(some 0, some (!decide (x.2.2.2.1 < (↑x.2.1.length : Int))), ⟨69, 4, [(9, .v (.int .i64 x.2.2.1)), (5, .dead), (6, .dead)], [(0, some (.box 71 [.v (.string x.2.2.2.2.1), .v (.slice none 0 0)])), (1, some (.box 71 [.v (.string x.2.2.2.2.2.1), .sq 3])), (3, some (.arr 55 8 (.ty .cell x.2.2.2.2.2.2)))]⟩), (none, some ((r10_Get_l0_f_k0 x.1 x.2.1 x.2.2.1 x.2.2.2.1 x.2.2.2.2.1 x.2.2.2.2.2.1 x.2.2.2.2.2.2)), ⟨69, 5, [(9, .v (.int .i64 x.2.2.1)), (5, .v (.int .i64 ((0 : Int)))), (6, .v (.int .i64 ((100 : Int))))], [(0, some (.box 71 [.v (.string (r10_Get_l0_f_19 x.1 x.2.1 x.2.2.1 x.2.2.2.1 x.2.2.2.2.1 x.2.2.2.2.2.1 x.2.2.2.2.2.2)), .v (.slice none 0 0)])), (1, some (.box 71 [.v (.string x.2.2.2.2.2.1), .sq 3])), (3, some (.arr 55 8 (.ty .cell x.2.2.2.2.2.2)))]⟩)]
def r10_Get_l0_fuel (x : r10_Get_l0_X) : Nat := ((↑x.2.1.length : Int) - x.2.2.2.1).toNat
def r10_Get_l0_run (x : r10_Get_l0_X) : r10_Get_l0_X := iterX r10_Get_l0_next r10_Get_l0_goes (r10_Get_l0_fuel x) x
set_option maxRecDepth 100000 in
theorem r10_Get_l0_ev (a0 : List UInt8) (a1 : List TGroup) (a2 : Int) (a3 : Int) (a4 : ByteArray) (a5 : ByteArray) (a6 : List TCell) : roundE (envT Cx L0) 9 (loopAt Try.prog 78 0) r10_Get_l0_S (r10_Get_l0_T (a0, a1, a2, a3, a4, a5, a6)) = some (r10_Get_l0_psA (a0, a1, a2, a3, a4, a5, a6), r10_Get_l0_outs (a0, a1, a2, a3, a4, a5, a6), r10_Get_l0_goes (a0, a1, a2, a3, a4, a5, a6), r10_Get_l0_T (r10_Get_l0_next (a0, a1, a2, a3, a4, a5, a6))) := by kernel_rfl
set_option maxRecDepth 100000 in
theorem r10_Get_l0_hA (a0 : List UInt8) (a1 : List TGroup) (a2 : Int) (a3 : Int) (a4 : ByteArray) (a5 : ByteArray) (a6 : List TCell) (hp : ∀ p ∈ r10_Get_l0_ps (a0, a1, a2, a3, a4, a5, a6), p) : ∀ p ∈ r10_Get_l0_psA (a0, a1, a2, a3, a4, a5, a6), p := by
 have n0 : ((r10_Get_l0_f_k2 a0 a1 a2 a3 a4 a5 a6) = true → (0 : Int) ≤ a2 ∧ a2 ≤ (↑a0.length : Int) ∧ (↑a0.length : Int) ≤ (↑a0.length : Int)) := hp _ (List.mem_cons_self ..)
 have n1 : ((r10_Get_l0_f_k2 a0 a1 a2 a3 a4 a5 a6) = true → (0 : Int) ≤ a3 ∧ a3 < (↑a1.length : Int)) := hp _ (List.mem_cons_of_mem _ (List.mem_cons_self ..))
 have n2 : ((r10_Get_l0_f_k2 a0 a1 a2 a3 a4 a5 a6) = true → boundP (r10_Get_l0_f_k1 a0 a1 a2 a3 a4 a5 a6).length) := hp _ (List.mem_cons_of_mem _ (List.mem_cons_of_mem _ (List.mem_cons_self ..)))
 have n3 : ((r10_Get_l0_f_k2 a0 a1 a2 a3 a4 a5 a6) = true → (!(getC (r10_Get_l0_f_k1 a0 a1 a2 a3 a4 a5 a6) (a1.getD a3.toNat (dflt TC.group)).2).snd.snd != (0 : Int)) = true → boundP (a6.length + (1 : Nat))) := hp _ (List.mem_cons_of_mem _ (List.mem_cons_of_mem _ (List.mem_cons_of_mem _ (List.mem_cons_self ..))))
 exact (needs_cons n0 (needs_cons n1 (needs_cons n2 (needs_cons n3 needs_nil))))
noncomputable def r10_Get_l0_row := rowL (envT Cx L0) (loopAt Try.prog 78 0) r10_Get_l0_S r10_Get_l0_E r10_Get_l0_un r10_Get_l0_fuel r10_Get_l0_next r10_Get_l0_goes r10_Get_l0_ps r10_Get_l0_outs
theorem r10_Get_l0_rok : ∀ s b ps outs, r10_Get_l0_row s = some (b, ps, outs) → Wf s ⟨ps, outs, none⟩ ∧ LoopOk (envT C0 L0) b s ps outs :=
 rowP_ok (T := r10_Get_l0_T) Cx_ok L0_ok (u := 9) (by kernel_rfl) (by decide) (fun ⟨a0, a1, a2, a3, a4, a5, a6⟩ => r10_Get_l0_ev a0 a1 a2 a3 a4 a5 a6) (fun ⟨a0, a1, a2, a3, a4, a5, a6⟩ => r10_Get_l0_hA a0 a1 a2 a3 a4 a5 a6) r10_Get_l0_unok (fun _ => okOuts_ok (n := 69) rfl) fun _ _ => rfl
noncomputable def r10_Get_l0_L := addLp 0 r10_Get_l0_row L0
theorem r10_Get_l0_Lok : LpOk r10_Get_l0_L := addLp_ok r10_Get_l0_rok L0_ok
def r10_Get_k6 (_a0 : List UInt8) (a1 : List TGroup) : Bool := goodP a1 != (0 : Int)
def r10_Get_k5 (a0 : List UInt8) (_a1 : List TGroup) : Bool := (getT a0 (32 : Int)).snd.snd != (0 : Int) || (getT a0 (32 : Int)).fst.toList == (ByteArray.mk #[]).toList
def r10_Get_k4 (a0 : List UInt8) (a1 : List TGroup) : r10_Get_l0_X := r10_Get_l0_run (a0, a1, (getT a0 (32 : Int)).snd.fst, (0 : Int), ByteArray.mk #[], (getT a0 (32 : Int)).fst, [])
def r10_Get_k3 (a0 : List UInt8) (a1 : List TGroup) : Int := (r10_Get_k4 a0 a1).snd.snd.fst
def r10_Get_k2 (a0 : List UInt8) (a1 : List TGroup) : List TCell := (r10_Get_k4 a0 a1).snd.snd.snd.snd.snd.snd
def r10_Get_k1 (a0 : List UInt8) (a1 : List TGroup) : ByteArray := (r10_Get_k4 a0 a1).snd.snd.snd.snd.snd.fst
def r10_Get_k0 (a0 : List UInt8) (a1 : List TGroup) : Bool := r10_Get_l0_f_k0 (r10_Get_k4 a0 a1).fst (r10_Get_k4 a0 a1).snd.fst (r10_Get_k3 a0 a1) (r10_Get_k4 a0 a1).snd.snd.snd.fst (r10_Get_k4 a0 a1).snd.snd.snd.snd.fst (r10_Get_k1 a0 a1) (r10_Get_k2 a0 a1)
def r10_Get_0 (a0 : List UInt8) (a1 : List TGroup) : ByteArray := bif (r10_Get_k6 a0 a1) then ByteArray.mk #[] else bif (r10_Get_k5 a0 a1) then ByteArray.mk #[] else bif (r10_Get_k0 a0 a1) then r10_Get_l0_f_19 (r10_Get_k4 a0 a1).fst (r10_Get_k4 a0 a1).snd.fst (r10_Get_k3 a0 a1) (r10_Get_k4 a0 a1).snd.snd.snd.fst (r10_Get_k4 a0 a1).snd.snd.snd.snd.fst (r10_Get_k1 a0 a1) (r10_Get_k2 a0 a1) else (r10_Get_k1 a0 a1)
def r10_Get_1 (a0 : List UInt8) (a1 : List TGroup) : Int := bif (r10_Get_k6 a0 a1) then (0 : Int) else bif (r10_Get_k5 a0 a1) then (0 : Int) else bif (r10_Get_k0 a0 a1) then (0 : Int) else (r10_Get_k3 a0 a1)
def r10_Get_2 (a0 : List UInt8) (a1 : List TGroup) : Int := bif (r10_Get_k6 a0 a1) then goodP a1 else bif (r10_Get_k5 a0 a1) then (100 : Int) else bif (r10_Get_k0 a0 a1) then (100 : Int) else (0 : Int)
def r10_Get_3 (a0 : List UInt8) (a1 : List TGroup) : List TCell := bif (r10_Get_k6 a0 a1) then [] else bif (r10_Get_k5 a0 a1) then [] else bif (r10_Get_k0 a0 a1) then [] else (r10_Get_k2 a0 a1)
def r10_Get_r (a0 : List UInt8) (a1 : List TGroup) : A := .tup [.agg [.v (.string (r10_Get_0 a0 a1)), .sq 0], .v (.int .i64 (r10_Get_1 a0 a1)), .v (.int .i64 (r10_Get_2 a0 a1))]
def r10_Get_o (a0 : List UInt8) (a1 : List TGroup) : Objs := [(0, some (.arr 55 8 (.ty .cell (r10_Get_3 a0 a1))))]
def r10_Get_ps (a0 : List UInt8) (a1 : List TGroup) : List Prop := [(∀ (g : TGroup), g ∈ a1 → wideN g.1.size), ((!(r10_Get_k6 a0 a1)) = true → boundP a0.length), ((!(r10_Get_k6 a0 a1)) = true → (!(r10_Get_k5 a0 a1)) = true → needX r10_Get_l0_next r10_Get_l0_goes r10_Get_l0_ps (r10_Get_l0_fuel (a0, a1, (getT a0 (32 : Int)).snd.fst, (0 : Int), ByteArray.mk #[], (getT a0 (32 : Int)).fst, [])) (a0, a1, (getT a0 (32 : Int)).snd.fst, (0 : Int), ByteArray.mk #[], (getT a0 (32 : Int)).fst, []))]
set_option maxRecDepth 100000 in
theorem r10_Get_ev (a0 : List UInt8) (a1 : List TGroup) : evF (envT Cx r10_Get_l0_L) 9 78 [valA .bytes a0, .sl .group a1] 0 [] = some (1, r10_Get_r a0 a1, 1, r10_Get_o a0 a1, [(∀ (g : TGroup), g ∈ a1 → wideN g.1.size), ((!(r10_Get_k6 a0 a1)) = true → boundP a0.length), ((!(r10_Get_k6 a0 a1)) = true → (!(r10_Get_k5 a0 a1)) = true → loopAt Try.prog (78 : FuncId) (0 : Nat) = loopAt Try.prog (78 : FuncId) (0 : Nat)), ((!(r10_Get_k6 a0 a1)) = true → (!(r10_Get_k5 a0 a1)) = true → needX r10_Get_l0_next r10_Get_l0_goes r10_Get_l0_ps (r10_Get_l0_fuel (a0, a1, (getT a0 (32 : Int)).snd.fst, (0 : Int), ByteArray.mk #[], (getT a0 (32 : Int)).fst, [])) (a0, a1, (getT a0 (32 : Int)).snd.fst, (0 : Int), ByteArray.mk #[], (getT a0 (32 : Int)).fst, []))]) := by kernel_rfl
set_option maxRecDepth 100000 in
theorem r10_Get_c (a0 : List UInt8) (a1 : List TGroup) (hp : ∀ p ∈ r10_Get_ps a0 a1, p) : CallOk Try.prog 78 [valA .bytes a0, .sl .group a1] 0 [] 1 (r10_Get_r a0 a1) 1 (r10_Get_o a0 a1) := by
 have n0 : (∀ (g : TGroup), g ∈ a1 → wideN g.1.size) := hp _ (List.mem_cons_self ..)
 have n1 : ((!(r10_Get_k6 a0 a1)) = true → boundP a0.length) := hp _ (List.mem_cons_of_mem _ (List.mem_cons_self ..))
 have n2 : ((!(r10_Get_k6 a0 a1)) = true → (!(r10_Get_k5 a0 a1)) = true → loopAt Try.prog (78 : FuncId) (0 : Nat) = loopAt Try.prog (78 : FuncId) (0 : Nat)) := by intros; rfl
 have n3 : ((!(r10_Get_k6 a0 a1)) = true → (!(r10_Get_k5 a0 a1)) = true → needX r10_Get_l0_next r10_Get_l0_goes r10_Get_l0_ps (r10_Get_l0_fuel (a0, a1, (getT a0 (32 : Int)).snd.fst, (0 : Int), ByteArray.mk #[], (getT a0 (32 : Int)).fst, [])) (a0, a1, (getT a0 (32 : Int)).snd.fst, (0 : Int), ByteArray.mk #[], (getT a0 (32 : Int)).fst, [])) := hp _ (List.mem_cons_of_mem _ (List.mem_cons_of_mem _ (List.mem_cons_self ..)))
 exact evF_ok (envP_ok Cx_ok r10_Get_l0_Lok) (r10_Get_ev a0 a1) (needs_cons n0 (needs_cons n1 (needs_cons n2 (needs_cons n3 needs_nil))))
def r10_Get_r2 (a0 : List UInt8) (a1 : List TGroup) : A := .tup [.agg [.v (.string (getK a0 a1)), .sq 0], .v (.int .i64 (getA a0 a1)), .v (.int .i64 (getE a0 a1))]
def r10_Get_o2 (a0 : List UInt8) (a1 : List TGroup) : Objs := [(0, some (.arr 55 8 (.ty .cell (getL a0 a1))))]
def r10_Get_ps2 (a0 : List UInt8) (a1 : List TGroup) : List Prop := [boundP a0.length ∧ ∀ g ∈ a1, wideN g.name.size]
theorem r10_Get_loop (b : List UInt8) (l : List TGroup) (z key : ByteArray) (a : Int) (ha : 0 ≤ a ∧ a ≤ (b.length : Int)) (hb : boundP b.length) (h4 : l.length ≤ 4) :
  needX r10_Get_l0_next r10_Get_l0_goes r10_Get_l0_ps (r10_Get_l0_fuel (b, l, a, 0, z, key, [])) (b, l, a, 0, z, key, []) ∧
  ∃ k, k ≤ l.length ∧ r10_Get_l0_run (b, l, a, 0, z, key, []) = (b, l, atN b l a k, (k : Int), z, key, csN b l a k) ∧ (k < l.length → badG b l a k = true) ∧ (decide (k < l.length) && badG b l a k) = !allN l.length (fun i => !badG b l a i) ∧ (∀ j, j < k → badG b l a j = false) := by
 have hb' := hb
 unfold boundP at hb'
 have hd : ∀ i, r10_Get_l0_f_k1 b l (atN b l a i) (i : Int) z key (csN b l a i) = b.drop (atN b l a i).toNat := fun i => by
  unfold r10_Get_l0_f_k1
  rw [Int.toNat_natCast]
  exact List.take_of_length_le (by rw [List.length_drop]; omega)
 have hk2 : ∀ i, r10_Get_l0_f_k2 b l (atN b l a i) (i : Int) z key (csN b l a i) = decide (i < l.length) := fun i => by
  unfold r10_Get_l0_f_k2
  rw [nn, dlt]
 have hk0 : ∀ i, r10_Get_l0_f_k0 b l (atN b l a i) (i : Int) z key (csN b l a i) = (decide (i < l.length) && badG b l a i) := fun i => by
  unfold r10_Get_l0_f_k0
  rw [hd, hk2, Int.toNat_natCast]
  rfl
 obtain ⟨h1, k, hk, hx, hs, hst, hall⟩ := scanB (fun i => (b, l, atN b l a i, (i : Int), z, key, csN b l a i) : Nat → r10_Get_l0_X) l.length (fun i => badG b l a i) r10_Get_l0_next r10_Get_l0_goes r10_Get_l0_ps (r10_Get_l0_fuel (b, l, a, 0, z, key, [])) (b, l, a, 0, z, key, []) rfl (by show l.length ≤ ((l.length : Int) - 0).toNat; omega)
  (fun i _ _ => by
   show (r10_Get_l0_f_k2 b l (atN b l a i) (i : Int) z key (csN b l a i) && !r10_Get_l0_f_k0 b l (atN b l a i) (i : Int) z key (csN b l a i)) = _
   rw [hk0, hk2]
   cases decide (i < l.length) <;> rfl)
  (fun i hi hs => by
   obtain ⟨o1, o2⟩ := at_ok ha (i + 1) hs
   show (b, l, r10_Get_l0_f_2 b l (atN b l a i) (i : Int) z key (csN b l a i), IntKind.i64.wrap ((i : Int) + 1), z, key, r10_Get_l0_f_6 b l (atN b l a i) (i : Int) z key (csN b l a i)) = (b, l, atN b l a (i + 1), ((i + 1 : Nat) : Int), z, key, csN b l a (i + 1))
   unfold r10_Get_l0_f_2 r10_Get_l0_f_6
   rw [hd, wsucc (by omega), Int.toNat_natCast]
   have e : IntKind.i64.wrap (atN b l a i + (getC (b.drop (atN b l a i).toNat) (l.getD i (dflt TC.group)).2).snd.fst) = atN b l a (i + 1) := i64_in (n := atN b l a (i + 1)) (by omega)
   rw [e]
   rfl)
  (fun i hi hs => by
   have hin : r10_Get_l0_f_k2 b l (atN b l a i) (i : Int) z key (csN b l a i) = true → (i : Int) < (l.length : Int) := fun h => by
    rw [hk2] at h
    have := of_decide_eq_true h
    omega
   obtain ⟨o1, o2⟩ := at_ok ha i hs
   have hl := cs_len b l a i
   refine needs_cons (fun _ => ⟨o1, o2, Int.le_refl _⟩) (needs_cons (fun h => ⟨by show (0 : Int) ≤ (i : Int); omega, hin h⟩) (needs_cons (fun _ => ?_) (needs_cons (fun h _ => ?_) needs_nil)))
   ·show boundP (r10_Get_l0_f_k1 b l (atN b l a i) (i : Int) z key (csN b l a i)).length
    rw [hd, List.length_drop]
    unfold boundP
    omega
   ·show boundP ((csN b l a i).length + 1)
    rw [hl]
    unfold boundP
    omega)
 exact ⟨h1, k, hk, hx, hst, hall, hs⟩
theorem r10_Get_c2 (a0 : List UInt8) (a1 : List TGroup) (hp : ∀ p ∈ r10_Get_ps2 a0 a1, p) : CallOk Try.prog 78 [valA .bytes a0, .sl .group a1] 0 [] 1 (r10_Get_r2 a0 a1) 1 (r10_Get_o2 a0 a1) := by
 obtain ⟨hb, hn⟩ := hp _ (List.mem_cons_self ..)
 have hgp : (!(r10_Get_k6 a0 a1)) = true → goodP a1 = 0 := fun h => by
  have h' : (!(goodP a1 != 0)) = true := h
  simpa using h'
 have hl : goodP a1 = 0 → _ := fun g => r10_Get_loop a0 a1 (ByteArray.mk #[]) (getT a0 32).1 (getT a0 32).2.1 (getT_bounds a0 32) hb (goodP_0 g).2
 have h := r10_Get_c a0 a1 (needs_cons hn (needs_cons (fun _ => hb) (needs_cons (fun g _ => (hl (hgp g)).1) needs_nil)))
 have e : r10_Get_0 a0 a1 = getK a0 a1 ∧ r10_Get_1 a0 a1 = getA a0 a1 ∧ r10_Get_2 a0 a1 = getE a0 a1 ∧ r10_Get_3 a0 a1 = getL a0 a1 := by
  have k5 : r10_Get_k5 a0 a1 = !keyOk a0 := by
   unfold r10_Get_k5 keyOk
   rw [tlb, Bool.not_not]
  have k6 : r10_Get_k6 a0 a1 = (goodP a1 != 0) := rfl
  unfold r10_Get_0 r10_Get_1 r10_Get_2 r10_Get_3 getK getA getL getE
  rw [k5, k6]
  cases g1 : goodP a1 != 0 with
  | true =>
   have : (goodP a1 == 0) = false := by simpa using g1
   simp only [cond_true, this]
   refine ⟨?_, ?_, ?_, ?_⟩ <;> first | rfl | trivial
  | false =>
   simp only [cond_false]
   cases g2 : keyOk a0 with
   | false => refine ⟨?_, ?_, ?_, ?_⟩ <;> first | rfl | trivial
   | true =>
    obtain ⟨_, k, hk, hx, hst, hall, hs⟩ := hl (by simpa using g1)
    have hk4 : r10_Get_k4 a0 a1 = (a0, a1, atN a0 a1 (getT a0 32).2.1 k, (k : Int), ByteArray.mk #[], (getT a0 32).1, csN a0 a1 (getT a0 32).2.1 k) := hx
    have hk0 : r10_Get_k0 a0 a1 = !allN a1.length (fun i => !badG a0 a1 (getT a0 32).2.1 i) := by
     unfold r10_Get_k0 r10_Get_k1 r10_Get_k2 r10_Get_k3
     rw [hk4, ← hall]
     unfold r10_Get_l0_f_k0 r10_Get_l0_f_k1 r10_Get_l0_f_k2
     simp only [Int.toNat_natCast]
     rw [nn, dlt, List.take_of_length_le (by rw [List.length_drop]; omega)]
     rfl
    rw [hk0]
    cases g3 : allN a1.length (fun i => !badG a0 a1 (getT a0 32).2.1 i) with
    | false => refine ⟨?_, ?_, ?_, ?_⟩ <;> first | rfl | trivial
    | true =>
     have hkn : k = a1.length := by
      rcases Nat.lt_or_ge k a1.length with q | q
      ·have := hst q
       rw [g3, decide_eq_true q, this] at hall
       cases hall
      ·omega
     unfold r10_Get_k1 r10_Get_k2 r10_Get_k3
     rw [hk4, hkn]
     refine ⟨?_, ?_, ?_, ?_⟩ <;> first | rfl | trivial
 unfold r10_Get_r r10_Get_o at h
 rw [e.1, e.2.1, e.2.2.1, e.2.2.2] at h
 exact h
def r10_Get_t : List A → Nat → Objs → Option CRes
 | [y0, y1], nx, o => match argU .bytes y0, argL .group y1 with
  | some (a0, p0), some a1 => some (1, (r10_Get_r2 a0 a1).pk (shiftR nx), nx + 1, shiftO nx (r10_Get_o2 a0 a1) ++ o, p0 ++ (r10_Get_ps2 a0 a1))
  | _, _ => none
 | _, _, _ => none
theorem r10_Get_tok : TOk Try.prog 78 r10_Get_t := fun args nx o k x nx' o' ps h => by
 unfold r10_Get_t at h
 split at h <;> first | (cases h; done) | skip
 split at h <;> first | (cases h; done) | skip
 rename_i a0 p0 a1 e0 e1
 cases h
 refine ⟨fun hp => ?_, _, rfl⟩
 have q0 := fun p hm => hp p (List.mem_append.2 (.inl hm))
 have r0 := fun p hm => hp p (List.mem_append.2 (.inr hm))
 refine callOk_args (callOk_shift (r10_Get_c2 a0 a1 r0) (Nat.le_refl _) (freeL_cons (valA_free _ _) (freeL_cons rfl freeL_nil)) nx o) fun F N R vs hl => ?_
 obtain ⟨v0, w0, rfl, h0, hl⟩ := hl.inv
 obtain ⟨v1, w1, rfl, h1, hl⟩ := hl.inv
 exact HL.cons (argU_ok e0 q0 h0) (HL.cons (argL_ok e1 h1) (hl))
noncomputable def Cya_1 := addC 78 r10_Get_t Cx
theorem Cya_1_ok : COk Try.prog Cya_1 := addC_ok r10_Get_tok Cx_ok
noncomputable def Cya := Cya_1
theorem Cya_ok : COk Try.prog Cya := Cya_1_ok
end Go.Proofs.Yteebobbhhgmeiaa
namespace Go.Proofs.Yteebobbhhgmeiaa
open Go.RowKit
abbrev r10_Put_l0_X : Type := (List TGroup) × Int × TRow × (List UInt8)
def r10_Put_l0_T (x : r10_Put_l0_X) : St := ⟨39, 3, [(1, .sl .group x.1), (5, .own 0 0), (7, .sq 2), (8, .v (.int .i64 x.2.1))], [(0, some (.box 71 [.v (.string x.2.2.1.key), .sl .cell x.2.2.1.cells])), (2, some (.arr 5 1 (.ty .u8 x.2.2.2)))]⟩
def r10_Put_l0_un : St → Option r10_Put_l0_X
 | ⟨39, 3, [(1, .sl .group z0), (5, .own 0 0), (7, .sq 2), (8, .v (.int .i64 z1))], [(0, some (.box 71 [.v (.string z2), .sl .cell z3])), (2, some (.arr 5 1 (.ty .u8 z4)))]⟩ => some (z0, z1, ⟨z2, z3⟩, z4)
 | _ => none
theorem r10_Put_l0_unok : ∀ s x, r10_Put_l0_un s = some x → s = r10_Put_l0_T x := fun s x h => by
 unfold r10_Put_l0_un at h
 split at h
 ·cases h; rfl
 ·cases h
def r10_Put_l0_S : Shape := ⟨2, 3, [1, 5, 7, 8], [], [(0, 0), (3, 2)], [0, 3], [7], [2, 0]⟩
def r10_Put_l0_E : Entry := ⟨[], [(0, 0), (1, 2)], [1, 5, 7, 8], [0, 1]⟩
def r10_Put_l0_f_k0 (a0 : List TGroup) (a1 : Int) (_a2 : TRow) (_a3 : List UInt8) : Bool := !!decide (a1 < (↑a0.length : Int))
def r10_Put_l0_f_3 (a0 : List TGroup) (a1 : Int) (a2 : TRow) (a3 : List UInt8) : List UInt8 := a3 ++ putC (a0.getD a1.toNat (dflt TC.group)).2 (a2.2.getD a1.toNat (dflt TC.cell))
def r10_Put_l0_next (x : r10_Put_l0_X) : r10_Put_l0_X := (x.1, IntKind.i64.wrap (x.2.1 + (1 : Int)), x.2.2.1, r10_Put_l0_f_3 x.1 x.2.1 x.2.2.1 x.2.2.2)
def r10_Put_l0_goes (x : r10_Put_l0_X) : Cnd := some ((r10_Put_l0_f_k0 x.1 x.2.1 x.2.2.1 x.2.2.2))
def r10_Put_l0_psA (x : r10_Put_l0_X) : List Prop := [((r10_Put_l0_f_k0 x.1 x.2.1 x.2.2.1 x.2.2.2) = true → (0 : Int) ≤ x.2.1 ∧ x.2.1 < (↑x.1.length : Int)), ((r10_Put_l0_f_k0 x.1 x.2.1 x.2.2.1 x.2.2.2) = true → (0 : Int) ≤ x.2.1 ∧ x.2.1 < (↑x.2.2.1.2.length : Int)), ((r10_Put_l0_f_k0 x.1 x.2.1 x.2.2.1 x.2.2.2) = true → boundP (x.2.2.2.length + (128 : Nat)))]
def r10_Put_l0_ps (x : r10_Put_l0_X) : List Prop := [((r10_Put_l0_f_k0 x.1 x.2.1 x.2.2.1 x.2.2.2) = true → (0 : Int) ≤ x.2.1 ∧ x.2.1 < (↑x.1.length : Int)), ((r10_Put_l0_f_k0 x.1 x.2.1 x.2.2.1 x.2.2.2) = true → (0 : Int) ≤ x.2.1 ∧ x.2.1 < (↑x.2.2.1.2.length : Int)), ((r10_Put_l0_f_k0 x.1 x.2.1 x.2.2.1 x.2.2.2) = true → boundP (x.2.2.2.length + (128 : Nat)))]
def r10_Put_l0_outs (x : r10_Put_l0_X) : Outs := [(some 0, some (!decide (x.2.1 < (↑x.1.length : Int))), ⟨39, 3, [(7, .sq 2)], [(2, some (.arr 5 1 (.ty .u8 x.2.2.2))), (0, some (.box 71 [.v (.string x.2.2.1.1), .sl .cell x.2.2.1.2]))]⟩)]
def r10_Put_l0_fuel (x : r10_Put_l0_X) : Nat := ((↑x.1.length : Int) - x.2.1).toNat
def r10_Put_l0_run (x : r10_Put_l0_X) : r10_Put_l0_X := iterX r10_Put_l0_next r10_Put_l0_goes (r10_Put_l0_fuel x) x
set_option maxRecDepth 100000 in
theorem r10_Put_l0_ev (a0 : List TGroup) (a1 : Int) (a2 : TRow) (a3 : List UInt8) : roundE (envT Cya L0) 9 (loopAt Try.prog 80 0) r10_Put_l0_S (r10_Put_l0_T (a0, a1, a2, a3)) = some (r10_Put_l0_psA (a0, a1, a2, a3), r10_Put_l0_outs (a0, a1, a2, a3), r10_Put_l0_goes (a0, a1, a2, a3), r10_Put_l0_T (r10_Put_l0_next (a0, a1, a2, a3))) := by kernel_rfl
set_option maxRecDepth 100000 in
theorem r10_Put_l0_hA (a0 : List TGroup) (a1 : Int) (a2 : TRow) (a3 : List UInt8) (hp : ∀ p ∈ r10_Put_l0_ps (a0, a1, a2, a3), p) : ∀ p ∈ r10_Put_l0_psA (a0, a1, a2, a3), p := by
 have n0 : ((r10_Put_l0_f_k0 a0 a1 a2 a3) = true → (0 : Int) ≤ a1 ∧ a1 < (↑a0.length : Int)) := hp _ (List.mem_cons_self ..)
 have n1 : ((r10_Put_l0_f_k0 a0 a1 a2 a3) = true → (0 : Int) ≤ a1 ∧ a1 < (↑a2.2.length : Int)) := hp _ (List.mem_cons_of_mem _ (List.mem_cons_self ..))
 have n2 : ((r10_Put_l0_f_k0 a0 a1 a2 a3) = true → boundP (a3.length + (128 : Nat))) := hp _ (List.mem_cons_of_mem _ (List.mem_cons_of_mem _ (List.mem_cons_self ..)))
 exact (needs_cons n0 (needs_cons n1 (needs_cons n2 needs_nil)))
noncomputable def r10_Put_l0_row := rowL (envT Cya L0) (loopAt Try.prog 80 0) r10_Put_l0_S r10_Put_l0_E r10_Put_l0_un r10_Put_l0_fuel r10_Put_l0_next r10_Put_l0_goes r10_Put_l0_ps r10_Put_l0_outs
theorem r10_Put_l0_rok : ∀ s b ps outs, r10_Put_l0_row s = some (b, ps, outs) → Wf s ⟨ps, outs, none⟩ ∧ LoopOk (envT C0 L0) b s ps outs :=
 rowP_ok (T := r10_Put_l0_T) Cya_ok L0_ok (u := 9) (by kernel_rfl) (by decide) (fun ⟨a0, a1, a2, a3⟩ => r10_Put_l0_ev a0 a1 a2 a3) (fun ⟨a0, a1, a2, a3⟩ => r10_Put_l0_hA a0 a1 a2 a3) r10_Put_l0_unok (fun _ => okOuts_ok (n := 39) rfl) fun _ _ => rfl
noncomputable def r10_Put_l0_L := addLp 0 r10_Put_l0_row L0
theorem r10_Put_l0_Lok : LpOk r10_Put_l0_L := addLp_ok r10_Put_l0_rok L0_ok
def r10_Put_k0 (_a0 : List UInt8) (a1 : List TGroup) (a2 : TRow) : Bool := goodRow a1 a2 != (0 : Int)
def r10_Put_0 (a0 : List UInt8) (a1 : List TGroup) (a2 : TRow) : List UInt8 := bif (r10_Put_k0 a0 a1 a2) then [] ++ a0 else (r10_Put_l0_run (a1, (0 : Int), a2, a0 ++ putT a2.1)).snd.snd.snd
def r10_Put_r (_a0 : List UInt8) (_a1 : List TGroup) (_a2 : TRow) : A := .sq 0
def r10_Put_o (a0 : List UInt8) (a1 : List TGroup) (a2 : TRow) : Objs := [(0, some (.arr 5 1 (.ty .u8 (r10_Put_0 a0 a1 a2))))]
def r10_Put_ps (a0 : List UInt8) (a1 : List TGroup) (a2 : TRow) : List Prop := [(∀ (g : TGroup), g ∈ a1 → wideN g.1.size), ((r10_Put_k0 a0 a1 a2) = true → boundP ((0 : Nat) + a0.length)), ((!(r10_Put_k0 a0 a1 a2)) = true → boundP (a0.length + (8 : Nat) + a2.1.size)), ((!(r10_Put_k0 a0 a1 a2)) = true → needX r10_Put_l0_next r10_Put_l0_goes r10_Put_l0_ps (r10_Put_l0_fuel (a1, (0 : Int), a2, a0 ++ putT a2.1)) (a1, (0 : Int), a2, a0 ++ putT a2.1))]
set_option maxRecDepth 100000 in
theorem r10_Put_ev (a0 : List UInt8) (a1 : List TGroup) (a2 : TRow) : evF (envT Cya r10_Put_l0_L) 9 80 [valA .bytes a0, .sl .group a1, valA .row a2] 0 [] = some (1, r10_Put_r a0 a1 a2, 1, r10_Put_o a0 a1 a2, [(∀ (g : TGroup), g ∈ a1 → wideN g.1.size), ((r10_Put_k0 a0 a1 a2) = true → boundP ((0 : Nat) + a0.length)), ((!(r10_Put_k0 a0 a1 a2)) = true → boundP (a0.length + (8 : Nat) + a2.1.size)), ((!(r10_Put_k0 a0 a1 a2)) = true → loopAt Try.prog (80 : FuncId) (0 : Nat) = loopAt Try.prog (80 : FuncId) (0 : Nat)), ((!(r10_Put_k0 a0 a1 a2)) = true → needX r10_Put_l0_next r10_Put_l0_goes r10_Put_l0_ps (r10_Put_l0_fuel (a1, (0 : Int), a2, a0 ++ putT a2.1)) (a1, (0 : Int), a2, a0 ++ putT a2.1))]) := by kernel_rfl
set_option maxRecDepth 100000 in
theorem r10_Put_c (a0 : List UInt8) (a1 : List TGroup) (a2 : TRow) (hp : ∀ p ∈ r10_Put_ps a0 a1 a2, p) : CallOk Try.prog 80 [valA .bytes a0, .sl .group a1, valA .row a2] 0 [] 1 (r10_Put_r a0 a1 a2) 1 (r10_Put_o a0 a1 a2) := by
 have n0 : (∀ (g : TGroup), g ∈ a1 → wideN g.1.size) := hp _ (List.mem_cons_self ..)
 have n1 : ((r10_Put_k0 a0 a1 a2) = true → boundP ((0 : Nat) + a0.length)) := hp _ (List.mem_cons_of_mem _ (List.mem_cons_self ..))
 have n2 : ((!(r10_Put_k0 a0 a1 a2)) = true → boundP (a0.length + (8 : Nat) + a2.1.size)) := hp _ (List.mem_cons_of_mem _ (List.mem_cons_of_mem _ (List.mem_cons_self ..)))
 have n3 : ((!(r10_Put_k0 a0 a1 a2)) = true → loopAt Try.prog (80 : FuncId) (0 : Nat) = loopAt Try.prog (80 : FuncId) (0 : Nat)) := by intros; rfl
 have n4 : ((!(r10_Put_k0 a0 a1 a2)) = true → needX r10_Put_l0_next r10_Put_l0_goes r10_Put_l0_ps (r10_Put_l0_fuel (a1, (0 : Int), a2, a0 ++ putT a2.1)) (a1, (0 : Int), a2, a0 ++ putT a2.1)) := hp _ (List.mem_cons_of_mem _ (List.mem_cons_of_mem _ (List.mem_cons_of_mem _ (List.mem_cons_self ..))))
 exact evF_ok (envP_ok Cya_ok r10_Put_l0_Lok) (r10_Put_ev a0 a1 a2) (needs_cons n0 (needs_cons n1 (needs_cons n2 (needs_cons n3 (needs_cons n4 needs_nil)))))
def r10_Put_r2 (_a0 : List UInt8) (_a1 : List TGroup) (_a2 : TRow) : A := .sq 0
def r10_Put_o2 (a0 : List UInt8) (a1 : List TGroup) (a2 : TRow) : Objs := [(0, some (.arr 5 1 (.ty .u8 (a0 ++ putRw a1 a2))))]
def r10_Put_ps2 (a0 : List UInt8) (a1 : List TGroup) (_a2 : TRow) : List Prop := [boundP (a0.length + 1024) ∧ ∀ g ∈ a1, wideN g.name.size]
theorem enc_len {l : List TGroup} {cs : List TCell} (hl : cs.length = l.length) : ∀ i, i ≤ l.length → (encN l cs i).length ≤ 128 * i
 | 0, _ => by simp [encN]
 | i + 1, hi => by
  have := enc_len hl i (by omega)
  have h8 := putC_80 (polN l i) (cellN cs i)
  rw [enc_succ hl (by omega), List.length_append]
  omega
theorem r10_Put_loop (l : List TGroup) (r : TRow) (pre : List UInt8) (hl : r.cells.length = l.length) (h4 : l.length ≤ 4) (hb : boundP (pre.length + 640)) :
  needX r10_Put_l0_next r10_Put_l0_goes r10_Put_l0_ps (r10_Put_l0_fuel (l, 0, r, pre)) (l, 0, r, pre) ∧
  r10_Put_l0_run (l, 0, r, pre) = (l, (l.length : Int), r, pre ++ encN l r.cells l.length) := by
 unfold boundP at hb
 obtain ⟨h1, k, hk, hx, _, hst, _⟩ := scanB (fun i => (l, (i : Int), r, pre ++ encN l r.cells i) : Nat → r10_Put_l0_X) l.length (fun _ => false) r10_Put_l0_next r10_Put_l0_goes r10_Put_l0_ps (r10_Put_l0_fuel (l, 0, r, pre)) (l, 0, r, pre) (by show _ = (l, ((0 : Nat) : Int), r, pre ++ encN l r.cells 0); simp [encN]) (by show l.length ≤ ((l.length : Int) - 0).toNat; omega)
  (fun i _ _ => by
   show (!!decide ((i : Int) < (l.length : Int))) = _
   rw [nn, dlt, Bool.not_false, Bool.and_true])
  (fun i hi _ => by
   show (l, IntKind.i64.wrap ((i : Int) + 1), r, r10_Put_l0_f_3 l (i : Int) r (pre ++ encN l r.cells i)) = (l, ((i + 1 : Nat) : Int), r, pre ++ encN l r.cells (i + 1))
   unfold r10_Put_l0_f_3
   rw [wsucc (by omega), Int.toNat_natCast, enc_succ hl hi, List.append_assoc]
   rfl)
  (fun i hi _ => by
   have hin : r10_Put_l0_f_k0 l (i : Int) r (pre ++ encN l r.cells i) = true → i < l.length := fun h => by
    unfold r10_Put_l0_f_k0 at h
    rw [nn] at h
    have := of_decide_eq_true h
    omega
   refine needs_cons (fun h => ⟨by show (0 : Int) ≤ (i : Int); omega, by have := hin h; show (i : Int) < (l.length : Int); omega⟩) (needs_cons (fun h => ⟨by show (0 : Int) ≤ (i : Int); omega, by have := hin h; show (i : Int) < (r.cells.length : Int); omega⟩) (needs_cons (fun h => ?_) needs_nil))
   have := enc_len hl i (by omega)
   show boundP ((pre ++ encN l r.cells i).length + 128)
   rw [List.length_append]
   unfold boundP
   omega)
 have hkn : k = l.length := by
  rcases Nat.lt_or_ge k l.length with h | h
  ·exact absurd (hst h) (by decide)
  ·omega
 subst hkn
 exact ⟨h1, hx⟩
theorem r10_Put_c2 (a0 : List UInt8) (a1 : List TGroup) (a2 : TRow) (hp : ∀ p ∈ r10_Put_ps2 a0 a1 a2, p) : CallOk Try.prog 80 [valA .bytes a0, .sl .group a1, valA .row a2] 0 [] 1 (r10_Put_r2 a0 a1 a2) 1 (r10_Put_o2 a0 a1 a2) := by
 obtain ⟨hb, hn⟩ := hp _ (List.mem_cons_self ..)
 have hb' := hb
 unfold boundP at hb'
 have hgood : (!(r10_Put_k0 a0 a1 a2)) = true → goodRow a1 a2 = 0 := fun h => by
  have h' : (!(goodRow a1 a2 != 0)) = true := h
  simpa using h'
 have hl : goodRow a1 a2 = 0 → _ := fun g => r10_Put_loop a1 a2 (a0 ++ putT a2.1) (goodRow_0 g).2.1 (goodP_0 (goodRow_0 g).1).2 (by
  have h8 := putT_8 a2.key
  have := (goodRow_0 g).2.2.2.1
  show boundP ((a0 ++ putT a2.key).length + 640)
  rw [List.length_append]
  unfold boundP
  omega)
 have h := r10_Put_c a0 a1 a2 (needs_cons hn (needs_cons (fun _ => by unfold boundP; omega) (needs_cons (fun g => by
  have := (goodRow_0 (hgood g)).2.2.2.1
  show boundP (a0.length + 8 + a2.key.size)
  unfold boundP
  omega) (needs_cons (fun g => (hl (hgood g)).1) needs_nil))))
 have e : r10_Put_0 a0 a1 a2 = a0 ++ putRw a1 a2 := by
  have k0 : r10_Put_k0 a0 a1 a2 = (goodRow a1 a2 != 0) := rfl
  unfold r10_Put_0 putRw putRow
  rw [k0]
  cases g : goodRow a1 a2 != 0 with
  | true =>
   have : (goodRow a1 a2 == 0) = false := by simpa using g
   rw [this, cond_true, cond_false, List.append_nil, List.nil_append]
  | false =>
   have g0 : goodRow a1 a2 = 0 := by simpa using g
   rw [(hl g0).2, g0]
   show (a0 ++ putT a2.key) ++ encN a1 a2.cells a1.length = a0 ++ (putT a2.key ++ _)
   rw [enc_all (goodRow_0 g0).2.1, List.append_assoc]
 unfold r10_Put_o at h
 rw [e] at h
 exact h
def r10_Put_t : List A → Nat → Objs → Option CRes
 | [y0, y1, y2], nx, o => match argU .bytes y0, argL .group y1, argU .row y2 with
  | some (a0, p0), some a1, some (a2, p2) => some (1, (r10_Put_r2 a0 a1 a2).pk (shiftR nx), nx + 1, shiftO nx (r10_Put_o2 a0 a1 a2) ++ o, p0 ++ (p2 ++ (r10_Put_ps2 a0 a1 a2)))
  | _, _, _ => none
 | _, _, _ => none
theorem r10_Put_tok : TOk Try.prog 80 r10_Put_t := fun args nx o k x nx' o' ps h => by
 unfold r10_Put_t at h
 split at h <;> first | (cases h; done) | skip
 split at h <;> first | (cases h; done) | skip
 rename_i a0 p0 a1 a2 p2 e0 e1 e2
 cases h
 refine ⟨fun hp => ?_, _, rfl⟩
 have q0 := fun p hm => hp p (List.mem_append.2 (.inl hm))
 have r0 := fun p hm => hp p (List.mem_append.2 (.inr hm))
 have q2 := fun p hm => r0 p (List.mem_append.2 (.inl hm))
 have r2 := fun p hm => r0 p (List.mem_append.2 (.inr hm))
 refine callOk_args (callOk_shift (r10_Put_c2 a0 a1 a2 r2) (Nat.le_refl _) (freeL_cons (valA_free _ _) (freeL_cons rfl (freeL_cons (valA_free _ _) freeL_nil))) nx o) fun F N R vs hl => ?_
 obtain ⟨v0, w0, rfl, h0, hl⟩ := hl.inv
 obtain ⟨v1, w1, rfl, h1, hl⟩ := hl.inv
 obtain ⟨v2, w2, rfl, h2, hl⟩ := hl.inv
 exact HL.cons (argU_ok e0 q0 h0) (HL.cons (argL_ok e1 h1) (HL.cons (argU_ok e2 q2 h2) (hl)))
noncomputable def Cyb_1 := addC 80 r10_Put_t Cya
theorem Cyb_1_ok : COk Try.prog Cyb_1 := addC_ok r10_Put_tok Cya_ok
noncomputable def Cyb := Cyb_1
theorem Cyb_ok : COk Try.prog Cyb := Cyb_1_ok
end Go.Proofs.Yteebobbhhgmeiaa
namespace Go.Proofs.Yteebobbhhgmeiaa
open Go.RowKit
def l10_RowBytes_k8 (a0 : List TGroup) (a1 : TRow) (a2 : List UInt8) : Bool := !l10_light_0 a0 [a1] || decide ((↑a2.length : Int) > (5000 : Int))
def l10_RowBytes_k7 (a0 : List TGroup) (_a1 : TRow) (a2 : List UInt8) : Bool := !(!eqRw (TRow.mk (getK a2 a0) (getL a2 a0)) (TRow.mk (getK a2 a0) (getL a2 a0)) || getA a2 a0 != getA a2 a0 || getE a2 a0 != getE a2 a0)
def l10_RowBytes_k6 (a0 : List TGroup) (a1 : TRow) (a2 : List UInt8) : Bool := (l10_RowBytes_k7 a0 a1 a2) && true
def l10_RowBytes_k5 (a0 : List TGroup) (a1 : TRow) (a2 : List UInt8) : Bool := bif (l10_RowBytes_k6 a0 a1 a2) then !(ByteArray.mk (a2 ++ putRw a0 a1).toArray).toList == (ByteArray.mk (a2 ++ putRw a0 a1).toArray).toList else bif (l10_RowBytes_k7 a0 a1 a2) then true else true
def l10_RowBytes_k4 (a0 : List TGroup) (a1 : TRow) (a2 : List UInt8) : List UInt8 := bif (l10_RowBytes_k6 a0 a1 a2) then [] ++ putRw a0 a1 else bif (l10_RowBytes_k7 a0 a1 a2) then [] ++ putRw a0 a1 else [] ++ putRw a0 a1
def l10_RowBytes_k3 (a0 : List TGroup) (a1 : TRow) (a2 : List UInt8) : Int := (↑(l10_RowBytes_k4 a0 a1 a2).length : Int)
def l10_RowBytes_k2 (a0 : List TGroup) (a1 : TRow) (a2 : List UInt8) : List UInt8 := [] ++ (l10_RowBytes_k4 a0 a1 a2) ++ a2
def l10_RowBytes_k1 (a0 : List TGroup) (a1 : TRow) (a2 : List UInt8) : List TCell := getL (l10_RowBytes_k2 a0 a1 a2) a0
def l10_RowBytes_k0 (a0 : List TGroup) (a1 : TRow) (a2 : List UInt8) : Bool := goodRow a0 (TRow.mk (bif (l10_RowBytes_k6 a0 a1 a2) then a1.1 else bif (l10_RowBytes_k7 a0 a1 a2) then a1.1 else a1.1) (bif (l10_RowBytes_k6 a0 a1 a2) then a1.2 else bif (l10_RowBytes_k7 a0 a1 a2) then a1.2 else a1.2)) != (0 : Int)
def l10_RowBytes_0 (a0 : List TGroup) (a1 : TRow) (a2 : List UInt8) : Bool := bif (l10_RowBytes_k8 a0 a1 a2) then true else bif (l10_RowBytes_k5 a0 a1 a2) then false else bif (l10_RowBytes_k0 a0 a1 a2) then (l10_RowBytes_k3 a0 a1 a2) == (0 : Int) && true else eqRw (TRow.mk (getK (l10_RowBytes_k2 a0 a1 a2) a0) (l10_RowBytes_k1 a0 a1 a2)) (TRow.mk (bif (l10_RowBytes_k6 a0 a1 a2) then a1.1 else bif (l10_RowBytes_k7 a0 a1 a2) then a1.1 else a1.1) (bif (l10_RowBytes_k6 a0 a1 a2) then a1.2 else bif (l10_RowBytes_k7 a0 a1 a2) then a1.2 else a1.2)) && getA (l10_RowBytes_k2 a0 a1 a2) a0 == (l10_RowBytes_k3 a0 a1 a2) && getE (l10_RowBytes_k2 a0 a1 a2) a0 == (0 : Int) && true
def l10_RowBytes_r (a0 : List TGroup) (a1 : TRow) (a2 : List UInt8) : A := .v (.bool (l10_RowBytes_0 a0 a1 a2))
def l10_RowBytes_o (_a0 : List TGroup) (_a1 : TRow) (_a2 : List UInt8) : Objs := []
def l10_RowBytes_ps (a0 : List TGroup) (a1 : TRow) (a2 : List UInt8) : List Prop := [(wideN a0.length ∧ wideN (1 : Nat) ∧ ∀ (r : TRow), r ∈ [a1] → wideN r.1.size ∧ wideN r.2.length ∧ ∀ (c : TCell), c ∈ r.2 → wideN c.4.size), ((!(l10_RowBytes_k8 a0 a1 a2)) = true → boundP a2.length), ((!(l10_RowBytes_k8 a0 a1 a2)) = true → boundP a2.length ∧ ∀ (g : TGroup), g ∈ a0 → wideN g.1.size), ((!(l10_RowBytes_k8 a0 a1 a2)) = true → boundP (getL a2 a0).length), ((!(l10_RowBytes_k8 a0 a1 a2)) = true → (l10_RowBytes_k7 a0 a1 a2) = true → boundP (a2.length + (1024 : Nat))), ((!(l10_RowBytes_k8 a0 a1 a2)) = true → (l10_RowBytes_k6 a0 a1 a2) = true → boundP (a2.length + (1024 : Nat)) ∧ ∀ (g : TGroup), g ∈ a0 → wideN g.1.size), ((!(l10_RowBytes_k8 a0 a1 a2)) = true → false = true → boundP (a2.length + (1024 : Nat)) ∧ ∀ (g : TGroup), g ∈ a0 → wideN g.1.size), ((!(l10_RowBytes_k8 a0 a1 a2)) = true → (!(l10_RowBytes_k5 a0 a1 a2)) = true → (!(l10_RowBytes_k0 a0 a1 a2)) = true → boundP ((0 : Nat) + (l10_RowBytes_k4 a0 a1 a2).length)), ((!(l10_RowBytes_k8 a0 a1 a2)) = true → (!(l10_RowBytes_k5 a0 a1 a2)) = true → (!(l10_RowBytes_k0 a0 a1 a2)) = true → boundP (([] ++ (l10_RowBytes_k4 a0 a1 a2)).length + a2.length)), ((!(l10_RowBytes_k8 a0 a1 a2)) = true → (!(l10_RowBytes_k5 a0 a1 a2)) = true → (!(l10_RowBytes_k0 a0 a1 a2)) = true → boundP (l10_RowBytes_k2 a0 a1 a2).length), ((!(l10_RowBytes_k8 a0 a1 a2)) = true → (!(l10_RowBytes_k5 a0 a1 a2)) = true → (!(l10_RowBytes_k0 a0 a1 a2)) = true → boundP (l10_RowBytes_k1 a0 a1 a2).length)]
set_option maxRecDepth 100000 in
theorem l10_RowBytes_ev (a0 : List TGroup) (a1 : TRow) (a2 : List UInt8) : evF (envT Cyb L0) 9 17 [.sl .group a0, valA .row a1, valA .bytes a2] 0 [] = some (1, l10_RowBytes_r a0 a1 a2, 0, l10_RowBytes_o a0 a1 a2, [(wideN a0.length ∧ wideN (1 : Nat) ∧ ∀ (r : TRow), r ∈ [a1] → wideN r.1.size ∧ wideN r.2.length ∧ ∀ (c : TCell), c ∈ r.2 → wideN c.4.size), ((!(l10_RowBytes_k8 a0 a1 a2)) = true → boundP a2.length), ((!(l10_RowBytes_k8 a0 a1 a2)) = true → boundP a2.length ∧ ∀ (g : TGroup), g ∈ a0 → wideN g.1.size), ((!(l10_RowBytes_k8 a0 a1 a2)) = true → boundP (1024 : Nat)), ((!(l10_RowBytes_k8 a0 a1 a2)) = true → boundP (getL a2 a0).length), ((!(l10_RowBytes_k8 a0 a1 a2)) = true → (l10_RowBytes_k7 a0 a1 a2) = true → boundP (a2.length + (1024 : Nat))), ((!(l10_RowBytes_k8 a0 a1 a2)) = true → true = true), ((!(l10_RowBytes_k8 a0 a1 a2)) = true → (l10_RowBytes_k6 a0 a1 a2) = true → boundP (a2.length + (1024 : Nat)) ∧ ∀ (g : TGroup), g ∈ a0 → wideN g.1.size), ((!(l10_RowBytes_k8 a0 a1 a2)) = true → false = true → boundP (a2.length + (1024 : Nat)) ∧ ∀ (g : TGroup), g ∈ a0 → wideN g.1.size), ((!(l10_RowBytes_k8 a0 a1 a2)) = true → (l10_RowBytes_k7 a0 a1 a2) = true → true = true), ((!(l10_RowBytes_k8 a0 a1 a2)) = true → true = true), ((!(l10_RowBytes_k8 a0 a1 a2)) = true → (l10_RowBytes_k7 a0 a1 a2) = true → true = true), ((!(l10_RowBytes_k8 a0 a1 a2)) = true → false = true → false = true), ((!(l10_RowBytes_k8 a0 a1 a2)) = true → true = true), ((!(l10_RowBytes_k8 a0 a1 a2)) = true → (l10_RowBytes_k7 a0 a1 a2) = true → true = true), ((!(l10_RowBytes_k8 a0 a1 a2)) = true → false = true → false = true), ((!(l10_RowBytes_k8 a0 a1 a2)) = true → true = true), ((!(l10_RowBytes_k8 a0 a1 a2)) = true → (!(l10_RowBytes_k5 a0 a1 a2)) = true → (!(l10_RowBytes_k0 a0 a1 a2)) = true → boundP ((0 : Nat) + (l10_RowBytes_k4 a0 a1 a2).length)), ((!(l10_RowBytes_k8 a0 a1 a2)) = true → (!(l10_RowBytes_k5 a0 a1 a2)) = true → (!(l10_RowBytes_k0 a0 a1 a2)) = true → boundP (([] ++ (l10_RowBytes_k4 a0 a1 a2)).length + a2.length)), ((!(l10_RowBytes_k8 a0 a1 a2)) = true → (!(l10_RowBytes_k5 a0 a1 a2)) = true → (!(l10_RowBytes_k0 a0 a1 a2)) = true → boundP (l10_RowBytes_k2 a0 a1 a2).length), ((!(l10_RowBytes_k8 a0 a1 a2)) = true → (!(l10_RowBytes_k5 a0 a1 a2)) = true → (!(l10_RowBytes_k0 a0 a1 a2)) = true → boundP (l10_RowBytes_k1 a0 a1 a2).length)]) := by kernel_rfl
set_option maxRecDepth 100000 in
theorem l10_RowBytes_c (a0 : List TGroup) (a1 : TRow) (a2 : List UInt8) (hp : ∀ p ∈ l10_RowBytes_ps a0 a1 a2, p) : CallOk Try.prog 17 [.sl .group a0, valA .row a1, valA .bytes a2] 0 [] 1 (l10_RowBytes_r a0 a1 a2) 0 (l10_RowBytes_o a0 a1 a2) := by
 have n0 : (wideN a0.length ∧ wideN (1 : Nat) ∧ ∀ (r : TRow), r ∈ [a1] → wideN r.1.size ∧ wideN r.2.length ∧ ∀ (c : TCell), c ∈ r.2 → wideN c.4.size) := hp _ (List.mem_cons_self ..)
 have n1 : ((!(l10_RowBytes_k8 a0 a1 a2)) = true → boundP a2.length) := hp _ (List.mem_cons_of_mem _ (List.mem_cons_self ..))
 have n2 : ((!(l10_RowBytes_k8 a0 a1 a2)) = true → boundP a2.length ∧ ∀ (g : TGroup), g ∈ a0 → wideN g.1.size) := hp _ (List.mem_cons_of_mem _ (List.mem_cons_of_mem _ (List.mem_cons_self ..)))
 have n3 : ((!(l10_RowBytes_k8 a0 a1 a2)) = true → boundP (1024 : Nat)) := by intros; first | rfl | decide +kernel | exact ⟨by decide, by decide⟩
 have n4 : ((!(l10_RowBytes_k8 a0 a1 a2)) = true → boundP (getL a2 a0).length) := hp _ (List.mem_cons_of_mem _ (List.mem_cons_of_mem _ (List.mem_cons_of_mem _ (List.mem_cons_self ..))))
 have n5 : ((!(l10_RowBytes_k8 a0 a1 a2)) = true → (l10_RowBytes_k7 a0 a1 a2) = true → boundP (a2.length + (1024 : Nat))) := hp _ (List.mem_cons_of_mem _ (List.mem_cons_of_mem _ (List.mem_cons_of_mem _ (List.mem_cons_of_mem _ (List.mem_cons_self ..)))))
 have n6 : ((!(l10_RowBytes_k8 a0 a1 a2)) = true → true = true) := by intros; rfl
 have n7 : ((!(l10_RowBytes_k8 a0 a1 a2)) = true → (l10_RowBytes_k6 a0 a1 a2) = true → boundP (a2.length + (1024 : Nat)) ∧ ∀ (g : TGroup), g ∈ a0 → wideN g.1.size) := hp _ (List.mem_cons_of_mem _ (List.mem_cons_of_mem _ (List.mem_cons_of_mem _ (List.mem_cons_of_mem _ (List.mem_cons_of_mem _ (List.mem_cons_self ..))))))
 have n8 : ((!(l10_RowBytes_k8 a0 a1 a2)) = true → false = true → boundP (a2.length + (1024 : Nat)) ∧ ∀ (g : TGroup), g ∈ a0 → wideN g.1.size) := hp _ (List.mem_cons_of_mem _ (List.mem_cons_of_mem _ (List.mem_cons_of_mem _ (List.mem_cons_of_mem _ (List.mem_cons_of_mem _ (List.mem_cons_of_mem _ (List.mem_cons_self ..)))))))
 have n9 : ((!(l10_RowBytes_k8 a0 a1 a2)) = true → (l10_RowBytes_k7 a0 a1 a2) = true → true = true) := by intros; rfl
 have n12 : ((!(l10_RowBytes_k8 a0 a1 a2)) = true → false = true → false = true) := by intro _ h; exact (Bool.not_not _).symm.trans h
 have n17 : ((!(l10_RowBytes_k8 a0 a1 a2)) = true → (!(l10_RowBytes_k5 a0 a1 a2)) = true → (!(l10_RowBytes_k0 a0 a1 a2)) = true → boundP ((0 : Nat) + (l10_RowBytes_k4 a0 a1 a2).length)) := hp _ (List.mem_cons_of_mem _ (List.mem_cons_of_mem _ (List.mem_cons_of_mem _ (List.mem_cons_of_mem _ (List.mem_cons_of_mem _ (List.mem_cons_of_mem _ (List.mem_cons_of_mem _ (List.mem_cons_self ..))))))))
 have n18 : ((!(l10_RowBytes_k8 a0 a1 a2)) = true → (!(l10_RowBytes_k5 a0 a1 a2)) = true → (!(l10_RowBytes_k0 a0 a1 a2)) = true → boundP (([] ++ (l10_RowBytes_k4 a0 a1 a2)).length + a2.length)) := hp _ (List.mem_cons_of_mem _ (List.mem_cons_of_mem _ (List.mem_cons_of_mem _ (List.mem_cons_of_mem _ (List.mem_cons_of_mem _ (List.mem_cons_of_mem _ (List.mem_cons_of_mem _ (List.mem_cons_of_mem _ (List.mem_cons_self ..)))))))))
 have n19 : ((!(l10_RowBytes_k8 a0 a1 a2)) = true → (!(l10_RowBytes_k5 a0 a1 a2)) = true → (!(l10_RowBytes_k0 a0 a1 a2)) = true → boundP (l10_RowBytes_k2 a0 a1 a2).length) := hp _ (List.mem_cons_of_mem _ (List.mem_cons_of_mem _ (List.mem_cons_of_mem _ (List.mem_cons_of_mem _ (List.mem_cons_of_mem _ (List.mem_cons_of_mem _ (List.mem_cons_of_mem _ (List.mem_cons_of_mem _ (List.mem_cons_of_mem _ (List.mem_cons_self ..))))))))))
 have n20 : ((!(l10_RowBytes_k8 a0 a1 a2)) = true → (!(l10_RowBytes_k5 a0 a1 a2)) = true → (!(l10_RowBytes_k0 a0 a1 a2)) = true → boundP (l10_RowBytes_k1 a0 a1 a2).length) := hp _ (List.mem_cons_of_mem _ (List.mem_cons_of_mem _ (List.mem_cons_of_mem _ (List.mem_cons_of_mem _ (List.mem_cons_of_mem _ (List.mem_cons_of_mem _ (List.mem_cons_of_mem _ (List.mem_cons_of_mem _ (List.mem_cons_of_mem _ (List.mem_cons_of_mem _ (List.mem_cons_self ..)))))))))))
 exact evF_ok (envP_ok Cyb_ok L0_ok) (l10_RowBytes_ev a0 a1 a2) (needs_cons n0 (needs_cons n1 (needs_cons n2 (needs_cons n3 (needs_cons n4 (needs_cons n5 (needs_cons n6 (needs_cons n7 (needs_cons n8 (needs_cons n9 (needs_cons n6 (needs_cons n9 (needs_cons n12 (needs_cons n6 (needs_cons n9 (needs_cons n12 (needs_cons n6 (needs_cons n17 (needs_cons n18 (needs_cons n19 (needs_cons n20 needs_nil)))))))))))))))))))))
end Go.Proofs.Yteebobbhhgmeiaa
namespace Go.Proofs.Yteebobbhhgmeiaa
open Go.RowKit
theorem putRw_len (l : List TGroup) (r : TRow) : (putRw l r).length ≤ 1024 := by
 unfold putRw
 by_cases h : goodRow l r = 0
 ·obtain ⟨h1, h2, _, h4, _⟩ := goodRow_0 h
  rw [h]
  show (putT r.key ++ _).length ≤ _
  rw [List.length_append, ← enc_all h2]
  have h5 := putT_8 r.key
  have h6 := enc_len h2 l.length (Nat.le_refl _)
  have h7 := (goodP_0 h1).2
  omega
 ·have : (goodRow l r == 0) = false := by simpa using h
  rw [this]
  exact Nat.zero_le _
theorem rb_back {l : List TGroup} {r : TRow} (h : goodRow l r = 0) (b : List UInt8) : getE (putRw l r ++ b) l = 0 ∧ getK (putRw l r ++ b) l = r.key ∧ getL (putRw l r ++ b) l = r.cells ∧ getA (putRw l r ++ b) l = ((putRw l r).length : Int) := by
 obtain ⟨h1, h2, h3, h4, h5⟩ := goodRow_0 h
 have hp : putRw l r = putT r.key ++ encN l r.cells l.length := by
  unfold putRw putRow
  rw [h, enc_all h2]
  rfl
 have hk : getT (putRw l r ++ b) 32 = (r.key, ((putT r.key).length : Int), 0) := by
  rw [hp, List.append_assoc]
  exact (rdT (m := 32) (by decide)).back r.key _ (by omega)
 obtain ⟨g1, g2, g3⟩ := got_back h2 ((good_at h2).1 h5) (putT r.key) b l.length (Nat.le_refl _)
 rw [← hp] at g1 g2 g3
 have hko : keyOk (putRw l r ++ b) = true := by
  unfold keyOk
  rw [hk]
  have : (r.key == ⟨#[]⟩) = false := by
   rw [beq_eq_false_iff_ne]
   intro e
   rw [e] at h3
   exact h3 rfl
  simp [this]
 have hE : getE (putRw l r ++ b) l = 0 := by
  unfold getE
  rw [h1, hko, hk]
  have : allN l.length (fun i => !badG (putRw l r ++ b) l ((putT r.key).length : Int) i) = true := allN_iff.2 fun i hi => by rw [g3 i hi]; rfl
  rw [this]
  rfl
 refine ⟨hE, ?_, ?_, ?_⟩
 ·unfold getK; rw [hE, hk]; rfl
 ·unfold getL
  rw [hE, hk, g2, List.take_of_length_le (by rw [h2]; exact Nat.le_refl _)]
  rfl
 ·unfold getA
  rw [hE, hk, g1, hp]
  rfl
theorem getL_len (b : List UInt8) (l : List TGroup) : (getL b l).length ≤ l.length := by
 unfold getL
 cases getE b l == 0 with
 | true => rw [cond_true, cs_len]; exact Nat.le_refl _
 | false => exact Nat.zero_le _
theorem rb_true (a0 : List TGroup) (a1 : TRow) (a2 : List UInt8) (w0 : a0.length ≤ maxLen ∧ ∀ y ∈ a0, Wfd .group y) (w1 : Wfd .row a1) : (∀ p ∈ l10_RowBytes_ps a0 a1 a2, p) ∧ l10_RowBytes_0 a0 a1 a2 = true := by
 have hw : wideN a0.length ∧ wideN (1 : Nat) ∧ ∀ r ∈ [a1], wideN r.1.size ∧ wideN r.2.length ∧ ∀ c ∈ r.2, wideN c.4.size := ⟨w0.1, by unfold wideN; omega, fun r hr => by rw [List.mem_singleton.1 hr]; exact ⟨w1.1, w1.2.1, fun c hc => (w1.2.2 c hc).2.2.2.1⟩⟩
 have hlt : (!(l10_RowBytes_k8 a0 a1 a2)) = true → a0.length ≤ 5000 ∧ a2.length ≤ 5000 := fun h => by
  unfold l10_RowBytes_k8 at h
  rw [Bool.not_or, Bool.and_eq_true, Bool.not_not] at h
  obtain ⟨h1, h2⟩ := h
  have h3 := ((light_eq a0 [a1] hw.1 hw.2.1 hw.2.2).2 h1).1
  have h4 : ¬ ((a2.length : Int) > 5000) := by simpa using h2
  exact ⟨h3, by omega⟩
 have hn : ∀ g ∈ a0, wideN g.name.size := fun g hg => (w0.2 g hg).1
 have k7 : l10_RowBytes_k7 a0 a1 a2 = true := by
  unfold l10_RowBytes_k7
  rw [eqRw_iff.2 rfl, bne_self_eq_false, bne_self_eq_false]
  rfl
 have k6 : l10_RowBytes_k6 a0 a1 a2 = true := by unfold l10_RowBytes_k6; rw [k7]; rfl
 have k5 : l10_RowBytes_k5 a0 a1 a2 = false := by
  unfold l10_RowBytes_k5
  rw [k6, cond_true, beq_self_eq_true]
  rfl
 have k4 : l10_RowBytes_k4 a0 a1 a2 = putRw a0 a1 := by unfold l10_RowBytes_k4; rw [k6]; rfl
 have k0 : l10_RowBytes_k0 a0 a1 a2 = (goodRow a0 a1 != 0) := by unfold l10_RowBytes_k0; rw [k6]; rfl
 have hp := putRw_len a0 a1
 have k2 : l10_RowBytes_k2 a0 a1 a2 = putRw a0 a1 ++ a2 := by unfold l10_RowBytes_k2; rw [k4]; rfl
 refine ⟨needs_cons hw (needs_cons (fun h => by have := (hlt h).2; unfold boundP; omega) (needs_cons (fun h => ⟨by have := (hlt h).2; unfold boundP; omega, hn⟩) (needs_cons (fun h => ?_) (needs_cons (fun h _ => by have := (hlt h).2; unfold boundP; omega) (needs_cons (fun h _ => ⟨by have := (hlt h).2; unfold boundP; omega, hn⟩) (needs_cons (fun _ h => by cases h) (needs_cons (fun h _ _ => ?_) (needs_cons (fun h _ _ => ?_) (needs_cons (fun h _ _ => ?_) (needs_cons (fun h _ _ => ?_) needs_nil)))))))))), ?_⟩
 ·have h1 := (hlt h).1
  have h2 := getL_len a2 a0
  unfold boundP; omega
 ·rw [k4]; unfold boundP; omega
 ·rw [k4, List.nil_append]; have := (hlt h).2; unfold boundP; omega
 ·rw [k2, List.length_append]; have := (hlt h).2; unfold boundP; omega
 ·have h1 := (hlt h).1
  have h2 := getL_len (l10_RowBytes_k2 a0 a1 a2) a0
  unfold l10_RowBytes_k1 boundP; omega
 ·unfold l10_RowBytes_0
  rw [k5, k0]
  cases l10_RowBytes_k8 a0 a1 a2 with
  | true => rfl
  | false =>
   rw [cond_false, cond_false]
   by_cases h : goodRow a0 a1 = 0
   ·obtain ⟨h1, h2, h3, h4⟩ := rb_back h a2
    unfold l10_RowBytes_k3 l10_RowBytes_k1
    rw [k6, k4, k2, h1, h2, h3, h4, h]
    simp only [cond_true, bne_self_eq_false, cond_false, beq_self_eq_true, Bool.and_true]
    exact eqRw_iff.2 rfl
   ·have e : (goodRow a0 a1 != 0) = true := by simpa using h
    have e2 : putRw a0 a1 = [] := by
     unfold putRw
     have : (goodRow a0 a1 == 0) = false := by simpa using h
     rw [this]
     rfl
    unfold l10_RowBytes_k3
    rw [e, k4, e2]
    rfl
end Go.Proofs.Yteebobbhhgmeiaa
namespace Go.Proofs.Yteebobbhhgmeiaa
open Go.RowKit
set_option maxRecDepth 100000
theorem op3 : Opn Try.prog .i64 3 := opn_i64 Try.underlying3
theorem op4 : Opn Try.prog .bool 4 := opn_bool Try.underlying4
theorem op5 : Opn Try.prog .u8 5 := opn_u8 Try.underlying5
theorem op9 : Opn Try.prog .str 9 := opn_str Try.underlying9
theorem op31 : Opn Try.prog .vec 31 := fun en w base spare held m cs y h => by
 obtain ⟨xs, n, _, _, hl, hz, hg⟩ := DataW.trod_array Try.underlying31 h
 have hl : cs.length = 2 := hl.trans (by kernel_rfl)
 obtain ⟨x0, w0, g0⟩ := arrO (i := 0) (k := 1) op3 (by kernel_rfl) (by omega) (by omega) hg
 obtain ⟨x1, w1, g1⟩ := arrO (i := 1) (k := 1) op3 (by kernel_rfl) (by omega) (by omega) hg
 exact ⟨⟨x0, x1⟩, ⟨w0, w1⟩, fun F N nx hF => HLd (o := 0) (k := 1) (g0 F N nx hF) (HLd (o := 1) (k := 1) (g1 F N nx hF) (HLe (o := 2) hl))⟩
theorem op51 : Opn Try.prog .stamp 51 := fun en w base spare held m cs y h => by
 obtain ⟨xs, n, _, _, hl, hz, hg⟩ := DataW.trod_struct Try.underlying51 h
 have hz : xs.length = 2 := hz
 have hl : cs.length = 2 := hl.trans (by kernel_rfl)
 obtain ⟨x0, w0, g0⟩ := fldO (i := 0) (o := 0) (k := 1) op3 rfl rfl rfl (by kernel_rfl) (by omega) hg
 obtain ⟨x1, w1, g1⟩ := fldO (i := 1) (o := 1) (k := 1) op3 rfl rfl rfl (by kernel_rfl) (by omega) hg
 exact ⟨⟨x0, x1⟩, ⟨w0, w1⟩, fun F N nx hF => HLd (o := 0) (k := 1) (g0 F N nx hF) (HLd (o := 1) (k := 1) (g1 F N nx hF) (HLe (o := 2) hl))⟩
theorem op55 : Opn Try.prog .cell 55 := fun en w base spare held m cs y h => by
 obtain ⟨xs, n, _, _, hl, hz, hg⟩ := DataW.trod_struct Try.underlying55 h
 have hz : xs.length = 5 := hz
 have hl : cs.length = 8 := hl.trans (by kernel_rfl)
 obtain ⟨x0, w0, g0⟩ := fldO (i := 0) (o := 0) (k := 2) op51 rfl rfl rfl (by kernel_rfl) (by omega) hg
 obtain ⟨x1, w1, g1⟩ := fldO (i := 1) (o := 2) (k := 2) op31 rfl rfl rfl (by kernel_rfl) (by omega) hg
 obtain ⟨x2, w2, g2⟩ := fldO (i := 2) (o := 4) (k := 1) op4 rfl rfl rfl (by kernel_rfl) (by omega) hg
 obtain ⟨x3, w3, g3⟩ := fldO (i := 3) (o := 5) (k := 1) op9 rfl rfl rfl (by kernel_rfl) (by omega) hg
 obtain ⟨x4, w4, g4⟩ := fldO (i := 4) (o := 6) (k := 2) op31 rfl rfl rfl (by kernel_rfl) (by omega) hg
 exact ⟨⟨x0, x1, x2, x3, x4⟩, ⟨w0, w1, w2, w3, w4⟩, fun F N nx hF => HLd (o := 0) (k := 2) (g0 F N nx hF) (HLd (o := 2) (k := 2) (g1 F N nx hF) (HLd (o := 4) (k := 1) (g2 F N nx hF) (HLd (o := 5) (k := 1) (g3 F N nx hF) (HLd (o := 6) (k := 2) (g4 F N nx hF) (HLe (o := 8) hl)))))⟩
theorem op79 : Opn Try.prog .group 79 := fun en w base spare held m cs y h => by
 obtain ⟨xs, n, _, _, hl, hz, hg⟩ := DataW.trod_struct Try.underlying79 h
 have hz : xs.length = 2 := hz
 have hl : cs.length = 2 := hl.trans (by kernel_rfl)
 obtain ⟨x0, w0, g0⟩ := fldO (i := 0) (o := 0) (k := 1) op9 rfl rfl rfl (by kernel_rfl) (by omega) hg
 obtain ⟨x1, w1, g1⟩ := fldO (i := 1) (o := 1) (k := 1) op3 rfl rfl rfl (by kernel_rfl) (by omega) hg
 exact ⟨⟨x0, x1⟩, ⟨w0, w1⟩, fun F N nx hF => HLd (o := 0) (k := 1) (g0 F N nx hF) (HLd (o := 1) (k := 1) (g1 F N nx hF) (HLe (o := 2) hl))⟩
theorem opL66 : OpnLs Try.prog .group 66 := opn_list Try.underlying66 (by kernel_rfl) op79
theorem opL69 : OpnLs Try.prog .cell 69 := opn_list Try.underlying69 (by kernel_rfl) op55
theorem op71 : Opn Try.prog .row 71 := fun en w base spare held m cs y h => by
 obtain ⟨xs, n, _, _, hl, hz, hg⟩ := DataW.trod_struct Try.underlying71 h
 have hz : xs.length = 2 := hz
 have hl : cs.length = 2 := hl.trans (by kernel_rfl)
 obtain ⟨x0, w0, g0⟩ := fldO (i := 0) (o := 0) (k := 1) op9 rfl rfl rfl (by kernel_rfl) (by omega) hg
 obtain ⟨x1, w1, g1⟩ := fldL (i := 1) (o := 1) (k := 1) opL69 rfl rfl rfl (by kernel_rfl) (by omega) hg
 exact ⟨⟨x0, x1⟩, ⟨w0, w1⟩, fun F N nx hF => HLd (o := 0) (k := 1) (g0 F N nx hF) (HLd (o := 1) (k := 1) (g1 F N nx hF) (HLe (o := 2) hl))⟩
theorem opL84 : OpnLs Try.prog .u8 84 := opn_list Try.underlying84 (by kernel_rfl) op5
end Go.Proofs.Yteebobbhhgmeiaa
namespace Go.Proofs.Yteebobbhhgmeiaa
open Go.ChangeShapes Go.WideShapes Go.ChangeAt Go.RowKit
theorem own : ownKnob Try.prog.godebug = none := by kernel_rfl
theorem laidOut : laidOutB Try.prog = true := by kernel_rfl
section
variable {P : Program} {H : Type} {enc : TypeId × Value → H} {w : World} {base : Nat} {spare : Nat → Bool} {held : Bool} {v : Value} {d : DataW H} {p : List MemPlace}
theorem agg_of_struct {r : Reach} {b0 : Nat} {t : TypeId} {fs : Array Field} (hu : P.underlying t = some (.struct fs)) (h : Value.okWide P w r b0 t v) : ∃ cs, v = .agg cs ∧ cs.size = P.cellsOf t := by
 unfold Value.okWide at h
 rw [hu] at h
 obtain ⟨cs, h1, h2, _⟩ := h
 exact ⟨cs, h1, h2⟩
end
theorem below_trodAll {H : Type} {enc : TypeId × Value → H} {W W' : World} (hb : Below W.heap.size W W') : ∀ (ts : List TypeId) (vs : List Value) (ds : List (DataW H)) (ps : List MemPlace),
  (∀ t ∈ ts, Try.prog.readableRec t = true ∧ t < Try.prog.types.size) → DataW.TrodAll enc Try.prog W 0 (fun _ => true) true ts vs ds ps → (∀ x ∈ ps, x.block < W.heap.size) →
  DataW.TrodAll enc Try.prog W' 0 (fun b => decide (b < W.heap.size)) true ts vs ds ps
 | [], vs, ds, ps, _, h, _ => by
  obtain ⟨rfl, rfl, rfl⟩ := trodAll_nil h
  exact trodAll_mk0
 | t :: ts, vs, ds, ps, hr, h, hlt => by
  obtain ⟨v, vs', d, ds', p, q, rfl, rfl, rfl, h0, h1⟩ := trodAll_cons h
  exact trodAll_cons_mk (Below.trod laidOut (hr t (by simp)).1 (hr t (by simp)).2 h0 hb fun x hx => hlt x (by simp [hx]))
   (below_trodAll hb ts vs' ds' q (fun t' ht' => hr t' (by simp [ht'])) h1 fun x hx => hlt x (by simp [hx]))
section
variable {H : Type} {enc : TypeId × Value → H} {w : World} {base : Nat} {spare : Nat → Bool} {held : Bool} {v : Value} {d : DataW H} {p : List MemPlace}
end
end Go.Proofs.Yteebobbhhgmeiaa
namespace Go.Proofs.Yteebobbhhgmeiaa
open Go.RowKit Go.WideShapes Go.ChangeShapes
section
variable {H : Type} {en : TypeId × Value → H} {P : Program} {w : World} {base : Nat} {spare : Nat → Bool} {held : Bool} {t e : TypeId} {v : Value} {d : DataW H} {p : List MemPlace} {r : Reach} {b0 : Nat} {c : TC}
theorem arg_list (ht : P.underlying t = some (.slice e)) (ho : OpnLs P c t) (hv : Value.okWide P w r b0 t v) (h : DataW.Trod en P w base spare held t v d p) :
  ∃ l : List (U c), (l.length ≤ maxLen ∧ ∀ x ∈ l, Wfd c x) ∧ ∀ (F : Nat → Prop) (N : Nm) (nx : Nat), FB w F → Hv F N nx w (.sl c l) v := by
 obtain ⟨a, len, cap, rfl⟩ := okWide_slice ht hv
 obtain ⟨fuel, hf⟩ := h
 obtain ⟨l, h1, h2⟩ := ho en w base spare held fuel _ _ hf
 refine ⟨l, h1, fun F N nx hF => ?_⟩
 obtain ⟨y, ys, e, h3, _⟩ := (h2 F N nx hF).inv
 have e' : [Value.slice a len cap] = y :: ys := e
 cases e'
 exact h3
theorem arg_agg {cs : Array Value} (ho : Opn P c t) (ha : c.isAgg = true) (hv : v = .agg cs) (h : DataW.Trod en P w base spare held t v d p) :
  ∃ x : U c, Wfd c x ∧ ∀ (F : Nat → Prop) (N : Nm) (nx : Nat), FB w F → Hv F N nx w (valA c x) v := by
 subst hv
 obtain ⟨fuel, hf⟩ := h
 obtain ⟨x, h2, h3⟩ := ho en w base spare held fuel _ _ hf
 exact ⟨x, h2, fun F N nx hF => hl_agg (h3 F N nx hF) ha⟩
theorem arg_struct {fs : Array Field} (ht : P.underlying t = some (.struct fs)) (ho : Opn P c t) (ha : c.isAgg = true) (hv : Value.okWide P w r b0 t v) (h : DataW.Trod en P w base spare held t v d p) :
  ∃ x : U c, Wfd c x ∧ ∀ (F : Nat → Prop) (N : Nm) (nx : Nat), FB w F → Hv F N nx w (valA c x) v := by
 obtain ⟨cs, hcs, _⟩ := agg_of_struct ht hv
 exact arg_agg ho ha hcs h
end
theorem call_top {P : Program} {f : FuncId} {args : List A} {nx' : Nat} {o' : Objs} {b : Bool} (h : CallOk P f args 0 [] 1 (.v (.bool b)) nx' o') (W : World) (vs : List Value) (ha : ∀ (F : Nat → Prop) (N : Nm) (nx : Nat), FB W F → HL F N nx W args vs) :
  Calls P f vs.toArray W fun e W' => e = .returned (.bool b) ∧ Below W.heap.size W W' := by
 have hr : HRel (fun b => b < W.heap.size) ⟨fun _ => 0, fun _ => .nilFunc⟩ 0 [] W := ⟨fun g hg => hg, fun i ob hi => (by cases hi), fun i ob g hi => (by cases hi), fun i j x y g hi => (by cases hi)⟩
 refine (h _ _ W vs hr (ha _ _ _ fun b hb => hb)).mono fun e W' ⟨y, F', N', he, _, _, hy, hb⟩ => ?_
 rw [hy.v_inv] at he
 exact ⟨he, hb (Nat.le_refl _)⟩
end Go.Proofs.Yteebobbhhgmeiaa
namespace Go.Proofs.Yteebobbhhgmeiaa.rowBytes
open Go.ChangeShapes Go.WideShapes Go.ChangeAt Go.RowKit
set_option maxRecDepth 100000 in
theorem lifted (os : Os) (started : os.Started) (H : Type) (enc : TypeId × Value → H) :
  ReturnsInHanded {} Try.checked os 17 .any (Rows.rowBytesSpec.pre6 enc Try.prog Try.f17 Rows.rowBytesRow.domain false) (Rows.rowBytesSpec.post enc Try.prog Try.f17 false true false false) := by
 refine returnsInHanded_of_change (C := Try.checked) own started (by kernel_rfl) Try.func17
  (ChangeSpec.witness6 (enc := enc) (C := Try.checked) false ⟨#[], #[.slice none 0 0, .agg #[.string ⟨#[]⟩, .slice none 0 0], .slice none 0 0], []⟩ 8 (by kernel_rfl) (by kernel_rfl) (by kernel_rfl) (by kernel_rfl)) ?_
 intro W base args ds gs before hval0 hW hcnd _
 have hval : ∀ (j : Nat) t v, Try.f17.params[j]? = some t → args[j]? = some v → Value.okWide Try.prog W .any base t v := hval0
 have hW' := hW
 have hlt : ∀ x ∈ before, x.block < W.heap.size := fun x hx => hW.lt x hx
 obtain ⟨p, q, hA0, hV, rfl, hfz, hnd⟩ := hW
 have hA : DataW.TrodAll enc Try.prog W 0 (fun _ => true) true Try.f17.params.toList args.toList ds p := hA0
 rw [Try.params17] at hA hval
 have hA' := hA
 obtain ⟨v0, vs0, d0, ds0, p0, q0, hargs, rfl, rfl, h0, r0⟩ := trodAll_cons hA
 obtain ⟨v1, vs1, d1, ds1, p1, q1, rfl, rfl, rfl, h1, r1⟩ := trodAll_cons r0
 obtain ⟨v2, vs2, d2, ds2, p2, q2, rfl, rfl, rfl, h2, r2⟩ := trodAll_cons r1
 obtain ⟨rfl, rfl, rfl⟩ := trodAll_nil r2
 obtain rfl : args = #[v0, v1, v2] := by cases args; simp_all
 obtain ⟨rfl, rfl⟩ := trodVars_none hV
 obtain ⟨a0, w0, g0⟩ := arg_list Try.underlying66 opL66 (hval 0 66 v0 rfl rfl) h0
 obtain ⟨a1, w1, g1⟩ := arg_struct Try.underlying71 op71 rfl (hval 1 71 v1 rfl rfl) h1
 obtain ⟨a2, w2, g2⟩ := arg_list Try.underlying84 opL84 (hval 2 84 v2 rfl rfl) h2
 obtain ⟨hn, ht⟩ := rb_true a0 a1 a2 w0 w1
 have hc := l10_RowBytes_c a0 a1 a2 hn
 have hr : l10_RowBytes_r a0 a1 a2 = .v (.bool true) := by show A.v (.bool (l10_RowBytes_0 a0 a1 a2)) = _; rw [ht]
 rw [hr] at hc
 refine (call_top hc W [v0, v1, v2] fun F N nx hF => HL.cons (g0 F N nx hF) (HL.cons (g1 F N nx hF) (HL.cons (g2 F N nx hF) (HL.nil)))).mono fun e W' ⟨he, bel⟩ => ?_
 subst he
 have hread : ∀ t ∈ [66, 71, 84], Try.prog.readableRec t = true ∧ t < Try.prog.types.size := by
  intro t ht
  simp only [List.mem_cons, List.not_mem_nil, or_false] at ht
  rcases ht with rfl | rfl | rfl
  all_goals exact ⟨by kernel_rfl, of_decide_eq_true (by kernel_rfl)⟩
 exact ⟨_, rfl, _, _, _, [], _, [], hW', trodAll_mk1 (shut_bool Try.underlying4 _),
  below_trodAll bel _ _ _ _ hread hA' (fun x hx => hlt x (by simpa using hx)), rfl, bel.frame _, fun h => by cases h⟩
theorem tA : Try.prog.funcNamed Rows.rowBytesRow.func = some 17 := by kernel_rfl
theorem b0 : (Rows.rowBytesRow.wf (OpenSpec.ofChange Rows.rowBytesSpec)) = true := by kernel_rfl
theorem b1 : (laidOutB Try.prog) = true := by kernel_rfl
theorem b2 : (mapsRowed Try.prog) = true := by kernel_rfl
theorem b3 : (Try.f17.params.all (Try.prog.readableRec ·)) = true := by kernel_rfl
theorem b4 : (namedTie Try.prog Rows.rowBytesRow.named Rows.rowBytesSpec.vars) = true := by kernel_rfl
theorem b5 : ((Rows.rowBytesRow.stops == [])) = true := by kernel_rfl
theorem b6 : ((Try.prog.stops == [])) = true := by kernel_rfl
theorem b7 : ((Rows.rowBytesRow.knobs == [])) = true := by kernel_rfl
theorem b8 : ((Try.prog.stopKnobs == [])) = true := by kernel_rfl
theorem b9 : ((Rows.rowBytesRow.inPlace == Try.prog.inPlace 17)) = true := by kernel_rfl
theorem b10 : ((Rows.rowBytesRow.unfollowed == Try.prog.unfollowed 17)) = true := by kernel_rfl
theorem b11 : ((Rows.rowBytesRow.recurses == Try.prog.recurses 17)) = true := by kernel_rfl
theorem b12 : ((Rows.rowBytesRow.named == Try.prog.varsNamed 17)) = true := by kernel_rfl
theorem b13 : ((Rows.rowBytesRow.maps == (Try.f17.params.toList ++ Rows.rowBytesSpec.plain.varTypes Try.prog).any (Try.prog.mapsRec ·))) = true := by kernel_rfl
theorem b14 : ((Rows.rowBytesRow.ifaces == (Try.f17.params.toList ++ Rows.rowBytesSpec.plain.varTypes Try.prog).any (Try.prog.ifacesRec ·))) = true := by kernel_rfl
theorem b15 : ((Rows.rowBytesRow.mapsOut == Try.prog.mapsAmong Try.f17.resultTypes.toList)) = true := by kernel_rfl
theorem b16 : ((Rows.rowBytesRow.loops == (Try.f17.params.toList ++ Rows.rowBytesSpec.plain.varTypes Try.prog).any (Try.prog.loopsFrom ·))) = true := by kernel_rfl
theorem b17 : ((Rows.rowBytesRow.wideKeys == (Try.f17.params.toList ++ Rows.rowBytesSpec.plain.varTypes Try.prog ++ Try.f17.resultTypes.toList).any (Try.prog.wideKeysFrom ·))) = true := by kernel_rfl
theorem b18 : (Rows.rowBytesSpec.vars.all (Try.prog.varReadable ·)) = true := by kernel_rfl
theorem b19 : (Try.f17.resultTypes.all (fun t => Try.prog.readableRec t && decide (t < Try.prog.types.size))) = true := by kernel_rfl
theorem b20 : ((Rows.rowBytesRow.ifacesOut == Try.f17.resultTypes.toList.any (Try.prog.ifacesRec ·))) = true := by kernel_rfl
theorem b21 : ((Rows.rowBytesRow.loopsOut == Try.f17.resultTypes.toList.any (Try.prog.loopsFrom ·))) = true := by kernel_rfl
theorem b22 : ((Rows.rowBytesRow.plainKeys == Try.prog.plainKeys)) = true := by kernel_rfl
theorem b23 : (Rows.rowBytesRow.shortTexts.isNone) = true := by kernel_rfl
theorem b24 : (Try.prog.stopsHeard) = true := by kernel_rfl
theorem b25 : (Try.prog.mayEnter) = true := by kernel_rfl
theorem b26 : ((Rows.rowBytesRow.lifted == Try.prog.liftsFinal)) = true := by kernel_rfl
theorem b27 : ((Try.prog.make == some Rows.rowBytesRow.make)) = true := by kernel_rfl
theorem b28 : ((Rows.rowBytesRow.kinds == (if Rows.rowBytesRow.domain.isEmpty then [] else Try.f17.params.toList.map fun t => match Try.prog.underlying t with | some (.int k) => some k | _ => none))) = true := by kernel_rfl
theorem b29 : ((Rows.rowBytesRow.pinned == Rows.rowBytesRow.pinnedBy)) = true := by kernel_rfl
theorem b30 : ((Rows.rowBytesRow.veiled == (Try.f17.params.toList ++ Rows.rowBytesSpec.plain.varTypes Try.prog ++ Try.f17.resultTypes.toList).any (Try.prog.veiledRec ·))) = true := by kernel_rfl
theorem b31 : (Rows.rowBytesRow.veiledFits Try.prog Try.f17.params.toList (Try.f17.params.toList ++ Rows.rowBytesSpec.plain.varTypes Try.prog ++ Try.f17.resultTypes.toList)) = true := by kernel_rfl
theorem andI {a b : Bool} (h : a = true) (g : b = true) : (a && b) = true := by rw [h, g]; rfl
theorem e1 : (Rows.rowBytesRow.wf (OpenSpec.ofChange Rows.rowBytesSpec) && laidOutB Try.prog) = true := andI b0 b1
theorem e2 : (Rows.rowBytesRow.wf (OpenSpec.ofChange Rows.rowBytesSpec) && laidOutB Try.prog && mapsRowed Try.prog) = true := andI e1 b2
theorem e3 : (Rows.rowBytesRow.wf (OpenSpec.ofChange Rows.rowBytesSpec) && laidOutB Try.prog && mapsRowed Try.prog && Try.f17.params.all (Try.prog.readableRec ·)) = true := andI e2 b3
theorem e4 : (Rows.rowBytesRow.wf (OpenSpec.ofChange Rows.rowBytesSpec) && laidOutB Try.prog && mapsRowed Try.prog && Try.f17.params.all (Try.prog.readableRec ·) && namedTie Try.prog Rows.rowBytesRow.named Rows.rowBytesSpec.vars) = true := andI e3 b4
theorem e5 : (Rows.rowBytesRow.wf (OpenSpec.ofChange Rows.rowBytesSpec) && laidOutB Try.prog && mapsRowed Try.prog && Try.f17.params.all (Try.prog.readableRec ·) && namedTie Try.prog Rows.rowBytesRow.named Rows.rowBytesSpec.vars && (Rows.rowBytesRow.stops == [])) = true := andI e4 b5
theorem e6 : (Rows.rowBytesRow.wf (OpenSpec.ofChange Rows.rowBytesSpec) && laidOutB Try.prog && mapsRowed Try.prog && Try.f17.params.all (Try.prog.readableRec ·) && namedTie Try.prog Rows.rowBytesRow.named Rows.rowBytesSpec.vars && (Rows.rowBytesRow.stops == []) && (Try.prog.stops == [])) = true := andI e5 b6
theorem e7 : (Rows.rowBytesRow.wf (OpenSpec.ofChange Rows.rowBytesSpec) && laidOutB Try.prog && mapsRowed Try.prog && Try.f17.params.all (Try.prog.readableRec ·) && namedTie Try.prog Rows.rowBytesRow.named Rows.rowBytesSpec.vars && (Rows.rowBytesRow.stops == []) && (Try.prog.stops == []) && (Rows.rowBytesRow.knobs == [])) = true := andI e6 b7
theorem e8 : (Rows.rowBytesRow.wf (OpenSpec.ofChange Rows.rowBytesSpec) && laidOutB Try.prog && mapsRowed Try.prog && Try.f17.params.all (Try.prog.readableRec ·) && namedTie Try.prog Rows.rowBytesRow.named Rows.rowBytesSpec.vars && (Rows.rowBytesRow.stops == []) && (Try.prog.stops == []) && (Rows.rowBytesRow.knobs == []) && (Try.prog.stopKnobs == [])) = true := andI e7 b8
theorem e9 : (Rows.rowBytesRow.wf (OpenSpec.ofChange Rows.rowBytesSpec) && laidOutB Try.prog && mapsRowed Try.prog && Try.f17.params.all (Try.prog.readableRec ·) && namedTie Try.prog Rows.rowBytesRow.named Rows.rowBytesSpec.vars && (Rows.rowBytesRow.stops == []) && (Try.prog.stops == []) && (Rows.rowBytesRow.knobs == []) && (Try.prog.stopKnobs == []) && (Rows.rowBytesRow.inPlace == Try.prog.inPlace 17)) = true := andI e8 b9
theorem e10 : (Rows.rowBytesRow.wf (OpenSpec.ofChange Rows.rowBytesSpec) && laidOutB Try.prog && mapsRowed Try.prog && Try.f17.params.all (Try.prog.readableRec ·) && namedTie Try.prog Rows.rowBytesRow.named Rows.rowBytesSpec.vars && (Rows.rowBytesRow.stops == []) && (Try.prog.stops == []) && (Rows.rowBytesRow.knobs == []) && (Try.prog.stopKnobs == []) && (Rows.rowBytesRow.inPlace == Try.prog.inPlace 17) && (Rows.rowBytesRow.unfollowed == Try.prog.unfollowed 17)) = true := andI e9 b10
theorem e11 : (Rows.rowBytesRow.wf (OpenSpec.ofChange Rows.rowBytesSpec) && laidOutB Try.prog && mapsRowed Try.prog && Try.f17.params.all (Try.prog.readableRec ·) && namedTie Try.prog Rows.rowBytesRow.named Rows.rowBytesSpec.vars && (Rows.rowBytesRow.stops == []) && (Try.prog.stops == []) && (Rows.rowBytesRow.knobs == []) && (Try.prog.stopKnobs == []) && (Rows.rowBytesRow.inPlace == Try.prog.inPlace 17) && (Rows.rowBytesRow.unfollowed == Try.prog.unfollowed 17) && (Rows.rowBytesRow.recurses == Try.prog.recurses 17)) = true := andI e10 b11
theorem e12 : (Rows.rowBytesRow.wf (OpenSpec.ofChange Rows.rowBytesSpec) && laidOutB Try.prog && mapsRowed Try.prog && Try.f17.params.all (Try.prog.readableRec ·) && namedTie Try.prog Rows.rowBytesRow.named Rows.rowBytesSpec.vars && (Rows.rowBytesRow.stops == []) && (Try.prog.stops == []) && (Rows.rowBytesRow.knobs == []) && (Try.prog.stopKnobs == []) && (Rows.rowBytesRow.inPlace == Try.prog.inPlace 17) && (Rows.rowBytesRow.unfollowed == Try.prog.unfollowed 17) && (Rows.rowBytesRow.recurses == Try.prog.recurses 17) && (Rows.rowBytesRow.named == Try.prog.varsNamed 17)) = true := andI e11 b12
theorem e13 : (Rows.rowBytesRow.wf (OpenSpec.ofChange Rows.rowBytesSpec) && laidOutB Try.prog && mapsRowed Try.prog && Try.f17.params.all (Try.prog.readableRec ·) && namedTie Try.prog Rows.rowBytesRow.named Rows.rowBytesSpec.vars && (Rows.rowBytesRow.stops == []) && (Try.prog.stops == []) && (Rows.rowBytesRow.knobs == []) && (Try.prog.stopKnobs == []) && (Rows.rowBytesRow.inPlace == Try.prog.inPlace 17) && (Rows.rowBytesRow.unfollowed == Try.prog.unfollowed 17) && (Rows.rowBytesRow.recurses == Try.prog.recurses 17) && (Rows.rowBytesRow.named == Try.prog.varsNamed 17) && (Rows.rowBytesRow.maps == (Try.f17.params.toList ++ Rows.rowBytesSpec.plain.varTypes Try.prog).any (Try.prog.mapsRec ·))) = true := andI e12 b13
theorem e14 : (Rows.rowBytesRow.wf (OpenSpec.ofChange Rows.rowBytesSpec) && laidOutB Try.prog && mapsRowed Try.prog && Try.f17.params.all (Try.prog.readableRec ·) && namedTie Try.prog Rows.rowBytesRow.named Rows.rowBytesSpec.vars && (Rows.rowBytesRow.stops == []) && (Try.prog.stops == []) && (Rows.rowBytesRow.knobs == []) && (Try.prog.stopKnobs == []) && (Rows.rowBytesRow.inPlace == Try.prog.inPlace 17) && (Rows.rowBytesRow.unfollowed == Try.prog.unfollowed 17) && (Rows.rowBytesRow.recurses == Try.prog.recurses 17) && (Rows.rowBytesRow.named == Try.prog.varsNamed 17) && (Rows.rowBytesRow.maps == (Try.f17.params.toList ++ Rows.rowBytesSpec.plain.varTypes Try.prog).any (Try.prog.mapsRec ·)) && (Rows.rowBytesRow.ifaces == (Try.f17.params.toList ++ Rows.rowBytesSpec.plain.varTypes Try.prog).any (Try.prog.ifacesRec ·))) = true := andI e13 b14
theorem e15 : (Rows.rowBytesRow.wf (OpenSpec.ofChange Rows.rowBytesSpec) && laidOutB Try.prog && mapsRowed Try.prog && Try.f17.params.all (Try.prog.readableRec ·) && namedTie Try.prog Rows.rowBytesRow.named Rows.rowBytesSpec.vars && (Rows.rowBytesRow.stops == []) && (Try.prog.stops == []) && (Rows.rowBytesRow.knobs == []) && (Try.prog.stopKnobs == []) && (Rows.rowBytesRow.inPlace == Try.prog.inPlace 17) && (Rows.rowBytesRow.unfollowed == Try.prog.unfollowed 17) && (Rows.rowBytesRow.recurses == Try.prog.recurses 17) && (Rows.rowBytesRow.named == Try.prog.varsNamed 17) && (Rows.rowBytesRow.maps == (Try.f17.params.toList ++ Rows.rowBytesSpec.plain.varTypes Try.prog).any (Try.prog.mapsRec ·)) && (Rows.rowBytesRow.ifaces == (Try.f17.params.toList ++ Rows.rowBytesSpec.plain.varTypes Try.prog).any (Try.prog.ifacesRec ·)) && (Rows.rowBytesRow.mapsOut == Try.prog.mapsAmong Try.f17.resultTypes.toList)) = true := andI e14 b15
theorem e16 : (Rows.rowBytesRow.wf (OpenSpec.ofChange Rows.rowBytesSpec) && laidOutB Try.prog && mapsRowed Try.prog && Try.f17.params.all (Try.prog.readableRec ·) && namedTie Try.prog Rows.rowBytesRow.named Rows.rowBytesSpec.vars && (Rows.rowBytesRow.stops == []) && (Try.prog.stops == []) && (Rows.rowBytesRow.knobs == []) && (Try.prog.stopKnobs == []) && (Rows.rowBytesRow.inPlace == Try.prog.inPlace 17) && (Rows.rowBytesRow.unfollowed == Try.prog.unfollowed 17) && (Rows.rowBytesRow.recurses == Try.prog.recurses 17) && (Rows.rowBytesRow.named == Try.prog.varsNamed 17) && (Rows.rowBytesRow.maps == (Try.f17.params.toList ++ Rows.rowBytesSpec.plain.varTypes Try.prog).any (Try.prog.mapsRec ·)) && (Rows.rowBytesRow.ifaces == (Try.f17.params.toList ++ Rows.rowBytesSpec.plain.varTypes Try.prog).any (Try.prog.ifacesRec ·)) && (Rows.rowBytesRow.mapsOut == Try.prog.mapsAmong Try.f17.resultTypes.toList) && (Rows.rowBytesRow.loops == (Try.f17.params.toList ++ Rows.rowBytesSpec.plain.varTypes Try.prog).any (Try.prog.loopsFrom ·))) = true := andI e15 b16
theorem e17 : (Rows.rowBytesRow.wf (OpenSpec.ofChange Rows.rowBytesSpec) && laidOutB Try.prog && mapsRowed Try.prog && Try.f17.params.all (Try.prog.readableRec ·) && namedTie Try.prog Rows.rowBytesRow.named Rows.rowBytesSpec.vars && (Rows.rowBytesRow.stops == []) && (Try.prog.stops == []) && (Rows.rowBytesRow.knobs == []) && (Try.prog.stopKnobs == []) && (Rows.rowBytesRow.inPlace == Try.prog.inPlace 17) && (Rows.rowBytesRow.unfollowed == Try.prog.unfollowed 17) && (Rows.rowBytesRow.recurses == Try.prog.recurses 17) && (Rows.rowBytesRow.named == Try.prog.varsNamed 17) && (Rows.rowBytesRow.maps == (Try.f17.params.toList ++ Rows.rowBytesSpec.plain.varTypes Try.prog).any (Try.prog.mapsRec ·)) && (Rows.rowBytesRow.ifaces == (Try.f17.params.toList ++ Rows.rowBytesSpec.plain.varTypes Try.prog).any (Try.prog.ifacesRec ·)) && (Rows.rowBytesRow.mapsOut == Try.prog.mapsAmong Try.f17.resultTypes.toList) && (Rows.rowBytesRow.loops == (Try.f17.params.toList ++ Rows.rowBytesSpec.plain.varTypes Try.prog).any (Try.prog.loopsFrom ·)) && (Rows.rowBytesRow.wideKeys == (Try.f17.params.toList ++ Rows.rowBytesSpec.plain.varTypes Try.prog ++ Try.f17.resultTypes.toList).any (Try.prog.wideKeysFrom ·))) = true := andI e16 b17
theorem e18 : (Rows.rowBytesRow.wf (OpenSpec.ofChange Rows.rowBytesSpec) && laidOutB Try.prog && mapsRowed Try.prog && Try.f17.params.all (Try.prog.readableRec ·) && namedTie Try.prog Rows.rowBytesRow.named Rows.rowBytesSpec.vars && (Rows.rowBytesRow.stops == []) && (Try.prog.stops == []) && (Rows.rowBytesRow.knobs == []) && (Try.prog.stopKnobs == []) && (Rows.rowBytesRow.inPlace == Try.prog.inPlace 17) && (Rows.rowBytesRow.unfollowed == Try.prog.unfollowed 17) && (Rows.rowBytesRow.recurses == Try.prog.recurses 17) && (Rows.rowBytesRow.named == Try.prog.varsNamed 17) && (Rows.rowBytesRow.maps == (Try.f17.params.toList ++ Rows.rowBytesSpec.plain.varTypes Try.prog).any (Try.prog.mapsRec ·)) && (Rows.rowBytesRow.ifaces == (Try.f17.params.toList ++ Rows.rowBytesSpec.plain.varTypes Try.prog).any (Try.prog.ifacesRec ·)) && (Rows.rowBytesRow.mapsOut == Try.prog.mapsAmong Try.f17.resultTypes.toList) && (Rows.rowBytesRow.loops == (Try.f17.params.toList ++ Rows.rowBytesSpec.plain.varTypes Try.prog).any (Try.prog.loopsFrom ·)) && (Rows.rowBytesRow.wideKeys == (Try.f17.params.toList ++ Rows.rowBytesSpec.plain.varTypes Try.prog ++ Try.f17.resultTypes.toList).any (Try.prog.wideKeysFrom ·)) && Rows.rowBytesSpec.vars.all (Try.prog.varReadable ·)) = true := andI e17 b18
theorem e19 : (Rows.rowBytesRow.wf (OpenSpec.ofChange Rows.rowBytesSpec) && laidOutB Try.prog && mapsRowed Try.prog && Try.f17.params.all (Try.prog.readableRec ·) && namedTie Try.prog Rows.rowBytesRow.named Rows.rowBytesSpec.vars && (Rows.rowBytesRow.stops == []) && (Try.prog.stops == []) && (Rows.rowBytesRow.knobs == []) && (Try.prog.stopKnobs == []) && (Rows.rowBytesRow.inPlace == Try.prog.inPlace 17) && (Rows.rowBytesRow.unfollowed == Try.prog.unfollowed 17) && (Rows.rowBytesRow.recurses == Try.prog.recurses 17) && (Rows.rowBytesRow.named == Try.prog.varsNamed 17) && (Rows.rowBytesRow.maps == (Try.f17.params.toList ++ Rows.rowBytesSpec.plain.varTypes Try.prog).any (Try.prog.mapsRec ·)) && (Rows.rowBytesRow.ifaces == (Try.f17.params.toList ++ Rows.rowBytesSpec.plain.varTypes Try.prog).any (Try.prog.ifacesRec ·)) && (Rows.rowBytesRow.mapsOut == Try.prog.mapsAmong Try.f17.resultTypes.toList) && (Rows.rowBytesRow.loops == (Try.f17.params.toList ++ Rows.rowBytesSpec.plain.varTypes Try.prog).any (Try.prog.loopsFrom ·)) && (Rows.rowBytesRow.wideKeys == (Try.f17.params.toList ++ Rows.rowBytesSpec.plain.varTypes Try.prog ++ Try.f17.resultTypes.toList).any (Try.prog.wideKeysFrom ·)) && Rows.rowBytesSpec.vars.all (Try.prog.varReadable ·) && Try.f17.resultTypes.all (fun t => Try.prog.readableRec t && decide (t < Try.prog.types.size))) = true := andI e18 b19
theorem e20 : (Rows.rowBytesRow.wf (OpenSpec.ofChange Rows.rowBytesSpec) && laidOutB Try.prog && mapsRowed Try.prog && Try.f17.params.all (Try.prog.readableRec ·) && namedTie Try.prog Rows.rowBytesRow.named Rows.rowBytesSpec.vars && (Rows.rowBytesRow.stops == []) && (Try.prog.stops == []) && (Rows.rowBytesRow.knobs == []) && (Try.prog.stopKnobs == []) && (Rows.rowBytesRow.inPlace == Try.prog.inPlace 17) && (Rows.rowBytesRow.unfollowed == Try.prog.unfollowed 17) && (Rows.rowBytesRow.recurses == Try.prog.recurses 17) && (Rows.rowBytesRow.named == Try.prog.varsNamed 17) && (Rows.rowBytesRow.maps == (Try.f17.params.toList ++ Rows.rowBytesSpec.plain.varTypes Try.prog).any (Try.prog.mapsRec ·)) && (Rows.rowBytesRow.ifaces == (Try.f17.params.toList ++ Rows.rowBytesSpec.plain.varTypes Try.prog).any (Try.prog.ifacesRec ·)) && (Rows.rowBytesRow.mapsOut == Try.prog.mapsAmong Try.f17.resultTypes.toList) && (Rows.rowBytesRow.loops == (Try.f17.params.toList ++ Rows.rowBytesSpec.plain.varTypes Try.prog).any (Try.prog.loopsFrom ·)) && (Rows.rowBytesRow.wideKeys == (Try.f17.params.toList ++ Rows.rowBytesSpec.plain.varTypes Try.prog ++ Try.f17.resultTypes.toList).any (Try.prog.wideKeysFrom ·)) && Rows.rowBytesSpec.vars.all (Try.prog.varReadable ·) && Try.f17.resultTypes.all (fun t => Try.prog.readableRec t && decide (t < Try.prog.types.size)) && (Rows.rowBytesRow.ifacesOut == Try.f17.resultTypes.toList.any (Try.prog.ifacesRec ·))) = true := andI e19 b20
theorem e21 : (Rows.rowBytesRow.wf (OpenSpec.ofChange Rows.rowBytesSpec) && laidOutB Try.prog && mapsRowed Try.prog && Try.f17.params.all (Try.prog.readableRec ·) && namedTie Try.prog Rows.rowBytesRow.named Rows.rowBytesSpec.vars && (Rows.rowBytesRow.stops == []) && (Try.prog.stops == []) && (Rows.rowBytesRow.knobs == []) && (Try.prog.stopKnobs == []) && (Rows.rowBytesRow.inPlace == Try.prog.inPlace 17) && (Rows.rowBytesRow.unfollowed == Try.prog.unfollowed 17) && (Rows.rowBytesRow.recurses == Try.prog.recurses 17) && (Rows.rowBytesRow.named == Try.prog.varsNamed 17) && (Rows.rowBytesRow.maps == (Try.f17.params.toList ++ Rows.rowBytesSpec.plain.varTypes Try.prog).any (Try.prog.mapsRec ·)) && (Rows.rowBytesRow.ifaces == (Try.f17.params.toList ++ Rows.rowBytesSpec.plain.varTypes Try.prog).any (Try.prog.ifacesRec ·)) && (Rows.rowBytesRow.mapsOut == Try.prog.mapsAmong Try.f17.resultTypes.toList) && (Rows.rowBytesRow.loops == (Try.f17.params.toList ++ Rows.rowBytesSpec.plain.varTypes Try.prog).any (Try.prog.loopsFrom ·)) && (Rows.rowBytesRow.wideKeys == (Try.f17.params.toList ++ Rows.rowBytesSpec.plain.varTypes Try.prog ++ Try.f17.resultTypes.toList).any (Try.prog.wideKeysFrom ·)) && Rows.rowBytesSpec.vars.all (Try.prog.varReadable ·) && Try.f17.resultTypes.all (fun t => Try.prog.readableRec t && decide (t < Try.prog.types.size)) && (Rows.rowBytesRow.ifacesOut == Try.f17.resultTypes.toList.any (Try.prog.ifacesRec ·)) && (Rows.rowBytesRow.loopsOut == Try.f17.resultTypes.toList.any (Try.prog.loopsFrom ·))) = true := andI e20 b21
theorem e22 : (Rows.rowBytesRow.wf (OpenSpec.ofChange Rows.rowBytesSpec) && laidOutB Try.prog && mapsRowed Try.prog && Try.f17.params.all (Try.prog.readableRec ·) && namedTie Try.prog Rows.rowBytesRow.named Rows.rowBytesSpec.vars && (Rows.rowBytesRow.stops == []) && (Try.prog.stops == []) && (Rows.rowBytesRow.knobs == []) && (Try.prog.stopKnobs == []) && (Rows.rowBytesRow.inPlace == Try.prog.inPlace 17) && (Rows.rowBytesRow.unfollowed == Try.prog.unfollowed 17) && (Rows.rowBytesRow.recurses == Try.prog.recurses 17) && (Rows.rowBytesRow.named == Try.prog.varsNamed 17) && (Rows.rowBytesRow.maps == (Try.f17.params.toList ++ Rows.rowBytesSpec.plain.varTypes Try.prog).any (Try.prog.mapsRec ·)) && (Rows.rowBytesRow.ifaces == (Try.f17.params.toList ++ Rows.rowBytesSpec.plain.varTypes Try.prog).any (Try.prog.ifacesRec ·)) && (Rows.rowBytesRow.mapsOut == Try.prog.mapsAmong Try.f17.resultTypes.toList) && (Rows.rowBytesRow.loops == (Try.f17.params.toList ++ Rows.rowBytesSpec.plain.varTypes Try.prog).any (Try.prog.loopsFrom ·)) && (Rows.rowBytesRow.wideKeys == (Try.f17.params.toList ++ Rows.rowBytesSpec.plain.varTypes Try.prog ++ Try.f17.resultTypes.toList).any (Try.prog.wideKeysFrom ·)) && Rows.rowBytesSpec.vars.all (Try.prog.varReadable ·) && Try.f17.resultTypes.all (fun t => Try.prog.readableRec t && decide (t < Try.prog.types.size)) && (Rows.rowBytesRow.ifacesOut == Try.f17.resultTypes.toList.any (Try.prog.ifacesRec ·)) && (Rows.rowBytesRow.loopsOut == Try.f17.resultTypes.toList.any (Try.prog.loopsFrom ·)) && (Rows.rowBytesRow.plainKeys == Try.prog.plainKeys)) = true := andI e21 b22
theorem e23 : (Rows.rowBytesRow.wf (OpenSpec.ofChange Rows.rowBytesSpec) && laidOutB Try.prog && mapsRowed Try.prog && Try.f17.params.all (Try.prog.readableRec ·) && namedTie Try.prog Rows.rowBytesRow.named Rows.rowBytesSpec.vars && (Rows.rowBytesRow.stops == []) && (Try.prog.stops == []) && (Rows.rowBytesRow.knobs == []) && (Try.prog.stopKnobs == []) && (Rows.rowBytesRow.inPlace == Try.prog.inPlace 17) && (Rows.rowBytesRow.unfollowed == Try.prog.unfollowed 17) && (Rows.rowBytesRow.recurses == Try.prog.recurses 17) && (Rows.rowBytesRow.named == Try.prog.varsNamed 17) && (Rows.rowBytesRow.maps == (Try.f17.params.toList ++ Rows.rowBytesSpec.plain.varTypes Try.prog).any (Try.prog.mapsRec ·)) && (Rows.rowBytesRow.ifaces == (Try.f17.params.toList ++ Rows.rowBytesSpec.plain.varTypes Try.prog).any (Try.prog.ifacesRec ·)) && (Rows.rowBytesRow.mapsOut == Try.prog.mapsAmong Try.f17.resultTypes.toList) && (Rows.rowBytesRow.loops == (Try.f17.params.toList ++ Rows.rowBytesSpec.plain.varTypes Try.prog).any (Try.prog.loopsFrom ·)) && (Rows.rowBytesRow.wideKeys == (Try.f17.params.toList ++ Rows.rowBytesSpec.plain.varTypes Try.prog ++ Try.f17.resultTypes.toList).any (Try.prog.wideKeysFrom ·)) && Rows.rowBytesSpec.vars.all (Try.prog.varReadable ·) && Try.f17.resultTypes.all (fun t => Try.prog.readableRec t && decide (t < Try.prog.types.size)) && (Rows.rowBytesRow.ifacesOut == Try.f17.resultTypes.toList.any (Try.prog.ifacesRec ·)) && (Rows.rowBytesRow.loopsOut == Try.f17.resultTypes.toList.any (Try.prog.loopsFrom ·)) && (Rows.rowBytesRow.plainKeys == Try.prog.plainKeys) && Rows.rowBytesRow.shortTexts.isNone) = true := andI e22 b23
theorem e24 : (Rows.rowBytesRow.wf (OpenSpec.ofChange Rows.rowBytesSpec) && laidOutB Try.prog && mapsRowed Try.prog && Try.f17.params.all (Try.prog.readableRec ·) && namedTie Try.prog Rows.rowBytesRow.named Rows.rowBytesSpec.vars && (Rows.rowBytesRow.stops == []) && (Try.prog.stops == []) && (Rows.rowBytesRow.knobs == []) && (Try.prog.stopKnobs == []) && (Rows.rowBytesRow.inPlace == Try.prog.inPlace 17) && (Rows.rowBytesRow.unfollowed == Try.prog.unfollowed 17) && (Rows.rowBytesRow.recurses == Try.prog.recurses 17) && (Rows.rowBytesRow.named == Try.prog.varsNamed 17) && (Rows.rowBytesRow.maps == (Try.f17.params.toList ++ Rows.rowBytesSpec.plain.varTypes Try.prog).any (Try.prog.mapsRec ·)) && (Rows.rowBytesRow.ifaces == (Try.f17.params.toList ++ Rows.rowBytesSpec.plain.varTypes Try.prog).any (Try.prog.ifacesRec ·)) && (Rows.rowBytesRow.mapsOut == Try.prog.mapsAmong Try.f17.resultTypes.toList) && (Rows.rowBytesRow.loops == (Try.f17.params.toList ++ Rows.rowBytesSpec.plain.varTypes Try.prog).any (Try.prog.loopsFrom ·)) && (Rows.rowBytesRow.wideKeys == (Try.f17.params.toList ++ Rows.rowBytesSpec.plain.varTypes Try.prog ++ Try.f17.resultTypes.toList).any (Try.prog.wideKeysFrom ·)) && Rows.rowBytesSpec.vars.all (Try.prog.varReadable ·) && Try.f17.resultTypes.all (fun t => Try.prog.readableRec t && decide (t < Try.prog.types.size)) && (Rows.rowBytesRow.ifacesOut == Try.f17.resultTypes.toList.any (Try.prog.ifacesRec ·)) && (Rows.rowBytesRow.loopsOut == Try.f17.resultTypes.toList.any (Try.prog.loopsFrom ·)) && (Rows.rowBytesRow.plainKeys == Try.prog.plainKeys) && Rows.rowBytesRow.shortTexts.isNone && Try.prog.stopsHeard) = true := andI e23 b24
theorem e25 : (Rows.rowBytesRow.wf (OpenSpec.ofChange Rows.rowBytesSpec) && laidOutB Try.prog && mapsRowed Try.prog && Try.f17.params.all (Try.prog.readableRec ·) && namedTie Try.prog Rows.rowBytesRow.named Rows.rowBytesSpec.vars && (Rows.rowBytesRow.stops == []) && (Try.prog.stops == []) && (Rows.rowBytesRow.knobs == []) && (Try.prog.stopKnobs == []) && (Rows.rowBytesRow.inPlace == Try.prog.inPlace 17) && (Rows.rowBytesRow.unfollowed == Try.prog.unfollowed 17) && (Rows.rowBytesRow.recurses == Try.prog.recurses 17) && (Rows.rowBytesRow.named == Try.prog.varsNamed 17) && (Rows.rowBytesRow.maps == (Try.f17.params.toList ++ Rows.rowBytesSpec.plain.varTypes Try.prog).any (Try.prog.mapsRec ·)) && (Rows.rowBytesRow.ifaces == (Try.f17.params.toList ++ Rows.rowBytesSpec.plain.varTypes Try.prog).any (Try.prog.ifacesRec ·)) && (Rows.rowBytesRow.mapsOut == Try.prog.mapsAmong Try.f17.resultTypes.toList) && (Rows.rowBytesRow.loops == (Try.f17.params.toList ++ Rows.rowBytesSpec.plain.varTypes Try.prog).any (Try.prog.loopsFrom ·)) && (Rows.rowBytesRow.wideKeys == (Try.f17.params.toList ++ Rows.rowBytesSpec.plain.varTypes Try.prog ++ Try.f17.resultTypes.toList).any (Try.prog.wideKeysFrom ·)) && Rows.rowBytesSpec.vars.all (Try.prog.varReadable ·) && Try.f17.resultTypes.all (fun t => Try.prog.readableRec t && decide (t < Try.prog.types.size)) && (Rows.rowBytesRow.ifacesOut == Try.f17.resultTypes.toList.any (Try.prog.ifacesRec ·)) && (Rows.rowBytesRow.loopsOut == Try.f17.resultTypes.toList.any (Try.prog.loopsFrom ·)) && (Rows.rowBytesRow.plainKeys == Try.prog.plainKeys) && Rows.rowBytesRow.shortTexts.isNone && Try.prog.stopsHeard && Try.prog.mayEnter) = true := andI e24 b25
theorem e26 : (Rows.rowBytesRow.wf (OpenSpec.ofChange Rows.rowBytesSpec) && laidOutB Try.prog && mapsRowed Try.prog && Try.f17.params.all (Try.prog.readableRec ·) && namedTie Try.prog Rows.rowBytesRow.named Rows.rowBytesSpec.vars && (Rows.rowBytesRow.stops == []) && (Try.prog.stops == []) && (Rows.rowBytesRow.knobs == []) && (Try.prog.stopKnobs == []) && (Rows.rowBytesRow.inPlace == Try.prog.inPlace 17) && (Rows.rowBytesRow.unfollowed == Try.prog.unfollowed 17) && (Rows.rowBytesRow.recurses == Try.prog.recurses 17) && (Rows.rowBytesRow.named == Try.prog.varsNamed 17) && (Rows.rowBytesRow.maps == (Try.f17.params.toList ++ Rows.rowBytesSpec.plain.varTypes Try.prog).any (Try.prog.mapsRec ·)) && (Rows.rowBytesRow.ifaces == (Try.f17.params.toList ++ Rows.rowBytesSpec.plain.varTypes Try.prog).any (Try.prog.ifacesRec ·)) && (Rows.rowBytesRow.mapsOut == Try.prog.mapsAmong Try.f17.resultTypes.toList) && (Rows.rowBytesRow.loops == (Try.f17.params.toList ++ Rows.rowBytesSpec.plain.varTypes Try.prog).any (Try.prog.loopsFrom ·)) && (Rows.rowBytesRow.wideKeys == (Try.f17.params.toList ++ Rows.rowBytesSpec.plain.varTypes Try.prog ++ Try.f17.resultTypes.toList).any (Try.prog.wideKeysFrom ·)) && Rows.rowBytesSpec.vars.all (Try.prog.varReadable ·) && Try.f17.resultTypes.all (fun t => Try.prog.readableRec t && decide (t < Try.prog.types.size)) && (Rows.rowBytesRow.ifacesOut == Try.f17.resultTypes.toList.any (Try.prog.ifacesRec ·)) && (Rows.rowBytesRow.loopsOut == Try.f17.resultTypes.toList.any (Try.prog.loopsFrom ·)) && (Rows.rowBytesRow.plainKeys == Try.prog.plainKeys) && Rows.rowBytesRow.shortTexts.isNone && Try.prog.stopsHeard && Try.prog.mayEnter && (Rows.rowBytesRow.lifted == Try.prog.liftsFinal)) = true := andI e25 b26
theorem e27 : (Rows.rowBytesRow.wf (OpenSpec.ofChange Rows.rowBytesSpec) && laidOutB Try.prog && mapsRowed Try.prog && Try.f17.params.all (Try.prog.readableRec ·) && namedTie Try.prog Rows.rowBytesRow.named Rows.rowBytesSpec.vars && (Rows.rowBytesRow.stops == []) && (Try.prog.stops == []) && (Rows.rowBytesRow.knobs == []) && (Try.prog.stopKnobs == []) && (Rows.rowBytesRow.inPlace == Try.prog.inPlace 17) && (Rows.rowBytesRow.unfollowed == Try.prog.unfollowed 17) && (Rows.rowBytesRow.recurses == Try.prog.recurses 17) && (Rows.rowBytesRow.named == Try.prog.varsNamed 17) && (Rows.rowBytesRow.maps == (Try.f17.params.toList ++ Rows.rowBytesSpec.plain.varTypes Try.prog).any (Try.prog.mapsRec ·)) && (Rows.rowBytesRow.ifaces == (Try.f17.params.toList ++ Rows.rowBytesSpec.plain.varTypes Try.prog).any (Try.prog.ifacesRec ·)) && (Rows.rowBytesRow.mapsOut == Try.prog.mapsAmong Try.f17.resultTypes.toList) && (Rows.rowBytesRow.loops == (Try.f17.params.toList ++ Rows.rowBytesSpec.plain.varTypes Try.prog).any (Try.prog.loopsFrom ·)) && (Rows.rowBytesRow.wideKeys == (Try.f17.params.toList ++ Rows.rowBytesSpec.plain.varTypes Try.prog ++ Try.f17.resultTypes.toList).any (Try.prog.wideKeysFrom ·)) && Rows.rowBytesSpec.vars.all (Try.prog.varReadable ·) && Try.f17.resultTypes.all (fun t => Try.prog.readableRec t && decide (t < Try.prog.types.size)) && (Rows.rowBytesRow.ifacesOut == Try.f17.resultTypes.toList.any (Try.prog.ifacesRec ·)) && (Rows.rowBytesRow.loopsOut == Try.f17.resultTypes.toList.any (Try.prog.loopsFrom ·)) && (Rows.rowBytesRow.plainKeys == Try.prog.plainKeys) && Rows.rowBytesRow.shortTexts.isNone && Try.prog.stopsHeard && Try.prog.mayEnter && (Rows.rowBytesRow.lifted == Try.prog.liftsFinal) && (Try.prog.make == some Rows.rowBytesRow.make)) = true := andI e26 b27
theorem e28 : (Rows.rowBytesRow.wf (OpenSpec.ofChange Rows.rowBytesSpec) && laidOutB Try.prog && mapsRowed Try.prog && Try.f17.params.all (Try.prog.readableRec ·) && namedTie Try.prog Rows.rowBytesRow.named Rows.rowBytesSpec.vars && (Rows.rowBytesRow.stops == []) && (Try.prog.stops == []) && (Rows.rowBytesRow.knobs == []) && (Try.prog.stopKnobs == []) && (Rows.rowBytesRow.inPlace == Try.prog.inPlace 17) && (Rows.rowBytesRow.unfollowed == Try.prog.unfollowed 17) && (Rows.rowBytesRow.recurses == Try.prog.recurses 17) && (Rows.rowBytesRow.named == Try.prog.varsNamed 17) && (Rows.rowBytesRow.maps == (Try.f17.params.toList ++ Rows.rowBytesSpec.plain.varTypes Try.prog).any (Try.prog.mapsRec ·)) && (Rows.rowBytesRow.ifaces == (Try.f17.params.toList ++ Rows.rowBytesSpec.plain.varTypes Try.prog).any (Try.prog.ifacesRec ·)) && (Rows.rowBytesRow.mapsOut == Try.prog.mapsAmong Try.f17.resultTypes.toList) && (Rows.rowBytesRow.loops == (Try.f17.params.toList ++ Rows.rowBytesSpec.plain.varTypes Try.prog).any (Try.prog.loopsFrom ·)) && (Rows.rowBytesRow.wideKeys == (Try.f17.params.toList ++ Rows.rowBytesSpec.plain.varTypes Try.prog ++ Try.f17.resultTypes.toList).any (Try.prog.wideKeysFrom ·)) && Rows.rowBytesSpec.vars.all (Try.prog.varReadable ·) && Try.f17.resultTypes.all (fun t => Try.prog.readableRec t && decide (t < Try.prog.types.size)) && (Rows.rowBytesRow.ifacesOut == Try.f17.resultTypes.toList.any (Try.prog.ifacesRec ·)) && (Rows.rowBytesRow.loopsOut == Try.f17.resultTypes.toList.any (Try.prog.loopsFrom ·)) && (Rows.rowBytesRow.plainKeys == Try.prog.plainKeys) && Rows.rowBytesRow.shortTexts.isNone && Try.prog.stopsHeard && Try.prog.mayEnter && (Rows.rowBytesRow.lifted == Try.prog.liftsFinal) && (Try.prog.make == some Rows.rowBytesRow.make) && (Rows.rowBytesRow.kinds == (if Rows.rowBytesRow.domain.isEmpty then [] else Try.f17.params.toList.map fun t => match Try.prog.underlying t with | some (.int k) => some k | _ => none))) = true := andI e27 b28
theorem e29 : (Rows.rowBytesRow.wf (OpenSpec.ofChange Rows.rowBytesSpec) && laidOutB Try.prog && mapsRowed Try.prog && Try.f17.params.all (Try.prog.readableRec ·) && namedTie Try.prog Rows.rowBytesRow.named Rows.rowBytesSpec.vars && (Rows.rowBytesRow.stops == []) && (Try.prog.stops == []) && (Rows.rowBytesRow.knobs == []) && (Try.prog.stopKnobs == []) && (Rows.rowBytesRow.inPlace == Try.prog.inPlace 17) && (Rows.rowBytesRow.unfollowed == Try.prog.unfollowed 17) && (Rows.rowBytesRow.recurses == Try.prog.recurses 17) && (Rows.rowBytesRow.named == Try.prog.varsNamed 17) && (Rows.rowBytesRow.maps == (Try.f17.params.toList ++ Rows.rowBytesSpec.plain.varTypes Try.prog).any (Try.prog.mapsRec ·)) && (Rows.rowBytesRow.ifaces == (Try.f17.params.toList ++ Rows.rowBytesSpec.plain.varTypes Try.prog).any (Try.prog.ifacesRec ·)) && (Rows.rowBytesRow.mapsOut == Try.prog.mapsAmong Try.f17.resultTypes.toList) && (Rows.rowBytesRow.loops == (Try.f17.params.toList ++ Rows.rowBytesSpec.plain.varTypes Try.prog).any (Try.prog.loopsFrom ·)) && (Rows.rowBytesRow.wideKeys == (Try.f17.params.toList ++ Rows.rowBytesSpec.plain.varTypes Try.prog ++ Try.f17.resultTypes.toList).any (Try.prog.wideKeysFrom ·)) && Rows.rowBytesSpec.vars.all (Try.prog.varReadable ·) && Try.f17.resultTypes.all (fun t => Try.prog.readableRec t && decide (t < Try.prog.types.size)) && (Rows.rowBytesRow.ifacesOut == Try.f17.resultTypes.toList.any (Try.prog.ifacesRec ·)) && (Rows.rowBytesRow.loopsOut == Try.f17.resultTypes.toList.any (Try.prog.loopsFrom ·)) && (Rows.rowBytesRow.plainKeys == Try.prog.plainKeys) && Rows.rowBytesRow.shortTexts.isNone && Try.prog.stopsHeard && Try.prog.mayEnter && (Rows.rowBytesRow.lifted == Try.prog.liftsFinal) && (Try.prog.make == some Rows.rowBytesRow.make) && (Rows.rowBytesRow.kinds == (if Rows.rowBytesRow.domain.isEmpty then [] else Try.f17.params.toList.map fun t => match Try.prog.underlying t with | some (.int k) => some k | _ => none)) && (Rows.rowBytesRow.pinned == Rows.rowBytesRow.pinnedBy)) = true := andI e28 b29
theorem e30 : (Rows.rowBytesRow.wf (OpenSpec.ofChange Rows.rowBytesSpec) && laidOutB Try.prog && mapsRowed Try.prog && Try.f17.params.all (Try.prog.readableRec ·) && namedTie Try.prog Rows.rowBytesRow.named Rows.rowBytesSpec.vars && (Rows.rowBytesRow.stops == []) && (Try.prog.stops == []) && (Rows.rowBytesRow.knobs == []) && (Try.prog.stopKnobs == []) && (Rows.rowBytesRow.inPlace == Try.prog.inPlace 17) && (Rows.rowBytesRow.unfollowed == Try.prog.unfollowed 17) && (Rows.rowBytesRow.recurses == Try.prog.recurses 17) && (Rows.rowBytesRow.named == Try.prog.varsNamed 17) && (Rows.rowBytesRow.maps == (Try.f17.params.toList ++ Rows.rowBytesSpec.plain.varTypes Try.prog).any (Try.prog.mapsRec ·)) && (Rows.rowBytesRow.ifaces == (Try.f17.params.toList ++ Rows.rowBytesSpec.plain.varTypes Try.prog).any (Try.prog.ifacesRec ·)) && (Rows.rowBytesRow.mapsOut == Try.prog.mapsAmong Try.f17.resultTypes.toList) && (Rows.rowBytesRow.loops == (Try.f17.params.toList ++ Rows.rowBytesSpec.plain.varTypes Try.prog).any (Try.prog.loopsFrom ·)) && (Rows.rowBytesRow.wideKeys == (Try.f17.params.toList ++ Rows.rowBytesSpec.plain.varTypes Try.prog ++ Try.f17.resultTypes.toList).any (Try.prog.wideKeysFrom ·)) && Rows.rowBytesSpec.vars.all (Try.prog.varReadable ·) && Try.f17.resultTypes.all (fun t => Try.prog.readableRec t && decide (t < Try.prog.types.size)) && (Rows.rowBytesRow.ifacesOut == Try.f17.resultTypes.toList.any (Try.prog.ifacesRec ·)) && (Rows.rowBytesRow.loopsOut == Try.f17.resultTypes.toList.any (Try.prog.loopsFrom ·)) && (Rows.rowBytesRow.plainKeys == Try.prog.plainKeys) && Rows.rowBytesRow.shortTexts.isNone && Try.prog.stopsHeard && Try.prog.mayEnter && (Rows.rowBytesRow.lifted == Try.prog.liftsFinal) && (Try.prog.make == some Rows.rowBytesRow.make) && (Rows.rowBytesRow.kinds == (if Rows.rowBytesRow.domain.isEmpty then [] else Try.f17.params.toList.map fun t => match Try.prog.underlying t with | some (.int k) => some k | _ => none)) && (Rows.rowBytesRow.pinned == Rows.rowBytesRow.pinnedBy) && (Rows.rowBytesRow.veiled == (Try.f17.params.toList ++ Rows.rowBytesSpec.plain.varTypes Try.prog ++ Try.f17.resultTypes.toList).any (Try.prog.veiledRec ·))) = true := andI e29 b30
theorem e31 : (Rows.rowBytesRow.wf (OpenSpec.ofChange Rows.rowBytesSpec) && laidOutB Try.prog && mapsRowed Try.prog && Try.f17.params.all (Try.prog.readableRec ·) && namedTie Try.prog Rows.rowBytesRow.named Rows.rowBytesSpec.vars && (Rows.rowBytesRow.stops == []) && (Try.prog.stops == []) && (Rows.rowBytesRow.knobs == []) && (Try.prog.stopKnobs == []) && (Rows.rowBytesRow.inPlace == Try.prog.inPlace 17) && (Rows.rowBytesRow.unfollowed == Try.prog.unfollowed 17) && (Rows.rowBytesRow.recurses == Try.prog.recurses 17) && (Rows.rowBytesRow.named == Try.prog.varsNamed 17) && (Rows.rowBytesRow.maps == (Try.f17.params.toList ++ Rows.rowBytesSpec.plain.varTypes Try.prog).any (Try.prog.mapsRec ·)) && (Rows.rowBytesRow.ifaces == (Try.f17.params.toList ++ Rows.rowBytesSpec.plain.varTypes Try.prog).any (Try.prog.ifacesRec ·)) && (Rows.rowBytesRow.mapsOut == Try.prog.mapsAmong Try.f17.resultTypes.toList) && (Rows.rowBytesRow.loops == (Try.f17.params.toList ++ Rows.rowBytesSpec.plain.varTypes Try.prog).any (Try.prog.loopsFrom ·)) && (Rows.rowBytesRow.wideKeys == (Try.f17.params.toList ++ Rows.rowBytesSpec.plain.varTypes Try.prog ++ Try.f17.resultTypes.toList).any (Try.prog.wideKeysFrom ·)) && Rows.rowBytesSpec.vars.all (Try.prog.varReadable ·) && Try.f17.resultTypes.all (fun t => Try.prog.readableRec t && decide (t < Try.prog.types.size)) && (Rows.rowBytesRow.ifacesOut == Try.f17.resultTypes.toList.any (Try.prog.ifacesRec ·)) && (Rows.rowBytesRow.loopsOut == Try.f17.resultTypes.toList.any (Try.prog.loopsFrom ·)) && (Rows.rowBytesRow.plainKeys == Try.prog.plainKeys) && Rows.rowBytesRow.shortTexts.isNone && Try.prog.stopsHeard && Try.prog.mayEnter && (Rows.rowBytesRow.lifted == Try.prog.liftsFinal) && (Try.prog.make == some Rows.rowBytesRow.make) && (Rows.rowBytesRow.kinds == (if Rows.rowBytesRow.domain.isEmpty then [] else Try.f17.params.toList.map fun t => match Try.prog.underlying t with | some (.int k) => some k | _ => none)) && (Rows.rowBytesRow.pinned == Rows.rowBytesRow.pinnedBy) && (Rows.rowBytesRow.veiled == (Try.f17.params.toList ++ Rows.rowBytesSpec.plain.varTypes Try.prog ++ Try.f17.resultTypes.toList).any (Try.prog.veiledRec ·)) && Rows.rowBytesRow.veiledFits Try.prog Try.f17.params.toList (Try.f17.params.toList ++ Rows.rowBytesSpec.plain.varTypes Try.prog ++ Try.f17.resultTypes.toList)) = true := andI e30 b31
set_option maxRecDepth 100000 in
theorem tB : joinedFacts Try.prog 17 Try.f17 Rows.rowBytesSpec Rows.rowBytesRow = true := by
 unfold joinedFacts
 exact e31
theorem tC : Try.f17.isInstance Try.prog Rows.rowBytesRow.origin Rows.rowBytesRow.targs := of_decide_eq_true (by kernel_rfl)
theorem tD0 : decide (Check.packageOf Try.f17.name = "main") = false := by kernel_rfl
theorem tD : Try.f17.isWrapper Try.prog Rows.rowBytesRow.wrapper Rows.rowBytesRow.mainSum := by
 unfold Func.isWrapper
 rw [if_neg (of_decide_eq_false tD0)]
 exact ⟨rfl, rfl⟩
theorem over : Rows.rowBytesRow.holds Try.pinned (OpenSpec.ofChange Rows.rowBytesSpec) :=
 OpenClaim.holds_of_wide 17 Try.f17 rfl rfl rfl rfl rfl rfl rfl ⟨rfl, rfl, rfl, rfl, rfl⟩ rfl rfl rfl rfl rfl tA Try.func17 tB tC tD
  (fun os started H enc _ => lifted os started H enc)
theorem proved : Rows.RowBytesSaid := over
end Go.Proofs.Yteebobbhhgmeiaa.rowBytes
