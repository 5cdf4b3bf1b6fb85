/- made by a program (rowgen.py): SortedOrder: for every input the law returns true, and each argument reads behind the call as it read before. -/
import Derived.Test.YtnfmceffbnaanaaKSoe
import Derived.Test.YtnfmceffbnaanaaRows

set_option maxRecDepth 100000
namespace Go.Proofs.Ytnfmceffbnaanaa
open Go.RowKit
def eqC (a b : TCell) : Bool := a.stamp.n == b.stamp.n && a.stamp.site == b.stamp.site && (a.vec.a == b.vec.a && a.vec.b == b.vec.b) && a.gone == b.gone && a.value == b.value && (a.dead.a == b.dead.a && a.dead.b == b.dead.b)
def eqCs : List TCell → List TCell → Bool
 | [], [] => true
 | x :: xs, y :: ys => eqC x y && eqCs xs ys
 | _, _ => false
def eqRw (a b : TRow) : Bool := a.key == b.key && eqCs a.cells b.cells
theorem eqC_iff {a b : TCell} : eqC a b = true ↔ a = b := by
 unfold eqC
 simp only [Bool.and_eq_true, beq_iff_eq]
 constructor
 ·rintro ⟨⟨⟨⟨⟨h1, h2⟩, h3, h4⟩, h5⟩, h6⟩, h7, h8⟩
  cases a with | mk s v g t d => cases b with | mk s' v' g' t' d' =>
  cases s; cases s'; cases v; cases v'; cases d; cases d'
  cases h1; cases h2; cases h3; cases h4; cases h5; cases h6; cases h7; cases h8
  rfl
 ·rintro rfl
  exact ⟨⟨⟨⟨⟨rfl, rfl⟩, rfl, rfl⟩, rfl⟩, rfl⟩, rfl, rfl⟩
theorem eqCs_iff : ∀ {a b : List TCell}, eqCs a b = true ↔ a = b
 | [], [] => by simp [eqCs]
 | [], _ :: _ => by simp [eqCs]
 | _ :: _, [] => by simp [eqCs]
 | x :: xs, y :: ys => by
  unfold eqCs
  rw [Bool.and_eq_true, eqC_iff, eqCs_iff]
  simp
theorem eqRw_iff {a b : TRow} : eqRw a b = true ↔ a = b := by
 unfold eqRw
 rw [Bool.and_eq_true, beq_iff_eq, eqCs_iff]
 cases a; cases b
 simp
theorem eqCs_N : ∀ (a b : List TCell), a.length = b.length → eqCs a b = allN a.length (fun i => eqC (a.getD i (dflt TC.cell)) (b.getD i (dflt TC.cell))) := fun a b h => by
 rw [Bool.eq_iff_iff, eqCs_iff, allN_iff]
 constructor
 ·rintro rfl i _
  exact eqC_iff.2 rfl
 ·intro g
  refine List.ext_getElem h fun i h1 h2 => ?_
  have := eqC_iff.1 (g i h1)
  rw [List.getD_eq_getElem?_getD, List.getD_eq_getElem?_getD, List.getElem?_eq_getElem h1, List.getElem?_eq_getElem h2] at this
  exact this
theorem getD_in {α : Type} (l : List α) (d : α) (i : Nat) (h : i < l.length) : l.getD i d ∈ l := by
 rw [List.getD_eq_getElem?_getD, List.getElem?_eq_getElem h]
 exact List.getElem_mem h
def ltS (a b : ByteArray) : Bool := Op.bytesLess a.toList b.toList
def rowN (rows : List TRow) (i : Nat) : TRow := rows.getD i (dflt TC.row)
theorem scanAll {X : Type} (mk : Nat → X) (n : Nat) (next : X → X) (goes : X → Cnd) (ps : X → List Prop) (f : Nat) (x : X) (hx : x = mk 0) (hf : n ≤ f)
  (hg : ∀ i, i ≤ n → cval (goes (mk i)) = decide (i < n)) (hn : ∀ i, i < n → next (mk i) = mk (i + 1)) (hp : ∀ i, i ≤ n → ∀ p ∈ ps (mk i), p) :
  needX next goes ps f x ∧ iterX next goes f x = mk n := by
 obtain ⟨h1, k, hk, hx, _, hst, _⟩ := scanB mk n (fun _ => false) next goes ps f x hx hf (fun i hi _ => by rw [hg i hi, Bool.not_false, Bool.and_true]) (fun i hi _ => hn i hi) (fun i hi _ => hp i hi)
 have hkn : k = n := by
  rcases Nat.lt_or_ge k n with h | h
  ·exact absurd (hst h) (by decide)
  ·omega
 subst hkn
 exact ⟨h1, hx⟩
theorem take_get {α : Type} (l : List α) (d : α) (i : Nat) (h : i < l.length) : l.take (i + 1) = l.take i ++ [l.getD i d] := by
 rw [List.take_add_one, List.getD_eq_getElem?_getD, List.getElem?_eq_getElem h]
 rfl
def stepS (r : TRow) (s : List TRow × Bool) (x : TRow) : List TRow × Bool :=
 ((bif !s.2 && !ltS x.key r.key then s.1 ++ [r] else s.1) ++ (bif x.key == r.key then [] else [x]), s.2 || !ltS x.key r.key)
def runS (r : TRow) (l : List TRow) (i : Nat) : List TRow × Bool := (l.take i).foldl (stepS r) ([], false)
theorem runS_succ (r : TRow) (l : List TRow) (i : Nat) (h : i < l.length) : runS r l (i + 1) = stepS r (runS r l i) (rowN l i) := by
 unfold runS
 rw [take_get l (dflt TC.row) i h, List.foldl_append]
 rfl
def finS (r : TRow) (s : List TRow × Bool) : List TRow := bif s.2 then s.1 else s.1 ++ [r]
theorem stepS_len (r : TRow) (s : List TRow × Bool) (x : TRow) : (stepS r s x).1.length ≤ s.1.length + 2 := by
 unfold stepS
 rw [List.length_append]
 cases !s.2 && !ltS x.key r.key <;> cases x.key == r.key <;> simp
theorem runS_len (r : TRow) (l : List TRow) : ∀ i, i ≤ l.length → (runS r l i).1.length ≤ 2 * i
 | 0, _ => Nat.le_refl _
 | i + 1, h => by
  have ih := runS_len r l i (by omega)
  rw [runS_succ r l i (by omega)]
  have := stepS_len r (runS r l i) (rowN l i)
  omega
theorem foldS_done (r : TRow) : ∀ (l : List TRow) (o : List TRow), (∀ y ∈ l, y.key ≠ r.key) → l.foldl (stepS r) (o, true) = (o ++ l, true)
 | [], o, _ => by rw [List.append_nil]; rfl
 | x :: a, o, h => by
  have hx : (x.key == r.key) = false := by simpa using h x (List.mem_cons_self ..)
  have e : stepS r (o, true) x = (o ++ [x], true) := by
   unfold stepS
   rw [hx]
   rfl
  rw [List.foldl_cons, e, foldS_done r a _ fun y hy => h y (List.mem_cons_of_mem _ hy), List.append_assoc]
  rfl
theorem foldS_set (r : TRow) : ∀ (l : List TRow) (o : List TRow), SortR l → finS r (l.foldl (stepS r) (o, false)) = o ++ setR l r
 | [], o, _ => rfl
 | x :: a, o, h => by
  obtain ⟨h1, h2⟩ := List.pairwise_cons.1 h
  rw [List.foldl_cons]
  cases hl : kLt x.key r.key with
  | true =>
   have hx : (x.key == r.key) = false := beq_eq_false_iff_ne.2 (kLt_ne hl)
   have hl' : ltS x.key r.key = true := hl
   have hg : ¬ kLt r.key x.key = true := fun hg => by
    have := kLt_trans hl hg
    rw [kLt_irrefl] at this
    cases this
   have e : stepS r (o, false) x = (o ++ [x], false) := by
    unfold stepS
    rw [hx, hl']
    rfl
   rw [e, foldS_set r a _ h2]
   unfold setR
   rw [List.filter_cons_of_pos (by exact hl), List.filter_cons_of_neg (by exact hg), List.append_assoc]
   rfl
  | false =>
   have hl' : ltS x.key r.key = false := hl
   have ge : ∀ y ∈ a, kLt r.key y.key = true := fun y hy => by
    cases hq : kLt r.key y.key with
    | true => rfl
    | false =>
     by_cases e : y.key = r.key
     ·have := h1 y hy
      rw [e, hl] at this
      cases this
     ·have h3 := bless_total (x := r.key.toList) (y := y.key.toList) hq (fun e' => e (toL_inj e').symm)
      have h4 : kLt x.key r.key = true := kLt_trans (h1 y hy) h3
      rw [hl] at h4
      cases h4
   have lo : (x :: a).filter (fun y => kLt y.key r.key) = [] := List.filter_eq_nil_iff.2 fun y hy => by
    rcases List.mem_cons.1 hy with rfl | hy
    ·rw [hl]; exact Bool.false_ne_true
    ·intro hy'
     have := kLt_trans hy' (ge y hy)
     rw [kLt_irrefl] at this
     cases this
   have ha : a.filter (fun y => kLt r.key y.key) = a := filter_all ge
   have done := foldS_done r a
   cases hx : x.key == r.key with
   | true =>
    have ek := eq_of_beq hx
    have e : stepS r (o, false) x = (o ++ [r], true) := by
     unfold stepS
     rw [hx, hl']
     simp
    rw [e, done _ fun y hy => (kLt_ne (ge y hy)).symm]
    unfold setR
    rw [lo, List.filter_cons_of_neg (by show ¬ kLt r.key x.key = true; rw [ek, kLt_irrefl]; exact Bool.false_ne_true), ha]
    show o ++ [r] ++ a = _
    simp
   | false =>
    have hne : x.key ≠ r.key := by simpa using hx
    have hg : kLt r.key x.key = true := bless_total (x := x.key.toList) (y := r.key.toList) hl fun e' => hne (toL_inj e')
    have e : stepS r (o, false) x = (o ++ [r] ++ [x], true) := by
     unfold stepS
     rw [hx, hl']
     rfl
    rw [e, done _ fun y hy => (kLt_ne (ge y hy)).symm]
    unfold setR
    rw [lo, List.filter_cons_of_pos (by exact hg), ha]
    show o ++ [r] ++ [x] ++ a = _
    simp
theorem set_fin (r : TRow) {l : List TRow} (h : SortR l) : finS r (runS r l l.length) = setR l r := by
 unfold runS
 rw [List.take_length, foldS_set r l [] h, List.nil_append]
end Go.Proofs.Ytnfmceffbnaanaa
namespace Go.Proofs.Ytnfmceffbnaanaa
open Go.RowKit
def r08_Same_0 (a0 : TCell) (a1 : TCell) : Bool := a0.1.1 == a1.1.1 && a0.1.2 == a1.1.2 && (a0.2.1 == a1.2.1 && a0.2.2 == a1.2.2) && a0.3 == a1.3 && a0.4.toList == a1.4.toList && (a0.5.1 == a1.5.1 && a0.5.2 == a1.5.2)
def r08_Same_r (a0 : TCell) (a1 : TCell) : A := .v (.bool (r08_Same_0 a0 a1))
def r08_Same_o (_a0 : TCell) (_a1 : TCell) : Objs := []
def r08_Same_ps (_a0 : TCell) (_a1 : TCell) : List Prop := []
theorem r08_Same_ev (a0 : TCell) (a1 : TCell) : evF (envT Cmr L0) 9 32 [valA .cell a0, valA .cell a1] 0 [] = some (1, r08_Same_r a0 a1, 0, r08_Same_o a0 a1, r08_Same_ps a0 a1) := by kernel_rfl
theorem r08_Same_c (a0 : TCell) (a1 : TCell) (hp : ∀ p ∈ r08_Same_ps a0 a1, p) : CallOk Try.prog 32 [valA .cell a0, valA .cell a1] 0 [] 1 (r08_Same_r a0 a1) 0 (r08_Same_o a0 a1) := evF_ok (envP_ok Cmr_ok L0_ok) (r08_Same_ev a0 a1) hp
def r08_Same_r2 (a0 : TCell) (a1 : TCell) : A := .v (.bool (eqC a0 a1))
def r08_Same_o2 (_a0 : TCell) (_a1 : TCell) : Objs := []
def r08_Same_ps2 (_a0 : TCell) (_a1 : TCell) : List Prop := []
theorem r08_Same_c2 (a0 : TCell) (a1 : TCell) (_hp : ∀ p ∈ r08_Same_ps2 a0 a1, p) : CallOk Try.prog 32 [valA .cell a0, valA .cell a1] 0 [] 1 (r08_Same_r2 a0 a1) 0 (r08_Same_o2 a0 a1) := by
 have h := r08_Same_c a0 a1 (fun _ h => by cases h)
 have e : r08_Same_0 a0 a1 = eqC a0 a1 := by unfold r08_Same_0; rw [tlb]; rfl
 unfold r08_Same_r at h
 rw [e] at h
 exact h
def r08_Same_t : List A → Nat → Objs → Option CRes := rowK [.t .cell, .t .cell] 0 r08_Same_r2 r08_Same_o2 r08_Same_ps2
theorem r08_Same_tok : TOk Try.prog 32 r08_Same_t := rowK_ok (ks := [.t .cell, .t .cell]) r08_Same_c2
noncomputable def Cso5_1 := addC 32 r08_Same_t Cmr
theorem Cso5_1_ok : COk Try.prog Cso5_1 := addC_ok r08_Same_tok Cmr_ok
abbrev r10_Same_l0_X : Type := Int × TRow × TRow
def r10_Same_l0_T (x : r10_Same_l0_X) : St := ⟨39, 2, [(2, .own 0 0), (3, .own 1 0), (5, .v (.int .i64 x.1))], [(0, some (.box 29 [.v (.string x.2.1.key), .sl .cell x.2.1.cells])), (1, some (.box 29 [.v (.string x.2.2.key), .sl .cell x.2.2.cells]))]⟩
def r10_Same_l0_un : St → Option r10_Same_l0_X
 | ⟨39, 2, [(2, .own 0 0), (3, .own 1 0), (5, .v (.int .i64 z0))], [(0, some (.box 29 [.v (.string z1), .sl .cell z2])), (1, some (.box 29 [.v (.string z3), .sl .cell z4]))]⟩ => some (z0, ⟨z1, z2⟩, ⟨z3, z4⟩)
 | _ => none
theorem r10_Same_l0_unok : ∀ s x, r10_Same_l0_un s = some x → s = r10_Same_l0_T x := fun s x h => by
 unfold r10_Same_l0_un at h
 split at h
 ·cases h; rfl
 ·cases h
def r10_Same_l0_S : Shape := ⟨2, 2, [2, 3, 5], [], [(0, 0), (1, 1)], [0, 1], [4], [0, 1]⟩
def r10_Same_l0_E : Entry := ⟨[], [(0, 0), (1, 1)], [2, 3, 5], [0, 1]⟩
def r10_Same_l0_f_k1 (a0 : Int) (a1 : TRow) (_a2 : TRow) : Bool := !!decide (a0 < (↑a1.2.length : Int))
def r10_Same_l0_f_k0 (a0 : Int) (a1 : TRow) (a2 : TRow) : Bool := (r10_Same_l0_f_k1 a0 a1 a2) && !eqC (a1.2.getD a0.toNat (dflt TC.cell)) (a2.2.getD a0.toNat (dflt TC.cell))
def r10_Same_l0_f_3 (a0 : Int) (a1 : TRow) (a2 : TRow) : Bool := (r10_Same_l0_f_k1 a0 a1 a2) && !(r10_Same_l0_f_k0 a0 a1 a2)
def r10_Same_l0_next (x : r10_Same_l0_X) : r10_Same_l0_X := (IntKind.i64.wrap (x.1 + (1 : Int)), x.2.1, x.2.2)
def r10_Same_l0_goes (x : r10_Same_l0_X) : Cnd := some (r10_Same_l0_f_3 x.1 x.2.1 x.2.2)
def r10_Same_l0_psA (x : r10_Same_l0_X) : List Prop := [((r10_Same_l0_f_k1 x.1 x.2.1 x.2.2) = true → (0 : Int) ≤ x.1 ∧ x.1 < (↑x.2.1.2.length : Int)), ((r10_Same_l0_f_k1 x.1 x.2.1 x.2.2) = true → (0 : Int) ≤ x.1 ∧ x.1 < (↑x.2.2.2.length : Int))]
abbrev r10_Same_l0_ps : r10_Same_l0_X → List Prop := r10_Same_l0_psA
def r10_Same_l0_outs (x : r10_Same_l0_X) : Outs := [(some 0, some (!decide (x.1 < (↑x.2.1.2.length : Int))), ⟨39, 2, [(4, .dead)], [(0, some (.box 29 [.v (.string x.2.1.1), .sl .cell x.2.1.2])), (1, some (.box 29 [.v (.string x.2.2.1), .sl .cell x.2.2.2]))]⟩), (none, some ((r10_Same_l0_f_k0 x.1 x.2.1 x.2.2)), ⟨39, 2, [(4, .v (.bool (false)))], [(0, some (.box 29 [.v (.string x.2.1.1), .sl .cell x.2.1.2])), (1, some (.box 29 [.v (.string x.2.2.1), .sl .cell x.2.2.2]))]⟩)]
def r10_Same_l0_fuel (x : r10_Same_l0_X) : Nat := ((↑x.2.1.2.length : Int) - x.1).toNat
def r10_Same_l0_run (x : r10_Same_l0_X) : r10_Same_l0_X := iterX r10_Same_l0_next r10_Same_l0_goes (r10_Same_l0_fuel x) x
theorem r10_Same_l0_ev (a0 : Int) (a1 : TRow) (a2 : TRow) : roundE (envT Cso5_1 L0) 9 (loopAt Try.prog 23 0) r10_Same_l0_S (r10_Same_l0_T (a0, a1, a2)) = some (r10_Same_l0_psA (a0, a1, a2), r10_Same_l0_outs (a0, a1, a2), r10_Same_l0_goes (a0, a1, a2), r10_Same_l0_T (r10_Same_l0_next (a0, a1, a2))) := by kernel_rfl
theorem r10_Same_l0_hA (a0 : Int) (a1 : TRow) (a2 : TRow) (hp : ∀ p ∈ r10_Same_l0_ps (a0, a1, a2), p) : ∀ p ∈ r10_Same_l0_psA (a0, a1, a2), p := hp
noncomputable def r10_Same_l0_row := rowL (envT Cso5_1 L0) (loopAt Try.prog 23 0) r10_Same_l0_S r10_Same_l0_E r10_Same_l0_un r10_Same_l0_fuel r10_Same_l0_next r10_Same_l0_goes r10_Same_l0_ps r10_Same_l0_outs
theorem r10_Same_l0_rok : ∀ s b ps outs, r10_Same_l0_row s = some (b, ps, outs) → Wf s ⟨ps, outs, none⟩ ∧ LoopOk (envT C0 L0) b s ps outs :=
 rowP_ok (T := r10_Same_l0_T) Cso5_1_ok L0_ok (u := 9) (by kernel_rfl) (by decide) (fun ⟨a0, a1, a2⟩ => r10_Same_l0_ev a0 a1 a2) (fun ⟨a0, a1, a2⟩ => r10_Same_l0_hA a0 a1 a2) r10_Same_l0_unok (fun _ => okOuts_ok (n := 39) rfl) fun _ _ => rfl
noncomputable def r10_Same_l0_L := addLp 0 r10_Same_l0_row L0
theorem r10_Same_l0_Lok : LpOk r10_Same_l0_L := addLp_ok r10_Same_l0_rok L0_ok
def r10_Same_k1 (a0 : TRow) (a1 : TRow) : r10_Same_l0_X := r10_Same_l0_run ((0 : Int), a0, a1)
def r10_Same_k0 (a0 : TRow) (a1 : TRow) : Bool := !a0.1.toList == a1.1.toList || (↑a0.2.length : Int) != (↑a1.2.length : Int)
def r10_Same_0 (a0 : TRow) (a1 : TRow) : Bool := bif (r10_Same_k0 a0 a1) then false else bif r10_Same_l0_f_k0 (r10_Same_k1 a0 a1).fst (r10_Same_k1 a0 a1).snd.fst (r10_Same_k1 a0 a1).snd.snd then false else true
def r10_Same_r (a0 : TRow) (a1 : TRow) : A := .v (.bool (r10_Same_0 a0 a1))
def r10_Same_o (_a0 : TRow) (_a1 : TRow) : Objs := []
def r10_Same_ps (a0 : TRow) (a1 : TRow) : List Prop := [((!(r10_Same_k0 a0 a1)) = true → needX r10_Same_l0_next r10_Same_l0_goes r10_Same_l0_ps (r10_Same_l0_fuel ((0 : Int), a0, a1)) ((0 : Int), a0, a1))]
theorem r10_Same_ev (a0 : TRow) (a1 : TRow) : evF (envT Cso5_1 r10_Same_l0_L) 9 23 [valA .row a0, valA .row a1] 0 [] = some (1, r10_Same_r a0 a1, 0, r10_Same_o a0 a1, [((!(r10_Same_k0 a0 a1)) = true → loopAt Try.prog (23 : FuncId) (0 : Nat) = loopAt Try.prog (23 : FuncId) (0 : Nat)), ((!(r10_Same_k0 a0 a1)) = true → needX r10_Same_l0_next r10_Same_l0_goes r10_Same_l0_ps (r10_Same_l0_fuel ((0 : Int), a0, a1)) ((0 : Int), a0, a1))]) := by kernel_rfl
theorem r10_Same_c (a0 : TRow) (a1 : TRow) (hp : ∀ p ∈ r10_Same_ps a0 a1, p) : CallOk Try.prog 23 [valA .row a0, valA .row a1] 0 [] 1 (r10_Same_r a0 a1) 0 (r10_Same_o a0 a1) := by
 have n0 : ((!(r10_Same_k0 a0 a1)) = true → loopAt Try.prog (23 : FuncId) (0 : Nat) = loopAt Try.prog (23 : FuncId) (0 : Nat)) := by intros; rfl
 have n1 := N0 hp
 exact evF_ok (envP_ok Cso5_1_ok r10_Same_l0_Lok) (r10_Same_ev a0 a1) (needs_cons n0 (needs_cons n1 needs_nil))
def r10_Same_r2 (a0 : TRow) (a1 : TRow) : A := .v (.bool (eqRw a0 a1))
def r10_Same_o2 (_a0 : TRow) (_a1 : TRow) : Objs := []
def r10_Same_ps2 (a0 : TRow) (_a1 : TRow) : List Prop := [boundP a0.cells.length]
theorem r10_Same_eq (a b : TRow) (hb : boundP a.cells.length) : (∀ p ∈ r10_Same_ps a b, p) ∧ r10_Same_0 a b = eqRw a b := by
 unfold boundP at hb
 have hk0 : r10_Same_k0 a b = (!(a.key == b.key) || a.cells.length != b.cells.length) := by
  show (!(a.key.toList == b.key.toList) || ((a.cells.length : Int) != (b.cells.length : Int))) = _
  rw [tlb]
  congr 1
  rw [Bool.eq_iff_iff, bne_iff_ne, bne_iff_ne]; omega
 have main : r10_Same_k0 a b = false → needX r10_Same_l0_next r10_Same_l0_goes r10_Same_l0_ps (r10_Same_l0_fuel (0, a, b)) (0, a, b) ∧ r10_Same_l0_f_k0 (r10_Same_k1 a b).fst (r10_Same_k1 a b).snd.fst (r10_Same_k1 a b).snd.snd = !eqCs a.cells b.cells := fun h0 => by
  rw [hk0] at h0
  have hlen : a.cells.length = b.cells.length := by simpa using (Bool.or_eq_false_iff.1 h0).2
  have hf : ∀ i : Nat, r10_Same_l0_f_k0 (i : Int) a b = (decide (i < a.cells.length) && !eqC (a.2.getD i (dflt TC.cell)) (b.2.getD i (dflt TC.cell))) := fun i => by
   unfold r10_Same_l0_f_k0 r10_Same_l0_f_k1
   rw [nn, dlt, Int.toNat_natCast]
  obtain ⟨h1, k, hk, hx, _, _, hb'⟩ := scanB (fun i => (((i : Int), a, b) : r10_Same_l0_X)) a.cells.length (fun i => !eqC (a.2.getD i (dflt TC.cell)) (b.2.getD i (dflt TC.cell))) r10_Same_l0_next r10_Same_l0_goes r10_Same_l0_ps (r10_Same_l0_fuel (0, a, b)) (0, a, b) rfl (by show a.cells.length ≤ ((a.cells.length : Int) - 0).toNat; omega)
   (fun i _ _ => by
    show ((!!decide ((i : Int) < (a.cells.length : Int))) && !r10_Same_l0_f_k0 i a b) = _
    rw [hf, nn, dlt]
    cases decide (i < a.cells.length) <;> rfl)
   (fun i hi _ => by
    show (IntKind.i64.wrap ((i : Int) + 1), a, b) = (((i + 1 : Nat) : Int), a, b)
    rw [wsucc (by omega)])
   (fun i _ _ => by
    have hin : (!!decide ((i : Int) < (a.cells.length : Int))) = true → (i : Int) < (a.cells.length : Int) := fun h => by rw [nn] at h; exact of_decide_eq_true h
    exact needs_cons (fun h => ⟨by show (0 : Int) ≤ (i : Int); omega, hin h⟩) (needs_cons (fun h => ⟨by show (0 : Int) ≤ (i : Int); omega, by have := hin h; show (i : Int) < (b.cells.length : Int); omega⟩) needs_nil))
  refine ⟨h1, ?_⟩
  have hr : r10_Same_k1 a b = ((k : Int), a, b) := hx
  rw [hr]
  show r10_Same_l0_f_k0 (k : Int) a b = _
  rw [hf, hb', eqCs_N _ _ hlen]
  congr 1
  exact allN_congr fun i _ => Bool.not_not _
 refine ⟨needs_cons (fun h => (main (by simpa using h)).1) needs_nil, ?_⟩
 unfold r10_Same_0 eqRw
 cases h0 : r10_Same_k0 a b with
 | true =>
  rw [hk0] at h0
  rw [cond_true]
  cases hk : a.key == b.key with
  | false => rfl
  | true =>
   rw [hk] at h0
   have hne : a.cells.length ≠ b.cells.length := by simpa using h0
   cases he : eqCs a.cells b.cells with
   | false => rfl
   | true => exact absurd (congrArg List.length (eqCs_iff.1 he)) hne
 | false =>
  rw [cond_false, (main h0).2]
  rw [hk0] at h0
  have : (a.key == b.key) = true := by simpa using (Bool.or_eq_false_iff.1 h0).1
  rw [this, Bool.true_and]
  cases eqCs a.cells b.cells <;> rfl
theorem r10_Same_c2 (a0 : TRow) (a1 : TRow) (hp : ∀ p ∈ r10_Same_ps2 a0 a1, p) : CallOk Try.prog 23 [valA .row a0, valA .row a1] 0 [] 1 (r10_Same_r2 a0 a1) 0 (r10_Same_o2 a0 a1) := by
 have hb : boundP a0.cells.length := hp _ (List.mem_cons_self ..)
 have h := r10_Same_c a0 a1 (r10_Same_eq a0 a1 hb).1
 unfold r10_Same_r at h
 rw [(r10_Same_eq a0 a1 hb).2] at h
 exact h
def r10_Same_t : List A → Nat → Objs → Option CRes := rowK [.t .row, .t .row] 0 r10_Same_r2 r10_Same_o2 r10_Same_ps2
theorem r10_Same_tok : TOk Try.prog 23 r10_Same_t := rowK_ok (ks := [.t .row, .t .row]) r10_Same_c2
noncomputable def Cso5_2 := addC 23 r10_Same_t Cso5_1
theorem Cso5_2_ok : COk Try.prog Cso5_2 := addC_ok r10_Same_tok Cso5_1_ok
abbrev r10_All_l0_X : Type := (List TRow) × (List TRow) × Int
def r10_All_l0_T (x : r10_All_l0_X) : St := ⟨27, 0, [(0, .sl .row x.1), (1, .sl .row x.2.1), (5, .v (.int .i64 x.2.2))], []⟩
def r10_All_l0_un : St → Option r10_All_l0_X
 | ⟨27, 0, [(0, .sl .row z0), (1, .sl .row z1), (5, .v (.int .i64 z2))], []⟩ => some (z0, z1, z2)
 | _ => none
theorem r10_All_l0_unok : ∀ s x, r10_All_l0_un s = some x → s = r10_All_l0_T x := fun s x h => by
 unfold r10_All_l0_un at h
 split at h
 ·cases h; rfl
 ·cases h
def r10_All_l0_S : Shape := ⟨0, 0, [0, 1, 5], [], [], [], [4], []⟩
def r10_All_l0_E : Entry := ⟨[], [], [0, 1, 5], []⟩
def r10_All_l0_f_k1 (a0 : List TRow) (_a1 : List TRow) (a2 : Int) : Bool := !!decide (a2 < (↑a0.length : Int))
def r10_All_l0_f_k0 (a0 : List TRow) (a1 : List TRow) (a2 : Int) : Bool := (r10_All_l0_f_k1 a0 a1 a2) && !eqRw (a0.getD a2.toNat (dflt TC.row)) (a1.getD a2.toNat (dflt TC.row))
def r10_All_l0_f_3 (a0 : List TRow) (a1 : List TRow) (a2 : Int) : Bool := (r10_All_l0_f_k1 a0 a1 a2) && !(r10_All_l0_f_k0 a0 a1 a2)
def r10_All_l0_next (x : r10_All_l0_X) : r10_All_l0_X := (x.1, x.2.1, IntKind.i64.wrap (x.2.2 + (1 : Int)))
def r10_All_l0_goes (x : r10_All_l0_X) : Cnd := some (r10_All_l0_f_3 x.1 x.2.1 x.2.2)
def r10_All_l0_psA (x : r10_All_l0_X) : List Prop := [((r10_All_l0_f_k1 x.1 x.2.1 x.2.2) = true → (0 : Int) ≤ x.2.2 ∧ x.2.2 < (↑x.1.length : Int)), ((r10_All_l0_f_k1 x.1 x.2.1 x.2.2) = true → (0 : Int) ≤ x.2.2 ∧ x.2.2 < (↑x.2.1.length : Int)), ((r10_All_l0_f_k1 x.1 x.2.1 x.2.2) = true → boundP (x.1.getD x.2.2.toNat (dflt TC.row)).2.length)]
abbrev r10_All_l0_ps : r10_All_l0_X → List Prop := r10_All_l0_psA
def r10_All_l0_outs (x : r10_All_l0_X) : Outs := [(some 0, some (!decide (x.2.2 < (↑x.1.length : Int))), ⟨27, 0, [(4, .dead)], []⟩), (none, some ((r10_All_l0_f_k0 x.1 x.2.1 x.2.2)), ⟨27, 0, [(4, .v (.bool (false)))], []⟩)]
def r10_All_l0_fuel (x : r10_All_l0_X) : Nat := ((↑x.1.length : Int) - x.2.2).toNat
def r10_All_l0_run (x : r10_All_l0_X) : r10_All_l0_X := iterX r10_All_l0_next r10_All_l0_goes (r10_All_l0_fuel x) x
theorem r10_All_l0_ev (a0 : List TRow) (a1 : List TRow) (a2 : Int) : roundE (envT Cso5_2 L0) 9 (loopAt Try.prog 14 0) r10_All_l0_S (r10_All_l0_T (a0, a1, a2)) = some (r10_All_l0_psA (a0, a1, a2), r10_All_l0_outs (a0, a1, a2), r10_All_l0_goes (a0, a1, a2), r10_All_l0_T (r10_All_l0_next (a0, a1, a2))) := by kernel_rfl
theorem r10_All_l0_hA (a0 : List TRow) (a1 : List TRow) (a2 : Int) (hp : ∀ p ∈ r10_All_l0_ps (a0, a1, a2), p) : ∀ p ∈ r10_All_l0_psA (a0, a1, a2), p := hp
noncomputable def r10_All_l0_row := rowL (envT Cso5_2 L0) (loopAt Try.prog 14 0) r10_All_l0_S r10_All_l0_E r10_All_l0_un r10_All_l0_fuel r10_All_l0_next r10_All_l0_goes r10_All_l0_ps r10_All_l0_outs
theorem r10_All_l0_rok : ∀ s b ps outs, r10_All_l0_row s = some (b, ps, outs) → Wf s ⟨ps, outs, none⟩ ∧ LoopOk (envT C0 L0) b s ps outs :=
 rowP_ok (T := r10_All_l0_T) Cso5_2_ok L0_ok (u := 9) (by kernel_rfl) (by decide) (fun ⟨a0, a1, a2⟩ => r10_All_l0_ev a0 a1 a2) (fun ⟨a0, a1, a2⟩ => r10_All_l0_hA a0 a1 a2) r10_All_l0_unok (fun _ => okOuts_ok (n := 27) rfl) fun _ _ => rfl
noncomputable def r10_All_l0_L := addLp 0 r10_All_l0_row L0
theorem r10_All_l0_Lok : LpOk r10_All_l0_L := addLp_ok r10_All_l0_rok L0_ok
def r10_All_k1 (a0 : List TRow) (a1 : List TRow) : r10_All_l0_X := r10_All_l0_run (a0, a1, (0 : Int))
def r10_All_k0 (a0 : List TRow) (a1 : List TRow) : Bool := (↑a0.length : Int) != (↑a1.length : Int)
def r10_All_0 (a0 : List TRow) (a1 : List TRow) : Bool := bif (r10_All_k0 a0 a1) then false else bif r10_All_l0_f_k0 (r10_All_k1 a0 a1).fst (r10_All_k1 a0 a1).snd.fst (r10_All_k1 a0 a1).snd.snd then false else true
def r10_All_r (a0 : List TRow) (a1 : List TRow) : A := .v (.bool (r10_All_0 a0 a1))
def r10_All_o (_a0 : List TRow) (_a1 : List TRow) : Objs := []
def r10_All_ps (a0 : List TRow) (a1 : List TRow) : List Prop := [((!(r10_All_k0 a0 a1)) = true → needX r10_All_l0_next r10_All_l0_goes r10_All_l0_ps (r10_All_l0_fuel (a0, a1, (0 : Int))) (a0, a1, (0 : Int)))]
theorem r10_All_ev (a0 : List TRow) (a1 : List TRow) : evF (envT Cso5_2 r10_All_l0_L) 9 14 [valA .rows a0, valA .rows a1] 0 [] = some (1, r10_All_r a0 a1, 0, r10_All_o a0 a1, [((!(r10_All_k0 a0 a1)) = true → loopAt Try.prog (14 : FuncId) (0 : Nat) = loopAt Try.prog (14 : FuncId) (0 : Nat)), ((!(r10_All_k0 a0 a1)) = true → needX r10_All_l0_next r10_All_l0_goes r10_All_l0_ps (r10_All_l0_fuel (a0, a1, (0 : Int))) (a0, a1, (0 : Int)))]) := by kernel_rfl
theorem r10_All_c (a0 : List TRow) (a1 : List TRow) (hp : ∀ p ∈ r10_All_ps a0 a1, p) : CallOk Try.prog 14 [valA .rows a0, valA .rows a1] 0 [] 1 (r10_All_r a0 a1) 0 (r10_All_o a0 a1) := by
 have n0 : ((!(r10_All_k0 a0 a1)) = true → loopAt Try.prog (14 : FuncId) (0 : Nat) = loopAt Try.prog (14 : FuncId) (0 : Nat)) := by intros; rfl
 have n1 := N0 hp
 exact evF_ok (envP_ok Cso5_2_ok r10_All_l0_Lok) (r10_All_ev a0 a1) (needs_cons n0 (needs_cons n1 needs_nil))
def eqRs (a b : List TRow) : Bool := a.length == b.length && allN a.length fun i => eqRw (a.getD i (dflt TC.row)) (b.getD i (dflt TC.row))
def r10_All_r2 (a0 : List TRow) (a1 : List TRow) : A := .v (.bool (eqRs a0 a1))
def r10_All_o2 (_a0 : List TRow) (_a1 : List TRow) : Objs := []
def r10_All_ps2 (a0 : List TRow) (_a1 : List TRow) : List Prop := [wideN a0.length, ∀ r ∈ a0, boundP r.cells.length]
theorem r10_All_eq (a b : List TRow) (hl : wideN a.length) (hb : ∀ r ∈ a, boundP r.cells.length) : (∀ p ∈ r10_All_ps a b, p) ∧ r10_All_0 a b = eqRs a b := by
 unfold wideN at hl
 have hk0 : r10_All_k0 a b = (a.length != b.length) := by
  show ((a.length : Int) != (b.length : Int)) = _
  rw [Bool.eq_iff_iff, bne_iff_ne, bne_iff_ne]; omega
 have main : r10_All_k0 a b = false → needX r10_All_l0_next r10_All_l0_goes r10_All_l0_ps (r10_All_l0_fuel (a, b, 0)) (a, b, 0) ∧ r10_All_l0_f_k0 (r10_All_l0_run (a, b, 0)).1 (r10_All_l0_run (a, b, 0)).2.1 (r10_All_l0_run (a, b, 0)).2.2 = !allN a.length fun i => eqRw (a.getD i (dflt TC.row)) (b.getD i (dflt TC.row)) := fun h0 => by
  rw [hk0] at h0
  have hlen : a.length = b.length := by simpa using h0
  have hf : ∀ i : Nat, r10_All_l0_f_k0 a b (i : Int) = (decide (i < a.length) && !eqRw (a.getD i (dflt TC.row)) (b.getD i (dflt TC.row))) := fun i => by
   unfold r10_All_l0_f_k0 r10_All_l0_f_k1
   rw [nn, dlt, Int.toNat_natCast]
  obtain ⟨h1, k, hk, hx, _, _, hb'⟩ := scanB (fun i => ((a, b, (i : Int)) : r10_All_l0_X)) a.length (fun i => !eqRw (a.getD i (dflt TC.row)) (b.getD i (dflt TC.row))) r10_All_l0_next r10_All_l0_goes r10_All_l0_ps (r10_All_l0_fuel (a, b, 0)) (a, b, 0) rfl (by show a.length ≤ ((a.length : Int) - 0).toNat; omega)
   (fun i _ _ => by
    show ((!!decide ((i : Int) < (a.length : Int))) && !r10_All_l0_f_k0 a b (i : Int)) = _
    rw [hf, nn, dlt]
    cases decide (i < a.length) <;> rfl)
   (fun i hi _ => by
    show (a, b, IntKind.i64.wrap ((i : Int) + 1)) = (a, b, ((i + 1 : Nat) : Int))
    rw [wsucc (by omega)])
   (fun i hi _ => by
    have hin : (!!decide ((i : Int) < (a.length : Int))) = true → (i : Int) < (a.length : Int) := fun h => by rw [nn] at h; exact of_decide_eq_true h
    refine needs_cons (fun h => ⟨by show (0 : Int) ≤ (i : Int); omega, hin h⟩) (needs_cons (fun h => ⟨by show (0 : Int) ≤ (i : Int); omega, by have := hin h; show (i : Int) < (b.length : Int); omega⟩) (needs_cons (fun h => ?_) needs_nil))
    have h5 := hin h
    have e : ((i : Int)).toNat = i := Int.toNat_natCast i
    show boundP (a.getD ((i : Int)).toNat (dflt TC.row)).2.length
    rw [e]
    exact hb _ (getD_in a (dflt TC.row) i (by omega)))
  refine ⟨h1, ?_⟩
  have hr : r10_All_l0_run (a, b, 0) = (a, b, (k : Int)) := hx
  rw [hr]
  show r10_All_l0_f_k0 a b (k : Int) = _
  rw [hf, hb']
  congr 1
  exact allN_congr fun i _ => Bool.not_not _
 refine ⟨needs_cons (fun h => (main (by simpa using h)).1) needs_nil, ?_⟩
 unfold r10_All_0 eqRs
 cases h0 : r10_All_k0 a b with
 | true =>
  rw [hk0] at h0
  have e : (a.length == b.length) = false := by simpa using h0
  rw [e]
  rfl
 | false =>
  have h1 := h0
  rw [hk0] at h1
  have e : (a.length == b.length) = true := by simpa using h1
  rw [cond_false, e, Bool.true_and]
  have m := (main h0).2
  show (!r10_All_l0_f_k0 (r10_All_l0_run (a, b, 0)).1 (r10_All_l0_run (a, b, 0)).2.1 (r10_All_l0_run (a, b, 0)).2.2) = _
  rw [m, Bool.not_not]
theorem r10_All_c2 (a0 : List TRow) (a1 : List TRow) (hp : ∀ p ∈ r10_All_ps2 a0 a1, p) : CallOk Try.prog 14 [valA .rows a0, valA .rows a1] 0 [] 1 (r10_All_r2 a0 a1) 0 (r10_All_o2 a0 a1) := by
 have hb : wideN a0.length := hp _ (List.mem_cons_self ..)
 have hc : ∀ r ∈ a0, boundP r.cells.length := hp _ (List.mem_cons_of_mem _ (List.mem_cons_self ..))
 have h := r10_All_c a0 a1 (r10_All_eq a0 a1 hb hc).1
 unfold r10_All_r at h
 rw [(r10_All_eq a0 a1 hb hc).2] at h
 exact h
theorem eqRs_self (a : List TRow) : eqRs a a = true := by
 unfold eqRs
 rw [beq_self_eq_true, Bool.true_and, allN_iff]
 exact fun i _ => eqRw_iff.2 rfl
def r10_All_t : List A → Nat → Objs → Option CRes := rowK [.t .rows, .t .rows] 0 r10_All_r2 r10_All_o2 r10_All_ps2
theorem r10_All_tok : TOk Try.prog 14 r10_All_t := rowK_ok (ks := [.t .rows, .t .rows]) r10_All_c2
noncomputable def Cso5_3 := addC 14 r10_All_t Cso5_2
theorem Cso5_3_ok : COk Try.prog Cso5_3 := addC_ok r10_All_tok Cso5_2_ok
def r10_Copy_1 (a0 : TRow) : List TCell := [] ++ a0.2
def r10_Copy_r (a0 : TRow) : A := .agg [.v (.string a0.1), .sq 0]
def r10_Copy_o (a0 : TRow) : Objs := [(0, some (.arr 64 8 (.ty .cell (r10_Copy_1 a0))))]
def r10_Copy_ps (a0 : TRow) : List Prop := [(boundP ((0 : Nat) + a0.2.length))]
theorem r10_Copy_ev (a0 : TRow) : evF (envT Cso5_3 L0) 9 29 [valA .row a0] 0 [] = some (1, r10_Copy_r a0, 1, r10_Copy_o a0, r10_Copy_ps a0) := by kernel_rfl
theorem r10_Copy_c (a0 : TRow) (hp : ∀ p ∈ r10_Copy_ps a0, p) : CallOk Try.prog 29 [valA .row a0] 0 [] 1 (r10_Copy_r a0) 1 (r10_Copy_o a0) := evF_ok (envP_ok Cso5_3_ok L0_ok) (r10_Copy_ev a0) hp
def r10_Copy_t : List A → Nat → Objs → Option CRes := rowK [.t .row] 1 r10_Copy_r r10_Copy_o r10_Copy_ps
theorem r10_Copy_tok : TOk Try.prog 29 r10_Copy_t := rowK_ok (ks := [.t .row]) r10_Copy_c
noncomputable def Cso5_4 := addC 29 r10_Copy_t Cso5_3
theorem Cso5_4_ok : COk Try.prog Cso5_4 := addC_ok r10_Copy_tok Cso5_3_ok
def r01_Add_0 (a0 : Int) (a1 : Int) (a2 : Int) : Int := bif decide (a0 > a2) || decide (a1 > a2) || decide (a0 > IntKind.i64.wrap (a2 - a1)) then IntKind.i64.wrap (a2 + (1 : Int)) else IntKind.i64.wrap (a0 + a1)
def r01_Add_r (a0 : Int) (a1 : Int) (a2 : Int) : A := .v (.int .i64 (r01_Add_0 a0 a1 a2))
def r01_Add_o (_a0 : Int) (_a1 : Int) (_a2 : Int) : Objs := []
def r01_Add_ps (_a0 : Int) (_a1 : Int) (_a2 : Int) : List Prop := []
theorem r01_Add_ev (a0 : Int) (a1 : Int) (a2 : Int) : evF (envT Cso5_4 L0) 9 15 [valA .i64 a0, valA .i64 a1, valA .i64 a2] 0 [] = some (1, r01_Add_r a0 a1 a2, 0, r01_Add_o a0 a1 a2, r01_Add_ps a0 a1 a2) := by kernel_rfl
theorem r01_Add_c (a0 : Int) (a1 : Int) (a2 : Int) (hp : ∀ p ∈ r01_Add_ps a0 a1 a2, p) : CallOk Try.prog 15 [valA .i64 a0, valA .i64 a1, valA .i64 a2] 0 [] 1 (r01_Add_r a0 a1 a2) 0 (r01_Add_o a0 a1 a2) := evF_ok (envP_ok Cso5_4_ok L0_ok) (r01_Add_ev a0 a1 a2) hp
def r01_Add_t : List A → Nat → Objs → Option CRes := rowK [.t .i64, .t .i64, .t .i64] 0 r01_Add_r r01_Add_o r01_Add_ps
theorem r01_Add_tok : TOk Try.prog 15 r01_Add_t := rowK_ok (ks := [.t .i64, .t .i64, .t .i64]) r01_Add_c
noncomputable def Cso5_5 := addC 15 r01_Add_t Cso5_4
theorem Cso5_5_ok : COk Try.prog Cso5_5 := addC_ok r01_Add_tok Cso5_4_ok
abbrev r11_Get_l0_X : Type := (List TRow) × ByteArray × Int × ByteArray
def r11_Get_l0_T (x : r11_Get_l0_X) : St := ⟨26, 1, [(0, .sl .row x.1), (1, .v (.string x.2.1)), (4, .own 0 0), (6, .v (.int .i64 x.2.2.1))], [(0, some (.box 29 [.v (.string x.2.2.2), .v (.slice none 0 0)]))]⟩
def r11_Get_l0_un : St → Option r11_Get_l0_X
 | ⟨26, 1, [(0, .sl .row z0), (1, .v (.string z1)), (4, .own 0 0), (6, .v (.int .i64 z2))], [(0, some (.box 29 [.v (.string z3), .v (.slice none 0 0)]))]⟩ => some (z0, z1, z2, z3)
 | _ => none
theorem r11_Get_l0_unok : ∀ s x, r11_Get_l0_un s = some x → s = r11_Get_l0_T x := fun s x h => by
 unfold r11_Get_l0_un at h
 split at h
 ·cases h; rfl
 ·cases h
def r11_Get_l0_S : Shape := ⟨1, 1, [0, 1, 4, 6], [], [(0, 0)], [0], [5], [0, 1]⟩
def r11_Get_l0_E : Entry := ⟨[], [(0, 0)], [0, 1, 4, 6], [0]⟩
def r11_Get_l0_f_k1 (a0 : List TRow) (_a1 : ByteArray) (a2 : Int) (_a3 : ByteArray) : Bool := !!decide (a2 < (↑a0.length : Int))
def r11_Get_l0_f_k0 (a0 : List TRow) (a1 : ByteArray) (a2 : Int) (a3 : ByteArray) : Bool := (r11_Get_l0_f_k1 a0 a1 a2 a3) && (a0.getD a2.toNat (dflt TC.row)).1.toList == a1.toList
def r11_Get_l0_f_4 (a0 : List TRow) (a1 : ByteArray) (a2 : Int) (a3 : ByteArray) : Bool := (r11_Get_l0_f_k1 a0 a1 a2 a3) && !(r11_Get_l0_f_k0 a0 a1 a2 a3)
def r11_Get_l0_f_11 (a0 : List TRow) (_a1 : ByteArray) (a2 : Int) (_a3 : ByteArray) : ByteArray := (a0.getD a2.toNat (dflt TC.row)).1
def r11_Get_l0_f_12 (a0 : List TRow) (_a1 : ByteArray) (a2 : Int) (_a3 : ByteArray) : List TCell := r10_Copy_1 (a0.getD a2.toNat (dflt TC.row))
def r11_Get_l0_next (x : r11_Get_l0_X) : r11_Get_l0_X := (x.1, x.2.1, IntKind.i64.wrap (x.2.2.1 + (1 : Int)), x.2.2.2)
def r11_Get_l0_goes (x : r11_Get_l0_X) : Cnd := some (r11_Get_l0_f_4 x.1 x.2.1 x.2.2.1 x.2.2.2)
def r11_Get_l0_psA (x : r11_Get_l0_X) : List Prop := [((r11_Get_l0_f_k1 x.1 x.2.1 x.2.2.1 x.2.2.2) = true → (0 : Int) ≤ x.2.2.1 ∧ x.2.2.1 < (↑x.1.length : Int)), ((r11_Get_l0_f_k1 x.1 x.2.1 x.2.2.1 x.2.2.2) = true → ((x.1.getD x.2.2.1.toNat (dflt TC.row)).1.toList == x.2.1.toList) = true → (0 : Int) ≤ x.2.2.1 ∧ x.2.2.1 < (↑x.1.length : Int)), ((r11_Get_l0_f_k1 x.1 x.2.1 x.2.2.1 x.2.2.2) = true → ((x.1.getD x.2.2.1.toNat (dflt TC.row)).1.toList == x.2.1.toList) = true → boundP ((0 : Nat) + (x.1.getD x.2.2.1.toNat (dflt TC.row)).2.length))]
abbrev r11_Get_l0_ps : r11_Get_l0_X → List Prop := r11_Get_l0_psA
def r11_Get_l0_outs (x : r11_Get_l0_X) : Outs := [(some 0, some (!decide (x.2.2.1 < (↑x.1.length : Int))), ⟨26, 1, [(5, .dead)], [(0, some (.box 29 [.v (.string x.2.2.2), .v (.slice none 0 0)])), (1, none)]⟩), (none, some ((r11_Get_l0_f_k0 x.1 x.2.1 x.2.2.1 x.2.2.2)), ⟨26, 2, [(5, .v (.bool (true)))], [(0, some (.box 29 [.v (.string (r11_Get_l0_f_11 x.1 x.2.1 x.2.2.1 x.2.2.2)), .sq 1])), (1, some (.arr 64 8 (.ty .cell (r11_Get_l0_f_12 x.1 x.2.1 x.2.2.1 x.2.2.2))))]⟩)]
def r11_Get_l0_fuel (x : r11_Get_l0_X) : Nat := ((↑x.1.length : Int) - x.2.2.1).toNat
def r11_Get_l0_run (x : r11_Get_l0_X) : r11_Get_l0_X := iterX r11_Get_l0_next r11_Get_l0_goes (r11_Get_l0_fuel x) x
theorem r11_Get_l0_ev (a0 : List TRow) (a1 : ByteArray) (a2 : Int) (a3 : ByteArray) : roundE (envT Cso5_5 L0) 9 (loopAt Try.prog 22 0) r11_Get_l0_S (r11_Get_l0_T (a0, a1, a2, a3)) = some (r11_Get_l0_psA (a0, a1, a2, a3), r11_Get_l0_outs (a0, a1, a2, a3), r11_Get_l0_goes (a0, a1, a2, a3), r11_Get_l0_T (r11_Get_l0_next (a0, a1, a2, a3))) := by kernel_rfl
theorem r11_Get_l0_hA (a0 : List TRow) (a1 : ByteArray) (a2 : Int) (a3 : ByteArray) (hp : ∀ p ∈ r11_Get_l0_ps (a0, a1, a2, a3), p) : ∀ p ∈ r11_Get_l0_psA (a0, a1, a2, a3), p := hp
noncomputable def r11_Get_l0_row := rowL (envT Cso5_5 L0) (loopAt Try.prog 22 0) r11_Get_l0_S r11_Get_l0_E r11_Get_l0_un r11_Get_l0_fuel r11_Get_l0_next r11_Get_l0_goes r11_Get_l0_ps r11_Get_l0_outs
theorem r11_Get_l0_rok : ∀ s b ps outs, r11_Get_l0_row s = some (b, ps, outs) → Wf s ⟨ps, outs, none⟩ ∧ LoopOk (envT C0 L0) b s ps outs :=
 rowP_ok (T := r11_Get_l0_T) Cso5_5_ok L0_ok (u := 9) (by kernel_rfl) (by decide) (fun ⟨a0, a1, a2, a3⟩ => r11_Get_l0_ev a0 a1 a2 a3) (fun ⟨a0, a1, a2, a3⟩ => r11_Get_l0_hA a0 a1 a2 a3) r11_Get_l0_unok (fun _ => okOuts_ok (n := 26) rfl) fun _ _ => rfl
noncomputable def r11_Get_l0_L := addLp 0 r11_Get_l0_row L0
theorem r11_Get_l0_Lok : LpOk r11_Get_l0_L := addLp_ok r11_Get_l0_rok L0_ok
def r11_Get_k4 (a0 : List TRow) (a1 : ByteArray) : List TRow := (r11_Get_l0_run (a0, a1, (0 : Int), ByteArray.mk #[])).fst
def r11_Get_k3 (a0 : List TRow) (a1 : ByteArray) : ByteArray := (r11_Get_l0_run (a0, a1, (0 : Int), ByteArray.mk #[])).snd.fst
def r11_Get_k2 (a0 : List TRow) (a1 : ByteArray) : ByteArray := (r11_Get_l0_run (a0, a1, (0 : Int), ByteArray.mk #[])).snd.snd.snd
def r11_Get_k1 (a0 : List TRow) (a1 : ByteArray) : Int := (r11_Get_l0_run (a0, a1, (0 : Int), ByteArray.mk #[])).snd.snd.fst
def r11_Get_k0 (a0 : List TRow) (a1 : ByteArray) : Bool := r11_Get_l0_f_k0 (r11_Get_k4 a0 a1) (r11_Get_k3 a0 a1) (r11_Get_k1 a0 a1) (r11_Get_k2 a0 a1)
def r11_Get_0 (a0 : List TRow) (a1 : ByteArray) : ByteArray := bif (r11_Get_k0 a0 a1) then r11_Get_l0_f_11 (r11_Get_k4 a0 a1) (r11_Get_k3 a0 a1) (r11_Get_k1 a0 a1) (r11_Get_k2 a0 a1) else ByteArray.mk #[]
def r11_Get_1 (a0 : List TRow) (a1 : ByteArray) : Bool := bif (r11_Get_k0 a0 a1) then true else false
def r11_Get_2 (a0 : List TRow) (a1 : ByteArray) : List TCell := bif (r11_Get_k0 a0 a1) then r11_Get_l0_f_12 (r11_Get_k4 a0 a1) (r11_Get_k3 a0 a1) (r11_Get_k1 a0 a1) (r11_Get_k2 a0 a1) else []
def r11_Get_r (a0 : List TRow) (a1 : ByteArray) : A := .tup [.agg [.v (.string (r11_Get_0 a0 a1)), .sq 0], .v (.bool (r11_Get_1 a0 a1))]
def r11_Get_o (a0 : List TRow) (a1 : ByteArray) : Objs := [(0, some (.arr 64 8 (.ty .cell (r11_Get_2 a0 a1))))]
def r11_Get_ps (a0 : List TRow) (a1 : ByteArray) : List Prop := [(needX r11_Get_l0_next r11_Get_l0_goes r11_Get_l0_ps (r11_Get_l0_fuel (a0, a1, (0 : Int), ByteArray.mk #[])) (a0, a1, (0 : Int), ByteArray.mk #[]))]
theorem r11_Get_ev (a0 : List TRow) (a1 : ByteArray) : evF (envT Cso5_5 r11_Get_l0_L) 9 22 [valA .rows a0, valA .str a1] 0 [] = some (1, r11_Get_r a0 a1, 1, r11_Get_o a0 a1, [(loopAt Try.prog (22 : FuncId) (0 : Nat) = loopAt Try.prog (22 : FuncId) (0 : Nat)), (needX r11_Get_l0_next r11_Get_l0_goes r11_Get_l0_ps (r11_Get_l0_fuel (a0, a1, (0 : Int), ByteArray.mk #[])) (a0, a1, (0 : Int), ByteArray.mk #[]))]) := by kernel_rfl
theorem r11_Get_c (a0 : List TRow) (a1 : ByteArray) (hp : ∀ p ∈ r11_Get_ps a0 a1, p) : CallOk Try.prog 22 [valA .rows a0, valA .str a1] 0 [] 1 (r11_Get_r a0 a1) 1 (r11_Get_o a0 a1) := by
 have n1 := N0 hp
 exact evF_ok (envP_ok Cso5_5_ok r11_Get_l0_Lok) (r11_Get_ev a0 a1) (needs_cons rfl (needs_cons n1 needs_nil))
def r11_Get_r2 (a0 : List TRow) (a1 : ByteArray) : A := .tup [.agg [.v (.string (bif hasR a0 a1 then a1 else ByteArray.mk #[])), .sq 0], .v (.bool (hasR a0 a1))]
def r11_Get_o2 (a0 : List TRow) (a1 : ByteArray) : Objs := [(0, some (.arr 64 8 (.ty .cell (cellsR a0 a1))))]
def r11_Get_ps2 (a0 : List TRow) (_a1 : ByteArray) : List Prop := [ScanP a0]
theorem atR_scan (key : ByteArray) : ∀ (l : List TRow) (k : Nat), k ≤ l.length → (∀ j, j < k → ((rowN l j).key == key) = false) → (k < l.length → ((rowN l k).key == key) = true) → hasR l key = decide (k < l.length) ∧ cellsR l key = (if k < l.length then (rowN l k).cells else [])
 | [], k, _, _, _ => ⟨rfl, rfl⟩
 | x :: a, 0, _, _, h => by
  have h2 : (x.key == key) = true := h (Nat.zero_lt_succ _)
  refine ⟨?_, ?_⟩
  ·unfold hasR
   rw [List.any_cons, h2]
   rfl
  ·show (bif (x.key == key) then x.cells else cellsR a key) = _
   rw [h2, if_pos (show 0 < (x :: a).length from Nat.zero_lt_succ _)]
   rfl
 | x :: a, k + 1, hk, h0, h => by
  have h2 : (x.key == key) = false := h0 0 (Nat.zero_lt_succ _)
  obtain ⟨g1, g2⟩ := atR_scan key a k (Nat.le_of_succ_le_succ hk) (fun j hj => h0 (j + 1) (Nat.succ_lt_succ hj)) (fun hk => h (Nat.succ_lt_succ hk))
  refine ⟨?_, ?_⟩
  ·have : hasR (x :: a) key = hasR a key := by unfold hasR; rw [List.any_cons, h2]; rfl
   rw [this, g1]
   by_cases hl : k < a.length
   ·rw [decide_eq_true hl, decide_eq_true (show k + 1 < (x :: a).length from Nat.succ_lt_succ hl)]
   ·rw [decide_eq_false hl, decide_eq_false (show ¬ k + 1 < (x :: a).length from fun h => hl (Nat.lt_of_succ_lt_succ h))]
  ·show (bif (x.key == key) then x.cells else cellsR a key) = _
   rw [h2]
   show cellsR a key = _
   rw [g2]
   by_cases hl : k < a.length
   ·rw [if_pos hl, if_pos (show k + 1 < (x :: a).length from Nat.succ_lt_succ hl)]
    rfl
   ·rw [if_neg hl, if_neg (show ¬ k + 1 < (x :: a).length from fun h => hl (Nat.lt_of_succ_lt_succ h))]
theorem r11g_eq (rows : List TRow) (key : ByteArray) (hb : wideN rows.length) (hc : ∀ r ∈ rows, boundP r.cells.length) : (∀ p ∈ r11_Get_ps rows key, p) ∧ r11_Get_0 rows key = (bif hasR rows key then key else ByteArray.mk #[]) ∧ r11_Get_1 rows key = hasR rows key ∧ r11_Get_2 rows key = cellsR rows key := by
 unfold wideN at hb
 have hk0 : ∀ i : Nat, r11_Get_l0_f_k0 rows key (i : Int) ⟨#[]⟩ = (decide (i < rows.length) && ((rowN rows i).key == key)) := fun i => by
  unfold r11_Get_l0_f_k0 r11_Get_l0_f_k1
  rw [nn, dlt, tlb, Int.toNat_natCast]
  rfl
 obtain ⟨h1, k, hk, hx, hs, hst, _⟩ := scanB (fun i => ((rows, key, (i : Int), ⟨#[]⟩) : r11_Get_l0_X)) rows.length (fun i => (rowN rows i).key == key) r11_Get_l0_next r11_Get_l0_goes r11_Get_l0_ps (r11_Get_l0_fuel (rows, key, 0, ⟨#[]⟩)) (rows, key, 0, ⟨#[]⟩) rfl (by show rows.length ≤ ((rows.length : Int) - 0).toNat; omega)
  (fun i _ _ => by
   show ((!!decide ((i : Int) < (rows.length : Int))) && !r11_Get_l0_f_k0 rows key (i : Int) ⟨#[]⟩) = _
   rw [hk0, nn, dlt]
   cases decide (i < rows.length) <;> rfl)
  (fun i hi _ => by
   show (rows, key, IntKind.i64.wrap ((i : Int) + 1), (⟨#[]⟩ : ByteArray)) = (rows, key, ((i + 1 : Nat) : Int), ⟨#[]⟩)
   rw [wsucc (by omega)])
  (fun i hi _ => by
   have hin : (!!decide ((i : Int) < (rows.length : Int))) = true → (i : Int) < (rows.length : Int) := fun h => by rw [nn] at h; exact of_decide_eq_true h
   refine needs_cons (fun h => ⟨by show (0 : Int) ≤ (i : Int); omega, hin h⟩) (needs_cons (fun h _ => ⟨by show (0 : Int) ≤ (i : Int); omega, hin h⟩) (needs_cons (fun h _ => ?_) needs_nil))
   have h2 := hin h
   show boundP (0 + (rows.getD ((i : Int)).toNat (dflt TC.row)).2.length)
   rw [Int.toNat_natCast, Nat.zero_add]
   exact hc _ (getD_in rows (dflt TC.row) i (by omega)))
 have hr : r11_Get_l0_run (rows, key, 0, ⟨#[]⟩) = (rows, key, (k : Int), ⟨#[]⟩) := hx
 obtain ⟨hat1, hat2⟩ := atR_scan key rows k hk hs hst
 refine ⟨needs_cons h1 needs_nil, ?_⟩
 have e0 : r11_Get_k0 rows key = decide (k < rows.length) := by
  unfold r11_Get_k0 r11_Get_k4 r11_Get_k3 r11_Get_k1 r11_Get_k2
  rw [hr]
  show r11_Get_l0_f_k0 rows key (k : Int) ⟨#[]⟩ = _
  rw [hk0]
  rcases Nat.lt_or_ge k rows.length with h | h
  ·have h2 : ((rowN rows k).key == key) = true := hst h
   rw [decide_eq_true h, h2]
   rfl
  ·rw [decide_eq_false (by omega)]
   rfl
 unfold r11_Get_0 r11_Get_1 r11_Get_2
 rw [e0, hat1, hat2]
 unfold r11_Get_k4 r11_Get_k3 r11_Get_k1 r11_Get_k2
 rw [hr]
 by_cases h : k < rows.length
 ·rw [decide_eq_true h, if_pos h]
  show r11_Get_l0_f_11 rows key (k : Int) ⟨#[]⟩ = key ∧ true = true ∧ r11_Get_l0_f_12 rows key (k : Int) ⟨#[]⟩ = _
  unfold r11_Get_l0_f_11 r11_Get_l0_f_12
  rw [Int.toNat_natCast]
  exact ⟨eq_of_beq (hst h), rfl, rfl⟩
 ·rw [decide_eq_false h, if_neg h]
  exact ⟨rfl, rfl, rfl⟩
theorem r11_Get_c2 (a0 : List TRow) (a1 : ByteArray) (hp : ∀ p ∈ r11_Get_ps2 a0 a1, p) : CallOk Try.prog 22 [valA .rows a0, valA .str a1] 0 [] 1 (r11_Get_r2 a0 a1) 1 (r11_Get_o2 a0 a1) := by
 obtain ⟨h1, h2⟩ := hp _ (List.mem_cons_self ..)
 obtain ⟨g1, e1, e2, e3⟩ := r11g_eq a0 a1 (by unfold boundP at h1; unfold wideN; omega) h2
 have h := r11_Get_c a0 a1 g1
 unfold r11_Get_r r11_Get_o at h
 rw [e1, e2, e3] at h
 exact h
def r11_Get_t : List A → Nat → Objs → Option CRes := rowK [.t .rows, .t .str] 1 r11_Get_r2 r11_Get_o2 r11_Get_ps2
theorem r11_Get_tok : TOk Try.prog 22 r11_Get_t := rowK_ok (ks := [.t .rows, .t .str]) r11_Get_c2
noncomputable def Cso5_6 := addC 22 r11_Get_t Cso5_5
theorem Cso5_6_ok : COk Try.prog Cso5_6 := addC_ok r11_Get_tok Cso5_5_ok
abbrev r11_Set_l0_X : Type := (List TRow) × Bool × Int × TRow × (List TRow)
def r11_Set_l0_T (x : r11_Set_l0_X) : St := ⟨54, 3, [(0, .sl .row x.1), (3, .own 0 0), (5, .sq 2), (6, .v (.bool x.2.1)), (7, .v (.int .i64 x.2.2.1))], [(0, some (.box 29 [.v (.string x.2.2.2.1.key), .sl .cell x.2.2.2.1.cells])), (2, some (.arr 29 2 (.ty .row x.2.2.2.2)))]⟩
def r11_Set_l0_un : St → Option r11_Set_l0_X
 | ⟨54, 3, [(0, .sl .row z0), (3, .own 0 0), (5, .sq 2), (6, .v (.bool z1)), (7, .v (.int .i64 z2))], [(0, some (.box 29 [.v (.string z3), .sl .cell z4])), (2, some (.arr 29 2 (.ty .row z5)))]⟩ => some (z0, z1, z2, ⟨z3, z4⟩, z5)
 | _ => none
theorem r11_Set_l0_unok : ∀ s x, r11_Set_l0_un s = some x → s = r11_Set_l0_T x := fun s x h => by
 unfold r11_Set_l0_un at h
 split at h
 ·cases h; rfl
 ·cases h
def r11_Set_l0_S : Shape := ⟨2, 3, [0, 3, 5, 6, 7], [], [(0, 0), (9, 2)], [0, 9], [5, 6], [2, 0]⟩
def r11_Set_l0_E : Entry := ⟨[.nil 5 29 .row], [(0, 0), (1, 2)], [0, 3, 5, 6, 7], [0, 1]⟩
def r11_Set_l0_f_k2 (a0 : List TRow) (_a1 : Bool) (a2 : Int) (_a3 : TRow) (_a4 : List TRow) : Bool := !!decide (a2 < (↑a0.length : Int))
def r11_Set_l0_f_k1 (a0 : List TRow) (a1 : Bool) (a2 : Int) (a3 : TRow) (_a4 : List TRow) : Bool := !(a0.getD a2.toNat (dflt TC.row)).1.toList == (bif !a1 && !Op.bytesLess (a0.getD a2.toNat (dflt TC.row)).1.toList a3.1.toList then a3.1 else a3.1).toList
def r11_Set_l0_f_k0 (a0 : List TRow) (a1 : Bool) (a2 : Int) (a3 : TRow) (a4 : List TRow) : List TRow := bif !a1 && !Op.bytesLess (a0.getD a2.toNat (dflt TC.row)).1.toList a3.1.toList then a4 ++ [TRow.mk a3.1 (r10_Copy_1 a3)] else a4
def r11_Set_l0_f_1 (a0 : List TRow) (a1 : Bool) (a2 : Int) (a3 : TRow) (_a4 : List TRow) : Bool := bif !a1 && !Op.bytesLess (a0.getD a2.toNat (dflt TC.row)).1.toList a3.1.toList then true else a1
def r11_Set_l0_f_3 (a0 : List TRow) (a1 : Bool) (a2 : Int) (a3 : TRow) (_a4 : List TRow) : TRow := TRow.mk (bif !a1 && !Op.bytesLess (a0.getD a2.toNat (dflt TC.row)).1.toList a3.1.toList then a3.1 else a3.1) (bif !a1 && !Op.bytesLess (a0.getD a2.toNat (dflt TC.row)).1.toList a3.1.toList then a3.2 else a3.2)
def r11_Set_l0_f_4 (a0 : List TRow) (a1 : Bool) (a2 : Int) (a3 : TRow) (a4 : List TRow) : List TRow := bif (r11_Set_l0_f_k1 a0 a1 a2 a3 a4) then (r11_Set_l0_f_k0 a0 a1 a2 a3 a4) ++ [a0.getD a2.toNat (dflt TC.row)] else (r11_Set_l0_f_k0 a0 a1 a2 a3 a4)
def r11_Set_l0_next (x : r11_Set_l0_X) : r11_Set_l0_X := (x.1, r11_Set_l0_f_1 x.1 x.2.1 x.2.2.1 x.2.2.2.1 x.2.2.2.2, IntKind.i64.wrap (x.2.2.1 + (1 : Int)), r11_Set_l0_f_3 x.1 x.2.1 x.2.2.1 x.2.2.2.1 x.2.2.2.2, r11_Set_l0_f_4 x.1 x.2.1 x.2.2.1 x.2.2.2.1 x.2.2.2.2)
def r11_Set_l0_goes (x : r11_Set_l0_X) : Cnd := some ((r11_Set_l0_f_k2 x.1 x.2.1 x.2.2.1 x.2.2.2.1 x.2.2.2.2))
def r11_Set_l0_psA (x : r11_Set_l0_X) : List Prop := [((r11_Set_l0_f_k2 x.1 x.2.1 x.2.2.1 x.2.2.2.1 x.2.2.2.2) = true → (!x.2.1) = true → (0 : Int) ≤ x.2.2.1 ∧ x.2.2.1 < (↑x.1.length : Int)), ((r11_Set_l0_f_k2 x.1 x.2.1 x.2.2.1 x.2.2.2.1 x.2.2.2.2) = true → (!x.2.1 && !Op.bytesLess (x.1.getD x.2.2.1.toNat (dflt TC.row)).1.toList x.2.2.2.1.1.toList) = true → boundP ((0 : Nat) + x.2.2.2.1.2.length)), ((r11_Set_l0_f_k2 x.1 x.2.1 x.2.2.1 x.2.2.2.1 x.2.2.2.2) = true → (!x.2.1 && !Op.bytesLess (x.1.getD x.2.2.1.toNat (dflt TC.row)).1.toList x.2.2.2.1.1.toList) = true → boundP (x.2.2.2.2.length + (1 : Nat))), ((r11_Set_l0_f_k2 x.1 x.2.1 x.2.2.1 x.2.2.2.1 x.2.2.2.2) = true → (0 : Int) ≤ x.2.2.1 ∧ x.2.2.1 < (↑x.1.length : Int)), ((r11_Set_l0_f_k2 x.1 x.2.1 x.2.2.1 x.2.2.2.1 x.2.2.2.2) = true → (r11_Set_l0_f_k1 x.1 x.2.1 x.2.2.1 x.2.2.2.1 x.2.2.2.2) = true → (0 : Int) ≤ x.2.2.1 ∧ x.2.2.1 < (↑x.1.length : Int)), ((r11_Set_l0_f_k2 x.1 x.2.1 x.2.2.1 x.2.2.2.1 x.2.2.2.2) = true → (r11_Set_l0_f_k1 x.1 x.2.1 x.2.2.1 x.2.2.2.1 x.2.2.2.2) = true → boundP ((r11_Set_l0_f_k0 x.1 x.2.1 x.2.2.1 x.2.2.2.1 x.2.2.2.2).length + (1 : Nat)))]
abbrev r11_Set_l0_ps : r11_Set_l0_X → List Prop := r11_Set_l0_psA
def r11_Set_l0_outs (x : r11_Set_l0_X) : Outs := [(some 0, some (!decide (x.2.2.1 < (↑x.1.length : Int))), ⟨54, 3, [(5, .sq 2), (6, .v (.bool x.2.1))], [(2, some (.arr 29 2 (.ty .row x.2.2.2.2))), (0, some (.box 29 [.v (.string x.2.2.2.1.1), .sl .cell x.2.2.2.1.2]))]⟩)]
def r11_Set_l0_fuel (x : r11_Set_l0_X) : Nat := ((↑x.1.length : Int) - x.2.2.1).toNat
def r11_Set_l0_run (x : r11_Set_l0_X) : r11_Set_l0_X := iterX r11_Set_l0_next r11_Set_l0_goes (r11_Set_l0_fuel x) x
theorem r11_Set_l0_ev (a0 : List TRow) (a1 : Bool) (a2 : Int) (a3 : TRow) (a4 : List TRow) : roundE (envT Cso5_6 L0) 9 (loopAt Try.prog 18 0) r11_Set_l0_S (r11_Set_l0_T (a0, a1, a2, a3, a4)) = some (r11_Set_l0_psA (a0, a1, a2, a3, a4), r11_Set_l0_outs (a0, a1, a2, a3, a4), r11_Set_l0_goes (a0, a1, a2, a3, a4), r11_Set_l0_T (r11_Set_l0_next (a0, a1, a2, a3, a4))) := by kernel_rfl
theorem r11_Set_l0_hA (a0 : List TRow) (a1 : Bool) (a2 : Int) (a3 : TRow) (a4 : List TRow) (hp : ∀ p ∈ r11_Set_l0_ps (a0, a1, a2, a3, a4), p) : ∀ p ∈ r11_Set_l0_psA (a0, a1, a2, a3, a4), p := hp
noncomputable def r11_Set_l0_row := rowL (envT Cso5_6 L0) (loopAt Try.prog 18 0) r11_Set_l0_S r11_Set_l0_E r11_Set_l0_un r11_Set_l0_fuel r11_Set_l0_next r11_Set_l0_goes r11_Set_l0_ps r11_Set_l0_outs
theorem r11_Set_l0_rok : ∀ s b ps outs, r11_Set_l0_row s = some (b, ps, outs) → Wf s ⟨ps, outs, none⟩ ∧ LoopOk (envT C0 L0) b s ps outs :=
 rowP_ok (T := r11_Set_l0_T) Cso5_6_ok L0_ok (u := 9) (by kernel_rfl) (by decide) (fun ⟨a0, a1, a2, a3, a4⟩ => r11_Set_l0_ev a0 a1 a2 a3 a4) (fun ⟨a0, a1, a2, a3, a4⟩ => r11_Set_l0_hA a0 a1 a2 a3 a4) r11_Set_l0_unok (fun _ => okOuts_ok (n := 54) rfl) fun _ _ => rfl
noncomputable def r11_Set_l0_L := addLp 0 r11_Set_l0_row L0
theorem r11_Set_l0_Lok : LpOk r11_Set_l0_L := addLp_ok r11_Set_l0_rok L0_ok
def r11_Set_k1 (a0 : List TRow) (a1 : TRow) : Bool := !(r11_Set_l0_run (a0, false, (0 : Int), a1, [])).snd.fst
def r11_Set_k0 (a0 : List TRow) (a1 : TRow) : List TRow := (r11_Set_l0_run (a0, false, (0 : Int), a1, [])).snd.snd.snd.snd
def r11_Set_0 (a0 : List TRow) (a1 : TRow) : List TRow := bif (r11_Set_k1 a0 a1) then (r11_Set_k0 a0 a1) ++ [TRow.mk (r11_Set_l0_run (a0, false, (0 : Int), a1, [])).snd.snd.snd.fst.1 (r10_Copy_1 (r11_Set_l0_run (a0, false, (0 : Int), a1, [])).snd.snd.snd.fst)] else (r11_Set_k0 a0 a1)
def r11_Set_r (_a0 : List TRow) (_a1 : TRow) : A := .sq 0
def r11_Set_o (a0 : List TRow) (a1 : TRow) : Objs := [(0, some (.arr 29 2 (.ty .row (r11_Set_0 a0 a1))))]
def r11_Set_ps (a0 : List TRow) (a1 : TRow) : List Prop := [(needX r11_Set_l0_next r11_Set_l0_goes r11_Set_l0_ps (r11_Set_l0_fuel (a0, false, (0 : Int), a1, [])) (a0, false, (0 : Int), a1, [])), ((r11_Set_k1 a0 a1) = true → boundP ((0 : Nat) + (r11_Set_l0_run (a0, false, (0 : Int), a1, [])).snd.snd.snd.fst.2.length)), ((r11_Set_k1 a0 a1) = true → boundP ((r11_Set_k0 a0 a1).length + (1 : Nat)))]
theorem r11_Set_ev (a0 : List TRow) (a1 : TRow) : evF (envT Cso5_6 r11_Set_l0_L) 9 18 [valA .rows a0, valA .row a1] 0 [] = some (1, r11_Set_r a0 a1, 1, r11_Set_o a0 a1, [(loopAt Try.prog (18 : FuncId) (0 : Nat) = loopAt Try.prog (18 : FuncId) (0 : Nat)), (needX r11_Set_l0_next r11_Set_l0_goes r11_Set_l0_ps (r11_Set_l0_fuel (a0, false, (0 : Int), a1, [])) (a0, false, (0 : Int), a1, [])), ((r11_Set_k1 a0 a1) = true → boundP ((0 : Nat) + (r11_Set_l0_run (a0, false, (0 : Int), a1, [])).snd.snd.snd.fst.2.length)), ((r11_Set_k1 a0 a1) = true → boundP ((r11_Set_k0 a0 a1).length + (1 : Nat)))]) := by kernel_rfl
theorem r11_Set_c (a0 : List TRow) (a1 : TRow) (hp : ∀ p ∈ r11_Set_ps a0 a1, p) : CallOk Try.prog 18 [valA .rows a0, valA .row a1] 0 [] 1 (r11_Set_r a0 a1) 1 (r11_Set_o a0 a1) := by
 have n1 := N0 hp
 have n2 := N0 (N1 hp)
 have n3 := N0 (N1 (N1 hp))
 exact evF_ok (envP_ok Cso5_6_ok r11_Set_l0_Lok) (r11_Set_ev a0 a1) (needs_cons rfl (needs_cons n1 (needs_cons n2 (needs_cons n3 needs_nil))))
def r11_Set_r2 (a0 : List TRow) (a1 : TRow) : A := .sl .row (setR a0 a1)
def r11_Set_o2 (_a0 : List TRow) (_a1 : TRow) : Objs := []
def r11_Set_ps2 (a0 : List TRow) (a1 : TRow) : List Prop := [a0.length ≤ 400000 ∧ boundP a1.cells.length ∧ SortR a0]
theorem r11s_eq (rows : List TRow) (r : TRow) (hb : rows.length ≤ 400000) (hc : boundP r.cells.length) (hs : SortR rows) : (∀ p ∈ r11_Set_ps rows r, p) ∧ r11_Set_0 rows r = setR rows r := by
 have hlt : ∀ i : Nat, Op.bytesLess (rows.getD ((i : Int)).toNat (dflt TC.row)).1.toList r.1.toList = ltS (rowN rows i).key r.key := fun i => by rw [Int.toNat_natCast]; rfl
 have same : ∀ (c : Bool) (x : ByteArray), (bif c then x else x) = x := fun c x => by cases c <;> rfl
 have hcp : r10_Copy_1 r = r.2 := rfl
 have e1 : ∀ (i : Nat) (d : Bool) (o : List TRow), r11_Set_l0_f_1 rows d (i : Int) r o = (d || !ltS (rowN rows i).key r.key) := fun i d o => by
  unfold r11_Set_l0_f_1
  rw [hlt]
  cases d <;> cases ltS (rowN rows i).key r.key <;> rfl
 have e3 : ∀ (i : Nat) (d : Bool) (o : List TRow), r11_Set_l0_f_3 rows d (i : Int) r o = r := fun i d o => by
  unfold r11_Set_l0_f_3
  rw [hlt]
  cases (!d && !ltS (rowN rows i).key r.key) <;> rfl
 have ek0 : ∀ (i : Nat) (d : Bool) (o : List TRow), r11_Set_l0_f_k0 rows d (i : Int) r o = bif !d && !ltS (rowN rows i).key r.key then o ++ [r] else o := fun i d o => by
  unfold r11_Set_l0_f_k0
  rw [hlt]
  rfl
 have ek1 : ∀ (i : Nat) (d : Bool) (o : List TRow), r11_Set_l0_f_k1 rows d (i : Int) r o = !((rowN rows i).key == r.key) := fun i d o => by
  unfold r11_Set_l0_f_k1
  rw [same, tlb, Int.toNat_natCast]
  rfl
 have e4 : ∀ (i : Nat) (d : Bool) (o : List TRow), r11_Set_l0_f_4 rows d (i : Int) r o = (bif !d && !ltS (rowN rows i).key r.key then o ++ [r] else o) ++ (bif (rowN rows i).key == r.key then [] else [rowN rows i]) := fun i d o => by
  unfold r11_Set_l0_f_4
  rw [ek0, ek1, Int.toNat_natCast]
  cases (rowN rows i).key == r.key with
  | true => exact (List.append_nil _).symm
  | false => rfl
 have k0len : ∀ (i : Nat) (d : Bool) (o : List TRow), (r11_Set_l0_f_k0 rows d (i : Int) r o).length ≤ o.length + 1 := fun i d o => by
  rw [ek0]
  cases (!d && !ltS (rowN rows i).key r.key) with
  | true => rw [cond_true, List.length_append]; exact Nat.le_refl _
  | false => exact Nat.le_succ _
 obtain ⟨h1, hx⟩ := scanAll (fun i => ((rows, (runS r rows i).2, (i : Int), r, (runS r rows i).1) : r11_Set_l0_X)) rows.length r11_Set_l0_next r11_Set_l0_goes r11_Set_l0_ps (r11_Set_l0_fuel (rows, false, 0, r, [])) (rows, false, 0, r, []) rfl (by show rows.length ≤ ((rows.length : Int) - 0).toNat; omega)
  (fun i _ => by
   show (!!decide ((i : Int) < (rows.length : Int))) = _
   rw [nn, dlt])
  (fun i hi => by
   show (rows, r11_Set_l0_f_1 rows (runS r rows i).2 (i : Int) r (runS r rows i).1, IntKind.i64.wrap ((i : Int) + 1), r11_Set_l0_f_3 rows (runS r rows i).2 (i : Int) r (runS r rows i).1, r11_Set_l0_f_4 rows (runS r rows i).2 (i : Int) r (runS r rows i).1) = (rows, (runS r rows (i + 1)).2, ((i + 1 : Nat) : Int), r, (runS r rows (i + 1)).1)
   rw [wsucc (by omega), e1, e3, e4, runS_succ r rows i hi]
   rfl)
  (fun i hi => by
   have hin : (!!decide ((i : Int) < (rows.length : Int))) = true → (i : Int) < (rows.length : Int) := fun h => by rw [nn] at h; exact of_decide_eq_true h
   have hl := runS_len r rows i hi
   refine needs_cons (fun h _ => ⟨by show (0 : Int) ≤ (i : Int); omega, hin h⟩) (needs_cons (fun _ _ => ?_) (needs_cons (fun _ _ => ?_) (needs_cons (fun h => ⟨by show (0 : Int) ≤ (i : Int); omega, hin h⟩) (needs_cons (fun h _ => ⟨by show (0 : Int) ≤ (i : Int); omega, hin h⟩) (needs_cons (fun _ _ => ?_) needs_nil)))))
   ·show boundP (0 + r.2.length)
    rw [Nat.zero_add]
    exact hc
   ·show boundP ((runS r rows i).1.length + 1)
    unfold boundP
    omega
   ·have := k0len i (runS r rows i).2 (runS r rows i).1
    show boundP ((r11_Set_l0_f_k0 rows (runS r rows i).2 (i : Int) r (runS r rows i).1).length + 1)
    unfold boundP
    omega)
 have hr : r11_Set_l0_run (rows, false, 0, r, []) = (rows, (runS r rows rows.length).2, (rows.length : Int), r, (runS r rows rows.length).1) := hx
 have hl := runS_len r rows rows.length (Nat.le_refl _)
 refine ⟨needs_cons h1 (needs_cons (fun _ => ?_) (needs_cons (fun _ => ?_) needs_nil)), ?_⟩
 ·rw [hr, Nat.zero_add]
  exact hc
 ·unfold r11_Set_k0
  rw [hr]
  show boundP ((runS r rows rows.length).1.length + 1)
  unfold boundP
  omega
 ·rw [← set_fin r hs]
  unfold r11_Set_0 r11_Set_k1 r11_Set_k0 finS
  rw [hr]
  show (bif !(runS r rows rows.length).2 then (runS r rows rows.length).1 ++ [r] else (runS r rows rows.length).1) = _
  cases (runS r rows rows.length).2 <;> rfl
theorem r11_Set_c2 (a0 : List TRow) (a1 : TRow) (hp : ∀ p ∈ r11_Set_ps2 a0 a1, p) : CallOk Try.prog 18 [valA .rows a0, valA .row a1] 0 [] 1 (r11_Set_r2 a0 a1) 0 (r11_Set_o2 a0 a1) := by
 obtain ⟨h1, h2, h3⟩ := hp _ (List.mem_cons_self ..)
 obtain ⟨g1, e1⟩ := r11s_eq a0 a1 h1 h2 h3
 have h := r11_Set_c a0 a1 g1
 unfold r11_Set_r r11_Set_o at h
 rw [e1] at h
 exact callOk_sl (c := .row) h
def r11_Set_t : List A → Nat → Objs → Option CRes := rowK [.t .rows, .t .row] 0 r11_Set_r2 r11_Set_o2 r11_Set_ps2
theorem r11_Set_tok : TOk Try.prog 18 r11_Set_t := rowK_ok (ks := [.t .rows, .t .row]) r11_Set_c2
noncomputable def Cso5_7 := addC 18 r11_Set_t Cso5_6
theorem Cso5_7_ok : COk Try.prog Cso5_7 := addC_ok r11_Set_tok Cso5_6_ok
abbrev r11_Drop_l0_X : Type := (List TRow) × ByteArray × Int × (List TRow)
def r11_Drop_l0_T (x : r11_Drop_l0_X) : St := ⟨28, 2, [(0, .sl .row x.1), (1, .v (.string x.2.1)), (5, .sq 1), (6, .v (.int .i64 x.2.2.1))], [(1, some (.arr 29 2 (.ty .row x.2.2.2)))]⟩
def r11_Drop_l0_un : St → Option r11_Drop_l0_X
 | ⟨28, 2, [(0, .sl .row z0), (1, .v (.string z1)), (5, .sq 1), (6, .v (.int .i64 z2))], [(1, some (.arr 29 2 (.ty .row z3)))]⟩ => some (z0, z1, z2, z3)
 | _ => none
theorem r11_Drop_l0_unok : ∀ s x, r11_Drop_l0_un s = some x → s = r11_Drop_l0_T x := fun s x h => by
 unfold r11_Drop_l0_un at h
 split at h
 ·cases h; rfl
 ·cases h
def r11_Drop_l0_S : Shape := ⟨1, 2, [0, 1, 5, 6], [], [(4, 1)], [4], [5], [1]⟩
def r11_Drop_l0_E : Entry := ⟨[.nil 5 29 .row], [(0, 1)], [0, 1, 5, 6], [0]⟩
def r11_Drop_l0_f_k1 (a0 : List TRow) (a1 : ByteArray) (a2 : Int) (_a3 : List TRow) : Bool := !(a0.getD a2.toNat (dflt TC.row)).1.toList == a1.toList
def r11_Drop_l0_f_k0 (a0 : List TRow) (_a1 : ByteArray) (a2 : Int) (_a3 : List TRow) : Bool := !!decide (a2 < (↑a0.length : Int))
def r11_Drop_l0_f_3 (a0 : List TRow) (a1 : ByteArray) (a2 : Int) (a3 : List TRow) : List TRow := bif (r11_Drop_l0_f_k1 a0 a1 a2 a3) then a3 ++ [a0.getD a2.toNat (dflt TC.row)] else a3
def r11_Drop_l0_next (x : r11_Drop_l0_X) : r11_Drop_l0_X := (x.1, x.2.1, IntKind.i64.wrap (x.2.2.1 + (1 : Int)), r11_Drop_l0_f_3 x.1 x.2.1 x.2.2.1 x.2.2.2)
def r11_Drop_l0_goes (x : r11_Drop_l0_X) : Cnd := some ((r11_Drop_l0_f_k0 x.1 x.2.1 x.2.2.1 x.2.2.2))
def r11_Drop_l0_psA (x : r11_Drop_l0_X) : List Prop := [((r11_Drop_l0_f_k0 x.1 x.2.1 x.2.2.1 x.2.2.2) = true → (0 : Int) ≤ x.2.2.1 ∧ x.2.2.1 < (↑x.1.length : Int)), ((r11_Drop_l0_f_k0 x.1 x.2.1 x.2.2.1 x.2.2.2) = true → (r11_Drop_l0_f_k1 x.1 x.2.1 x.2.2.1 x.2.2.2) = true → (0 : Int) ≤ x.2.2.1 ∧ x.2.2.1 < (↑x.1.length : Int)), ((r11_Drop_l0_f_k0 x.1 x.2.1 x.2.2.1 x.2.2.2) = true → (r11_Drop_l0_f_k1 x.1 x.2.1 x.2.2.1 x.2.2.2) = true → boundP (x.2.2.2.length + (1 : Nat)))]
abbrev r11_Drop_l0_ps : r11_Drop_l0_X → List Prop := r11_Drop_l0_psA
def r11_Drop_l0_outs (x : r11_Drop_l0_X) : Outs := [(some 0, some (!decide (x.2.2.1 < (↑x.1.length : Int))), ⟨28, 2, [(5, .sq 1)], [(1, some (.arr 29 2 (.ty .row x.2.2.2)))]⟩)]
def r11_Drop_l0_fuel (x : r11_Drop_l0_X) : Nat := ((↑x.1.length : Int) - x.2.2.1).toNat
def r11_Drop_l0_run (x : r11_Drop_l0_X) : r11_Drop_l0_X := iterX r11_Drop_l0_next r11_Drop_l0_goes (r11_Drop_l0_fuel x) x
theorem r11_Drop_l0_ev (a0 : List TRow) (a1 : ByteArray) (a2 : Int) (a3 : List TRow) : roundE (envT Cso5_7 L0) 9 (loopAt Try.prog 20 0) r11_Drop_l0_S (r11_Drop_l0_T (a0, a1, a2, a3)) = some (r11_Drop_l0_psA (a0, a1, a2, a3), r11_Drop_l0_outs (a0, a1, a2, a3), r11_Drop_l0_goes (a0, a1, a2, a3), r11_Drop_l0_T (r11_Drop_l0_next (a0, a1, a2, a3))) := by kernel_rfl
theorem r11_Drop_l0_hA (a0 : List TRow) (a1 : ByteArray) (a2 : Int) (a3 : List TRow) (hp : ∀ p ∈ r11_Drop_l0_ps (a0, a1, a2, a3), p) : ∀ p ∈ r11_Drop_l0_psA (a0, a1, a2, a3), p := hp
noncomputable def r11_Drop_l0_row := rowL (envT Cso5_7 L0) (loopAt Try.prog 20 0) r11_Drop_l0_S r11_Drop_l0_E r11_Drop_l0_un r11_Drop_l0_fuel r11_Drop_l0_next r11_Drop_l0_goes r11_Drop_l0_ps r11_Drop_l0_outs
theorem r11_Drop_l0_rok : ∀ s b ps outs, r11_Drop_l0_row s = some (b, ps, outs) → Wf s ⟨ps, outs, none⟩ ∧ LoopOk (envT C0 L0) b s ps outs :=
 rowP_ok (T := r11_Drop_l0_T) Cso5_7_ok L0_ok (u := 9) (by kernel_rfl) (by decide) (fun ⟨a0, a1, a2, a3⟩ => r11_Drop_l0_ev a0 a1 a2 a3) (fun ⟨a0, a1, a2, a3⟩ => r11_Drop_l0_hA a0 a1 a2 a3) r11_Drop_l0_unok (fun _ => okOuts_ok (n := 28) rfl) fun _ _ => rfl
noncomputable def r11_Drop_l0_L := addLp 0 r11_Drop_l0_row L0
theorem r11_Drop_l0_Lok : LpOk r11_Drop_l0_L := addLp_ok r11_Drop_l0_rok L0_ok
def r11_Drop_0 (a0 : List TRow) (a1 : ByteArray) : List TRow := (r11_Drop_l0_run (a0, a1, (0 : Int), [])).snd.snd.snd
def r11_Drop_r (_a0 : List TRow) (_a1 : ByteArray) : A := .sq 0
def r11_Drop_o (a0 : List TRow) (a1 : ByteArray) : Objs := [(0, some (.arr 29 2 (.ty .row (r11_Drop_0 a0 a1))))]
def r11_Drop_ps (a0 : List TRow) (a1 : ByteArray) : List Prop := [(needX r11_Drop_l0_next r11_Drop_l0_goes r11_Drop_l0_ps (r11_Drop_l0_fuel (a0, a1, (0 : Int), [])) (a0, a1, (0 : Int), []))]
theorem r11_Drop_ev (a0 : List TRow) (a1 : ByteArray) : evF (envT Cso5_7 r11_Drop_l0_L) 9 20 [valA .rows a0, valA .str a1] 0 [] = some (1, r11_Drop_r a0 a1, 1, r11_Drop_o a0 a1, [(loopAt Try.prog (20 : FuncId) (0 : Nat) = loopAt Try.prog (20 : FuncId) (0 : Nat)), (needX r11_Drop_l0_next r11_Drop_l0_goes r11_Drop_l0_ps (r11_Drop_l0_fuel (a0, a1, (0 : Int), [])) (a0, a1, (0 : Int), []))]) := by kernel_rfl
theorem r11_Drop_c (a0 : List TRow) (a1 : ByteArray) (hp : ∀ p ∈ r11_Drop_ps a0 a1, p) : CallOk Try.prog 20 [valA .rows a0, valA .str a1] 0 [] 1 (r11_Drop_r a0 a1) 1 (r11_Drop_o a0 a1) := by
 have n1 := N0 hp
 exact evF_ok (envP_ok Cso5_7_ok r11_Drop_l0_Lok) (r11_Drop_ev a0 a1) (needs_cons rfl (needs_cons n1 needs_nil))
def r11_Drop_r2 (a0 : List TRow) (a1 : ByteArray) : A := .sl .row (dropR a0 a1)
def r11_Drop_o2 (_a0 : List TRow) (_a1 : ByteArray) : Objs := []
def r11_Drop_ps2 (a0 : List TRow) (_a1 : ByteArray) : List Prop := [boundP a0.length ∧ SortR a0]
theorem take_filter {α : Type} (p : α → Bool) (l : List α) (d : α) (i : Nat) (h : i < l.length) : (l.take (i + 1)).filter p = bif p (l.getD i d) then (l.take i).filter p ++ [l.getD i d] else (l.take i).filter p := by
 rw [take_get l d i h, List.filter_append]
 cases hp : p (l.getD i d) with
 | true => rw [List.filter_cons_of_pos hp]; rfl
 | false => rw [List.filter_cons_of_neg (by rw [hp]; exact Bool.false_ne_true), List.filter_nil, List.append_nil]; rfl
theorem drop_filter {rows : List TRow} (h : SortR rows) (key : ByteArray) : rows.filter (fun r => !(r.key == key)) = dropR rows key := by
 induction rows with
 | nil => rfl
 | cons x a ih =>
  obtain ⟨h1, h2⟩ := List.pairwise_cons.1 h
  have ih := ih h2
  unfold dropR at ih ⊢
  cases hl : kLt x.key key with
  | true =>
   have hx : (x.key == key) = false := beq_eq_false_iff_ne.2 (kLt_ne hl)
   have hg : ¬ kLt key x.key = true := fun hg => by
    have := kLt_trans hl hg
    rw [kLt_irrefl] at this
    cases this
   rw [List.filter_cons_of_pos (by rw [hx]; rfl), List.filter_cons_of_pos (by exact hl), List.filter_cons_of_neg (by exact hg), ih]
   rfl
  | false =>
   have lo : (x :: a).filter (fun y => kLt y.key key) = [] := List.filter_eq_nil_iff.2 fun y hy => by
    rcases List.mem_cons.1 hy with rfl | hy
    ·rw [hl]; exact Bool.false_ne_true
    ·intro hy'
     have := kLt_trans (h1 y hy) hy'
     rw [hl] at this
     cases this
   have lo' : a.filter (fun y => kLt y.key key) = [] := List.filter_eq_nil_iff.2 fun y hy hy' => by
    have := kLt_trans (h1 y hy) hy'
    rw [hl] at this
    cases this
   rw [lo'] at ih
   rw [lo]
   cases hx : x.key == key with
   | true =>
    have ek := eq_of_beq hx
    rw [List.filter_cons_of_neg (by rw [hx]; exact Bool.false_ne_true), List.filter_cons_of_neg (by show ¬ kLt key x.key = true; rw [ek, kLt_irrefl]; exact Bool.false_ne_true), ih]
   | false =>
    have hne : x.key ≠ key := by simpa using hx
    have hg : kLt key x.key = true := bless_total (x := x.key.toList) (y := key.toList) hl fun e' => hne (toL_inj e')
    rw [List.filter_cons_of_pos (by rw [hx]; rfl), List.filter_cons_of_pos (by exact hg), ih]
    rfl
theorem r11_Drop_c2 (a0 : List TRow) (a1 : ByteArray) (hp : ∀ p ∈ r11_Drop_ps2 a0 a1, p) : CallOk Try.prog 20 [valA .rows a0, valA .str a1] 0 [] 1 (r11_Drop_r2 a0 a1) 0 (r11_Drop_o2 a0 a1) := by
 obtain ⟨hb, hs⟩ := hp _ (List.mem_cons_self ..)
 have hb' : a0.length ≤ 549755813888 := hb
 have fl : ∀ i : Nat, ((a0.take i).filter (fun r => !(r.key == a1))).length ≤ i := fun i => Nat.le_trans (List.length_filter_le ..) (by rw [List.length_take]; omega)
 obtain ⟨h1, hx⟩ := scanAll (fun i => ((a0, a1, (i : Int), (a0.take i).filter (fun r => !(r.key == a1))) : r11_Drop_l0_X)) a0.length r11_Drop_l0_next r11_Drop_l0_goes r11_Drop_l0_ps (r11_Drop_l0_fuel (a0, a1, 0, [])) (a0, a1, 0, []) rfl (by show a0.length ≤ ((a0.length : Int) - 0).toNat; omega)
  (fun i _ => by
   show (!!decide ((i : Int) < (a0.length : Int))) = _
   rw [nn, dlt])
  (fun i hi => by
   show (a0, a1, IntKind.i64.wrap ((i : Int) + 1), r11_Drop_l0_f_3 a0 a1 (i : Int) ((a0.take i).filter (fun r => !(r.key == a1)))) = _
   unfold r11_Drop_l0_f_3 r11_Drop_l0_f_k1
   rw [wsucc (by omega), Int.toNat_natCast, tlb, take_filter _ a0 (dflt TC.row) i hi])
  (fun i hi => by
   have hin : (!!decide ((i : Int) < (a0.length : Int))) = true → (i : Int) < (a0.length : Int) := fun h => by rw [nn] at h; exact of_decide_eq_true h
   have := fl i
   refine needs_cons (fun h => ⟨by show (0 : Int) ≤ (i : Int); omega, hin h⟩) (needs_cons (fun h _ => ⟨by show (0 : Int) ≤ (i : Int); omega, hin h⟩) (needs_cons (fun h _ => ?_) needs_nil))
   have h2 := hin h
   show boundP (((a0.take i).filter (fun r => !(r.key == a1))).length + 1)
   unfold boundP
   omega)
 have h := r11_Drop_c a0 a1 (needs_cons h1 needs_nil)
 have e0 : r11_Drop_0 a0 a1 = dropR a0 a1 := by
  have hr : r11_Drop_l0_run (a0, a1, 0, []) = _ := hx
  unfold r11_Drop_0
  rw [hr, ← drop_filter hs]
  show (a0.take a0.length).filter _ = _
  rw [List.take_length]
 unfold r11_Drop_r r11_Drop_o at h
 rw [e0] at h
 exact callOk_sl (c := .row) h
def r11_Drop_t : List A → Nat → Objs → Option CRes := rowK [.t .rows, .t .str] 0 r11_Drop_r2 r11_Drop_o2 r11_Drop_ps2
theorem r11_Drop_tok : TOk Try.prog 20 r11_Drop_t := rowK_ok (ks := [.t .rows, .t .str]) r11_Drop_c2
noncomputable def Cso5_8 := addC 20 r11_Drop_t Cso5_7
theorem Cso5_8_ok : COk Try.prog Cso5_8 := addC_ok r11_Drop_tok Cso5_7_ok
abbrev r11_Scan_l0_X : Type := (List TRow) × ByteArray × ByteArray × Int × Int × (List TRow)
def r11_Scan_l0_T (x : r11_Scan_l0_X) : St := ⟨52, 2, [(0, .sl .row x.1), (1, .v (.string x.2.1)), (2, .v (.string x.2.2.1)), (3, .v (.int .i64 x.2.2.2.1)), (9, .dq 1), (10, .v (.int .i64 x.2.2.2.2.1))], [(1, some (.deep 29 .row x.2.2.2.2.2))]⟩
def r11_Scan_l0_un : St → Option r11_Scan_l0_X
 | ⟨52, 2, [(0, .sl .row z0), (1, .v (.string z1)), (2, .v (.string z2)), (3, .v (.int .i64 z3)), (9, .dq 1), (10, .v (.int .i64 z4))], [(1, some (.deep 29 .row z5))]⟩ => some (z0, z1, z2, z3, z4, z5)
 | _ => none
theorem r11_Scan_l0_unok : ∀ s x, r11_Scan_l0_un s = some x → s = r11_Scan_l0_T x := fun s x h => by
 unfold r11_Scan_l0_un at h
 split at h
 ·cases h; rfl
 ·cases h
def r11_Scan_l0_S : Shape := ⟨1, 2, [0, 1, 2, 3, 9, 10], [], [(5, 1)], [5], [9], [1]⟩
def r11_Scan_l0_E : Entry := ⟨[.nilD 9 29 .row], [(0, 1)], [0, 1, 2, 3, 9, 10], [0]⟩
def r11_Scan_l0_f_k1 (a0 : List TRow) (a1 : ByteArray) (a2 : ByteArray) (_a3 : Int) (a4 : Int) (_a5 : List TRow) : Bool := !Op.bytesLess (a0.getD a4.toNat (dflt TC.row)).1.toList a1.toList && (a2.toList == (ByteArray.mk #[]).toList || Op.bytesLess (a0.getD a4.toNat (dflt TC.row)).1.toList a2.toList)
def r11_Scan_l0_f_k0 (a0 : List TRow) (_a1 : ByteArray) (_a2 : ByteArray) (a3 : Int) (a4 : Int) (a5 : List TRow) : Bool := !!(decide (a4 < (↑a0.length : Int)) && decide ((↑a5.length : Int) < a3))
def r11_Scan_l0_f_5 (a0 : List TRow) (a1 : ByteArray) (a2 : ByteArray) (a3 : Int) (a4 : Int) (a5 : List TRow) : List TRow := bif (r11_Scan_l0_f_k1 a0 a1 a2 a3 a4 a5) then a5 ++ [setI TC.row TC.cell (TRow.mk (a0.getD a4.toNat (dflt TC.row)).1 []) (r10_Copy_1 (a0.getD a4.toNat (dflt TC.row)))] else a5
def r11_Scan_l0_f_12 (a0 : List TRow) (_a1 : ByteArray) (_a2 : ByteArray) (a3 : Int) (a4 : Int) (a5 : List TRow) : Bool := !(decide (a4 < (↑a0.length : Int)) && decide ((↑a5.length : Int) < a3))
def r11_Scan_l0_next (x : r11_Scan_l0_X) : r11_Scan_l0_X := (x.1, x.2.1, x.2.2.1, x.2.2.2.1, IntKind.i64.wrap (x.2.2.2.2.1 + (1 : Int)), r11_Scan_l0_f_5 x.1 x.2.1 x.2.2.1 x.2.2.2.1 x.2.2.2.2.1 x.2.2.2.2.2)
def r11_Scan_l0_goes (x : r11_Scan_l0_X) : Cnd := some ((r11_Scan_l0_f_k0 x.1 x.2.1 x.2.2.1 x.2.2.2.1 x.2.2.2.2.1 x.2.2.2.2.2))
def r11_Scan_l0_psA (x : r11_Scan_l0_X) : List Prop := [((r11_Scan_l0_f_k0 x.1 x.2.1 x.2.2.1 x.2.2.2.1 x.2.2.2.2.1 x.2.2.2.2.2) = true → (0 : Int) ≤ x.2.2.2.2.1 ∧ x.2.2.2.2.1 < (↑x.1.length : Int)), ((r11_Scan_l0_f_k0 x.1 x.2.1 x.2.2.1 x.2.2.2.1 x.2.2.2.2.1 x.2.2.2.2.2) = true → (x.2.2.1.toList == (ByteArray.mk #[]).toList) = false → (!Op.bytesLess (x.1.getD x.2.2.2.2.1.toNat (dflt TC.row)).1.toList x.2.1.toList) = true → (0 : Int) ≤ x.2.2.2.2.1 ∧ x.2.2.2.2.1 < (↑x.1.length : Int)), ((r11_Scan_l0_f_k0 x.1 x.2.1 x.2.2.1 x.2.2.2.1 x.2.2.2.2.1 x.2.2.2.2.2) = true → (r11_Scan_l0_f_k1 x.1 x.2.1 x.2.2.1 x.2.2.2.1 x.2.2.2.2.1 x.2.2.2.2.2) = true → (0 : Int) ≤ x.2.2.2.2.1 ∧ x.2.2.2.2.1 < (↑x.1.length : Int)), ((r11_Scan_l0_f_k0 x.1 x.2.1 x.2.2.1 x.2.2.2.1 x.2.2.2.2.1 x.2.2.2.2.2) = true → (r11_Scan_l0_f_k1 x.1 x.2.1 x.2.2.1 x.2.2.2.1 x.2.2.2.2.1 x.2.2.2.2.2) = true → boundP ((0 : Nat) + (x.1.getD x.2.2.2.2.1.toNat (dflt TC.row)).2.length)), ((r11_Scan_l0_f_k0 x.1 x.2.1 x.2.2.1 x.2.2.2.1 x.2.2.2.2.1 x.2.2.2.2.2) = true → (r11_Scan_l0_f_k1 x.1 x.2.1 x.2.2.1 x.2.2.2.1 x.2.2.2.2.1 x.2.2.2.2.2) = true → boundP (x.2.2.2.2.2.length + (1 : Nat)))]
abbrev r11_Scan_l0_ps : r11_Scan_l0_X → List Prop := r11_Scan_l0_psA
def r11_Scan_l0_outs (x : r11_Scan_l0_X) : Outs := [(some 0, some (r11_Scan_l0_f_12 x.1 x.2.1 x.2.2.1 x.2.2.2.1 x.2.2.2.2.1 x.2.2.2.2.2), ⟨52, 2, [(9, .dq 1)], [(1, some (.deep 29 .row x.2.2.2.2.2))]⟩)]
def r11_Scan_l0_fuel (x : r11_Scan_l0_X) : Nat := ((↑x.1.length : Int) - x.2.2.2.2.1).toNat
def r11_Scan_l0_run (x : r11_Scan_l0_X) : r11_Scan_l0_X := iterX r11_Scan_l0_next r11_Scan_l0_goes (r11_Scan_l0_fuel x) x
theorem r11_Scan_l0_ev (a0 : List TRow) (a1 : ByteArray) (a2 : ByteArray) (a3 : Int) (a4 : Int) (a5 : List TRow) : roundE (envT Cso5_8 L0) 9 (loopAt Try.prog 24 0) r11_Scan_l0_S (r11_Scan_l0_T (a0, a1, a2, a3, a4, a5)) = some (r11_Scan_l0_psA (a0, a1, a2, a3, a4, a5), r11_Scan_l0_outs (a0, a1, a2, a3, a4, a5), r11_Scan_l0_goes (a0, a1, a2, a3, a4, a5), r11_Scan_l0_T (r11_Scan_l0_next (a0, a1, a2, a3, a4, a5))) := by kernel_rfl
theorem r11_Scan_l0_hA (a0 : List TRow) (a1 : ByteArray) (a2 : ByteArray) (a3 : Int) (a4 : Int) (a5 : List TRow) (hp : ∀ p ∈ r11_Scan_l0_ps (a0, a1, a2, a3, a4, a5), p) : ∀ p ∈ r11_Scan_l0_psA (a0, a1, a2, a3, a4, a5), p := hp
noncomputable def r11_Scan_l0_row := rowL (envT Cso5_8 L0) (loopAt Try.prog 24 0) r11_Scan_l0_S r11_Scan_l0_E r11_Scan_l0_un r11_Scan_l0_fuel r11_Scan_l0_next r11_Scan_l0_goes r11_Scan_l0_ps r11_Scan_l0_outs
theorem r11_Scan_l0_rok : ∀ s b ps outs, r11_Scan_l0_row s = some (b, ps, outs) → Wf s ⟨ps, outs, none⟩ ∧ LoopOk (envT C0 L0) b s ps outs :=
 rowP_ok (T := r11_Scan_l0_T) Cso5_8_ok L0_ok (u := 9) (by kernel_rfl) (by decide) (fun ⟨a0, a1, a2, a3, a4, a5⟩ => r11_Scan_l0_ev a0 a1 a2 a3 a4 a5) (fun ⟨a0, a1, a2, a3, a4, a5⟩ => r11_Scan_l0_hA a0 a1 a2 a3 a4 a5) r11_Scan_l0_unok (fun _ => okOuts_ok (n := 52) rfl) fun _ _ => rfl
noncomputable def r11_Scan_l0_L := addLp 0 r11_Scan_l0_row L0
theorem r11_Scan_l0_Lok : LpOk r11_Scan_l0_L := addLp_ok r11_Scan_l0_rok L0_ok
def r11_Scan_0 (a0 : List TRow) (a1 : ByteArray) (a2 : ByteArray) (a3 : Int) : List TRow := (r11_Scan_l0_run (a0, a1, a2, a3, (0 : Int), [])).snd.snd.snd.snd.snd
def r11_Scan_r (_a0 : List TRow) (_a1 : ByteArray) (_a2 : ByteArray) (_a3 : Int) : A := .dq 0
def r11_Scan_o (a0 : List TRow) (a1 : ByteArray) (a2 : ByteArray) (a3 : Int) : Objs := [(0, some (.deep 29 .row (r11_Scan_0 a0 a1 a2 a3)))]
def r11_Scan_ps (a0 : List TRow) (a1 : ByteArray) (a2 : ByteArray) (a3 : Int) : List Prop := [(needX r11_Scan_l0_next r11_Scan_l0_goes r11_Scan_l0_ps (r11_Scan_l0_fuel (a0, a1, a2, a3, (0 : Int), [])) (a0, a1, a2, a3, (0 : Int), []))]
theorem r11_Scan_ev (a0 : List TRow) (a1 : ByteArray) (a2 : ByteArray) (a3 : Int) : evF (envT Cso5_8 r11_Scan_l0_L) 9 24 [valA .rows a0, valA .str a1, valA .str a2, valA .i64 a3] 0 [] = some (1, r11_Scan_r a0 a1 a2 a3, 1, r11_Scan_o a0 a1 a2 a3, [(loopAt Try.prog (24 : FuncId) (0 : Nat) = loopAt Try.prog (24 : FuncId) (0 : Nat)), (needX r11_Scan_l0_next r11_Scan_l0_goes r11_Scan_l0_ps (r11_Scan_l0_fuel (a0, a1, a2, a3, (0 : Int), [])) (a0, a1, a2, a3, (0 : Int), []))]) := by kernel_rfl
theorem r11_Scan_c (a0 : List TRow) (a1 : ByteArray) (a2 : ByteArray) (a3 : Int) (hp : ∀ p ∈ r11_Scan_ps a0 a1 a2 a3, p) : CallOk Try.prog 24 [valA .rows a0, valA .str a1, valA .str a2, valA .i64 a3] 0 [] 1 (r11_Scan_r a0 a1 a2 a3) 1 (r11_Scan_o a0 a1 a2 a3) := by
 have n1 := N0 hp
 exact evF_ok (envP_ok Cso5_8_ok r11_Scan_l0_Lok) (r11_Scan_ev a0 a1 a2 a3) (needs_cons rfl (needs_cons n1 needs_nil))
def r11_Scan_r2 (_a0 : List TRow) (_a1 : ByteArray) (_a2 : ByteArray) (_a3 : Int) : A := .dq 0
def r11_Scan_o2 (a0 : List TRow) (a1 : ByteArray) (a2 : ByteArray) (a3 : Int) : Objs := [(0, some (.deep 29 .row (scanR a0 a1 a2 a3)))]
def r11_Scan_ps2 (a0 : List TRow) (_a1 : ByteArray) (_a2 : ByteArray) (_a3 : Int) : List Prop := [ScanP a0]
def scR (rows : List TRow) (from_ til : ByteArray) (lim : Int) (i : Nat) : List TRow := ((rows.take i).filter (inR from_ til)).take lim.toNat
theorem scR_succ (rows : List TRow) (from_ til : ByteArray) (lim : Int) (i : Nat) (h : i < rows.length) (hl : ((scR rows from_ til lim i).length : Int) < lim) : scR rows from_ til lim (i + 1) = bif inR from_ til (rowN rows i) then scR rows from_ til lim i ++ [rowN rows i] else scR rows from_ til lim i := by
 unfold scR at hl ⊢
 rw [take_filter _ rows (dflt TC.row) i h]
 unfold rowN
 cases inR from_ til (rows.getD i (dflt TC.row)) with
 | false => rfl
 | true =>
  rw [List.length_take] at hl
  have e1 : ((rows.take i).filter (inR from_ til)).take lim.toNat = (rows.take i).filter (inR from_ til) := List.take_of_length_le (by omega)
  have e2 : ((rows.take i).filter (inR from_ til) ++ [rows.getD i (dflt TC.row)]).take lim.toNat = (rows.take i).filter (inR from_ til) ++ [rows.getD i (dflt TC.row)] := List.take_of_length_le (by rw [List.length_append, List.length_singleton]; omega)
  rw [cond_true, cond_true, e1, e2]
theorem scR_stop (rows : List TRow) (from_ til : ByteArray) (lim : Int) (i : Nat) (hl : ¬ ((scR rows from_ til lim i).length : Int) < lim) : scanR rows from_ til lim = scR rows from_ til lim i := by
 unfold scR at hl ⊢
 unfold scanR
 have e : rows.filter (inR from_ til) = (rows.take i).filter (inR from_ til) ++ (rows.drop i).filter (inR from_ til) := by rw [← List.filter_append, List.take_append_drop]
 rw [List.length_take] at hl
 rw [e, List.take_append_of_le_length (by omega)]
theorem r11_Scan_c2 (a0 : List TRow) (a1 : ByteArray) (a2 : ByteArray) (a3 : Int) (hp : ∀ p ∈ r11_Scan_ps2 a0 a1 a2 a3, p) : CallOk Try.prog 24 [valA .rows a0, valA .str a1, valA .str a2, valA .i64 a3] 0 [] 1 (r11_Scan_r2 a0 a1 a2 a3) 1 (r11_Scan_o2 a0 a1 a2 a3) := by
 obtain ⟨hb, hc⟩ := hp _ (List.mem_cons_self ..)
 have hb' : a0.length ≤ 549755813888 := hb
 have fl : ∀ i : Nat, (scR a0 a1 a2 a3 i).length ≤ i := fun i => by
  unfold scR
  rw [List.length_take]
  exact Nat.le_trans (Nat.min_le_right ..) (Nat.le_trans (List.length_filter_le ..) (by rw [List.length_take]; omega))
 obtain ⟨h1, k, hk, hx, hs, hst, _⟩ := scanB (fun i => ((a0, a1, a2, a3, (i : Int), scR a0 a1 a2 a3 i) : r11_Scan_l0_X)) a0.length (fun i => !decide (((scR a0 a1 a2 a3 i).length : Int) < a3)) r11_Scan_l0_next r11_Scan_l0_goes r11_Scan_l0_ps (r11_Scan_l0_fuel (a0, a1, a2, a3, 0, [])) (a0, a1, a2, a3, 0, []) (by unfold scR; rw [List.take_zero, List.filter_nil, List.take_nil]; rfl) (by show a0.length ≤ ((a0.length : Int) - 0).toNat; omega)
  (fun i _ _ => by
   show r11_Scan_l0_f_k0 a0 a1 a2 a3 (i : Int) (scR a0 a1 a2 a3 i) = _
   unfold r11_Scan_l0_f_k0
   rw [nn, dlt, Bool.not_not])
  (fun i hi hj => by
   have hlt : ((scR a0 a1 a2 a3 i).length : Int) < a3 := by simpa using hj i (Nat.lt_succ_self i)
   show (a0, a1, a2, a3, IntKind.i64.wrap ((i : Int) + 1), r11_Scan_l0_f_5 a0 a1 a2 a3 (i : Int) (scR a0 a1 a2 a3 i)) = _
   unfold r11_Scan_l0_f_5 r11_Scan_l0_f_k1
   rw [wsucc (by omega), Int.toNat_natCast, scR_succ a0 a1 a2 a3 i hi hlt]
   rfl)
  (fun i hi hj => by
   have hin : r11_Scan_l0_f_k0 a0 a1 a2 a3 (i : Int) (scR a0 a1 a2 a3 i) = true → (i : Int) < (a0.length : Int) := fun h => by
    unfold r11_Scan_l0_f_k0 at h
    rw [nn, Bool.and_eq_true] at h
    exact of_decide_eq_true h.1
   have := fl i
   refine needs_cons (fun h => ⟨by show (0 : Int) ≤ (i : Int); omega, hin h⟩) (needs_cons (fun h _ _ => ⟨by show (0 : Int) ≤ (i : Int); omega, hin h⟩) (needs_cons (fun h _ => ⟨by show (0 : Int) ≤ (i : Int); omega, hin h⟩) (needs_cons (fun h _ => ?_) (needs_cons (fun h _ => ?_) needs_nil))))
   ·have h2 := hin h
    show boundP (0 + (a0.getD ((i : Int)).toNat (dflt TC.row)).2.length)
    rw [Int.toNat_natCast, Nat.zero_add]
    exact hc _ (getD_in a0 (dflt TC.row) i (by omega))
   ·have h2 := hin h
    show boundP ((scR a0 a1 a2 a3 i).length + 1)
    unfold boundP
    omega)
 have h := r11_Scan_c a0 a1 a2 a3 (needs_cons h1 needs_nil)
 have e0 : r11_Scan_0 a0 a1 a2 a3 = scanR a0 a1 a2 a3 := by
  have hr : r11_Scan_l0_run (a0, a1, a2, a3, 0, []) = _ := hx
  unfold r11_Scan_0
  rw [hr]
  show scR a0 a1 a2 a3 k = _
  rcases Nat.lt_or_ge k a0.length with hlt | hge
  ·have := hst hlt
   exact (scR_stop a0 a1 a2 a3 k (by simpa using this)).symm
  ·unfold scR scanR
   rw [List.take_of_length_le hge]
 unfold r11_Scan_r r11_Scan_o at h
 rw [e0] at h
 exact h
def r11_Scan_t : List A → Nat → Objs → Option CRes := rowK [.t .rows, .t .str, .t .str, .t .i64] 1 r11_Scan_r2 r11_Scan_o2 r11_Scan_ps2
theorem r11_Scan_tok : TOk Try.prog 24 r11_Scan_t := rowK_ok (ks := [.t .rows, .t .str, .t .str, .t .i64]) r11_Scan_c2
noncomputable def Cso5_9 := addC 24 r11_Scan_t Cso5_8
theorem Cso5_9_ok : COk Try.prog Cso5_9 := addC_ok r11_Scan_tok Cso5_8_ok
noncomputable def Cso5_10 := addC 12 (inl (envT Cso5_9 L0) 20 12) Cso5_9
theorem Cso5_10_ok : COk Try.prog Cso5_10 := addC_ok (inl_ok (envP_ok Cso5_9_ok L0_ok) 20 12) Cso5_9_ok
noncomputable def Cso5 := Cso5_10
theorem Cso5_ok : COk Try.prog Cso5 := Cso5_10_ok
end Go.Proofs.Ytnfmceffbnaanaa
namespace Go.Proofs.Ytnfmceffbnaanaa
open Go.RowKit
noncomputable def Cso6_1 := addC 28 (inl (envT Cso5 L0) 20 28) Cso5
theorem Cso6_1_ok : COk Try.prog Cso6_1 := addC_ok (inl_ok (envP_ok Cso5_ok L0_ok) 20 28) Cso5_ok
noncomputable def Cso6_2 := addC 11 (inl (envT Cso6_1 L0) 20 11) Cso6_1
theorem Cso6_2_ok : COk Try.prog Cso6_2 := addC_ok (inl_ok (envP_ok Cso6_1_ok L0_ok) 20 11) Cso6_1_ok
noncomputable def Cso6_3 := addC 21 (inl (envT Cso6_2 L0) 20 21) Cso6_2
theorem Cso6_3_ok : COk Try.prog Cso6_3 := addC_ok (inl_ok (envP_ok Cso6_2_ok L0_ok) 20 21) Cso6_2_ok
def l11_lives_k0  : List TRow := setR (setR [] (TRow.mk (ByteArray.mk #[(98 : UInt8)]) [])) (TRow.mk (ByteArray.mk #[(97 : UInt8)]) [])
def l11_lives_r  : A := .v (.bool (true))
def l11_lives_o  : Objs := []
def l11_lives_ps  : List Prop := [(true = true → FewR []), (true = true → FewR (setR [] (TRow.mk (ByteArray.mk #[(98 : UInt8)]) []))), (true = true → FewR (l11_lives_k0 )), (ScanP (setR (l11_lives_k0 ) (TRow.mk (ByteArray.mk #[(99 : UInt8)]) [])))]
theorem l11_lives_ev  : evF (envT Cso6_3 L0) 1040 9 [] 0 [] = some (1, l11_lives_r , 0, l11_lives_o , [((0 : Int) ≤ (0 : Int) ∧ (0 : Int) < (3 : Int)), ((0 : Nat) < (3 : Nat)), (true = true → boundP (0 : Nat)), (true = true → FewR []), ((0 : Int) ≤ (1 : Int) ∧ (1 : Int) < (3 : Int)), ((1 : Nat) < (3 : Nat)), (true = true → boundP (0 : Nat)), (true = true → FewR (setR [] (TRow.mk (ByteArray.mk #[(98 : UInt8)]) []))), ((0 : Int) ≤ (2 : Int) ∧ (2 : Int) < (3 : Int)), ((2 : Nat) < (3 : Nat)), (true = true → boundP (0 : Nat)), (true = true → FewR (l11_lives_k0 )), (ScanP (setR (l11_lives_k0 ) (TRow.mk (ByteArray.mk #[(99 : UInt8)]) []))), (true = true → (0 : Int) ≤ (0 : Int) ∧ (0 : Int) < (2 : Int)), (true = true → (0 : Nat) < (2 : Nat)), (true = true → (0 : Int) ≤ (1 : Int) ∧ (1 : Int) < (2 : Int)), (true = true → (1 : Nat) < (2 : Nat))]) := by kernel_rfl
theorem l11_lives_c  (hp : ∀ p ∈ l11_lives_ps , p) : CallOk Try.prog 9 [] 0 [] 1 (l11_lives_r ) 0 (l11_lives_o ) := by
 have n0 : ((0 : Int) ≤ (0 : Int) ∧ (0 : Int) < (3 : Int)) := by first | rfl | decide +kernel
 have n1 : ((0 : Nat) < (3 : Nat)) := by first | rfl | decide +kernel
 have n2 : (true = true → boundP (0 : Nat)) := by first | rfl | decide +kernel
 have n3 := N0 hp
 have n4 : ((0 : Int) ≤ (1 : Int) ∧ (1 : Int) < (3 : Int)) := by first | rfl | decide +kernel
 have n5 : ((1 : Nat) < (3 : Nat)) := by first | rfl | decide +kernel
 have n7 := N0 (N1 hp)
 have n8 : ((0 : Int) ≤ (2 : Int) ∧ (2 : Int) < (3 : Int)) := by first | rfl | decide +kernel
 have n9 : ((2 : Nat) < (3 : Nat)) := by first | rfl | decide +kernel
 have n11 := N0 (N1 (N1 hp))
 have n12 := N0 (N1 (N1 (N1 hp)))
 have n13 : (true = true → (0 : Int) ≤ (0 : Int) ∧ (0 : Int) < (2 : Int)) := by first | rfl | decide +kernel
 have n14 : (true = true → (0 : Nat) < (2 : Nat)) := by first | rfl | decide +kernel
 have n15 : (true = true → (0 : Int) ≤ (1 : Int) ∧ (1 : Int) < (2 : Int)) := by first | rfl | decide +kernel
 have n16 : (true = true → (1 : Nat) < (2 : Nat)) := by first | rfl | decide +kernel
 exact evF_ok (envP_ok Cso6_3_ok L0_ok) (l11_lives_ev ) (needs_cons n0 (needs_cons n1 (needs_cons n2 (needs_cons n3 (needs_cons n4 (needs_cons n5 (needs_cons n2 (needs_cons n7 (needs_cons n8 (needs_cons n9 (needs_cons n2 (needs_cons n11 (needs_cons n12 (needs_cons n13 (needs_cons n14 (needs_cons n15 (needs_cons n16 needs_nil)))))))))))))))))
def l11_lives_r2 : A := .v (.bool true)
def l11_lives_o2 : Objs := []
def l11_lives_ps2 : List Prop := []
theorem few0 {rows : List TRow} (h : Nat.ble rows.length 1099511627775 = true) : FewR rows := Nat.le_of_ble_eq_true h
theorem scan0 {rows : List TRow} (h : (Nat.ble rows.length 549755813888 && rows.all fun r => Nat.ble r.cells.length 549755813888) = true) : ScanP rows := by
 rw [Bool.and_eq_true, List.all_eq_true] at h
 exact ⟨Nat.le_of_ble_eq_true h.1, fun r hr => Nat.le_of_ble_eq_true (h.2 r hr)⟩
theorem l11_lives_c2 (_hp : ∀ p ∈ l11_lives_ps2, p) : CallOk Try.prog 9 [] 0 [] 1 l11_lives_r2 0 l11_lives_o2 := l11_lives_c (needs_cons (fun _ => few0 (by kernel_rfl)) (needs_cons (fun _ => few0 (by kernel_rfl)) (needs_cons (fun _ => few0 (by kernel_rfl)) (needs_cons (scan0 (by kernel_rfl)) needs_nil))))
def l11_lives_t : List A → Nat → Objs → Option CRes := rowK [] 0 l11_lives_r2 l11_lives_o2 l11_lives_ps2
theorem l11_lives_tok : TOk Try.prog 9 l11_lives_t := rowK_ok (ks := []) l11_lives_c2
noncomputable def Cso6_4 := addC 9 l11_lives_t Cso6_3
theorem Cso6_4_ok : COk Try.prog Cso6_4 := addC_ok l11_lives_tok Cso6_3_ok
abbrev l11_light_l2_X : Type := Int × Int × TAct
def l11_light_l2_T (x : l11_light_l2_X) : St := ⟨57, 1, [(3, .v (.int .i64 x.1)), (5, .own 0 0), (6, .v (.int .i64 x.2.1))], [(0, some (.box 31 [.v (.int .i64 x.2.2.kind), .v (.string x.2.2.row.key), .sl .cell x.2.2.row.cells, .v (.string x.2.2.til), .v (.int .i64 x.2.2.n)]))]⟩
def l11_light_l2_un : St → Option l11_light_l2_X
 | ⟨57, 1, [(3, .v (.int .i64 z0)), (5, .own 0 0), (6, .v (.int .i64 z1))], [(0, some (.box 31 [.v (.int .i64 z2), .v (.string z3), .sl .cell z4, .v (.string z5), .v (.int .i64 z6)]))]⟩ => some (z0, z1, ⟨z2, ⟨z3, z4⟩, z5, z6⟩)
 | _ => none
theorem l11_light_l2_unok : ∀ s x, l11_light_l2_un s = some x → s = l11_light_l2_T x := fun s x h => by
 unfold l11_light_l2_un at h
 split at h
 ·cases h; rfl
 ·cases h
def l11_light_l2_S : Shape := ⟨1, 1, [3, 5, 6], [], [(0, 0)], [0], [3], [0]⟩
def l11_light_l2_E : Entry := ⟨[], [(0, 0)], [3, 5, 6], [0]⟩
def l11_light_l2_f_k0 (a0 : Int) (a1 : Int) (a2 : TAct) : Bool := !!(decide (a1 < (↑a2.2.2.length : Int)) && decide (a0 ≤ (20000 : Int)))
def l11_light_l2_f_0 (a0 : Int) (a1 : Int) (a2 : TAct) : Int := r01_Add_0 (r01_Add_0 a0 (10 : Int) (20000 : Int)) (↑(a2.2.2.getD a1.toNat (dflt TC.cell)).4.size : Int) (20000 : Int)
def l11_light_l2_f_5 (a0 : Int) (a1 : Int) (a2 : TAct) : Bool := !(decide (a1 < (↑a2.2.2.length : Int)) && decide (a0 ≤ (20000 : Int)))
def l11_light_l2_next (x : l11_light_l2_X) : l11_light_l2_X := (l11_light_l2_f_0 x.1 x.2.1 x.2.2, IntKind.i64.wrap (x.2.1 + (1 : Int)), x.2.2)
def l11_light_l2_goes (x : l11_light_l2_X) : Cnd := some ((l11_light_l2_f_k0 x.1 x.2.1 x.2.2))
def l11_light_l2_psA (x : l11_light_l2_X) : List Prop := [((l11_light_l2_f_k0 x.1 x.2.1 x.2.2) = true → (0 : Int) ≤ x.2.1 ∧ x.2.1 < (↑x.2.2.2.2.length : Int))]
abbrev l11_light_l2_ps : l11_light_l2_X → List Prop := l11_light_l2_psA
def l11_light_l2_outs (x : l11_light_l2_X) : Outs := [(some 2, some (l11_light_l2_f_5 x.1 x.2.1 x.2.2), ⟨57, 1, [(3, .v (.int .i64 x.1))], [(0, some (.box 31 [.v (.int .i64 x.2.2.1), .v (.string x.2.2.2.1), .sl .cell x.2.2.2.2, .v (.string x.2.2.3), .v (.int .i64 x.2.2.4)]))]⟩)]
def l11_light_l2_fuel (x : l11_light_l2_X) : Nat := ((↑x.2.2.2.2.length : Int) - x.2.1).toNat
def l11_light_l2_run (x : l11_light_l2_X) : l11_light_l2_X := iterX l11_light_l2_next l11_light_l2_goes (l11_light_l2_fuel x) x
theorem l11_light_l2_ev (a0 : Int) (a1 : Int) (a2 : TAct) : roundE (envT Cso6_4 L0) 9 (loopAt Try.prog 8 2) l11_light_l2_S (l11_light_l2_T (a0, a1, a2)) = some (l11_light_l2_psA (a0, a1, a2), l11_light_l2_outs (a0, a1, a2), l11_light_l2_goes (a0, a1, a2), l11_light_l2_T (l11_light_l2_next (a0, a1, a2))) := by kernel_rfl
theorem l11_light_l2_hA (a0 : Int) (a1 : Int) (a2 : TAct) (hp : ∀ p ∈ l11_light_l2_ps (a0, a1, a2), p) : ∀ p ∈ l11_light_l2_psA (a0, a1, a2), p := hp
noncomputable def l11_light_l2_row := rowL (envT Cso6_4 L0) (loopAt Try.prog 8 2) l11_light_l2_S l11_light_l2_E l11_light_l2_un l11_light_l2_fuel l11_light_l2_next l11_light_l2_goes l11_light_l2_ps l11_light_l2_outs
theorem l11_light_l2_rok : ∀ s b ps outs, l11_light_l2_row s = some (b, ps, outs) → Wf s ⟨ps, outs, none⟩ ∧ LoopOk (envT C0 L0) b s ps outs :=
 rowP_ok (T := l11_light_l2_T) Cso6_4_ok L0_ok (u := 9) (by kernel_rfl) (by decide) (fun ⟨a0, a1, a2⟩ => l11_light_l2_ev a0 a1 a2) (fun ⟨a0, a1, a2⟩ => l11_light_l2_hA a0 a1 a2) l11_light_l2_unok (fun _ => okOuts_ok (n := 57) rfl) fun _ _ => rfl
noncomputable def l11_light_l2_L := addLp 2 l11_light_l2_row L0
theorem l11_light_l2_Lok : LpOk l11_light_l2_L := addLp_ok l11_light_l2_rok L0_ok
abbrev l11_light_l0_X : Type := (List TAct) × Int × Int
def l11_light_l0_T (x : l11_light_l0_X) : St := ⟨57, 0, [(0, .sl .act x.1), (3, .v (.int .i64 x.2.1)), (4, .v (.int .i64 x.2.2))], []⟩
def l11_light_l0_un : St → Option l11_light_l0_X
 | ⟨57, 0, [(0, .sl .act z0), (3, .v (.int .i64 z1)), (4, .v (.int .i64 z2))], []⟩ => some (z0, z1, z2)
 | _ => none
theorem l11_light_l0_unok : ∀ s x, l11_light_l0_un s = some x → s = l11_light_l0_T x := fun s x h => by
 unfold l11_light_l0_un at h
 split at h
 ·cases h; rfl
 ·cases h
def l11_light_l0_S : Shape := ⟨0, 0, [0, 3, 4], [], [], [], [3], []⟩
def l11_light_l0_E : Entry := ⟨[], [], [0, 3, 4], []⟩
def l11_light_l0_f_k0 (a0 : List TAct) (a1 : Int) (a2 : Int) : Bool := !!(decide (a2 < (↑a0.length : Int)) && decide (a1 ≤ (20000 : Int)))
def l11_light_l0_f_1 (a0 : List TAct) (a1 : Int) (a2 : Int) : Int := (l11_light_l2_run (r01_Add_0 (r01_Add_0 (r01_Add_0 a1 (20 : Int) (20000 : Int)) (↑(a0.getD a2.toNat (dflt TC.act)).2.1.size : Int) (20000 : Int)) (↑(a0.getD a2.toNat (dflt TC.act)).3.size : Int) (20000 : Int), (0 : Int), a0.getD a2.toNat (dflt TC.act))).fst
def l11_light_l0_f_7 (a0 : List TAct) (a1 : Int) (a2 : Int) : Bool := !(decide (a2 < (↑a0.length : Int)) && decide (a1 ≤ (20000 : Int)))
def l11_light_l0_next (x : l11_light_l0_X) : l11_light_l0_X := (x.1, l11_light_l0_f_1 x.1 x.2.1 x.2.2, IntKind.i64.wrap (x.2.2 + (1 : Int)))
def l11_light_l0_goes (x : l11_light_l0_X) : Cnd := some ((l11_light_l0_f_k0 x.1 x.2.1 x.2.2))
def l11_light_l0_psA (x : l11_light_l0_X) : List Prop := [((l11_light_l0_f_k0 x.1 x.2.1 x.2.2) = true → (0 : Int) ≤ x.2.2 ∧ x.2.2 < (↑x.1.length : Int)), ((l11_light_l0_f_k0 x.1 x.2.1 x.2.2) = true → loopAt Try.prog (8 : FuncId) (2 : Nat) = loopAt Try.prog (8 : FuncId) (2 : Nat)), ((l11_light_l0_f_k0 x.1 x.2.1 x.2.2) = true → needX l11_light_l2_next l11_light_l2_goes l11_light_l2_ps (l11_light_l2_fuel (r01_Add_0 (r01_Add_0 (r01_Add_0 x.2.1 (20 : Int) (20000 : Int)) (↑(x.1.getD x.2.2.toNat (dflt TC.act)).2.1.size : Int) (20000 : Int)) (↑(x.1.getD x.2.2.toNat (dflt TC.act)).3.size : Int) (20000 : Int), (0 : Int), x.1.getD x.2.2.toNat (dflt TC.act))) (r01_Add_0 (r01_Add_0 (r01_Add_0 x.2.1 (20 : Int) (20000 : Int)) (↑(x.1.getD x.2.2.toNat (dflt TC.act)).2.1.size : Int) (20000 : Int)) (↑(x.1.getD x.2.2.toNat (dflt TC.act)).3.size : Int) (20000 : Int), (0 : Int), x.1.getD x.2.2.toNat (dflt TC.act)))]
def l11_light_l0_ps (x : l11_light_l0_X) : List Prop := [((l11_light_l0_f_k0 x.1 x.2.1 x.2.2) = true → (0 : Int) ≤ x.2.2 ∧ x.2.2 < (↑x.1.length : Int)), ((l11_light_l0_f_k0 x.1 x.2.1 x.2.2) = true → needX l11_light_l2_next l11_light_l2_goes l11_light_l2_ps (l11_light_l2_fuel (r01_Add_0 (r01_Add_0 (r01_Add_0 x.2.1 (20 : Int) (20000 : Int)) (↑(x.1.getD x.2.2.toNat (dflt TC.act)).2.1.size : Int) (20000 : Int)) (↑(x.1.getD x.2.2.toNat (dflt TC.act)).3.size : Int) (20000 : Int), (0 : Int), x.1.getD x.2.2.toNat (dflt TC.act))) (r01_Add_0 (r01_Add_0 (r01_Add_0 x.2.1 (20 : Int) (20000 : Int)) (↑(x.1.getD x.2.2.toNat (dflt TC.act)).2.1.size : Int) (20000 : Int)) (↑(x.1.getD x.2.2.toNat (dflt TC.act)).3.size : Int) (20000 : Int), (0 : Int), x.1.getD x.2.2.toNat (dflt TC.act)))]
def l11_light_l0_outs (x : l11_light_l0_X) : Outs := [(some 0, some (l11_light_l0_f_7 x.1 x.2.1 x.2.2), ⟨57, 0, [(3, .v (.int .i64 x.2.1))], []⟩)]
def l11_light_l0_fuel (x : l11_light_l0_X) : Nat := ((↑x.1.length : Int) - x.2.2).toNat
def l11_light_l0_run (x : l11_light_l0_X) : l11_light_l0_X := iterX l11_light_l0_next l11_light_l0_goes (l11_light_l0_fuel x) x
theorem l11_light_l0_ev (a0 : List TAct) (a1 : Int) (a2 : Int) : roundE (envT Cso6_4 l11_light_l2_L) 9 (loopAt Try.prog 8 0) l11_light_l0_S (l11_light_l0_T (a0, a1, a2)) = some (l11_light_l0_psA (a0, a1, a2), l11_light_l0_outs (a0, a1, a2), l11_light_l0_goes (a0, a1, a2), l11_light_l0_T (l11_light_l0_next (a0, a1, a2))) := by kernel_rfl
theorem l11_light_l0_hA (a0 : List TAct) (a1 : Int) (a2 : Int) (hp : ∀ p ∈ l11_light_l0_ps (a0, a1, a2), p) : ∀ p ∈ l11_light_l0_psA (a0, a1, a2), p := by
 have n0 := N0 hp
 have n1 : ((l11_light_l0_f_k0 a0 a1 a2) = true → loopAt Try.prog (8 : FuncId) (2 : Nat) = loopAt Try.prog (8 : FuncId) (2 : Nat)) := by intros; rfl
 have n2 := N0 (N1 hp)
 exact (needs_cons n0 (needs_cons n1 (needs_cons n2 needs_nil)))
noncomputable def l11_light_l0_row := rowL (envT Cso6_4 l11_light_l2_L) (loopAt Try.prog 8 0) l11_light_l0_S l11_light_l0_E l11_light_l0_un l11_light_l0_fuel l11_light_l0_next l11_light_l0_goes l11_light_l0_ps l11_light_l0_outs
theorem l11_light_l0_rok : ∀ s b ps outs, l11_light_l0_row s = some (b, ps, outs) → Wf s ⟨ps, outs, none⟩ ∧ LoopOk (envT C0 L0) b s ps outs :=
 rowP_ok (T := l11_light_l0_T) Cso6_4_ok l11_light_l2_Lok (u := 9) (by kernel_rfl) (by decide) (fun ⟨a0, a1, a2⟩ => l11_light_l0_ev a0 a1 a2) (fun ⟨a0, a1, a2⟩ => l11_light_l0_hA a0 a1 a2) l11_light_l0_unok (fun _ => okOuts_ok (n := 57) rfl) fun _ _ => rfl
noncomputable def l11_light_l0_L := addLp 0 l11_light_l0_row l11_light_l2_L
theorem l11_light_l0_Lok : LpOk l11_light_l0_L := addLp_ok l11_light_l0_rok l11_light_l2_Lok
def l11_light_0 (a0 : List TAct) : Bool := decide ((l11_light_l0_run (a0, (0 : Int), (0 : Int))).snd.fst ≤ (20000 : Int))
def l11_light_r (a0 : List TAct) : A := .v (.bool (l11_light_0 a0))
def l11_light_o (_a0 : List TAct) : Objs := []
def l11_light_ps (a0 : List TAct) : List Prop := [(needX l11_light_l0_next l11_light_l0_goes l11_light_l0_ps (l11_light_l0_fuel (a0, (0 : Int), (0 : Int))) (a0, (0 : Int), (0 : Int)))]
theorem l11_light_ev (a0 : List TAct) : evF (envT Cso6_4 l11_light_l0_L) 9 8 [.sl .act a0] 0 [] = some (1, l11_light_r a0, 0, l11_light_o a0, [(loopAt Try.prog (8 : FuncId) (0 : Nat) = loopAt Try.prog (8 : FuncId) (0 : Nat)), (needX l11_light_l0_next l11_light_l0_goes l11_light_l0_ps (l11_light_l0_fuel (a0, (0 : Int), (0 : Int))) (a0, (0 : Int), (0 : Int)))]) := by kernel_rfl
theorem l11_light_c (a0 : List TAct) (hp : ∀ p ∈ l11_light_ps a0, p) : CallOk Try.prog 8 [.sl .act a0] 0 [] 1 (l11_light_r a0) 0 (l11_light_o a0) := by
 have n1 := N0 hp
 exact evF_ok (envP_ok Cso6_4_ok l11_light_l0_Lok) (l11_light_ev a0) (needs_cons rfl (needs_cons n1 needs_nil))
def l11_light_t : List A → Nat → Objs → Option CRes := rowK [.l .act] 0 l11_light_r l11_light_o l11_light_ps
theorem l11_light_tok : TOk Try.prog 8 l11_light_t := rowK_ok (ks := [.l .act]) l11_light_c
noncomputable def Cso6_5 := addC 8 l11_light_t Cso6_4
theorem Cso6_5_ok : COk Try.prog Cso6_5 := addC_ok l11_light_tok Cso6_4_ok
noncomputable def Cso6 := Cso6_5
theorem Cso6_ok : COk Try.prog Cso6 := Cso6_5_ok
end Go.Proofs.Ytnfmceffbnaanaa
namespace Go.Proofs.Ytnfmceffbnaanaa
open Go.RowKit
abbrev l11_SortedOrder_l0_X : Type := (List ByteArray) × Int × Int × Int × Int × (List TRow) × (List TRow)
def l11_SortedOrder_l0_T (x : l11_SortedOrder_l0_X) : St := ⟨118, 6, [(0, .sl .str x.1), (1, .v (.int .i64 x.2.1)), (5, .own 0 0), (6, .own 2 0), (7, .v (.int .i64 x.2.2.1)), (24, .v (.int .i64 x.2.2.2.1)), (25, .v (.int .i64 x.2.2.2.2.1))], [(0, some (.box 56 [.dq 4])), (2, some (.box 56 [.dq 5])), (4, some (.abs 0 .row x.2.2.2.2.2.1)), (5, some (.abs 0 .row x.2.2.2.2.2.2))]⟩
def l11_SortedOrder_l0_un : St → Option l11_SortedOrder_l0_X
 | ⟨118, 6, [(0, .sl .str z0), (1, .v (.int .i64 z1)), (5, .own 0 0), (6, .own 2 0), (7, .v (.int .i64 z2)), (24, .v (.int .i64 z3)), (25, .v (.int .i64 z4))], [(0, some (.box 56 [.dq 4])), (2, some (.box 56 [.dq 5])), (4, some (.abs 0 .row z5)), (5, some (.abs 0 .row z6))]⟩ => some (z0, z1, z2, z3, z4, z5, z6)
 | _ => none
theorem l11_SortedOrder_l0_unok : ∀ s x, l11_SortedOrder_l0_un s = some x → s = l11_SortedOrder_l0_T x := fun s x h => by
 unfold l11_SortedOrder_l0_un at h
 split at h
 ·cases h; rfl
 ·cases h
def l11_SortedOrder_l0_S : Shape := ⟨4, 6, [0, 1, 5, 6, 7, 24, 25], [], [(0, 0), (2, 2), (6, 4), (7, 5)], [0, 2, 6, 7], [4], [0, 4, 2, 5]⟩
def l11_SortedOrder_l0_E : Entry := ⟨[], [(0, 0), (2, 2), (1, 4), (3, 5)], [0, 1, 5, 6, 7, 24, 25], [0, 2, 1, 3]⟩
def l11_SortedOrder_l0_f_k4 (a0 : List ByteArray) (_a1 : Int) (a2 : Int) (_a3 : Int) (a4 : Int) (_a5 : List TRow) (_a6 : List TRow) : Int := r01_Add_0 a2 (↑(ByteArray.size (a0.getD a4.toNat (dflt TC.str))) : Int) (20000 : Int)
def l11_SortedOrder_l0_f_k3 (a0 : List ByteArray) (_a1 : Int) (_a2 : Int) (_a3 : Int) (a4 : Int) (_a5 : List TRow) (_a6 : List TRow) : Bool := ByteArray.toList (a0.getD a4.toNat (dflt TC.str)) == (ByteArray.mk #[]).toList
def l11_SortedOrder_l0_f_k2 (a0 : List ByteArray) (a1 : Int) (_a2 : Int) (_a3 : Int) (a4 : Int) (_a5 : List TRow) (_a6 : List TRow) : Int := (IntKind.i64.wrap (a4 + IntKind.i64.wrap ((IntKind.u64.wrap a1).tmod (IntKind.u64.wrap (↑a0.length : Int))))).tmod (↑a0.length : Int)
def l11_SortedOrder_l0_f_k1 (a0 : List ByteArray) (a1 : Int) (a2 : Int) (a3 : Int) (a4 : Int) (a5 : List TRow) (a6 : List TRow) : Bool := ByteArray.toList (a0.getD (l11_SortedOrder_l0_f_k2 a0 a1 a2 a3 a4 a5 a6).toNat (dflt TC.str)) == (ByteArray.mk #[]).toList
def l11_SortedOrder_l0_f_k0 (a0 : List ByteArray) (a1 : Int) (a2 : Int) (a3 : Int) (a4 : Int) (a5 : List TRow) (a6 : List TRow) : Bool := !!decide (a4 < a3) && decide ((l11_SortedOrder_l0_f_k4 a0 a1 a2 a3 a4 a5 a6) > (20000 : Int))
def l11_SortedOrder_l0_f_2 (a0 : List ByteArray) (a1 : Int) (a2 : Int) (a3 : Int) (a4 : Int) (a5 : List TRow) (a6 : List TRow) : Int := (l11_SortedOrder_l0_f_k4 a0 a1 a2 a3 a4 a5 a6)
def l11_SortedOrder_l0_f_5 (a0 : List ByteArray) (a1 : Int) (a2 : Int) (a3 : Int) (a4 : Int) (a5 : List TRow) (a6 : List TRow) : List TRow := bif (l11_SortedOrder_l0_f_k3 a0 a1 a2 a3 a4 a5 a6) then a5 else setR a5 (TRow.mk (a0.getD a4.toNat (dflt TC.str)) [])
def l11_SortedOrder_l0_f_6 (a0 : List ByteArray) (a1 : Int) (a2 : Int) (a3 : Int) (a4 : Int) (a5 : List TRow) (a6 : List TRow) : List TRow := bif (l11_SortedOrder_l0_f_k1 a0 a1 a2 a3 a4 a5 a6) then a6 else setR a6 (TRow.mk (a0.getD (l11_SortedOrder_l0_f_k2 a0 a1 a2 a3 a4 a5 a6).toNat (dflt TC.str)) [])
def l11_SortedOrder_l0_f_7 (a0 : List ByteArray) (a1 : Int) (a2 : Int) (a3 : Int) (a4 : Int) (a5 : List TRow) (a6 : List TRow) : Bool := !!decide (a4 < a3) && !(l11_SortedOrder_l0_f_k0 a0 a1 a2 a3 a4 a5 a6)
def l11_SortedOrder_l0_f_19 (a0 : List ByteArray) (a1 : Int) (a2 : Int) (a3 : Int) (a4 : Int) (a5 : List TRow) (a6 : List TRow) : Bool := (l11_SortedOrder_l0_f_k0 a0 a1 a2 a3 a4 a5 a6)
def l11_SortedOrder_l0_next (x : l11_SortedOrder_l0_X) : l11_SortedOrder_l0_X := (x.1, x.2.1, l11_SortedOrder_l0_f_2 x.1 x.2.1 x.2.2.1 x.2.2.2.1 x.2.2.2.2.1 x.2.2.2.2.2.1 x.2.2.2.2.2.2, x.2.2.2.1, IntKind.i64.wrap (x.2.2.2.2.1 + (1 : Int)), l11_SortedOrder_l0_f_5 x.1 x.2.1 x.2.2.1 x.2.2.2.1 x.2.2.2.2.1 x.2.2.2.2.2.1 x.2.2.2.2.2.2, l11_SortedOrder_l0_f_6 x.1 x.2.1 x.2.2.1 x.2.2.2.1 x.2.2.2.2.1 x.2.2.2.2.2.1 x.2.2.2.2.2.2)
def l11_SortedOrder_l0_goes (x : l11_SortedOrder_l0_X) : Cnd := some (l11_SortedOrder_l0_f_7 x.1 x.2.1 x.2.2.1 x.2.2.2.1 x.2.2.2.2.1 x.2.2.2.2.2.1 x.2.2.2.2.2.2)
def l11_SortedOrder_l0_psA (x : l11_SortedOrder_l0_X) : List Prop := [((!!decide (x.2.2.2.2.1 < x.2.2.2.1)) = true → (0 : Int) ≤ x.2.2.2.2.1 ∧ x.2.2.2.2.1 < (↑x.1.length : Int)), ((!!decide (x.2.2.2.2.1 < x.2.2.2.1)) = true → IntKind.u64.wrap (↑x.1.length : Int) ≠ (0 : Int)), ((!!decide (x.2.2.2.2.1 < x.2.2.2.1)) = true → (↑x.1.length : Int) ≠ (0 : Int)), ((!!decide (x.2.2.2.2.1 < x.2.2.2.1)) = true → (0 : Int) ≤ (l11_SortedOrder_l0_f_k2 x.1 x.2.1 x.2.2.1 x.2.2.2.1 x.2.2.2.2.1 x.2.2.2.2.2.1 x.2.2.2.2.2.2) ∧ (l11_SortedOrder_l0_f_k2 x.1 x.2.1 x.2.2.1 x.2.2.2.1 x.2.2.2.2.1 x.2.2.2.2.2.1 x.2.2.2.2.2.2) < (↑x.1.length : Int)), ((!!decide (x.2.2.2.2.1 < x.2.2.2.1)) = true → (!decide ((l11_SortedOrder_l0_f_k4 x.1 x.2.1 x.2.2.1 x.2.2.2.1 x.2.2.2.2.1 x.2.2.2.2.2.1 x.2.2.2.2.2.2) > (20000 : Int))) = true → (!(l11_SortedOrder_l0_f_k3 x.1 x.2.1 x.2.2.1 x.2.2.2.1 x.2.2.2.2.1 x.2.2.2.2.2.1 x.2.2.2.2.2.2)) = true → boundP (0 : Nat)), ((!!decide (x.2.2.2.2.1 < x.2.2.2.1)) = true → (!decide ((l11_SortedOrder_l0_f_k4 x.1 x.2.1 x.2.2.1 x.2.2.2.1 x.2.2.2.2.1 x.2.2.2.2.2.1 x.2.2.2.2.2.2) > (20000 : Int))) = true → (!(l11_SortedOrder_l0_f_k3 x.1 x.2.1 x.2.2.1 x.2.2.2.1 x.2.2.2.2.1 x.2.2.2.2.2.1 x.2.2.2.2.2.2)) = true → FewR x.2.2.2.2.2.1), ((!!decide (x.2.2.2.2.1 < x.2.2.2.1)) = true → (!decide ((l11_SortedOrder_l0_f_k4 x.1 x.2.1 x.2.2.1 x.2.2.2.1 x.2.2.2.2.1 x.2.2.2.2.2.1 x.2.2.2.2.2.2) > (20000 : Int))) = true → (!(l11_SortedOrder_l0_f_k1 x.1 x.2.1 x.2.2.1 x.2.2.2.1 x.2.2.2.2.1 x.2.2.2.2.2.1 x.2.2.2.2.2.2)) = true → boundP (0 : Nat)), ((!!decide (x.2.2.2.2.1 < x.2.2.2.1)) = true → (!decide ((l11_SortedOrder_l0_f_k4 x.1 x.2.1 x.2.2.1 x.2.2.2.1 x.2.2.2.2.1 x.2.2.2.2.2.1 x.2.2.2.2.2.2) > (20000 : Int))) = true → (!(l11_SortedOrder_l0_f_k1 x.1 x.2.1 x.2.2.1 x.2.2.2.1 x.2.2.2.2.1 x.2.2.2.2.2.1 x.2.2.2.2.2.2)) = true → FewR x.2.2.2.2.2.2)]
def l11_SortedOrder_l0_ps (x : l11_SortedOrder_l0_X) : List Prop := [((!!decide (x.2.2.2.2.1 < x.2.2.2.1)) = true → (0 : Int) ≤ x.2.2.2.2.1 ∧ x.2.2.2.2.1 < (↑x.1.length : Int)), ((!!decide (x.2.2.2.2.1 < x.2.2.2.1)) = true → IntKind.u64.wrap (↑x.1.length : Int) ≠ (0 : Int)), ((!!decide (x.2.2.2.2.1 < x.2.2.2.1)) = true → (↑x.1.length : Int) ≠ (0 : Int)), ((!!decide (x.2.2.2.2.1 < x.2.2.2.1)) = true → (0 : Int) ≤ (l11_SortedOrder_l0_f_k2 x.1 x.2.1 x.2.2.1 x.2.2.2.1 x.2.2.2.2.1 x.2.2.2.2.2.1 x.2.2.2.2.2.2) ∧ (l11_SortedOrder_l0_f_k2 x.1 x.2.1 x.2.2.1 x.2.2.2.1 x.2.2.2.2.1 x.2.2.2.2.2.1 x.2.2.2.2.2.2) < (↑x.1.length : Int)), ((!!decide (x.2.2.2.2.1 < x.2.2.2.1)) = true → (!decide ((l11_SortedOrder_l0_f_k4 x.1 x.2.1 x.2.2.1 x.2.2.2.1 x.2.2.2.2.1 x.2.2.2.2.2.1 x.2.2.2.2.2.2) > (20000 : Int))) = true → (!(l11_SortedOrder_l0_f_k3 x.1 x.2.1 x.2.2.1 x.2.2.2.1 x.2.2.2.2.1 x.2.2.2.2.2.1 x.2.2.2.2.2.2)) = true → FewR x.2.2.2.2.2.1), ((!!decide (x.2.2.2.2.1 < x.2.2.2.1)) = true → (!decide ((l11_SortedOrder_l0_f_k4 x.1 x.2.1 x.2.2.1 x.2.2.2.1 x.2.2.2.2.1 x.2.2.2.2.2.1 x.2.2.2.2.2.2) > (20000 : Int))) = true → (!(l11_SortedOrder_l0_f_k1 x.1 x.2.1 x.2.2.1 x.2.2.2.1 x.2.2.2.2.1 x.2.2.2.2.2.1 x.2.2.2.2.2.2)) = true → FewR x.2.2.2.2.2.2)]
def l11_SortedOrder_l0_outs (x : l11_SortedOrder_l0_X) : Outs := [(some 0, some (!decide (x.2.2.2.2.1 < x.2.2.2.1)), ⟨118, 6, [(4, .dead)], [(0, some (.box 56 [.dq 4])), (4, some (.abs 0 .row x.2.2.2.2.2.1)), (2, some (.box 56 [.dq 5])), (5, some (.abs 0 .row x.2.2.2.2.2.2))]⟩), (none, some (l11_SortedOrder_l0_f_19 x.1 x.2.1 x.2.2.1 x.2.2.2.1 x.2.2.2.2.1 x.2.2.2.2.2.1 x.2.2.2.2.2.2), ⟨118, 6, [(4, .v (.bool (true)))], [(0, some (.box 56 [.dq 4])), (4, some (.abs 0 .row x.2.2.2.2.2.1)), (2, some (.box 56 [.dq 5])), (5, some (.abs 0 .row x.2.2.2.2.2.2))]⟩)]
def l11_SortedOrder_l0_fuel (x : l11_SortedOrder_l0_X) : Nat := (x.2.2.2.1 - x.2.2.2.2.1).toNat
def l11_SortedOrder_l0_run (x : l11_SortedOrder_l0_X) : l11_SortedOrder_l0_X := iterX l11_SortedOrder_l0_next l11_SortedOrder_l0_goes (l11_SortedOrder_l0_fuel x) x
theorem l11_SortedOrder_l0_ev (a0 : List ByteArray) (a1 : Int) (a2 : Int) (a3 : Int) (a4 : Int) (a5 : List TRow) (a6 : List TRow) : roundE (envT Cso6 L0) 9 (loopAt Try.prog 4 0) l11_SortedOrder_l0_S (l11_SortedOrder_l0_T (a0, a1, a2, a3, a4, a5, a6)) = some (l11_SortedOrder_l0_psA (a0, a1, a2, a3, a4, a5, a6), l11_SortedOrder_l0_outs (a0, a1, a2, a3, a4, a5, a6), l11_SortedOrder_l0_goes (a0, a1, a2, a3, a4, a5, a6), l11_SortedOrder_l0_T (l11_SortedOrder_l0_next (a0, a1, a2, a3, a4, a5, a6))) := by kernel_rfl
theorem l11_SortedOrder_l0_hA (a0 : List ByteArray) (a1 : Int) (a2 : Int) (a3 : Int) (a4 : Int) (a5 : List TRow) (a6 : List TRow) (hp : ∀ p ∈ l11_SortedOrder_l0_ps (a0, a1, a2, a3, a4, a5, a6), p) : ∀ p ∈ l11_SortedOrder_l0_psA (a0, a1, a2, a3, a4, a5, a6), p := by
 have n0 := N0 hp
 have n1 := N0 (N1 hp)
 have n2 := N0 (N1 (N1 hp))
 have n3 := N0 (N1 (N1 (N1 hp)))
 have n4 : ((!!decide (a4 < a3)) = true → (!decide ((l11_SortedOrder_l0_f_k4 a0 a1 a2 a3 a4 a5 a6) > (20000 : Int))) = true → (!(l11_SortedOrder_l0_f_k3 a0 a1 a2 a3 a4 a5 a6)) = true → boundP (0 : Nat)) := by intros; first | rfl | decide +kernel | exact ⟨by decide, by decide⟩
 have n5 := N0 (N1 (N1 (N1 (N1 hp))))
 have n6 : ((!!decide (a4 < a3)) = true → (!decide ((l11_SortedOrder_l0_f_k4 a0 a1 a2 a3 a4 a5 a6) > (20000 : Int))) = true → (!(l11_SortedOrder_l0_f_k1 a0 a1 a2 a3 a4 a5 a6)) = true → boundP (0 : Nat)) := by intros; first | rfl | decide +kernel | exact ⟨by decide, by decide⟩
 have n7 := N0 (N1 (N1 (N1 (N1 (N1 hp)))))
 exact (needs_cons n0 (needs_cons n1 (needs_cons n2 (needs_cons n3 (needs_cons n4 (needs_cons n5 (needs_cons n6 (needs_cons n7 needs_nil))))))))
noncomputable def l11_SortedOrder_l0_row := rowL (envT Cso6 L0) (loopAt Try.prog 4 0) l11_SortedOrder_l0_S l11_SortedOrder_l0_E l11_SortedOrder_l0_un l11_SortedOrder_l0_fuel l11_SortedOrder_l0_next l11_SortedOrder_l0_goes l11_SortedOrder_l0_ps l11_SortedOrder_l0_outs
theorem l11_SortedOrder_l0_rok : ∀ s b ps outs, l11_SortedOrder_l0_row s = some (b, ps, outs) → Wf s ⟨ps, outs, none⟩ ∧ LoopOk (envT C0 L0) b s ps outs :=
 rowP_ok (T := l11_SortedOrder_l0_T) Cso6_ok L0_ok (u := 9) (by kernel_rfl) (by decide) (fun ⟨a0, a1, a2, a3, a4, a5, a6⟩ => l11_SortedOrder_l0_ev a0 a1 a2 a3 a4 a5 a6) (fun ⟨a0, a1, a2, a3, a4, a5, a6⟩ => l11_SortedOrder_l0_hA a0 a1 a2 a3 a4 a5 a6) l11_SortedOrder_l0_unok (fun _ => okOuts_ok (n := 118) rfl) fun _ _ => rfl
noncomputable def l11_SortedOrder_l0_L := addLp 0 l11_SortedOrder_l0_row L0
theorem l11_SortedOrder_l0_Lok : LpOk l11_SortedOrder_l0_L := addLp_ok l11_SortedOrder_l0_rok L0_ok
abbrev l11_SortedOrder_l2_X : Type := Int × Int × (List TRow)
def l11_SortedOrder_l2_T (x : l11_SortedOrder_l2_X) : St := ⟨118, 8, [(11, .dq 7), (66, .v (.int .i64 x.1)), (67, .v (.int .i64 x.2.1))], [(7, some (.deep 29 .row x.2.2))]⟩
def l11_SortedOrder_l2_un : St → Option l11_SortedOrder_l2_X
 | ⟨118, 8, [(11, .dq 7), (66, .v (.int .i64 z0)), (67, .v (.int .i64 z1))], [(7, some (.deep 29 .row z2))]⟩ => some (z0, z1, z2)
 | _ => none
theorem l11_SortedOrder_l2_unok : ∀ s x, l11_SortedOrder_l2_un s = some x → s = l11_SortedOrder_l2_T x := fun s x h => by
 unfold l11_SortedOrder_l2_un at h
 split at h
 ·cases h; rfl
 ·cases h
def l11_SortedOrder_l2_S : Shape := ⟨7, 8, [11, 66, 67], [], [(7, 7)], [7], [11, 4], [7]⟩
def l11_SortedOrder_l2_E : Entry := ⟨[], [(6, 7)], [11, 66, 67], [6]⟩
def l11_SortedOrder_l2_f_k1 (_a0 : Int) (a1 : Int) (_a2 : List TRow) : Int := IntKind.i64.wrap (a1 - (1 : Int))
def l11_SortedOrder_l2_f_k0 (a0 : Int) (a1 : Int) (a2 : List TRow) : Bool := !!decide (a1 < a0) && (decide (a1 > (0 : Int)) && !Op.bytesLess (a2.getD (l11_SortedOrder_l2_f_k1 a0 a1 a2).toNat (dflt TC.row)).1.toList (a2.getD a1.toNat (dflt TC.row)).1.toList)
def l11_SortedOrder_l2_f_3 (a0 : Int) (a1 : Int) (a2 : List TRow) : Bool := !!decide (a1 < a0) && !(l11_SortedOrder_l2_f_k0 a0 a1 a2)
def l11_SortedOrder_l2_next (x : l11_SortedOrder_l2_X) : l11_SortedOrder_l2_X := (x.1, IntKind.i64.wrap (x.2.1 + (1 : Int)), x.2.2)
def l11_SortedOrder_l2_goes (x : l11_SortedOrder_l2_X) : Cnd := some (l11_SortedOrder_l2_f_3 x.1 x.2.1 x.2.2)
def l11_SortedOrder_l2_psA (x : l11_SortedOrder_l2_X) : List Prop := [((!!decide (x.2.1 < x.1)) = true → decide (x.2.1 > (0 : Int)) = true → (0 : Int) ≤ (l11_SortedOrder_l2_f_k1 x.1 x.2.1 x.2.2) ∧ (l11_SortedOrder_l2_f_k1 x.1 x.2.1 x.2.2) < (↑x.2.2.length : Int)), ((!!decide (x.2.1 < x.1)) = true → decide (x.2.1 > (0 : Int)) = true → (l11_SortedOrder_l2_f_k1 x.1 x.2.1 x.2.2).toNat < x.2.2.length), ((!!decide (x.2.1 < x.1)) = true → decide (x.2.1 > (0 : Int)) = true → (0 : Int) ≤ x.2.1 ∧ x.2.1 < (↑x.2.2.length : Int)), ((!!decide (x.2.1 < x.1)) = true → decide (x.2.1 > (0 : Int)) = true → x.2.1.toNat < x.2.2.length)]
def l11_SortedOrder_l2_ps (x : l11_SortedOrder_l2_X) : List Prop := [((!!decide (x.2.1 < x.1)) = true → decide (x.2.1 > (0 : Int)) = true → (0 : Int) ≤ (l11_SortedOrder_l2_f_k1 x.1 x.2.1 x.2.2) ∧ (l11_SortedOrder_l2_f_k1 x.1 x.2.1 x.2.2) < (↑x.2.2.length : Int)), ((!!decide (x.2.1 < x.1)) = true → decide (x.2.1 > (0 : Int)) = true → (0 : Int) ≤ x.2.1 ∧ x.2.1 < (↑x.2.2.length : Int))]
def l11_SortedOrder_l2_outs (x : l11_SortedOrder_l2_X) : Outs := [(some 2, some (!decide (x.2.1 < x.1)), ⟨118, 8, [(11, .dq 7), (4, .dead)], [(7, some (.deep 29 .row x.2.2))]⟩), (none, some ((l11_SortedOrder_l2_f_k0 x.1 x.2.1 x.2.2)), ⟨118, 8, [(11, .dq 7), (4, .v (.bool (false)))], [(7, some (.deep 29 .row x.2.2))]⟩)]
def l11_SortedOrder_l2_fuel (x : l11_SortedOrder_l2_X) : Nat := (x.1 - x.2.1).toNat
def l11_SortedOrder_l2_run (x : l11_SortedOrder_l2_X) : l11_SortedOrder_l2_X := iterX l11_SortedOrder_l2_next l11_SortedOrder_l2_goes (l11_SortedOrder_l2_fuel x) x
theorem l11_SortedOrder_l2_ev (a0 : Int) (a1 : Int) (a2 : List TRow) : roundE (envT Cso6 l11_SortedOrder_l0_L) 9 (loopAt Try.prog 4 2) l11_SortedOrder_l2_S (l11_SortedOrder_l2_T (a0, a1, a2)) = some (l11_SortedOrder_l2_psA (a0, a1, a2), l11_SortedOrder_l2_outs (a0, a1, a2), l11_SortedOrder_l2_goes (a0, a1, a2), l11_SortedOrder_l2_T (l11_SortedOrder_l2_next (a0, a1, a2))) := by kernel_rfl
theorem l11_SortedOrder_l2_hA (a0 : Int) (a1 : Int) (a2 : List TRow) (hp : ∀ p ∈ l11_SortedOrder_l2_ps (a0, a1, a2), p) : ∀ p ∈ l11_SortedOrder_l2_psA (a0, a1, a2), p := by
 have n0 : ((!!decide (a1 < a0)) = true → decide (a1 > (0 : Int)) = true → (0 : Int) ≤ (l11_SortedOrder_l2_f_k1 a0 a1 a2) ∧ (l11_SortedOrder_l2_f_k1 a0 a1 a2) < (↑a2.length : Int)) := N0 hp
 have n1 : ((!!decide (a1 < a0)) = true → decide (a1 > (0 : Int)) = true → (l11_SortedOrder_l2_f_k1 a0 a1 a2).toNat < a2.length) := by intro h0 h1; have g := n0 h0 h1; omega
 have n2 : ((!!decide (a1 < a0)) = true → decide (a1 > (0 : Int)) = true → (0 : Int) ≤ a1 ∧ a1 < (↑a2.length : Int)) := N0 (N1 hp)
 have n3 : ((!!decide (a1 < a0)) = true → decide (a1 > (0 : Int)) = true → a1.toNat < a2.length) := by intro h0 h1; have g := n2 h0 h1; omega
 exact (needs_cons n0 (needs_cons n1 (needs_cons n2 (needs_cons n3 needs_nil))))
noncomputable def l11_SortedOrder_l2_row := rowL (envT Cso6 l11_SortedOrder_l0_L) (loopAt Try.prog 4 2) l11_SortedOrder_l2_S l11_SortedOrder_l2_E l11_SortedOrder_l2_un l11_SortedOrder_l2_fuel l11_SortedOrder_l2_next l11_SortedOrder_l2_goes l11_SortedOrder_l2_ps l11_SortedOrder_l2_outs
theorem l11_SortedOrder_l2_rok : ∀ s b ps outs, l11_SortedOrder_l2_row s = some (b, ps, outs) → Wf s ⟨ps, outs, none⟩ ∧ LoopOk (envT C0 L0) b s ps outs :=
 rowP_ok (T := l11_SortedOrder_l2_T) Cso6_ok l11_SortedOrder_l0_Lok (u := 9) (by kernel_rfl) (by decide) (fun ⟨a0, a1, a2⟩ => l11_SortedOrder_l2_ev a0 a1 a2) (fun ⟨a0, a1, a2⟩ => l11_SortedOrder_l2_hA a0 a1 a2) l11_SortedOrder_l2_unok (fun _ => okOuts_ok (n := 118) rfl) fun _ _ => rfl
noncomputable def l11_SortedOrder_l2_L := addLp 2 l11_SortedOrder_l2_row l11_SortedOrder_l0_L
theorem l11_SortedOrder_l2_Lok : LpOk l11_SortedOrder_l2_L := addLp_ok l11_SortedOrder_l2_rok l11_SortedOrder_l0_Lok
abbrev l11_SortedOrder_l4_X : Type := (List ByteArray) × Int × Int × (List TRow)
def l11_SortedOrder_l4_T (x : l11_SortedOrder_l4_X) : St := ⟨118, 9, [(5, .own 0 0), (87, .sl .str x.1), (88, .v (.int .i64 x.2.1)), (89, .v (.int .i64 x.2.2.1))], [(0, some (.box 56 [.dq 8])), (8, some (.abs 0 .row x.2.2.2))]⟩
def l11_SortedOrder_l4_un : St → Option l11_SortedOrder_l4_X
 | ⟨118, 9, [(5, .own 0 0), (87, .sl .str z0), (88, .v (.int .i64 z1)), (89, .v (.int .i64 z2))], [(0, some (.box 56 [.dq 8])), (8, some (.abs 0 .row z3))]⟩ => some (z0, z1, z2, z3)
 | _ => none
theorem l11_SortedOrder_l4_unok : ∀ s x, l11_SortedOrder_l4_un s = some x → s = l11_SortedOrder_l4_T x := fun s x h => by
 unfold l11_SortedOrder_l4_un at h
 split at h
 ·cases h; rfl
 ·cases h
def l11_SortedOrder_l4_S : Shape := ⟨8, 9, [5, 87, 88, 89], [], [(0, 0), (8, 8)], [0, 8], [4], [0, 8]⟩
def l11_SortedOrder_l4_E : Entry := ⟨[], [(0, 0), (4, 8)], [5, 87, 88, 89], [0, 4]⟩
def l11_SortedOrder_l4_f_k0 (a0 : List ByteArray) (a1 : Int) (a2 : Int) (a3 : List TRow) : Bool := !!decide (a2 < a1) && !hasR a3 (a0.getD a2.toNat (dflt TC.str)) == !ByteArray.toList (a0.getD a2.toNat (dflt TC.str)) == (ByteArray.mk #[]).toList
def l11_SortedOrder_l4_f_4 (a0 : List ByteArray) (a1 : Int) (a2 : Int) (a3 : List TRow) : Bool := !!decide (a2 < a1) && !(l11_SortedOrder_l4_f_k0 a0 a1 a2 a3)
def l11_SortedOrder_l4_next (x : l11_SortedOrder_l4_X) : l11_SortedOrder_l4_X := (x.1, x.2.1, IntKind.i64.wrap (x.2.2.1 + (1 : Int)), x.2.2.2)
def l11_SortedOrder_l4_goes (x : l11_SortedOrder_l4_X) : Cnd := some (l11_SortedOrder_l4_f_4 x.1 x.2.1 x.2.2.1 x.2.2.2)
def l11_SortedOrder_l4_psA (x : l11_SortedOrder_l4_X) : List Prop := [((!!decide (x.2.2.1 < x.2.1)) = true → (0 : Int) ≤ x.2.2.1 ∧ x.2.2.1 < (↑x.1.length : Int)), ((!!decide (x.2.2.1 < x.2.1)) = true → ScanP x.2.2.2)]
abbrev l11_SortedOrder_l4_ps : l11_SortedOrder_l4_X → List Prop := l11_SortedOrder_l4_psA
def l11_SortedOrder_l4_outs (x : l11_SortedOrder_l4_X) : Outs := [(some 4, some (!decide (x.2.2.1 < x.2.1)), ⟨118, 9, [(4, .dead)], [(0, some (.box 56 [.dq 8])), (8, some (.abs 0 .row x.2.2.2))]⟩), (none, some ((l11_SortedOrder_l4_f_k0 x.1 x.2.1 x.2.2.1 x.2.2.2)), ⟨118, 11, [(4, .v (.bool (false)))], [(0, some (.box 56 [.dq 8])), (8, some (.abs 0 .row x.2.2.2))]⟩)]
def l11_SortedOrder_l4_fuel (x : l11_SortedOrder_l4_X) : Nat := (x.2.1 - x.2.2.1).toNat
def l11_SortedOrder_l4_run (x : l11_SortedOrder_l4_X) : l11_SortedOrder_l4_X := iterX l11_SortedOrder_l4_next l11_SortedOrder_l4_goes (l11_SortedOrder_l4_fuel x) x
theorem l11_SortedOrder_l4_ev (a0 : List ByteArray) (a1 : Int) (a2 : Int) (a3 : List TRow) : roundE (envT Cso6 l11_SortedOrder_l2_L) 9 (loopAt Try.prog 4 4) l11_SortedOrder_l4_S (l11_SortedOrder_l4_T (a0, a1, a2, a3)) = some (l11_SortedOrder_l4_psA (a0, a1, a2, a3), l11_SortedOrder_l4_outs (a0, a1, a2, a3), l11_SortedOrder_l4_goes (a0, a1, a2, a3), l11_SortedOrder_l4_T (l11_SortedOrder_l4_next (a0, a1, a2, a3))) := by kernel_rfl
theorem l11_SortedOrder_l4_hA (a0 : List ByteArray) (a1 : Int) (a2 : Int) (a3 : List TRow) (hp : ∀ p ∈ l11_SortedOrder_l4_ps (a0, a1, a2, a3), p) : ∀ p ∈ l11_SortedOrder_l4_psA (a0, a1, a2, a3), p := hp
noncomputable def l11_SortedOrder_l4_row := rowL (envT Cso6 l11_SortedOrder_l2_L) (loopAt Try.prog 4 4) l11_SortedOrder_l4_S l11_SortedOrder_l4_E l11_SortedOrder_l4_un l11_SortedOrder_l4_fuel l11_SortedOrder_l4_next l11_SortedOrder_l4_goes l11_SortedOrder_l4_ps l11_SortedOrder_l4_outs
theorem l11_SortedOrder_l4_rok : ∀ s b ps outs, l11_SortedOrder_l4_row s = some (b, ps, outs) → Wf s ⟨ps, outs, none⟩ ∧ LoopOk (envT C0 L0) b s ps outs :=
 rowP_ok (T := l11_SortedOrder_l4_T) Cso6_ok l11_SortedOrder_l2_Lok (u := 9) (by kernel_rfl) (by decide) (fun ⟨a0, a1, a2, a3⟩ => l11_SortedOrder_l4_ev a0 a1 a2 a3) (fun ⟨a0, a1, a2, a3⟩ => l11_SortedOrder_l4_hA a0 a1 a2 a3) l11_SortedOrder_l4_unok (fun _ => okOuts_ok (n := 118) rfl) fun _ _ => rfl
noncomputable def l11_SortedOrder_l4_L := addLp 4 l11_SortedOrder_l4_row l11_SortedOrder_l2_L
theorem l11_SortedOrder_l4_Lok : LpOk l11_SortedOrder_l4_L := addLp_ok l11_SortedOrder_l4_rok l11_SortedOrder_l2_Lok
def l11_SortedOrder_k8 (a0 : List ByteArray) (_a1 : Int) : Bool := decide ((↑a0.length : Int) > (200 : Int))
def l11_SortedOrder_k7 (a0 : List ByteArray) (a1 : Int) : List TRow := (l11_SortedOrder_l0_run (a0, a1, (0 : Int), (↑a0.length : Int), (0 : Int), [], [])).snd.snd.snd.snd.snd.fst
def l11_SortedOrder_k6 (a0 : List ByteArray) (a1 : Int) : List TRow := (l11_SortedOrder_l0_run (a0, a1, (0 : Int), (↑a0.length : Int), (0 : Int), [], [])).snd.snd.snd.snd.snd.snd
def l11_SortedOrder_k5 (a0 : List ByteArray) (a1 : Int) : List TRow := scanR (l11_SortedOrder_k7 a0 a1) (ByteArray.mk #[]) (ByteArray.mk #[]) (1000 : Int)
def l11_SortedOrder_k4 (a0 : List ByteArray) (a1 : Int) : List TRow := (l11_SortedOrder_l2_run ((↑(l11_SortedOrder_k5 a0 a1).length : Int), (0 : Int), (l11_SortedOrder_k5 a0 a1))).snd.snd
def l11_SortedOrder_k3 (a0 : List ByteArray) (a1 : Int) : Bool := (↑(l11_SortedOrder_k4 a0 a1).length : Int) == (↑(l11_SortedOrder_l4_run (a0, (↑a0.length : Int), (0 : Int), (l11_SortedOrder_k7 a0 a1))).snd.snd.snd.length : Int)
def l11_SortedOrder_k2 (a0 : List ByteArray) (a1 : Int) : Bool := l11_SortedOrder_l4_f_k0 (l11_SortedOrder_l4_run (a0, (↑a0.length : Int), (0 : Int), (l11_SortedOrder_k7 a0 a1))).fst (l11_SortedOrder_l4_run (a0, (↑a0.length : Int), (0 : Int), (l11_SortedOrder_k7 a0 a1))).snd.fst (l11_SortedOrder_l4_run (a0, (↑a0.length : Int), (0 : Int), (l11_SortedOrder_k7 a0 a1))).snd.snd.fst (l11_SortedOrder_l4_run (a0, (↑a0.length : Int), (0 : Int), (l11_SortedOrder_k7 a0 a1))).snd.snd.snd
def l11_SortedOrder_k1 (a0 : List ByteArray) (a1 : Int) : Bool := l11_SortedOrder_l0_f_19 (l11_SortedOrder_l0_run (a0, a1, (0 : Int), (↑a0.length : Int), (0 : Int), [], [])).fst (l11_SortedOrder_l0_run (a0, a1, (0 : Int), (↑a0.length : Int), (0 : Int), [], [])).snd.fst (l11_SortedOrder_l0_run (a0, a1, (0 : Int), (↑a0.length : Int), (0 : Int), [], [])).snd.snd.fst (l11_SortedOrder_l0_run (a0, a1, (0 : Int), (↑a0.length : Int), (0 : Int), [], [])).snd.snd.snd.fst (l11_SortedOrder_l0_run (a0, a1, (0 : Int), (↑a0.length : Int), (0 : Int), [], [])).snd.snd.snd.snd.fst (l11_SortedOrder_k7 a0 a1) (l11_SortedOrder_k6 a0 a1)
def l11_SortedOrder_k0 (a0 : List ByteArray) (a1 : Int) : Bool := l11_SortedOrder_l2_f_k0 (l11_SortedOrder_l2_run ((↑(l11_SortedOrder_k5 a0 a1).length : Int), (0 : Int), (l11_SortedOrder_k5 a0 a1))).fst (l11_SortedOrder_l2_run ((↑(l11_SortedOrder_k5 a0 a1).length : Int), (0 : Int), (l11_SortedOrder_k5 a0 a1))).snd.fst (l11_SortedOrder_k4 a0 a1)
def l11_SortedOrder_0 (a0 : List ByteArray) (a1 : Int) : Bool := bif (l11_SortedOrder_k8 a0 a1) then true else bif (l11_SortedOrder_k1 a0 a1) then true else bif (l11_SortedOrder_k0 a0 a1) then false else bif (l11_SortedOrder_k2 a0 a1) then false else bif (l11_SortedOrder_k3 a0 a1) && eqRs (l11_SortedOrder_k4 a0 a1) (scanR (l11_SortedOrder_k6 a0 a1) (ByteArray.mk #[]) (ByteArray.mk #[]) (1000 : Int)) then true else bif (l11_SortedOrder_k3 a0 a1) then false else false
def l11_SortedOrder_r (a0 : List ByteArray) (a1 : Int) : A := .v (.bool (l11_SortedOrder_0 a0 a1))
def l11_SortedOrder_o (_a0 : List ByteArray) (_a1 : Int) : Objs := []
def l11_SortedOrder_ps (a0 : List ByteArray) (a1 : Int) : List Prop := [((!(l11_SortedOrder_k8 a0 a1)) = true → needX l11_SortedOrder_l0_next l11_SortedOrder_l0_goes l11_SortedOrder_l0_ps (l11_SortedOrder_l0_fuel (a0, a1, (0 : Int), (↑a0.length : Int), (0 : Int), [], [])) (a0, a1, (0 : Int), (↑a0.length : Int), (0 : Int), [], [])), ((!(l11_SortedOrder_k8 a0 a1)) = true → (!(l11_SortedOrder_k1 a0 a1)) = true → ScanP (l11_SortedOrder_k7 a0 a1)), ((!(l11_SortedOrder_k8 a0 a1)) = true → (!(l11_SortedOrder_k1 a0 a1)) = true → needX l11_SortedOrder_l2_next l11_SortedOrder_l2_goes l11_SortedOrder_l2_ps (l11_SortedOrder_l2_fuel ((↑(l11_SortedOrder_k5 a0 a1).length : Int), (0 : Int), (l11_SortedOrder_k5 a0 a1))) ((↑(l11_SortedOrder_k5 a0 a1).length : Int), (0 : Int), (l11_SortedOrder_k5 a0 a1))), ((!(l11_SortedOrder_k8 a0 a1)) = true → (!(l11_SortedOrder_k1 a0 a1)) = true → (!(l11_SortedOrder_k0 a0 a1)) = true → needX l11_SortedOrder_l4_next l11_SortedOrder_l4_goes l11_SortedOrder_l4_ps (l11_SortedOrder_l4_fuel (a0, (↑a0.length : Int), (0 : Int), (l11_SortedOrder_k7 a0 a1))) (a0, (↑a0.length : Int), (0 : Int), (l11_SortedOrder_k7 a0 a1))), ((!(l11_SortedOrder_k8 a0 a1)) = true → (!(l11_SortedOrder_k1 a0 a1)) = true → (!(l11_SortedOrder_k0 a0 a1)) = true → (!(l11_SortedOrder_k2 a0 a1)) = true → (l11_SortedOrder_k3 a0 a1) = true → ScanP (l11_SortedOrder_k6 a0 a1)), ((!(l11_SortedOrder_k8 a0 a1)) = true → (!(l11_SortedOrder_k1 a0 a1)) = true → (!(l11_SortedOrder_k0 a0 a1)) = true → (!(l11_SortedOrder_k2 a0 a1)) = true → (l11_SortedOrder_k3 a0 a1) = true → true = true → wideN (l11_SortedOrder_k4 a0 a1).length), ((!(l11_SortedOrder_k8 a0 a1)) = true → (!(l11_SortedOrder_k1 a0 a1)) = true → (!(l11_SortedOrder_k0 a0 a1)) = true → (!(l11_SortedOrder_k2 a0 a1)) = true → (l11_SortedOrder_k3 a0 a1) = true → true = true → ∀ (r : TRow), r ∈ (l11_SortedOrder_k4 a0 a1) → boundP r.2.length)]
theorem l11_SortedOrder_ev (a0 : List ByteArray) (a1 : Int) : evF (envT Cso6 l11_SortedOrder_l4_L) 9 4 [.sl .str a0, valA .i64 a1] 0 [] = some (1, l11_SortedOrder_r a0 a1, 0, l11_SortedOrder_o a0 a1, [((!(l11_SortedOrder_k8 a0 a1)) = true → loopAt Try.prog (4 : FuncId) (0 : Nat) = loopAt Try.prog (4 : FuncId) (0 : Nat)), ((!(l11_SortedOrder_k8 a0 a1)) = true → needX l11_SortedOrder_l0_next l11_SortedOrder_l0_goes l11_SortedOrder_l0_ps (l11_SortedOrder_l0_fuel (a0, a1, (0 : Int), (↑a0.length : Int), (0 : Int), [], [])) (a0, a1, (0 : Int), (↑a0.length : Int), (0 : Int), [], [])), ((!(l11_SortedOrder_k8 a0 a1)) = true → (!(l11_SortedOrder_k1 a0 a1)) = true → ScanP (l11_SortedOrder_k7 a0 a1)), ((!(l11_SortedOrder_k8 a0 a1)) = true → (!(l11_SortedOrder_k1 a0 a1)) = true → loopAt Try.prog (4 : FuncId) (2 : Nat) = loopAt Try.prog (4 : FuncId) (2 : Nat)), ((!(l11_SortedOrder_k8 a0 a1)) = true → (!(l11_SortedOrder_k1 a0 a1)) = true → needX l11_SortedOrder_l2_next l11_SortedOrder_l2_goes l11_SortedOrder_l2_ps (l11_SortedOrder_l2_fuel ((↑(l11_SortedOrder_k5 a0 a1).length : Int), (0 : Int), (l11_SortedOrder_k5 a0 a1))) ((↑(l11_SortedOrder_k5 a0 a1).length : Int), (0 : Int), (l11_SortedOrder_k5 a0 a1))), ((!(l11_SortedOrder_k8 a0 a1)) = true → (!(l11_SortedOrder_k1 a0 a1)) = true → (!(l11_SortedOrder_k0 a0 a1)) = true → loopAt Try.prog (4 : FuncId) (4 : Nat) = loopAt Try.prog (4 : FuncId) (4 : Nat)), ((!(l11_SortedOrder_k8 a0 a1)) = true → (!(l11_SortedOrder_k1 a0 a1)) = true → (!(l11_SortedOrder_k0 a0 a1)) = true → needX l11_SortedOrder_l4_next l11_SortedOrder_l4_goes l11_SortedOrder_l4_ps (l11_SortedOrder_l4_fuel (a0, (↑a0.length : Int), (0 : Int), (l11_SortedOrder_k7 a0 a1))) (a0, (↑a0.length : Int), (0 : Int), (l11_SortedOrder_k7 a0 a1))), ((!(l11_SortedOrder_k8 a0 a1)) = true → (!(l11_SortedOrder_k1 a0 a1)) = true → (!(l11_SortedOrder_k0 a0 a1)) = true → (!(l11_SortedOrder_k2 a0 a1)) = true → (l11_SortedOrder_k3 a0 a1) = true → ScanP (l11_SortedOrder_k6 a0 a1)), ((!(l11_SortedOrder_k8 a0 a1)) = true → (!(l11_SortedOrder_k1 a0 a1)) = true → (!(l11_SortedOrder_k0 a0 a1)) = true → (!(l11_SortedOrder_k2 a0 a1)) = true → (l11_SortedOrder_k3 a0 a1) = true → true = true → wideN (l11_SortedOrder_k4 a0 a1).length), ((!(l11_SortedOrder_k8 a0 a1)) = true → (!(l11_SortedOrder_k1 a0 a1)) = true → (!(l11_SortedOrder_k0 a0 a1)) = true → (!(l11_SortedOrder_k2 a0 a1)) = true → (l11_SortedOrder_k3 a0 a1) = true → true = true → ∀ (r : TRow), r ∈ (l11_SortedOrder_k4 a0 a1) → boundP r.2.length), ((!(l11_SortedOrder_k8 a0 a1)) = true → (!(l11_SortedOrder_k1 a0 a1)) = true → (!(l11_SortedOrder_k0 a0 a1)) = true → (!(l11_SortedOrder_k2 a0 a1)) = true → false = false), ((!(l11_SortedOrder_k8 a0 a1)) = true → (!(l11_SortedOrder_k1 a0 a1)) = true → (!(l11_SortedOrder_k0 a0 a1)) = true → (!(l11_SortedOrder_k2 a0 a1)) = true → false = false), ((!(l11_SortedOrder_k8 a0 a1)) = true → (!(l11_SortedOrder_k1 a0 a1)) = true → (!(l11_SortedOrder_k0 a0 a1)) = true → (!(l11_SortedOrder_k2 a0 a1)) = true → (l11_SortedOrder_k3 a0 a1) = true → false = false), ((!(l11_SortedOrder_k8 a0 a1)) = true → (!(l11_SortedOrder_k1 a0 a1)) = true → (!(l11_SortedOrder_k0 a0 a1)) = true → (!(l11_SortedOrder_k2 a0 a1)) = true → false = false)]) := by kernel_rfl
theorem l11_SortedOrder_c (a0 : List ByteArray) (a1 : Int) (hp : ∀ p ∈ l11_SortedOrder_ps a0 a1, p) : CallOk Try.prog 4 [.sl .str a0, valA .i64 a1] 0 [] 1 (l11_SortedOrder_r a0 a1) 0 (l11_SortedOrder_o a0 a1) := by
 have n0 : ((!(l11_SortedOrder_k8 a0 a1)) = true → loopAt Try.prog (4 : FuncId) (0 : Nat) = loopAt Try.prog (4 : FuncId) (0 : Nat)) := by intros; rfl
 have n1 : ((!(l11_SortedOrder_k8 a0 a1)) = true → needX l11_SortedOrder_l0_next l11_SortedOrder_l0_goes l11_SortedOrder_l0_ps (l11_SortedOrder_l0_fuel (a0, a1, (0 : Int), (↑a0.length : Int), (0 : Int), [], [])) (a0, a1, (0 : Int), (↑a0.length : Int), (0 : Int), [], [])) := N0 hp
 have n2 := N0 (N1 hp)
 have n3 : ((!(l11_SortedOrder_k8 a0 a1)) = true → (!(l11_SortedOrder_k1 a0 a1)) = true → loopAt Try.prog (4 : FuncId) (2 : Nat) = loopAt Try.prog (4 : FuncId) (2 : Nat)) := by intros; rfl
 have n4 := N0 (N1 (N1 hp))
 have n5 : ((!(l11_SortedOrder_k8 a0 a1)) = true → (!(l11_SortedOrder_k1 a0 a1)) = true → (!(l11_SortedOrder_k0 a0 a1)) = true → loopAt Try.prog (4 : FuncId) (4 : Nat) = loopAt Try.prog (4 : FuncId) (4 : Nat)) := by intros; rfl
 have n6 := N0 (N1 (N1 (N1 hp)))
 have n7 := N0 (N1 (N1 (N1 (N1 hp))))
 have n8 := N0 (N1 (N1 (N1 (N1 (N1 hp)))))
 have n9 := N0 (N1 (N1 (N1 (N1 (N1 (N1 hp))))))
 have n10 : ((!(l11_SortedOrder_k8 a0 a1)) = true → (!(l11_SortedOrder_k1 a0 a1)) = true → (!(l11_SortedOrder_k0 a0 a1)) = true → (!(l11_SortedOrder_k2 a0 a1)) = true → false = false) := by intros; rfl
 have n12 : ((!(l11_SortedOrder_k8 a0 a1)) = true → (!(l11_SortedOrder_k1 a0 a1)) = true → (!(l11_SortedOrder_k0 a0 a1)) = true → (!(l11_SortedOrder_k2 a0 a1)) = true → (l11_SortedOrder_k3 a0 a1) = true → false = false) := by intros; rfl
 exact evF_ok (envP_ok Cso6_ok l11_SortedOrder_l4_Lok) (l11_SortedOrder_ev a0 a1) (needs_cons n0 (needs_cons n1 (needs_cons n2 (needs_cons n3 (needs_cons n4 (needs_cons n5 (needs_cons n6 (needs_cons n7 (needs_cons n8 (needs_cons n9 (needs_cons n10 (needs_cons n10 (needs_cons n12 (needs_cons n10 needs_nil))))))))))))))
end Go.Proofs.Ytnfmceffbnaanaa
namespace Go.Proofs.Ytnfmceffbnaanaa
open Go.RowKit
theorem kLt_two {a b : ByteArray} (h : a ≠ b) : kLt a b = true ∨ kLt b a = true := by
 cases hl : kLt a b with
 | true => exact .inl rfl
 | false => exact .inr (bless_total (x := a.toList) (y := b.toList) hl fun e => h (toL_inj e))
theorem ne_lt {a b : ByteArray} : a ≠ b ↔ (kLt a b = true ∨ kLt b a = true) := ⟨kLt_two, fun h => by
 rcases h with h | h
 ·exact kLt_ne h
 ·exact (kLt_ne h).symm⟩
theorem setR_mem {rows : List TRow} {r x : TRow} : x ∈ setR rows r ↔ (x ∈ rows ∧ x.key ≠ r.key) ∨ x = r := by
 unfold setR
 rw [List.mem_append, List.mem_cons, List.mem_filter, List.mem_filter, ne_lt]
 constructor
 ·rintro (⟨h1, h2⟩ | rfl | ⟨h1, h2⟩)
  ·exact .inl ⟨h1, .inl h2⟩
  ·exact .inr rfl
  ·exact .inl ⟨h1, .inr h2⟩
 ·rintro (⟨h1, h2 | h2⟩ | rfl)
  ·exact .inl ⟨h1, h2⟩
  ·exact .inr (.inr ⟨h1, h2⟩)
  ·exact .inr (.inl rfl)
theorem setR_sort {rows : List TRow} {r : TRow} (h : SortR rows) : SortR (setR rows r) := by
 unfold setR
 refine List.pairwise_append.2 ⟨h.filter _, List.pairwise_cons.2 ⟨fun x hx => (List.mem_filter.1 hx).2, h.filter _⟩, fun a ha b hb => ?_⟩
 have ha := (List.mem_filter.1 ha).2
 rcases List.mem_cons.1 hb with rfl | hb
 ·exact ha
 ·exact kLt_trans ha (List.mem_filter.1 hb).2
theorem two_len (key : ByteArray) : ∀ rows : List TRow, (rows.filter fun x => kLt x.key key).length + (rows.filter fun x => kLt key x.key).length ≤ rows.length
 | [] => Nat.le_refl _
 | x :: l => by
  have ih := two_len key l
  cases h1 : kLt x.key key with
  | true =>
   rw [List.filter_cons_of_pos (by exact h1), List.filter_cons_of_neg (by show ¬ kLt key x.key = true; rw [kLt_asymm h1]; exact Bool.false_ne_true), List.length_cons, List.length_cons]
   omega
  | false =>
   rw [List.filter_cons_of_neg (by show ¬ kLt x.key key = true; rw [h1]; exact Bool.false_ne_true)]
   cases h2 : kLt key x.key with
   | true => rw [List.filter_cons_of_pos (by exact h2), List.length_cons, List.length_cons]; omega
   | false => rw [List.filter_cons_of_neg (by show ¬ kLt key x.key = true; rw [h2]; exact Bool.false_ne_true), List.length_cons]; omega
theorem setR_len (rows : List TRow) (r : TRow) : (setR rows r).length ≤ rows.length + 1 := by
 have := two_len r.key rows
 unfold setR
 rw [List.length_append, List.length_cons]
 omega
theorem hasR_iff {rows : List TRow} {key : ByteArray} : hasR rows key = true ↔ ∃ x ∈ rows, x.key = key := by
 unfold hasR
 rw [List.any_eq_true]
 constructor
 ·rintro ⟨x, h1, h2⟩; exact ⟨x, h1, eq_of_beq h2⟩
 ·rintro ⟨x, h1, h2⟩; exact ⟨x, h1, by rw [h2]; exact beq_self_eq_true _⟩
theorem sort_ext : ∀ {a b : List TRow}, SortR a → SortR b → (∀ x, x ∈ a ↔ x ∈ b) → a = b
 | [], [], _, _, _ => rfl
 | [], y :: b, _, _, h => absurd ((h y).2 (List.mem_cons_self ..)) (by simp)
 | x :: a, [], _, _, h => absurd ((h x).1 (List.mem_cons_self ..)) (by simp)
 | x :: a, y :: b, ha, hb, h => by
  obtain ⟨a1, a2⟩ := List.pairwise_cons.1 ha
  obtain ⟨b1, b2⟩ := List.pairwise_cons.1 hb
  have hxy : x = y := by
   rcases List.mem_cons.1 ((h x).1 (List.mem_cons_self ..)) with e | hx
   ·exact e
   ·rcases List.mem_cons.1 ((h y).2 (List.mem_cons_self ..)) with e | hy
    ·exact e.symm
    ·have := kLt_trans (a1 y hy) (b1 x hx)
     rw [kLt_irrefl] at this
     cases this
  subst hxy
  congr 1
  refine sort_ext a2 b2 fun z => ⟨fun hz => ?_, fun hz => ?_⟩
  ·rcases List.mem_cons.1 ((h z).1 (List.mem_cons_of_mem _ hz)) with e | hz'
   ·subst e
    have := a1 z hz
    rw [kLt_irrefl] at this
    cases this
   ·exact hz'
  ·rcases List.mem_cons.1 ((h z).2 (List.mem_cons_of_mem _ hz)) with e | hz'
   ·subst e
    have := b1 z hz
    rw [kLt_irrefl] at this
    cases this
   ·exact hz'
def E0 : ByteArray := ByteArray.mk #[]
theorem kLt_E0 (a : ByteArray) : kLt a E0 = false := by
 unfold kLt
 have : E0.toList = [] := by rw [ByteArray.toList_eq]; rfl
 rw [this]
 cases a.toList <;> rfl
theorem inR_all (r : TRow) : inR E0 E0 r = true := by
 show (!kLt r.key E0 && (E0.toList == E0.toList || kLt r.key E0)) = true
 rw [kLt_E0, beq_self_eq_true]
 rfl
theorem scan_all {rows : List TRow} {n : Int} (h : (rows.length : Int) ≤ n) : scanR rows E0 E0 n = rows := by
 unfold scanR
 rw [filter_all fun x _ => inR_all x, List.take_of_length_le (by omega)]
def put (m : List TRow) (k : ByteArray) : List TRow := bif k.toList == E0.toList then m else setR m ⟨k, []⟩
theorem isE {k : ByteArray} : (k.toList == E0.toList) = true ↔ k = E0 := by rw [tlb, beq_iff_eq]
structure Puts (l : List ByteArray) (m : List TRow) : Prop where
 sort : SortR m
 mem : ∀ x, x ∈ m ↔ x.key ∈ l ∧ x.key ≠ E0 ∧ x.cells = []
 len : m.length ≤ l.length
theorem Puts.step {l : List ByteArray} {m : List TRow} (h : Puts l m) (k : ByteArray) : Puts (l ++ [k]) (put m k) := by
 unfold put
 cases hk : k.toList == E0.toList with
 | true =>
  have ek := isE.1 hk
  refine ⟨h.sort, fun x => ?_, by rw [List.length_append]; have := h.len; simp; omega⟩
  rw [cond_true, h.mem, List.mem_append, List.mem_singleton]
  constructor
  ·rintro ⟨h1, h2, h3⟩; exact ⟨.inl h1, h2, h3⟩
  ·rintro ⟨h1 | h1, h2, h3⟩
   ·exact ⟨h1, h2, h3⟩
   ·exact absurd (h1.trans ek) h2
 | false =>
  have ek : k ≠ E0 := fun e => by rw [isE.2 e] at hk; cases hk
  refine ⟨setR_sort h.sort, fun x => ?_, ?_⟩
  ·rw [cond_false, setR_mem, h.mem, List.mem_append, List.mem_singleton]
   constructor
   ·rintro (⟨⟨h1, h2, h3⟩, _⟩ | rfl)
    ·exact ⟨.inl h1, h2, h3⟩
    ·exact ⟨.inr rfl, ek, rfl⟩
   ·rintro ⟨h1, h2, h3⟩
    by_cases e : x.key = k
    ·right
     cases x
     cases e
     cases h3
     rfl
    ·rcases h1 with h1 | h1
     ·exact .inl ⟨⟨h1, h2, h3⟩, e⟩
     ·exact absurd h1 e
  ·have h1 := setR_len m ⟨k, []⟩
   have h2 := h.len
   rw [cond_false, List.length_append, List.length_singleton]
   omega
theorem Puts.nil : Puts [] [] := ⟨List.Pairwise.nil, fun _ => ⟨fun h => (nomatch h), fun h => (nomatch h.1)⟩, Nat.le_refl _⟩
theorem Puts.same {l l' : List ByteArray} {m m' : List TRow} (h : Puts l m) (h' : Puts l' m') (he : ∀ k, k ∈ l ↔ k ∈ l') : m = m' :=
 sort_ext h.sort h'.sort fun x => by rw [h.mem, h'.mem, he]
theorem Puts.has {l : List ByteArray} {m : List TRow} (h : Puts l m) {k : ByteArray} (hk : k ∈ l) : hasR m k = !(k.toList == E0.toList) := by
 rw [Bool.eq_iff_iff, hasR_iff]
 constructor
 ·rintro ⟨x, h1, rfl⟩
  have := ((h.mem x).1 h1).2.1
  cases hb : x.key.toList == E0.toList with
  | true => exact absurd (isE.1 hb) this
  | false => rfl
 ·intro hb
  refine ⟨⟨k, []⟩, (h.mem _).2 ⟨hk, fun e => ?_, rfl⟩, rfl⟩
  have e' : k = E0 := e
  rw [isE.2 e'] at hb
  cases hb
theorem Puts.scan {l : List ByteArray} {m : List TRow} (h : Puts l m) (hl : l.length ≤ 1000000) : ScanP m := ⟨by have := h.len; unfold boundP; omega, fun r hr => by rw [((h.mem r).1 hr).2.2]; exact Nat.zero_le _⟩
end Go.Proofs.Ytnfmceffbnaanaa
namespace Go.Proofs.Ytnfmceffbnaanaa
open Go.RowKit
def shf (n : Nat) (turn : Int) : Nat := ((IntKind.u64.wrap turn) % (n : Int)).toNat
def tau (n : Nat) (turn : Int) (i : Nat) : Nat := (i + shf n turn) % n
def kA (keys : List ByteArray) (i : Nat) : List ByteArray := keys.take i
def kB (keys : List ByteArray) (turn : Int) (i : Nat) : List ByteArray := (List.range i).map fun j => keys.getD (tau keys.length turn j) (dflt TC.str)
def mA (keys : List ByteArray) (i : Nat) : List TRow := (kA keys i).foldl put []
def mB (keys : List ByteArray) (turn : Int) (i : Nat) : List TRow := (kB keys turn i).foldl put []
theorem fold_puts : ∀ (l l0 : List ByteArray) (m : List TRow), Puts l0 m → Puts (l0 ++ l) (l.foldl put m)
 | [], l0, m, h => by rw [List.append_nil]; exact h
 | k :: l, l0, m, h => by
  have := fold_puts l (l0 ++ [k]) (put m k) (h.step k)
  rw [List.append_assoc] at this
  exact this
theorem mA_puts (keys : List ByteArray) (i : Nat) : Puts (kA keys i) (mA keys i) := by have := fold_puts (kA keys i) [] [] Puts.nil; exact this
theorem mB_puts (keys : List ByteArray) (turn : Int) (i : Nat) : Puts (kB keys turn i) (mB keys turn i) := by have := fold_puts (kB keys turn i) [] [] Puts.nil; exact this
theorem mA_succ (keys : List ByteArray) (i : Nat) (h : i < keys.length) : mA keys (i + 1) = put (mA keys i) (keys.getD i (dflt TC.str)) := by
 unfold mA kA
 rw [take_get keys (dflt TC.str) i h, List.foldl_append]
 rfl
theorem mB_succ (keys : List ByteArray) (turn : Int) (i : Nat) : mB keys turn (i + 1) = put (mB keys turn i) (keys.getD (tau keys.length turn i) (dflt TC.str)) := by
 unfold mB kB
 rw [List.range_succ, List.map_append, List.foldl_append]
 rfl
theorem tau_lt {n : Nat} (turn : Int) (i : Nat) (h : 0 < n) : tau n turn i < n := Nat.mod_lt _ h
theorem same_keys (keys : List ByteArray) (turn : Int) (k : ByteArray) : k ∈ kA keys keys.length ↔ k ∈ kB keys turn keys.length := by
 unfold kA kB
 rw [List.take_length, List.mem_map]
 constructor
 ·intro h
  obtain ⟨i, hi⟩ := List.getElem?_of_mem h
  have hlt := (List.getElem?_eq_some_iff.1 hi).1
  have hn : 0 < keys.length := by omega
  have hs : shf keys.length turn < keys.length := by
   unfold shf
   have := Int.emod_nonneg (IntKind.u64.wrap turn) (show (keys.length : Int) ≠ 0 by omega)
   have := Int.emod_lt_of_pos (IntKind.u64.wrap turn) (show (0 : Int) < (keys.length : Int) by omega)
   omega
  refine ⟨(i + (keys.length - shf keys.length turn)) % keys.length, List.mem_range.2 (Nat.mod_lt _ hn), ?_⟩
  have : tau keys.length turn ((i + (keys.length - shf keys.length turn)) % keys.length) = i := by
   unfold tau
   rw [Nat.mod_add_mod, show i + (keys.length - shf keys.length turn) + shf keys.length turn = i + keys.length from by omega, Nat.add_mod_right, Nat.mod_eq_of_lt hlt]
  rw [this, List.getD_eq_getElem?_getD, hi]
  rfl
 ·rintro ⟨j, hj, rfl⟩
  have hn : 0 < keys.length := Nat.lt_of_le_of_lt (Nat.zero_le _) (List.mem_range.1 hj)
  exact getD_in _ _ _ (tau_lt turn j hn)
def cntO (keys : List ByteArray) : Nat → Int
 | 0 => 0
 | i + 1 => r01_Add_0 (cntO keys i) ((keys.getD i (dflt TC.str)).size : Int) 20000
def badO (keys : List ByteArray) (i : Nat) : Bool := decide (cntO keys (i + 1) > 20000)
theorem u64_small {n : Nat} (h : n ≤ 200) : IntKind.u64.wrap (n : Int) = (n : Int) := by
 have e : (2 : Int) ^ IntKind.u64.bits = 18446744073709551616 := rfl
 show (n : Int) % (2 ^ IntKind.u64.bits) = _
 rw [e]
 exact Int.emod_eq_of_lt (by omega) (by omega)
theorem f_k2 {keys : List ByteArray} (hn : keys.length ≤ 200) (turn n : Int) (b : Int) {i : Nat} (hi : i < keys.length) (m m' : List TRow) : l11_SortedOrder_l0_f_k2 keys turn n b (i : Int) m m' = (tau keys.length turn i : Int) := by
 have h0 := (wrap_within .u64 turn).1
 have hw := u64_small hn
 have h0' : (0 : Int) ≤ IntKind.u64.wrap turn := h0
 unfold l11_SortedOrder_l0_f_k2 tau shf
 rw [hw, Int.tmod_eq_emod_of_nonneg h0']
 have h1 := Int.emod_nonneg (IntKind.u64.wrap turn) (show (keys.length : Int) ≠ 0 by omega)
 have h2 := Int.emod_lt_of_pos (IntKind.u64.wrap turn) (show (0 : Int) < (keys.length : Int) by omega)
 generalize (IntKind.u64.wrap turn) % (keys.length : Int) = s at *
 rw [i64_in (n := s) (by omega), i64_in (n := (i : Int) + s) (by omega), Int.tmod_eq_emod_of_nonneg (by omega)]
 have : (i : Int) + s = ((i + s.toNat : Nat) : Int) := by omega
 rw [this]
 rfl
theorem or_l0 {keys : List ByteArray} (hn : keys.length ≤ 200) (turn : Int) :
  needX l11_SortedOrder_l0_next l11_SortedOrder_l0_goes l11_SortedOrder_l0_ps (l11_SortedOrder_l0_fuel (keys, turn, 0, (keys.length : Int), 0, [], [])) (keys, turn, 0, (keys.length : Int), 0, [], []) ∧ ∃ k, k ≤ keys.length ∧ l11_SortedOrder_l0_run (keys, turn, 0, (keys.length : Int), 0, [], []) = (keys, turn, cntO keys k, (keys.length : Int), (k : Int), mA keys k, mB keys turn k) ∧ (k < keys.length → badO keys k = true) := by
 have hk0 : ∀ i : Nat, l11_SortedOrder_l0_f_k0 keys turn (cntO keys i) (keys.length : Int) (i : Int) (mA keys i) (mB keys turn i) = (decide (i < keys.length) && badO keys i) := fun i => by
  unfold l11_SortedOrder_l0_f_k0 l11_SortedOrder_l0_f_k4 badO
  rw [nn, dlt, Int.toNat_natCast]
  rfl
 have hlenA : ∀ i, (mA keys i).length ≤ 200 := fun i => by
  have h1 := (mA_puts keys i).len
  unfold kA at h1
  rw [List.length_take] at h1
  omega
 obtain ⟨h1, k, hk, hx, hs, hst, _⟩ := scanB (fun i => ((keys, turn, cntO keys i, (keys.length : Int), (i : Int), mA keys i, mB keys turn i) : l11_SortedOrder_l0_X)) keys.length (badO keys) l11_SortedOrder_l0_next l11_SortedOrder_l0_goes l11_SortedOrder_l0_ps (l11_SortedOrder_l0_fuel (keys, turn, 0, (keys.length : Int), 0, [], [])) (keys, turn, 0, (keys.length : Int), 0, [], []) rfl (by show keys.length ≤ ((keys.length : Int) - 0).toNat; omega)
  (fun i _ _ => by
   show l11_SortedOrder_l0_f_7 keys turn (cntO keys i) (keys.length : Int) (i : Int) (mA keys i) (mB keys turn i) = _
   unfold l11_SortedOrder_l0_f_7
   rw [hk0, nn, dlt]
   cases decide (i < keys.length) <;> rfl)
  (fun i hi _ => by
   show (keys, turn, l11_SortedOrder_l0_f_2 keys turn (cntO keys i) (keys.length : Int) (i : Int) (mA keys i) (mB keys turn i), (keys.length : Int), IntKind.i64.wrap ((i : Int) + 1), l11_SortedOrder_l0_f_5 keys turn (cntO keys i) (keys.length : Int) (i : Int) (mA keys i) (mB keys turn i), l11_SortedOrder_l0_f_6 keys turn (cntO keys i) (keys.length : Int) (i : Int) (mA keys i) (mB keys turn i)) = _
   unfold l11_SortedOrder_l0_f_2 l11_SortedOrder_l0_f_k4 l11_SortedOrder_l0_f_5 l11_SortedOrder_l0_f_k3 l11_SortedOrder_l0_f_6 l11_SortedOrder_l0_f_k1
   rw [wsucc (by omega), f_k2 hn _ _ _ hi, Int.toNat_natCast, Int.toNat_natCast, mA_succ keys i hi, mB_succ]
   rfl)
  (fun i hi _ => by
   have hin : (!!decide ((i : Int) < (keys.length : Int))) = true → i < keys.length := fun h => by rw [nn, dlt] at h; exact of_decide_eq_true h
   have hB : (mB keys turn i).length ≤ 200 := by
    have h1 := (mB_puts keys turn i).len
    unfold kB at h1
    rw [List.length_map, List.length_range] at h1
    omega
   refine needs_cons (fun h => ?_) (needs_cons (fun h => ?_) (needs_cons (fun h => ?_) (needs_cons (fun h => ?_) (needs_cons (fun _ _ _ => ?_) (needs_cons (fun _ _ _ => ?_) needs_nil)))))
   ·have := hin h
    show (0 : Int) ≤ (i : Int) ∧ (i : Int) < (keys.length : Int)
    omega
   ·have := hin h
    show IntKind.u64.wrap (keys.length : Int) ≠ 0
    rw [u64_small hn]
    omega
   ·have := hin h
    show (keys.length : Int) ≠ 0
    omega
   ·have hi' := hin h
    show (0 : Int) ≤ l11_SortedOrder_l0_f_k2 keys turn (cntO keys i) (keys.length : Int) (i : Int) (mA keys i) (mB keys turn i) ∧ l11_SortedOrder_l0_f_k2 keys turn (cntO keys i) (keys.length : Int) (i : Int) (mA keys i) (mB keys turn i) < (keys.length : Int)
    rw [f_k2 hn _ _ _ hi']
    have := tau_lt (n := keys.length) turn i (by omega)
    omega
   ·have := hlenA i
    show (mA keys i).length ≤ _
    omega
   ·show (mB keys turn i).length ≤ _
    omega)
 exact ⟨h1, k, hk, hx, hst⟩
theorem or_l2 {l : List TRow} (hs : SortR l) (hl : l.length ≤ 1000000) : needX l11_SortedOrder_l2_next l11_SortedOrder_l2_goes l11_SortedOrder_l2_ps (l11_SortedOrder_l2_fuel ((l.length : Int), 0, l)) ((l.length : Int), 0, l) ∧ l11_SortedOrder_l2_run ((l.length : Int), 0, l) = ((l.length : Int), (l.length : Int), l) := by
 have hk1 : ∀ i : Nat, 0 < i → i ≤ l.length → l11_SortedOrder_l2_f_k1 (l.length : Int) (i : Int) l = ((i - 1 : Nat) : Int) := fun i h0 h1 => by
  unfold l11_SortedOrder_l2_f_k1
  rw [i64_in (by omega)]
  omega
 have hk0 : ∀ i : Nat, l11_SortedOrder_l2_f_k0 (l.length : Int) (i : Int) l = false := fun i => by
  unfold l11_SortedOrder_l2_f_k0
  rw [nn, dlt]
  by_cases hi : i < l.length
  ·by_cases h0 : 0 < i
   ·rw [hk1 i h0 (by omega), Int.toNat_natCast, Int.toNat_natCast]
    have e1 : l.getD (i - 1) (dflt TC.row) = l[i - 1] := by rw [List.getD_eq_getElem?_getD, List.getElem?_eq_getElem (by omega)]; rfl
    have e2 : l.getD i (dflt TC.row) = l[i] := by rw [List.getD_eq_getElem?_getD, List.getElem?_eq_getElem hi]; rfl
    have h3 : kLt l[i - 1].key l[i].key = true := List.pairwise_iff_getElem.1 hs (i - 1) i (by omega) hi (by omega)
    have h4 : Op.bytesLess (l.getD (i - 1) (dflt TC.row)).1.toList (l.getD i (dflt TC.row)).1.toList = true := by rw [e1, e2]; exact h3
    rw [h4]
    simp
   ·rw [decide_eq_false (show ¬ ((i : Int) > 0) by omega)]
    simp
  ·rw [decide_eq_false hi]
   rfl
 obtain ⟨h1, hx⟩ := scanAll (fun i => (((l.length : Int), (i : Int), l) : l11_SortedOrder_l2_X)) l.length l11_SortedOrder_l2_next l11_SortedOrder_l2_goes l11_SortedOrder_l2_ps (l11_SortedOrder_l2_fuel ((l.length : Int), 0, l)) ((l.length : Int), 0, l) rfl (by show l.length ≤ ((l.length : Int) - 0).toNat; omega)
  (fun i _ => by
   show l11_SortedOrder_l2_f_3 (l.length : Int) (i : Int) l = _
   unfold l11_SortedOrder_l2_f_3
   rw [hk0, nn, dlt, Bool.not_false, Bool.and_true])
  (fun i hi => by
   show ((l.length : Int), IntKind.i64.wrap ((i : Int) + 1), l) = _
   rw [wsucc (by omega)])
  (fun i hi => by
   have hin : (!!decide ((i : Int) < (l.length : Int))) = true → i < l.length := fun h => by rw [nn, dlt] at h; exact of_decide_eq_true h
   refine needs_cons (fun h h0 => ?_) (needs_cons (fun h _ => ?_) needs_nil)
   ·have h2 := hin h
    have h3 : (i : Int) > 0 := of_decide_eq_true h0
    show (0 : Int) ≤ l11_SortedOrder_l2_f_k1 (l.length : Int) (i : Int) l ∧ l11_SortedOrder_l2_f_k1 (l.length : Int) (i : Int) l < (l.length : Int)
    rw [hk1 i (by omega) hi]
    omega
   ·have := hin h
    show (0 : Int) ≤ (i : Int) ∧ (i : Int) < (l.length : Int)
    omega)
 exact ⟨h1, hx⟩
theorem or_l4 {keys : List ByteArray} {m : List TRow} (hn : keys.length ≤ 200) (hp : Puts keys m) : needX l11_SortedOrder_l4_next l11_SortedOrder_l4_goes l11_SortedOrder_l4_ps (l11_SortedOrder_l4_fuel (keys, (keys.length : Int), 0, m)) (keys, (keys.length : Int), 0, m) ∧ l11_SortedOrder_l4_run (keys, (keys.length : Int), 0, m) = (keys, (keys.length : Int), (keys.length : Int), m) ∧ l11_SortedOrder_l4_f_k0 keys (keys.length : Int) (keys.length : Int) m = false := by
 have hk0 : ∀ i : Nat, l11_SortedOrder_l4_f_k0 keys (keys.length : Int) (i : Int) m = false := fun i => by
  unfold l11_SortedOrder_l4_f_k0
  rw [nn, dlt, Int.toNat_natCast]
  by_cases hi : i < keys.length
  ·rw [hp.has (getD_in keys (dflt TC.str) i hi)]
   show (_ && !((!((keys.getD i (dflt TC.str)).toList == E0.toList)) == !((keys.getD i (dflt TC.str)).toList == E0.toList))) = false
   rw [beq_self_eq_true]
   simp
  ·rw [decide_eq_false hi]
   rfl
 obtain ⟨h1, hx⟩ := scanAll (fun i => ((keys, (keys.length : Int), (i : Int), m) : l11_SortedOrder_l4_X)) keys.length l11_SortedOrder_l4_next l11_SortedOrder_l4_goes l11_SortedOrder_l4_ps (l11_SortedOrder_l4_fuel (keys, (keys.length : Int), 0, m)) (keys, (keys.length : Int), 0, m) rfl (by show keys.length ≤ ((keys.length : Int) - 0).toNat; omega)
  (fun i _ => by
   show l11_SortedOrder_l4_f_4 keys (keys.length : Int) (i : Int) m = _
   unfold l11_SortedOrder_l4_f_4
   rw [hk0, nn, dlt, Bool.not_false, Bool.and_true])
  (fun i hi => by
   show (keys, (keys.length : Int), IntKind.i64.wrap ((i : Int) + 1), m) = _
   rw [wsucc (by omega)])
  (fun i hi => by
   have hin : (!!decide ((i : Int) < (keys.length : Int))) = true → i < keys.length := fun h => by rw [nn, dlt] at h; exact of_decide_eq_true h
   refine needs_cons (fun h => ?_) (needs_cons (fun _ => hp.scan (by omega)) needs_nil)
   have := hin h
   show (0 : Int) ≤ (i : Int) ∧ (i : Int) < (keys.length : Int)
   omega)
 exact ⟨h1, hx, hk0 _⟩
theorem or_true (keys : List ByteArray) (turn : Int) : (∀ p ∈ l11_SortedOrder_ps keys turn, p) ∧ l11_SortedOrder_0 keys turn = true := by
 by_cases hn : keys.length ≤ 200
 case neg =>
  have h8 : l11_SortedOrder_k8 keys turn = true := decide_eq_true (by omega)
  have no : ∀ {q : Prop}, (!(l11_SortedOrder_k8 keys turn)) = true → q := fun h => by rw [h8] at h; cases h
  refine ⟨needs_cons no (needs_cons no (needs_cons no (needs_cons no (needs_cons no (needs_cons no (needs_cons no needs_nil)))))), ?_⟩
  unfold l11_SortedOrder_0
  rw [h8]
  rfl
 case pos =>
 have h8 : l11_SortedOrder_k8 keys turn = false := decide_eq_false (by omega)
 obtain ⟨g0, k, hk, hx, hst⟩ := or_l0 hn turn
 have hk1 : l11_SortedOrder_k1 keys turn = (decide (k < keys.length) && badO keys k) := by
  unfold l11_SortedOrder_k1 l11_SortedOrder_k7 l11_SortedOrder_k6
  rw [hx]
  show l11_SortedOrder_l0_f_k0 keys turn (cntO keys k) (keys.length : Int) (k : Int) (mA keys k) (mB keys turn k) = _
  unfold l11_SortedOrder_l0_f_k0 l11_SortedOrder_l0_f_k4 badO
  rw [nn, dlt, Int.toNat_natCast]
  rfl
 rcases Nat.lt_or_ge k keys.length with hlt | hge
 ·have h1 : l11_SortedOrder_k1 keys turn = true := by rw [hk1, decide_eq_true hlt, hst hlt]; rfl
  have no : ∀ {q : Prop}, (!(l11_SortedOrder_k8 keys turn)) = true → (!(l11_SortedOrder_k1 keys turn)) = true → q := fun _ h => by rw [h1] at h; cases h
  refine ⟨needs_cons (fun _ => g0) (needs_cons no (needs_cons no (needs_cons no (needs_cons no (needs_cons no (needs_cons no needs_nil)))))), ?_⟩
  unfold l11_SortedOrder_0
  rw [h8, h1]
  rfl
 ·have ek : k = keys.length := by omega
  subst ek
  have h1 : l11_SortedOrder_k1 keys turn = false := by rw [hk1, decide_eq_false (by omega)]; rfl
  have hpA := mA_puts keys keys.length
  have hpB := mB_puts keys turn keys.length
  have hAB : mB keys turn keys.length = mA keys keys.length := hpB.same hpA fun x => (same_keys keys turn x).symm
  have hpA' : Puts keys (mA keys keys.length) := by unfold kA at hpA; rw [List.take_length] at hpA; exact hpA
  have e7 : l11_SortedOrder_k7 keys turn = mA keys keys.length := by unfold l11_SortedOrder_k7; rw [hx]
  have e6 : l11_SortedOrder_k6 keys turn = mA keys keys.length := by unfold l11_SortedOrder_k6; rw [hx]; exact hAB
  have hsc := hpA'.scan (by omega)
  have hlen : (mA keys keys.length).length ≤ 200 := Nat.le_trans hpA'.len hn
  have hall : scanR (mA keys keys.length) (ByteArray.mk #[]) (ByteArray.mk #[]) 1000 = mA keys keys.length := scan_all (by omega)
  have e5 : l11_SortedOrder_k5 keys turn = mA keys keys.length := by unfold l11_SortedOrder_k5; rw [e7]; exact hall
  obtain ⟨g2, r2⟩ := or_l2 hpA'.sort (by omega)
  obtain ⟨g4, r4, q4⟩ := or_l4 hn hpA'
  have e4 : l11_SortedOrder_k4 keys turn = mA keys keys.length := by unfold l11_SortedOrder_k4; rw [e5, r2]
  have e3 : l11_SortedOrder_k3 keys turn = true := by unfold l11_SortedOrder_k3; rw [e4, e7, r4]; exact beq_self_eq_true _
  have e2 : l11_SortedOrder_k2 keys turn = false := by unfold l11_SortedOrder_k2; rw [e7, r4]; exact q4
  have e0 : l11_SortedOrder_k0 keys turn = false := by
   unfold l11_SortedOrder_k0
   rw [e4, e5, r2]
   show l11_SortedOrder_l2_f_k0 ((mA keys keys.length).length : Int) ((mA keys keys.length).length : Int) (mA keys keys.length) = false
   unfold l11_SortedOrder_l2_f_k0
   rw [nn, dlt, decide_eq_false (Nat.lt_irrefl _)]
   rfl
  refine ⟨needs_cons (fun _ => g0) (needs_cons (fun _ _ => by rw [e7]; exact hsc) (needs_cons (fun _ _ => by rw [e5]; exact g2) (needs_cons (fun _ _ _ => by rw [e7]; exact g4) (needs_cons (fun _ _ _ _ _ => by rw [e6]; exact hsc) (needs_cons (fun _ _ _ _ _ _ => by rw [e4]; unfold wideN; omega) (needs_cons (fun _ _ _ _ _ _ => by rw [e4]; exact hsc.2) needs_nil)))))), ?_⟩
  unfold l11_SortedOrder_0
  rw [h8, h1, e0, e2, e3, e4, e6, hall, eqRs_self]
  rfl
end Go.Proofs.Ytnfmceffbnaanaa
namespace Go.Proofs.Ytnfmceffbnaanaa
open Go.RowKit
set_option maxRecDepth 100000
theorem op3 : Opn Try.prog .i64 3 := opn_i64 Try.underlying3
theorem op9 : Opn Try.prog .str 9 := opn_str Try.underlying9
theorem opL40 : OpnLs Try.prog .str 40 := opn_list Try.underlying40 (by kernel_rfl) op9
end Go.Proofs.Ytnfmceffbnaanaa
namespace Go.Proofs.Ytnfmceffbnaanaa
open Go.ChangeShapes Go.WideShapes Go.ChangeAt Go.RowKit
theorem own : ownKnob Try.prog.godebug = none := by kernel_rfl
theorem laidOut : laidOutB Try.prog = true := by kernel_rfl
section
variable {P : Program} {H : Type} {enc : TypeId × Value → H} {w : World} {base : Nat} {spare : Nat → Bool} {held : Bool} {v : Value} {d : DataW H} {p : List MemPlace}
end
theorem below_trodAll {H : Type} {enc : TypeId × Value → H} {W W' : World} (hb : Below W.heap.size W W') : ∀ (ts : List TypeId) (vs : List Value) (ds : List (DataW H)) (ps : List MemPlace),
  (∀ t ∈ ts, Try.prog.readableRec t = true ∧ t < Try.prog.types.size) → DataW.TrodAll enc Try.prog W 0 (fun _ => true) true ts vs ds ps → (∀ x ∈ ps, x.block < W.heap.size) →
  DataW.TrodAll enc Try.prog W' 0 (fun b => decide (b < W.heap.size)) true ts vs ds ps
 | [], vs, ds, ps, _, h, _ => by
  obtain ⟨rfl, rfl, rfl⟩ := trodAll_nil h
  exact trodAll_mk0
 | t :: ts, vs, ds, ps, hr, h, hlt => by
  obtain ⟨v, vs', d, ds', p, q, rfl, rfl, rfl, h0, h1⟩ := trodAll_cons h
  exact trodAll_cons_mk (Below.trod laidOut (hr t (by simp)).1 (hr t (by simp)).2 h0 hb fun x hx => hlt x (by simp [hx]))
   (below_trodAll hb ts vs' ds' q (fun t' ht' => hr t' (by simp [ht'])) h1 fun x hx => hlt x (by simp [hx]))
end Go.Proofs.Ytnfmceffbnaanaa
namespace Go.Proofs.Ytnfmceffbnaanaa
open Go.RowKit Go.WideShapes Go.ChangeShapes
section
variable {H : Type} {en : TypeId × Value → H} {P : Program} {w : World} {base : Nat} {spare : Nat → Bool} {held : Bool} {t e : TypeId} {v : Value} {d : DataW H} {p : List MemPlace} {r : Reach} {b0 : Nat} {c : TC}
theorem arg_list (ht : P.underlying t = some (.slice e)) (ho : OpnLs P c t) (hv : Value.okWide P w r b0 t v) (h : DataW.Trod en P w base spare held t v d p) :
  ∃ l : List (U c), (l.length ≤ maxLen ∧ ∀ x ∈ l, Wfd c x) ∧ ∀ (F : Nat → Prop) (N : Nm) (nx : Nat), FB w F → Hv F N nx w (.sl c l) v := by
 obtain ⟨a, len, cap, rfl⟩ := okWide_slice ht hv
 obtain ⟨fuel, hf⟩ := h
 obtain ⟨l, h1, h2⟩ := ho en w base spare held fuel _ _ hf
 refine ⟨l, h1, fun F N nx hF => ?_⟩
 obtain ⟨y, ys, e, h3, _⟩ := (h2 F N nx hF).inv
 have e' : [Value.slice a len cap] = y :: ys := e
 cases e'
 exact h3
theorem arg_one (ho : Opn P c t) (ha : c.isAgg = false) (h1 : v.cells.toList = [v]) (h : DataW.Trod en P w base spare held t v d p) :
  ∃ x : U c, Wfd c x ∧ ∀ (F : Nat → Prop) (N : Nm) (nx : Nat), FB w F → Hv F N nx w (valA c x) v := by
 obtain ⟨fuel, hf⟩ := h
 rw [h1] at hf
 obtain ⟨x, h2, h3⟩ := ho en w base spare held fuel _ _ hf
 exact ⟨x, h2, fun F N nx hF => hl_one (h3 F N nx hF) ha rfl⟩
theorem arg_int {k : IntKind} (ht : P.underlying t = some (.int k)) (ho : Opn P c t) (ha : c.isAgg = false) (hv : Value.okWide P w r b0 t v) (h : DataW.Trod en P w base spare held t v d p) :
  ∃ x : U c, Wfd c x ∧ ∀ (F : Nat → Prop) (N : Nm) (nx : Nat), FB w F → Hv F N nx w (valA c x) v := by
 obtain ⟨n, rfl⟩ := okWide_int ht hv
 exact arg_one ho ha rfl h
end
theorem call_topG {P : Program} {f : FuncId} {args : List A} {nx' : Nat} {o' : Objs} {b : Bool} (h : CallOk P f args 0 [] 1 (.v (.bool b)) nx' o') (W : World) (hgl : GlobOk (fun b => b < W.heap.size) W) (vs : List Value) (ha : ∀ (F : Nat → Prop) (N : Nm) (nx : Nat), FB W F → HL F N nx W args vs) :
  Calls P f vs.toArray W fun e W' => e = .returned (.bool b) ∧ Below W.heap.size W W' := by
 have hr : HRel (fun b => b < W.heap.size) ⟨fun _ => 0, fun _ => .nilFunc⟩ 0 [] W := ⟨fun g hg => hg, fun i ob hi => (by cases hi), fun i ob g hi => (by cases hi), fun i j x y g hi => (by cases hi), hgl⟩
 refine (h _ _ W vs hr (ha _ _ _ fun b hb => hb)).mono fun e W' ⟨y, F', N', he, _, _, hy, hb⟩ => ?_
 rw [hy.v_inv] at he
 exact ⟨he, hb (Nat.le_refl _)⟩
end Go.Proofs.Ytnfmceffbnaanaa
namespace Go.Proofs.Ytnfmceffbnaanaa.sortedOrder
open Go.ChangeShapes Go.WideShapes Go.ChangeAt Go.RowKit
theorem lifted (os : Os) (started : os.Started) (H : Type) (enc : TypeId × Value → H) :
  ReturnsInHanded {} Try.checked os 4 .any (Rows.sortedOrderSpec.pre6 enc Try.prog Try.f4 Rows.sortedOrderRow.domain false) (Rows.sortedOrderSpec.post enc Try.prog Try.f4 false true false false) := by
 refine returnsInHanded_of_change (C := Try.checked) own started (by kernel_rfl) Try.func4
  (ChangeSpec.witness6 (enc := enc) (C := Try.checked) false ⟨#[], #[.slice none 0 0, .int .i64 0], []⟩ 8 (by kernel_rfl) (by kernel_rfl) (by kernel_rfl) (by kernel_rfl)) ?_
 intro W base args ds gs before hval0 hW hcnd _
 have hval : ∀ (j : Nat) t v, Try.f4.params[j]? = some t → args[j]? = some v → Value.okWide Try.prog W .any base t v := hval0
 have hW' := hW
 have hlt : ∀ x ∈ before, x.block < W.heap.size := fun x hx => hW.lt x hx
 obtain ⟨p, q, hA0, hV, rfl, hfz, hnd⟩ := hW
 have hA : DataW.TrodAll enc Try.prog W 0 (fun _ => true) true Try.f4.params.toList args.toList ds p := hA0
 rw [Try.params4] at hA hval
 have hA' := hA
 obtain ⟨v0, vs0, d0, ds0, p0, q0, hargs, rfl, rfl, h0, r0⟩ := trodAll_cons hA
 obtain ⟨v1, vs1, d1, ds1, p1, q1, rfl, rfl, rfl, h1, r1⟩ := trodAll_cons r0
 obtain ⟨rfl, rfl, rfl⟩ := trodAll_nil r1
 obtain rfl : args = #[v0, v1] := by cases args; simp_all
 obtain ⟨rfl, rfl⟩ := trodVars_none hV
 obtain ⟨a0, w0, g0⟩ := arg_list Try.underlying40 opL40 (hval 0 40 v0 rfl rfl) h0
 obtain ⟨a1, w1, g1⟩ := arg_int Try.underlying3 op3 rfl (hval 1 3 v1 rfl rfl) h1
 obtain ⟨hn, ht⟩ := or_true a0 a1
 have hc := l11_SortedOrder_c a0 a1 hn
 have hr : l11_SortedOrder_r a0 a1 = .v (.bool true) := by show A.v (.bool (l11_SortedOrder_0 a0 a1)) = _; rw [ht]
 rw [hr] at hc
 refine (call_topG hc W (fun x hx => (nomatch hx)) [v0, v1] fun F N nx hF => HL.cons (g0 F N nx hF) (HL.cons (g1 F N nx hF) (HL.nil))).mono fun e W' ⟨he, bel⟩ => ?_
 subst he
 have hread : ∀ t ∈ [40, 3], Try.prog.readableRec t = true ∧ t < Try.prog.types.size := by
  intro t ht
  simp only [List.mem_cons, List.not_mem_nil, or_false] at ht
  rcases ht with rfl | rfl
  all_goals exact ⟨by kernel_rfl, of_decide_eq_true (by kernel_rfl)⟩
 exact ⟨_, rfl, _, _, _, [], _, [], hW', trodAll_mk1 (shut_bool Try.underlying4 _),
  below_trodAll bel _ _ _ _ hread hA' (fun x hx => hlt x (by simpa using hx)), rfl, bel.frame _, fun h => by cases h⟩
theorem tA : Try.prog.funcNamed Rows.sortedOrderRow.func = some 4 := by kernel_rfl
theorem b0 : (Rows.sortedOrderRow.wf (OpenSpec.ofChange Rows.sortedOrderSpec)) = true := by kernel_rfl
theorem b1 : (laidOutB Try.prog) = true := by kernel_rfl
theorem b2 : (mapsRowed Try.prog) = true := by kernel_rfl
theorem b3 : (Try.f4.params.all (Try.prog.readableRec ·)) = true := by kernel_rfl
theorem b4 : (namedTie Try.prog Rows.sortedOrderRow.named Rows.sortedOrderSpec.vars) = true := by kernel_rfl
theorem b5 : ((Rows.sortedOrderRow.stops == [])) = true := by kernel_rfl
theorem b6 : ((Try.prog.stops == [])) = true := by kernel_rfl
theorem b7 : ((Rows.sortedOrderRow.knobs == [])) = true := by kernel_rfl
theorem b8 : ((Try.prog.stopKnobs == [])) = true := by kernel_rfl
theorem b9 : ((Rows.sortedOrderRow.inPlace == Try.prog.inPlace 4)) = true := by kernel_rfl
theorem b10 : ((Rows.sortedOrderRow.unfollowed == Try.prog.unfollowed 4)) = true := by kernel_rfl
theorem b11 : ((Rows.sortedOrderRow.recurses == Try.prog.recurses 4)) = true := by kernel_rfl
theorem b12 : ((Rows.sortedOrderRow.named == Try.prog.varsNamed 4)) = true := by kernel_rfl
theorem b13 : ((Rows.sortedOrderRow.maps == (Try.f4.params.toList ++ Rows.sortedOrderSpec.plain.varTypes Try.prog).any (Try.prog.mapsRec ·))) = true := by kernel_rfl
theorem b14 : ((Rows.sortedOrderRow.ifaces == (Try.f4.params.toList ++ Rows.sortedOrderSpec.plain.varTypes Try.prog).any (Try.prog.ifacesRec ·))) = true := by kernel_rfl
theorem b15 : ((Rows.sortedOrderRow.mapsOut == Try.prog.mapsAmong Try.f4.resultTypes.toList)) = true := by kernel_rfl
theorem b16 : ((Rows.sortedOrderRow.loops == (Try.f4.params.toList ++ Rows.sortedOrderSpec.plain.varTypes Try.prog).any (Try.prog.loopsFrom ·))) = true := by kernel_rfl
theorem b17 : ((Rows.sortedOrderRow.wideKeys == (Try.f4.params.toList ++ Rows.sortedOrderSpec.plain.varTypes Try.prog ++ Try.f4.resultTypes.toList).any (Try.prog.wideKeysFrom ·))) = true := by kernel_rfl
theorem b18 : (Rows.sortedOrderSpec.vars.all (Try.prog.varReadable ·)) = true := by kernel_rfl
theorem b19 : (Try.f4.resultTypes.all (fun t => Try.prog.readableRec t && decide (t < Try.prog.types.size))) = true := by kernel_rfl
theorem b20 : ((Rows.sortedOrderRow.ifacesOut == Try.f4.resultTypes.toList.any (Try.prog.ifacesRec ·))) = true := by kernel_rfl
theorem b21 : ((Rows.sortedOrderRow.loopsOut == Try.f4.resultTypes.toList.any (Try.prog.loopsFrom ·))) = true := by kernel_rfl
theorem b22 : ((Rows.sortedOrderRow.plainKeys == Try.prog.plainKeys)) = true := by kernel_rfl
theorem b23 : (Rows.sortedOrderRow.shortTexts.isNone) = true := by kernel_rfl
theorem b24 : (Try.prog.stopsHeard) = true := by kernel_rfl
theorem b25 : (Try.prog.mayEnter) = true := by kernel_rfl
theorem b26 : ((Rows.sortedOrderRow.lifted == Try.prog.liftsFinal)) = true := by kernel_rfl
theorem b27 : ((Try.prog.make == some Rows.sortedOrderRow.make)) = true := by kernel_rfl
theorem b28 : ((Rows.sortedOrderRow.kinds == (if Rows.sortedOrderRow.domain.isEmpty then [] else Try.f4.params.toList.map fun t => match Try.prog.underlying t with | some (.int k) => some k | _ => none))) = true := by kernel_rfl
theorem b29 : ((Rows.sortedOrderRow.pinned == Rows.sortedOrderRow.pinnedBy)) = true := by kernel_rfl
theorem b30 : ((Rows.sortedOrderRow.veiled == (Try.f4.params.toList ++ Rows.sortedOrderSpec.plain.varTypes Try.prog ++ Try.f4.resultTypes.toList).any (Try.prog.veiledRec ·))) = true := by kernel_rfl
theorem b31 : (Rows.sortedOrderRow.veiledFits Try.prog Try.f4.params.toList (Try.f4.params.toList ++ Rows.sortedOrderSpec.plain.varTypes Try.prog ++ Try.f4.resultTypes.toList)) = true := by kernel_rfl
theorem andI {a b : Bool} (h : a = true) (g : b = true) : (a && b) = true := by rw [h, g]; rfl
theorem tB : joinedFacts Try.prog 4 Try.f4 Rows.sortedOrderSpec Rows.sortedOrderRow = true := by
 unfold joinedFacts
 exact (andI (andI (andI (andI (andI (andI (andI (andI (andI (andI (andI (andI (andI (andI (andI (andI (andI (andI (andI (andI (andI (andI (andI (andI (andI (andI (andI (andI (andI (andI (andI b0 b1) b2) b3) b4) b5) b6) b7) b8) b9) b10) b11) b12) b13) b14) b15) b16) b17) b18) b19) b20) b21) b22) b23) b24) b25) b26) b27) b28) b29) b30) b31)
theorem tC : Try.f4.isInstance Try.prog Rows.sortedOrderRow.origin Rows.sortedOrderRow.targs := of_decide_eq_true (by kernel_rfl)
theorem tD0 : decide (Check.packageOf Try.f4.name = "main") = false := by kernel_rfl
theorem tD : Try.f4.isWrapper Try.prog Rows.sortedOrderRow.wrapper Rows.sortedOrderRow.mainSum := by
 unfold Func.isWrapper
 rw [if_neg (of_decide_eq_false tD0)]
 exact ⟨rfl, rfl⟩
theorem over : Rows.sortedOrderRow.holds Try.pinned (OpenSpec.ofChange Rows.sortedOrderSpec) :=
 OpenClaim.holds_of_wide 4 Try.f4 rfl rfl rfl rfl rfl rfl rfl ⟨rfl, rfl, rfl, rfl, rfl⟩ rfl rfl rfl rfl rfl tA Try.func4 tB tC tD
  (fun os started H enc _ => lifted os started H enc)
theorem proved : Rows.SortedOrderSaid := over
end Go.Proofs.Ytnfmceffbnaanaa.sortedOrder
