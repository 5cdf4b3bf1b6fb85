/- made by a program (rowgen.py): SortedApart: for every input the law returns true, and each argument reads behind the call as it read before. -/
import Derived.Test.YtnfmceffbnaanaaKSre

set_option maxRecDepth 100000
namespace Go.Proofs.Ytnfmceffbnaanaa
open Go.RowKit
def eqC (a b : TCell) : Bool := a.stamp.n == b.stamp.n && a.stamp.site == b.stamp.site && (a.vec.a == b.vec.a && a.vec.b == b.vec.b) && a.gone == b.gone && a.value == b.value && (a.dead.a == b.dead.a && a.dead.b == b.dead.b)
def eqCs : List TCell → List TCell → Bool
 | [], [] => true
 | x :: xs, y :: ys => eqC x y && eqCs xs ys
 | _, _ => false
def eqRw (a b : TRow) : Bool := a.key == b.key && eqCs a.cells b.cells
theorem eqC_iff {a b : TCell} : eqC a b = true ↔ a = b := by
 unfold eqC
 simp only [Bool.and_eq_true, beq_iff_eq]
 constructor
 ·rintro ⟨⟨⟨⟨⟨h1, h2⟩, h3, h4⟩, h5⟩, h6⟩, h7, h8⟩
  cases a with | mk s v g t d => cases b with | mk s' v' g' t' d' =>
  cases s; cases s'; cases v; cases v'; cases d; cases d'
  cases h1; cases h2; cases h3; cases h4; cases h5; cases h6; cases h7; cases h8
  rfl
 ·rintro rfl
  exact ⟨⟨⟨⟨⟨rfl, rfl⟩, rfl, rfl⟩, rfl⟩, rfl⟩, rfl, rfl⟩
theorem eqCs_iff : ∀ {a b : List TCell}, eqCs a b = true ↔ a = b
 | [], [] => by simp [eqCs]
 | [], _ :: _ => by simp [eqCs]
 | _ :: _, [] => by simp [eqCs]
 | x :: xs, y :: ys => by
  unfold eqCs
  rw [Bool.and_eq_true, eqC_iff, eqCs_iff]
  simp
theorem eqRw_iff {a b : TRow} : eqRw a b = true ↔ a = b := by
 unfold eqRw
 rw [Bool.and_eq_true, beq_iff_eq, eqCs_iff]
 cases a; cases b
 simp
theorem eqCs_N : ∀ (a b : List TCell), a.length = b.length → eqCs a b = allN a.length (fun i => eqC (a.getD i (dflt TC.cell)) (b.getD i (dflt TC.cell))) := fun a b h => by
 rw [Bool.eq_iff_iff, eqCs_iff, allN_iff]
 constructor
 ·rintro rfl i _
  exact eqC_iff.2 rfl
 ·intro g
  refine List.ext_getElem h fun i h1 h2 => ?_
  have := eqC_iff.1 (g i h1)
  rw [List.getD_eq_getElem?_getD, List.getD_eq_getElem?_getD, List.getElem?_eq_getElem h1, List.getElem?_eq_getElem h2] at this
  exact this
theorem getD_in {α : Type} (l : List α) (d : α) (i : Nat) (h : i < l.length) : l.getD i d ∈ l := by
 rw [List.getD_eq_getElem?_getD, List.getElem?_eq_getElem h]
 exact List.getElem_mem h
def ltS (a b : ByteArray) : Bool := Op.bytesLess a.toList b.toList
def rowN (rows : List TRow) (i : Nat) : TRow := rows.getD i (dflt TC.row)
theorem scanAll {X : Type} (mk : Nat → X) (n : Nat) (next : X → X) (goes : X → Cnd) (ps : X → List Prop) (f : Nat) (x : X) (hx : x = mk 0) (hf : n ≤ f)
  (hg : ∀ i, i ≤ n → cval (goes (mk i)) = decide (i < n)) (hn : ∀ i, i < n → next (mk i) = mk (i + 1)) (hp : ∀ i, i ≤ n → ∀ p ∈ ps (mk i), p) :
  needX next goes ps f x ∧ iterX next goes f x = mk n := by
 obtain ⟨h1, k, hk, hx, _, hst, _⟩ := scanB mk n (fun _ => false) next goes ps f x hx hf (fun i hi _ => by rw [hg i hi, Bool.not_false, Bool.and_true]) (fun i hi _ => hn i hi) (fun i hi _ => hp i hi)
 have hkn : k = n := by
  rcases Nat.lt_or_ge k n with h | h
  ·exact absurd (hst h) (by decide)
  ·omega
 subst hkn
 exact ⟨h1, hx⟩
theorem take_get {α : Type} (l : List α) (d : α) (i : Nat) (h : i < l.length) : l.take (i + 1) = l.take i ++ [l.getD i d] := by
 rw [List.take_add_one, List.getD_eq_getElem?_getD, List.getElem?_eq_getElem h]
 rfl
def stepS (r : TRow) (s : List TRow × Bool) (x : TRow) : List TRow × Bool :=
 ((bif !s.2 && !ltS x.key r.key then s.1 ++ [r] else s.1) ++ (bif x.key == r.key then [] else [x]), s.2 || !ltS x.key r.key)
def runS (r : TRow) (l : List TRow) (i : Nat) : List TRow × Bool := (l.take i).foldl (stepS r) ([], false)
theorem runS_succ (r : TRow) (l : List TRow) (i : Nat) (h : i < l.length) : runS r l (i + 1) = stepS r (runS r l i) (rowN l i) := by
 unfold runS
 rw [take_get l (dflt TC.row) i h, List.foldl_append]
 rfl
def finS (r : TRow) (s : List TRow × Bool) : List TRow := bif s.2 then s.1 else s.1 ++ [r]
theorem stepS_len (r : TRow) (s : List TRow × Bool) (x : TRow) : (stepS r s x).1.length ≤ s.1.length + 2 := by
 unfold stepS
 rw [List.length_append]
 cases !s.2 && !ltS x.key r.key <;> cases x.key == r.key <;> simp
theorem runS_len (r : TRow) (l : List TRow) : ∀ i, i ≤ l.length → (runS r l i).1.length ≤ 2 * i
 | 0, _ => Nat.le_refl _
 | i + 1, h => by
  have ih := runS_len r l i (by omega)
  rw [runS_succ r l i (by omega)]
  have := stepS_len r (runS r l i) (rowN l i)
  omega
theorem foldS_done (r : TRow) : ∀ (l : List TRow) (o : List TRow), (∀ y ∈ l, y.key ≠ r.key) → l.foldl (stepS r) (o, true) = (o ++ l, true)
 | [], o, _ => by rw [List.append_nil]; rfl
 | x :: a, o, h => by
  have hx : (x.key == r.key) = false := by simpa using h x (List.mem_cons_self ..)
  have e : stepS r (o, true) x = (o ++ [x], true) := by
   unfold stepS
   rw [hx]
   rfl
  rw [List.foldl_cons, e, foldS_done r a _ fun y hy => h y (List.mem_cons_of_mem _ hy), List.append_assoc]
  rfl
theorem foldS_set (r : TRow) : ∀ (l : List TRow) (o : List TRow), SortR l → finS r (l.foldl (stepS r) (o, false)) = o ++ setR l r
 | [], o, _ => rfl
 | x :: a, o, h => by
  obtain ⟨h1, h2⟩ := List.pairwise_cons.1 h
  rw [List.foldl_cons]
  cases hl : kLt x.key r.key with
  | true =>
   have hx : (x.key == r.key) = false := beq_eq_false_iff_ne.2 (kLt_ne hl)
   have hl' : ltS x.key r.key = true := hl
   have hg : ¬ kLt r.key x.key = true := fun hg => by
    have := kLt_trans hl hg
    rw [kLt_irrefl] at this
    cases this
   have e : stepS r (o, false) x = (o ++ [x], false) := by
    unfold stepS
    rw [hx, hl']
    rfl
   rw [e, foldS_set r a _ h2]
   unfold setR
   rw [List.filter_cons_of_pos (by exact hl), List.filter_cons_of_neg (by exact hg), List.append_assoc]
   rfl
  | false =>
   have hl' : ltS x.key r.key = false := hl
   have ge : ∀ y ∈ a, kLt r.key y.key = true := fun y hy => by
    cases hq : kLt r.key y.key with
    | true => rfl
    | false =>
     by_cases e : y.key = r.key
     ·have := h1 y hy
      rw [e, hl] at this
      cases this
     ·have h3 := bless_total (x := r.key.toList) (y := y.key.toList) hq (fun e' => e (toL_inj e').symm)
      have h4 : kLt x.key r.key = true := kLt_trans (h1 y hy) h3
      rw [hl] at h4
      cases h4
   have lo : (x :: a).filter (fun y => kLt y.key r.key) = [] := List.filter_eq_nil_iff.2 fun y hy => by
    rcases List.mem_cons.1 hy with rfl | hy
    ·rw [hl]; exact Bool.false_ne_true
    ·intro hy'
     have := kLt_trans hy' (ge y hy)
     rw [kLt_irrefl] at this
     cases this
   have ha : a.filter (fun y => kLt r.key y.key) = a := filter_all ge
   have done := foldS_done r a
   cases hx : x.key == r.key with
   | true =>
    have ek := eq_of_beq hx
    have e : stepS r (o, false) x = (o ++ [r], true) := by
     unfold stepS
     rw [hx, hl']
     simp
    rw [e, done _ fun y hy => (kLt_ne (ge y hy)).symm]
    unfold setR
    rw [lo, List.filter_cons_of_neg (by show ¬ kLt r.key x.key = true; rw [ek, kLt_irrefl]; exact Bool.false_ne_true), ha]
    show o ++ [r] ++ a = _
    simp
   | false =>
    have hne : x.key ≠ r.key := by simpa using hx
    have hg : kLt r.key x.key = true := bless_total (x := x.key.toList) (y := r.key.toList) hl fun e' => hne (toL_inj e')
    have e : stepS r (o, false) x = (o ++ [r] ++ [x], true) := by
     unfold stepS
     rw [hx, hl']
     rfl
    rw [e, done _ fun y hy => (kLt_ne (ge y hy)).symm]
    unfold setR
    rw [lo, List.filter_cons_of_pos (by exact hg), ha]
    show o ++ [r] ++ [x] ++ a = _
    simp
theorem set_fin (r : TRow) {l : List TRow} (h : SortR l) : finS r (runS r l l.length) = setR l r := by
 unfold runS
 rw [List.take_length, foldS_set r l [] h, List.nil_append]
end Go.Proofs.Ytnfmceffbnaanaa
namespace Go.Proofs.Ytnfmceffbnaanaa
open Go.RowKit
def r08_Same_0 (a0 : TCell) (a1 : TCell) : Bool := a0.1.1 == a1.1.1 && a0.1.2 == a1.1.2 && (a0.2.1 == a1.2.1 && a0.2.2 == a1.2.2) && a0.3 == a1.3 && a0.4.toList == a1.4.toList && (a0.5.1 == a1.5.1 && a0.5.2 == a1.5.2)
def r08_Same_r (a0 : TCell) (a1 : TCell) : A := .v (.bool (r08_Same_0 a0 a1))
def r08_Same_o (_a0 : TCell) (_a1 : TCell) : Objs := []
def r08_Same_ps (_a0 : TCell) (_a1 : TCell) : List Prop := []
theorem r08_Same_ev (a0 : TCell) (a1 : TCell) : evF (envT Cmr L0) 9 32 [valA .cell a0, valA .cell a1] 0 [] = some (1, r08_Same_r a0 a1, 0, r08_Same_o a0 a1, r08_Same_ps a0 a1) := by kernel_rfl
theorem r08_Same_c (a0 : TCell) (a1 : TCell) (hp : ∀ p ∈ r08_Same_ps a0 a1, p) : CallOk Try.prog 32 [valA .cell a0, valA .cell a1] 0 [] 1 (r08_Same_r a0 a1) 0 (r08_Same_o a0 a1) := evF_ok (envP_ok Cmr_ok L0_ok) (r08_Same_ev a0 a1) hp
def r08_Same_r2 (a0 : TCell) (a1 : TCell) : A := .v (.bool (eqC a0 a1))
def r08_Same_o2 (_a0 : TCell) (_a1 : TCell) : Objs := []
def r08_Same_ps2 (_a0 : TCell) (_a1 : TCell) : List Prop := []
theorem r08_Same_c2 (a0 : TCell) (a1 : TCell) (_hp : ∀ p ∈ r08_Same_ps2 a0 a1, p) : CallOk Try.prog 32 [valA .cell a0, valA .cell a1] 0 [] 1 (r08_Same_r2 a0 a1) 0 (r08_Same_o2 a0 a1) := by
 have h := r08_Same_c a0 a1 (fun _ h => by cases h)
 have e : r08_Same_0 a0 a1 = eqC a0 a1 := by unfold r08_Same_0; rw [tlb]; rfl
 unfold r08_Same_r at h
 rw [e] at h
 exact h
def r08_Same_t : List A → Nat → Objs → Option CRes := rowK [.t .cell, .t .cell] 0 r08_Same_r2 r08_Same_o2 r08_Same_ps2
theorem r08_Same_tok : TOk Try.prog 32 r08_Same_t := rowK_ok (ks := [.t .cell, .t .cell]) r08_Same_c2
noncomputable def Cso5_1 := addC 32 r08_Same_t Cmr
theorem Cso5_1_ok : COk Try.prog Cso5_1 := addC_ok r08_Same_tok Cmr_ok
abbrev r10_Same_l0_X : Type := Int × TRow × TRow
def r10_Same_l0_T (x : r10_Same_l0_X) : St := ⟨39, 2, [(2, .own 0 0), (3, .own 1 0), (5, .v (.int .i64 x.1))], [(0, some (.box 29 [.v (.string x.2.1.key), .sl .cell x.2.1.cells])), (1, some (.box 29 [.v (.string x.2.2.key), .sl .cell x.2.2.cells]))]⟩
def r10_Same_l0_un : St → Option r10_Same_l0_X
 | ⟨39, 2, [(2, .own 0 0), (3, .own 1 0), (5, .v (.int .i64 z0))], [(0, some (.box 29 [.v (.string z1), .sl .cell z2])), (1, some (.box 29 [.v (.string z3), .sl .cell z4]))]⟩ => some (z0, ⟨z1, z2⟩, ⟨z3, z4⟩)
 | _ => none
theorem r10_Same_l0_unok : ∀ s x, r10_Same_l0_un s = some x → s = r10_Same_l0_T x := fun s x h => by
 unfold r10_Same_l0_un at h
 split at h
 ·cases h; rfl
 ·cases h
def r10_Same_l0_S : Shape := ⟨2, 2, [2, 3, 5], [], [(0, 0), (1, 1)], [0, 1], [4], [0, 1]⟩
def r10_Same_l0_E : Entry := ⟨[], [(0, 0), (1, 1)], [2, 3, 5], [0, 1]⟩
def r10_Same_l0_f_k1 (a0 : Int) (a1 : TRow) (_a2 : TRow) : Bool := !!decide (a0 < (↑a1.2.length : Int))
def r10_Same_l0_f_k0 (a0 : Int) (a1 : TRow) (a2 : TRow) : Bool := (r10_Same_l0_f_k1 a0 a1 a2) && !eqC (a1.2.getD a0.toNat (dflt TC.cell)) (a2.2.getD a0.toNat (dflt TC.cell))
def r10_Same_l0_f_3 (a0 : Int) (a1 : TRow) (a2 : TRow) : Bool := (r10_Same_l0_f_k1 a0 a1 a2) && !(r10_Same_l0_f_k0 a0 a1 a2)
def r10_Same_l0_next (x : r10_Same_l0_X) : r10_Same_l0_X := (IntKind.i64.wrap (x.1 + (1 : Int)), x.2.1, x.2.2)
def r10_Same_l0_goes (x : r10_Same_l0_X) : Cnd := some (r10_Same_l0_f_3 x.1 x.2.1 x.2.2)
def r10_Same_l0_psA (x : r10_Same_l0_X) : List Prop := [((r10_Same_l0_f_k1 x.1 x.2.1 x.2.2) = true → (0 : Int) ≤ x.1 ∧ x.1 < (↑x.2.1.2.length : Int)), ((r10_Same_l0_f_k1 x.1 x.2.1 x.2.2) = true → (0 : Int) ≤ x.1 ∧ x.1 < (↑x.2.2.2.length : Int))]
abbrev r10_Same_l0_ps : r10_Same_l0_X → List Prop := r10_Same_l0_psA
def r10_Same_l0_outs (x : r10_Same_l0_X) : Outs := [(some 0, some (!decide (x.1 < (↑x.2.1.2.length : Int))), ⟨39, 2, [(4, .dead)], [(0, some (.box 29 [.v (.string x.2.1.1), .sl .cell x.2.1.2])), (1, some (.box 29 [.v (.string x.2.2.1), .sl .cell x.2.2.2]))]⟩), (none, some ((r10_Same_l0_f_k0 x.1 x.2.1 x.2.2)), ⟨39, 2, [(4, .v (.bool (false)))], [(0, some (.box 29 [.v (.string x.2.1.1), .sl .cell x.2.1.2])), (1, some (.box 29 [.v (.string x.2.2.1), .sl .cell x.2.2.2]))]⟩)]
def r10_Same_l0_fuel (x : r10_Same_l0_X) : Nat := ((↑x.2.1.2.length : Int) - x.1).toNat
def r10_Same_l0_run (x : r10_Same_l0_X) : r10_Same_l0_X := iterX r10_Same_l0_next r10_Same_l0_goes (r10_Same_l0_fuel x) x
theorem r10_Same_l0_ev (a0 : Int) (a1 : TRow) (a2 : TRow) : roundE (envT Cso5_1 L0) 9 (loopAt Try.prog 23 0) r10_Same_l0_S (r10_Same_l0_T (a0, a1, a2)) = some (r10_Same_l0_psA (a0, a1, a2), r10_Same_l0_outs (a0, a1, a2), r10_Same_l0_goes (a0, a1, a2), r10_Same_l0_T (r10_Same_l0_next (a0, a1, a2))) := by kernel_rfl
theorem r10_Same_l0_hA (a0 : Int) (a1 : TRow) (a2 : TRow) (hp : ∀ p ∈ r10_Same_l0_ps (a0, a1, a2), p) : ∀ p ∈ r10_Same_l0_psA (a0, a1, a2), p := hp
noncomputable def r10_Same_l0_row := rowL (envT Cso5_1 L0) (loopAt Try.prog 23 0) r10_Same_l0_S r10_Same_l0_E r10_Same_l0_un r10_Same_l0_fuel r10_Same_l0_next r10_Same_l0_goes r10_Same_l0_ps r10_Same_l0_outs
theorem r10_Same_l0_rok : ∀ s b ps outs, r10_Same_l0_row s = some (b, ps, outs) → Wf s ⟨ps, outs, none⟩ ∧ LoopOk (envT C0 L0) b s ps outs :=
 rowP_ok (T := r10_Same_l0_T) Cso5_1_ok L0_ok (u := 9) (by kernel_rfl) (by decide) (fun ⟨a0, a1, a2⟩ => r10_Same_l0_ev a0 a1 a2) (fun ⟨a0, a1, a2⟩ => r10_Same_l0_hA a0 a1 a2) r10_Same_l0_unok (fun _ => okOuts_ok (n := 39) rfl) fun _ _ => rfl
noncomputable def r10_Same_l0_L := addLp 0 r10_Same_l0_row L0
theorem r10_Same_l0_Lok : LpOk r10_Same_l0_L := addLp_ok r10_Same_l0_rok L0_ok
def r10_Same_k1 (a0 : TRow) (a1 : TRow) : r10_Same_l0_X := r10_Same_l0_run ((0 : Int), a0, a1)
def r10_Same_k0 (a0 : TRow) (a1 : TRow) : Bool := !a0.1.toList == a1.1.toList || (↑a0.2.length : Int) != (↑a1.2.length : Int)
def r10_Same_0 (a0 : TRow) (a1 : TRow) : Bool := bif (r10_Same_k0 a0 a1) then false else bif r10_Same_l0_f_k0 (r10_Same_k1 a0 a1).fst (r10_Same_k1 a0 a1).snd.fst (r10_Same_k1 a0 a1).snd.snd then false else true
def r10_Same_r (a0 : TRow) (a1 : TRow) : A := .v (.bool (r10_Same_0 a0 a1))
def r10_Same_o (_a0 : TRow) (_a1 : TRow) : Objs := []
def r10_Same_ps (a0 : TRow) (a1 : TRow) : List Prop := [((!(r10_Same_k0 a0 a1)) = true → needX r10_Same_l0_next r10_Same_l0_goes r10_Same_l0_ps (r10_Same_l0_fuel ((0 : Int), a0, a1)) ((0 : Int), a0, a1))]
theorem r10_Same_ev (a0 : TRow) (a1 : TRow) : evF (envT Cso5_1 r10_Same_l0_L) 9 23 [valA .row a0, valA .row a1] 0 [] = some (1, r10_Same_r a0 a1, 0, r10_Same_o a0 a1, [((!(r10_Same_k0 a0 a1)) = true → loopAt Try.prog (23 : FuncId) (0 : Nat) = loopAt Try.prog (23 : FuncId) (0 : Nat)), ((!(r10_Same_k0 a0 a1)) = true → needX r10_Same_l0_next r10_Same_l0_goes r10_Same_l0_ps (r10_Same_l0_fuel ((0 : Int), a0, a1)) ((0 : Int), a0, a1))]) := by kernel_rfl
theorem r10_Same_c (a0 : TRow) (a1 : TRow) (hp : ∀ p ∈ r10_Same_ps a0 a1, p) : CallOk Try.prog 23 [valA .row a0, valA .row a1] 0 [] 1 (r10_Same_r a0 a1) 0 (r10_Same_o a0 a1) := by
 have n0 : ((!(r10_Same_k0 a0 a1)) = true → loopAt Try.prog (23 : FuncId) (0 : Nat) = loopAt Try.prog (23 : FuncId) (0 : Nat)) := by intros; rfl
 have n1 := N0 hp
 exact evF_ok (envP_ok Cso5_1_ok r10_Same_l0_Lok) (r10_Same_ev a0 a1) (needs_cons n0 (needs_cons n1 needs_nil))
def r10_Same_r2 (a0 : TRow) (a1 : TRow) : A := .v (.bool (eqRw a0 a1))
def r10_Same_o2 (_a0 : TRow) (_a1 : TRow) : Objs := []
def r10_Same_ps2 (a0 : TRow) (_a1 : TRow) : List Prop := [boundP a0.cells.length]
theorem r10_Same_eq (a b : TRow) (hb : boundP a.cells.length) : (∀ p ∈ r10_Same_ps a b, p) ∧ r10_Same_0 a b = eqRw a b := by
 unfold boundP at hb
 have hk0 : r10_Same_k0 a b = (!(a.key == b.key) || a.cells.length != b.cells.length) := by
  show (!(a.key.toList == b.key.toList) || ((a.cells.length : Int) != (b.cells.length : Int))) = _
  rw [tlb]
  congr 1
  rw [Bool.eq_iff_iff, bne_iff_ne, bne_iff_ne]; omega
 have main : r10_Same_k0 a b = false → needX r10_Same_l0_next r10_Same_l0_goes r10_Same_l0_ps (r10_Same_l0_fuel (0, a, b)) (0, a, b) ∧ r10_Same_l0_f_k0 (r10_Same_k1 a b).fst (r10_Same_k1 a b).snd.fst (r10_Same_k1 a b).snd.snd = !eqCs a.cells b.cells := fun h0 => by
  rw [hk0] at h0
  have hlen : a.cells.length = b.cells.length := by simpa using (Bool.or_eq_false_iff.1 h0).2
  have hf : ∀ i : Nat, r10_Same_l0_f_k0 (i : Int) a b = (decide (i < a.cells.length) && !eqC (a.2.getD i (dflt TC.cell)) (b.2.getD i (dflt TC.cell))) := fun i => by
   unfold r10_Same_l0_f_k0 r10_Same_l0_f_k1
   rw [nn, dlt, Int.toNat_natCast]
  obtain ⟨h1, k, hk, hx, _, _, hb'⟩ := scanB (fun i => (((i : Int), a, b) : r10_Same_l0_X)) a.cells.length (fun i => !eqC (a.2.getD i (dflt TC.cell)) (b.2.getD i (dflt TC.cell))) r10_Same_l0_next r10_Same_l0_goes r10_Same_l0_ps (r10_Same_l0_fuel (0, a, b)) (0, a, b) rfl (by show a.cells.length ≤ ((a.cells.length : Int) - 0).toNat; omega)
   (fun i _ _ => by
    show ((!!decide ((i : Int) < (a.cells.length : Int))) && !r10_Same_l0_f_k0 i a b) = _
    rw [hf, nn, dlt]
    cases decide (i < a.cells.length) <;> rfl)
   (fun i hi _ => by
    show (IntKind.i64.wrap ((i : Int) + 1), a, b) = (((i + 1 : Nat) : Int), a, b)
    rw [wsucc (by omega)])
   (fun i _ _ => by
    have hin : (!!decide ((i : Int) < (a.cells.length : Int))) = true → (i : Int) < (a.cells.length : Int) := fun h => by rw [nn] at h; exact of_decide_eq_true h
    exact needs_cons (fun h => ⟨by show (0 : Int) ≤ (i : Int); omega, hin h⟩) (needs_cons (fun h => ⟨by show (0 : Int) ≤ (i : Int); omega, by have := hin h; show (i : Int) < (b.cells.length : Int); omega⟩) needs_nil))
  refine ⟨h1, ?_⟩
  have hr : r10_Same_k1 a b = ((k : Int), a, b) := hx
  rw [hr]
  show r10_Same_l0_f_k0 (k : Int) a b = _
  rw [hf, hb', eqCs_N _ _ hlen]
  congr 1
  exact allN_congr fun i _ => Bool.not_not _
 refine ⟨needs_cons (fun h => (main (by simpa using h)).1) needs_nil, ?_⟩
 unfold r10_Same_0 eqRw
 cases h0 : r10_Same_k0 a b with
 | true =>
  rw [hk0] at h0
  rw [cond_true]
  cases hk : a.key == b.key with
  | false => rfl
  | true =>
   rw [hk] at h0
   have hne : a.cells.length ≠ b.cells.length := by simpa using h0
   cases he : eqCs a.cells b.cells with
   | false => rfl
   | true => exact absurd (congrArg List.length (eqCs_iff.1 he)) hne
 | false =>
  rw [cond_false, (main h0).2]
  rw [hk0] at h0
  have : (a.key == b.key) = true := by simpa using (Bool.or_eq_false_iff.1 h0).1
  rw [this, Bool.true_and]
  cases eqCs a.cells b.cells <;> rfl
theorem r10_Same_c2 (a0 : TRow) (a1 : TRow) (hp : ∀ p ∈ r10_Same_ps2 a0 a1, p) : CallOk Try.prog 23 [valA .row a0, valA .row a1] 0 [] 1 (r10_Same_r2 a0 a1) 0 (r10_Same_o2 a0 a1) := by
 have hb : boundP a0.cells.length := hp _ (List.mem_cons_self ..)
 have h := r10_Same_c a0 a1 (r10_Same_eq a0 a1 hb).1
 unfold r10_Same_r at h
 rw [(r10_Same_eq a0 a1 hb).2] at h
 exact h
def r10_Same_t : List A → Nat → Objs → Option CRes := rowK [.t .row, .t .row] 0 r10_Same_r2 r10_Same_o2 r10_Same_ps2
theorem r10_Same_tok : TOk Try.prog 23 r10_Same_t := rowK_ok (ks := [.t .row, .t .row]) r10_Same_c2
noncomputable def Cso5_2 := addC 23 r10_Same_t Cso5_1
theorem Cso5_2_ok : COk Try.prog Cso5_2 := addC_ok r10_Same_tok Cso5_1_ok
abbrev r10_All_l0_X : Type := (List TRow) × (List TRow) × Int
def r10_All_l0_T (x : r10_All_l0_X) : St := ⟨27, 0, [(0, .sl .row x.1), (1, .sl .row x.2.1), (5, .v (.int .i64 x.2.2))], []⟩
def r10_All_l0_un : St → Option r10_All_l0_X
 | ⟨27, 0, [(0, .sl .row z0), (1, .sl .row z1), (5, .v (.int .i64 z2))], []⟩ => some (z0, z1, z2)
 | _ => none
theorem r10_All_l0_unok : ∀ s x, r10_All_l0_un s = some x → s = r10_All_l0_T x := fun s x h => by
 unfold r10_All_l0_un at h
 split at h
 ·cases h; rfl
 ·cases h
def r10_All_l0_S : Shape := ⟨0, 0, [0, 1, 5], [], [], [], [4], []⟩
def r10_All_l0_E : Entry := ⟨[], [], [0, 1, 5], []⟩
def r10_All_l0_f_k1 (a0 : List TRow) (_a1 : List TRow) (a2 : Int) : Bool := !!decide (a2 < (↑a0.length : Int))
def r10_All_l0_f_k0 (a0 : List TRow) (a1 : List TRow) (a2 : Int) : Bool := (r10_All_l0_f_k1 a0 a1 a2) && !eqRw (a0.getD a2.toNat (dflt TC.row)) (a1.getD a2.toNat (dflt TC.row))
def r10_All_l0_f_3 (a0 : List TRow) (a1 : List TRow) (a2 : Int) : Bool := (r10_All_l0_f_k1 a0 a1 a2) && !(r10_All_l0_f_k0 a0 a1 a2)
def r10_All_l0_next (x : r10_All_l0_X) : r10_All_l0_X := (x.1, x.2.1, IntKind.i64.wrap (x.2.2 + (1 : Int)))
def r10_All_l0_goes (x : r10_All_l0_X) : Cnd := some (r10_All_l0_f_3 x.1 x.2.1 x.2.2)
def r10_All_l0_psA (x : r10_All_l0_X) : List Prop := [((r10_All_l0_f_k1 x.1 x.2.1 x.2.2) = true → (0 : Int) ≤ x.2.2 ∧ x.2.2 < (↑x.1.length : Int)), ((r10_All_l0_f_k1 x.1 x.2.1 x.2.2) = true → (0 : Int) ≤ x.2.2 ∧ x.2.2 < (↑x.2.1.length : Int)), ((r10_All_l0_f_k1 x.1 x.2.1 x.2.2) = true → boundP (x.1.getD x.2.2.toNat (dflt TC.row)).2.length)]
abbrev r10_All_l0_ps : r10_All_l0_X → List Prop := r10_All_l0_psA
def r10_All_l0_outs (x : r10_All_l0_X) : Outs := [(some 0, some (!decide (x.2.2 < (↑x.1.length : Int))), ⟨27, 0, [(4, .dead)], []⟩), (none, some ((r10_All_l0_f_k0 x.1 x.2.1 x.2.2)), ⟨27, 0, [(4, .v (.bool (false)))], []⟩)]
def r10_All_l0_fuel (x : r10_All_l0_X) : Nat := ((↑x.1.length : Int) - x.2.2).toNat
def r10_All_l0_run (x : r10_All_l0_X) : r10_All_l0_X := iterX r10_All_l0_next r10_All_l0_goes (r10_All_l0_fuel x) x
theorem r10_All_l0_ev (a0 : List TRow) (a1 : List TRow) (a2 : Int) : roundE (envT Cso5_2 L0) 9 (loopAt Try.prog 14 0) r10_All_l0_S (r10_All_l0_T (a0, a1, a2)) = some (r10_All_l0_psA (a0, a1, a2), r10_All_l0_outs (a0, a1, a2), r10_All_l0_goes (a0, a1, a2), r10_All_l0_T (r10_All_l0_next (a0, a1, a2))) := by kernel_rfl
theorem r10_All_l0_hA (a0 : List TRow) (a1 : List TRow) (a2 : Int) (hp : ∀ p ∈ r10_All_l0_ps (a0, a1, a2), p) : ∀ p ∈ r10_All_l0_psA (a0, a1, a2), p := hp
noncomputable def r10_All_l0_row := rowL (envT Cso5_2 L0) (loopAt Try.prog 14 0) r10_All_l0_S r10_All_l0_E r10_All_l0_un r10_All_l0_fuel r10_All_l0_next r10_All_l0_goes r10_All_l0_ps r10_All_l0_outs
theorem r10_All_l0_rok : ∀ s b ps outs, r10_All_l0_row s = some (b, ps, outs) → Wf s ⟨ps, outs, none⟩ ∧ LoopOk (envT C0 L0) b s ps outs :=
 rowP_ok (T := r10_All_l0_T) Cso5_2_ok L0_ok (u := 9) (by kernel_rfl) (by decide) (fun ⟨a0, a1, a2⟩ => r10_All_l0_ev a0 a1 a2) (fun ⟨a0, a1, a2⟩ => r10_All_l0_hA a0 a1 a2) r10_All_l0_unok (fun _ => okOuts_ok (n := 27) rfl) fun _ _ => rfl
noncomputable def r10_All_l0_L := addLp 0 r10_All_l0_row L0
theorem r10_All_l0_Lok : LpOk r10_All_l0_L := addLp_ok r10_All_l0_rok L0_ok
def r10_All_k1 (a0 : List TRow) (a1 : List TRow) : r10_All_l0_X := r10_All_l0_run (a0, a1, (0 : Int))
def r10_All_k0 (a0 : List TRow) (a1 : List TRow) : Bool := (↑a0.length : Int) != (↑a1.length : Int)
def r10_All_0 (a0 : List TRow) (a1 : List TRow) : Bool := bif (r10_All_k0 a0 a1) then false else bif r10_All_l0_f_k0 (r10_All_k1 a0 a1).fst (r10_All_k1 a0 a1).snd.fst (r10_All_k1 a0 a1).snd.snd then false else true
def r10_All_r (a0 : List TRow) (a1 : List TRow) : A := .v (.bool (r10_All_0 a0 a1))
def r10_All_o (_a0 : List TRow) (_a1 : List TRow) : Objs := []
def r10_All_ps (a0 : List TRow) (a1 : List TRow) : List Prop := [((!(r10_All_k0 a0 a1)) = true → needX r10_All_l0_next r10_All_l0_goes r10_All_l0_ps (r10_All_l0_fuel (a0, a1, (0 : Int))) (a0, a1, (0 : Int)))]
theorem r10_All_ev (a0 : List TRow) (a1 : List TRow) : evF (envT Cso5_2 r10_All_l0_L) 9 14 [valA .rows a0, valA .rows a1] 0 [] = some (1, r10_All_r a0 a1, 0, r10_All_o a0 a1, [((!(r10_All_k0 a0 a1)) = true → loopAt Try.prog (14 : FuncId) (0 : Nat) = loopAt Try.prog (14 : FuncId) (0 : Nat)), ((!(r10_All_k0 a0 a1)) = true → needX r10_All_l0_next r10_All_l0_goes r10_All_l0_ps (r10_All_l0_fuel (a0, a1, (0 : Int))) (a0, a1, (0 : Int)))]) := by kernel_rfl
theorem r10_All_c (a0 : List TRow) (a1 : List TRow) (hp : ∀ p ∈ r10_All_ps a0 a1, p) : CallOk Try.prog 14 [valA .rows a0, valA .rows a1] 0 [] 1 (r10_All_r a0 a1) 0 (r10_All_o a0 a1) := by
 have n0 : ((!(r10_All_k0 a0 a1)) = true → loopAt Try.prog (14 : FuncId) (0 : Nat) = loopAt Try.prog (14 : FuncId) (0 : Nat)) := by intros; rfl
 have n1 := N0 hp
 exact evF_ok (envP_ok Cso5_2_ok r10_All_l0_Lok) (r10_All_ev a0 a1) (needs_cons n0 (needs_cons n1 needs_nil))
def eqRs (a b : List TRow) : Bool := a.length == b.length && allN a.length fun i => eqRw (a.getD i (dflt TC.row)) (b.getD i (dflt TC.row))
def r10_All_r2 (a0 : List TRow) (a1 : List TRow) : A := .v (.bool (eqRs a0 a1))
def r10_All_o2 (_a0 : List TRow) (_a1 : List TRow) : Objs := []
def r10_All_ps2 (a0 : List TRow) (_a1 : List TRow) : List Prop := [wideN a0.length, ∀ r ∈ a0, boundP r.cells.length]
theorem r10_All_eq (a b : List TRow) (hl : wideN a.length) (hb : ∀ r ∈ a, boundP r.cells.length) : (∀ p ∈ r10_All_ps a b, p) ∧ r10_All_0 a b = eqRs a b := by
 unfold wideN at hl
 have hk0 : r10_All_k0 a b = (a.length != b.length) := by
  show ((a.length : Int) != (b.length : Int)) = _
  rw [Bool.eq_iff_iff, bne_iff_ne, bne_iff_ne]; omega
 have main : r10_All_k0 a b = false → needX r10_All_l0_next r10_All_l0_goes r10_All_l0_ps (r10_All_l0_fuel (a, b, 0)) (a, b, 0) ∧ r10_All_l0_f_k0 (r10_All_l0_run (a, b, 0)).1 (r10_All_l0_run (a, b, 0)).2.1 (r10_All_l0_run (a, b, 0)).2.2 = !allN a.length fun i => eqRw (a.getD i (dflt TC.row)) (b.getD i (dflt TC.row)) := fun h0 => by
  rw [hk0] at h0
  have hlen : a.length = b.length := by simpa using h0
  have hf : ∀ i : Nat, r10_All_l0_f_k0 a b (i : Int) = (decide (i < a.length) && !eqRw (a.getD i (dflt TC.row)) (b.getD i (dflt TC.row))) := fun i => by
   unfold r10_All_l0_f_k0 r10_All_l0_f_k1
   rw [nn, dlt, Int.toNat_natCast]
  obtain ⟨h1, k, hk, hx, _, _, hb'⟩ := scanB (fun i => ((a, b, (i : Int)) : r10_All_l0_X)) a.length (fun i => !eqRw (a.getD i (dflt TC.row)) (b.getD i (dflt TC.row))) r10_All_l0_next r10_All_l0_goes r10_All_l0_ps (r10_All_l0_fuel (a, b, 0)) (a, b, 0) rfl (by show a.length ≤ ((a.length : Int) - 0).toNat; omega)
   (fun i _ _ => by
    show ((!!decide ((i : Int) < (a.length : Int))) && !r10_All_l0_f_k0 a b (i : Int)) = _
    rw [hf, nn, dlt]
    cases decide (i < a.length) <;> rfl)
   (fun i hi _ => by
    show (a, b, IntKind.i64.wrap ((i : Int) + 1)) = (a, b, ((i + 1 : Nat) : Int))
    rw [wsucc (by omega)])
   (fun i hi _ => by
    have hin : (!!decide ((i : Int) < (a.length : Int))) = true → (i : Int) < (a.length : Int) := fun h => by rw [nn] at h; exact of_decide_eq_true h
    refine needs_cons (fun h => ⟨by show (0 : Int) ≤ (i : Int); omega, hin h⟩) (needs_cons (fun h => ⟨by show (0 : Int) ≤ (i : Int); omega, by have := hin h; show (i : Int) < (b.length : Int); omega⟩) (needs_cons (fun h => ?_) needs_nil))
    have h5 := hin h
    have e : ((i : Int)).toNat = i := Int.toNat_natCast i
    show boundP (a.getD ((i : Int)).toNat (dflt TC.row)).2.length
    rw [e]
    exact hb _ (getD_in a (dflt TC.row) i (by omega)))
  refine ⟨h1, ?_⟩
  have hr : r10_All_l0_run (a, b, 0) = (a, b, (k : Int)) := hx
  rw [hr]
  show r10_All_l0_f_k0 a b (k : Int) = _
  rw [hf, hb']
  congr 1
  exact allN_congr fun i _ => Bool.not_not _
 refine ⟨needs_cons (fun h => (main (by simpa using h)).1) needs_nil, ?_⟩
 unfold r10_All_0 eqRs
 cases h0 : r10_All_k0 a b with
 | true =>
  rw [hk0] at h0
  have e : (a.length == b.length) = false := by simpa using h0
  rw [e]
  rfl
 | false =>
  have h1 := h0
  rw [hk0] at h1
  have e : (a.length == b.length) = true := by simpa using h1
  rw [cond_false, e, Bool.true_and]
  have m := (main h0).2
  show (!r10_All_l0_f_k0 (r10_All_l0_run (a, b, 0)).1 (r10_All_l0_run (a, b, 0)).2.1 (r10_All_l0_run (a, b, 0)).2.2) = _
  rw [m, Bool.not_not]
theorem r10_All_c2 (a0 : List TRow) (a1 : List TRow) (hp : ∀ p ∈ r10_All_ps2 a0 a1, p) : CallOk Try.prog 14 [valA .rows a0, valA .rows a1] 0 [] 1 (r10_All_r2 a0 a1) 0 (r10_All_o2 a0 a1) := by
 have hb : wideN a0.length := hp _ (List.mem_cons_self ..)
 have hc : ∀ r ∈ a0, boundP r.cells.length := hp _ (List.mem_cons_of_mem _ (List.mem_cons_self ..))
 have h := r10_All_c a0 a1 (r10_All_eq a0 a1 hb hc).1
 unfold r10_All_r at h
 rw [(r10_All_eq a0 a1 hb hc).2] at h
 exact h
theorem eqRs_self (a : List TRow) : eqRs a a = true := by
 unfold eqRs
 rw [beq_self_eq_true, Bool.true_and, allN_iff]
 exact fun i _ => eqRw_iff.2 rfl
def r10_All_t : List A → Nat → Objs → Option CRes := rowK [.t .rows, .t .rows] 0 r10_All_r2 r10_All_o2 r10_All_ps2
theorem r10_All_tok : TOk Try.prog 14 r10_All_t := rowK_ok (ks := [.t .rows, .t .rows]) r10_All_c2
noncomputable def Cso5_3 := addC 14 r10_All_t Cso5_2
theorem Cso5_3_ok : COk Try.prog Cso5_3 := addC_ok r10_All_tok Cso5_2_ok
def r10_Copy_1 (a0 : TRow) : List TCell := [] ++ a0.2
def r10_Copy_r (a0 : TRow) : A := .agg [.v (.string a0.1), .sq 0]
def r10_Copy_o (a0 : TRow) : Objs := [(0, some (.arr 64 8 (.ty .cell (r10_Copy_1 a0))))]
def r10_Copy_ps (a0 : TRow) : List Prop := [(boundP ((0 : Nat) + a0.2.length))]
theorem r10_Copy_ev (a0 : TRow) : evF (envT Cso5_3 L0) 9 29 [valA .row a0] 0 [] = some (1, r10_Copy_r a0, 1, r10_Copy_o a0, r10_Copy_ps a0) := by kernel_rfl
theorem r10_Copy_c (a0 : TRow) (hp : ∀ p ∈ r10_Copy_ps a0, p) : CallOk Try.prog 29 [valA .row a0] 0 [] 1 (r10_Copy_r a0) 1 (r10_Copy_o a0) := evF_ok (envP_ok Cso5_3_ok L0_ok) (r10_Copy_ev a0) hp
def r10_Copy_t : List A → Nat → Objs → Option CRes := rowK [.t .row] 1 r10_Copy_r r10_Copy_o r10_Copy_ps
theorem r10_Copy_tok : TOk Try.prog 29 r10_Copy_t := rowK_ok (ks := [.t .row]) r10_Copy_c
noncomputable def Cso5_4 := addC 29 r10_Copy_t Cso5_3
theorem Cso5_4_ok : COk Try.prog Cso5_4 := addC_ok r10_Copy_tok Cso5_3_ok
def r01_Add_0 (a0 : Int) (a1 : Int) (a2 : Int) : Int := bif decide (a0 > a2) || decide (a1 > a2) || decide (a0 > IntKind.i64.wrap (a2 - a1)) then IntKind.i64.wrap (a2 + (1 : Int)) else IntKind.i64.wrap (a0 + a1)
def r01_Add_r (a0 : Int) (a1 : Int) (a2 : Int) : A := .v (.int .i64 (r01_Add_0 a0 a1 a2))
def r01_Add_o (_a0 : Int) (_a1 : Int) (_a2 : Int) : Objs := []
def r01_Add_ps (_a0 : Int) (_a1 : Int) (_a2 : Int) : List Prop := []
theorem r01_Add_ev (a0 : Int) (a1 : Int) (a2 : Int) : evF (envT Cso5_4 L0) 9 15 [valA .i64 a0, valA .i64 a1, valA .i64 a2] 0 [] = some (1, r01_Add_r a0 a1 a2, 0, r01_Add_o a0 a1 a2, r01_Add_ps a0 a1 a2) := by kernel_rfl
theorem r01_Add_c (a0 : Int) (a1 : Int) (a2 : Int) (hp : ∀ p ∈ r01_Add_ps a0 a1 a2, p) : CallOk Try.prog 15 [valA .i64 a0, valA .i64 a1, valA .i64 a2] 0 [] 1 (r01_Add_r a0 a1 a2) 0 (r01_Add_o a0 a1 a2) := evF_ok (envP_ok Cso5_4_ok L0_ok) (r01_Add_ev a0 a1 a2) hp
def r01_Add_t : List A → Nat → Objs → Option CRes := rowK [.t .i64, .t .i64, .t .i64] 0 r01_Add_r r01_Add_o r01_Add_ps
theorem r01_Add_tok : TOk Try.prog 15 r01_Add_t := rowK_ok (ks := [.t .i64, .t .i64, .t .i64]) r01_Add_c
noncomputable def Cso5_5 := addC 15 r01_Add_t Cso5_4
theorem Cso5_5_ok : COk Try.prog Cso5_5 := addC_ok r01_Add_tok Cso5_4_ok
abbrev r11_Get_l0_X : Type := (List TRow) × ByteArray × Int × ByteArray
def r11_Get_l0_T (x : r11_Get_l0_X) : St := ⟨26, 1, [(0, .sl .row x.1), (1, .v (.string x.2.1)), (4, .own 0 0), (6, .v (.int .i64 x.2.2.1))], [(0, some (.box 29 [.v (.string x.2.2.2), .v (.slice none 0 0)]))]⟩
def r11_Get_l0_un : St → Option r11_Get_l0_X
 | ⟨26, 1, [(0, .sl .row z0), (1, .v (.string z1)), (4, .own 0 0), (6, .v (.int .i64 z2))], [(0, some (.box 29 [.v (.string z3), .v (.slice none 0 0)]))]⟩ => some (z0, z1, z2, z3)
 | _ => none
theorem r11_Get_l0_unok : ∀ s x, r11_Get_l0_un s = some x → s = r11_Get_l0_T x := fun s x h => by
 unfold r11_Get_l0_un at h
 split at h
 ·cases h; rfl
 ·cases h
def r11_Get_l0_S : Shape := ⟨1, 1, [0, 1, 4, 6], [], [(0, 0)], [0], [5], [0, 1]⟩
def r11_Get_l0_E : Entry := ⟨[], [(0, 0)], [0, 1, 4, 6], [0]⟩
def r11_Get_l0_f_k1 (a0 : List TRow) (_a1 : ByteArray) (a2 : Int) (_a3 : ByteArray) : Bool := !!decide (a2 < (↑a0.length : Int))
def r11_Get_l0_f_k0 (a0 : List TRow) (a1 : ByteArray) (a2 : Int) (a3 : ByteArray) : Bool := (r11_Get_l0_f_k1 a0 a1 a2 a3) && (a0.getD a2.toNat (dflt TC.row)).1.toList == a1.toList
def r11_Get_l0_f_4 (a0 : List TRow) (a1 : ByteArray) (a2 : Int) (a3 : ByteArray) : Bool := (r11_Get_l0_f_k1 a0 a1 a2 a3) && !(r11_Get_l0_f_k0 a0 a1 a2 a3)
def r11_Get_l0_f_11 (a0 : List TRow) (_a1 : ByteArray) (a2 : Int) (_a3 : ByteArray) : ByteArray := (a0.getD a2.toNat (dflt TC.row)).1
def r11_Get_l0_f_12 (a0 : List TRow) (_a1 : ByteArray) (a2 : Int) (_a3 : ByteArray) : List TCell := r10_Copy_1 (a0.getD a2.toNat (dflt TC.row))
def r11_Get_l0_next (x : r11_Get_l0_X) : r11_Get_l0_X := (x.1, x.2.1, IntKind.i64.wrap (x.2.2.1 + (1 : Int)), x.2.2.2)
def r11_Get_l0_goes (x : r11_Get_l0_X) : Cnd := some (r11_Get_l0_f_4 x.1 x.2.1 x.2.2.1 x.2.2.2)
def r11_Get_l0_psA (x : r11_Get_l0_X) : List Prop := [((r11_Get_l0_f_k1 x.1 x.2.1 x.2.2.1 x.2.2.2) = true → (0 : Int) ≤ x.2.2.1 ∧ x.2.2.1 < (↑x.1.length : Int)), ((r11_Get_l0_f_k1 x.1 x.2.1 x.2.2.1 x.2.2.2) = true → ((x.1.getD x.2.2.1.toNat (dflt TC.row)).1.toList == x.2.1.toList) = true → (0 : Int) ≤ x.2.2.1 ∧ x.2.2.1 < (↑x.1.length : Int)), ((r11_Get_l0_f_k1 x.1 x.2.1 x.2.2.1 x.2.2.2) = true → ((x.1.getD x.2.2.1.toNat (dflt TC.row)).1.toList == x.2.1.toList) = true → boundP ((0 : Nat) + (x.1.getD x.2.2.1.toNat (dflt TC.row)).2.length))]
abbrev r11_Get_l0_ps : r11_Get_l0_X → List Prop := r11_Get_l0_psA
def r11_Get_l0_outs (x : r11_Get_l0_X) : Outs := [(some 0, some (!decide (x.2.2.1 < (↑x.1.length : Int))), ⟨26, 1, [(5, .dead)], [(0, some (.box 29 [.v (.string x.2.2.2), .v (.slice none 0 0)])), (1, none)]⟩), (none, some ((r11_Get_l0_f_k0 x.1 x.2.1 x.2.2.1 x.2.2.2)), ⟨26, 2, [(5, .v (.bool (true)))], [(0, some (.box 29 [.v (.string (r11_Get_l0_f_11 x.1 x.2.1 x.2.2.1 x.2.2.2)), .sq 1])), (1, some (.arr 64 8 (.ty .cell (r11_Get_l0_f_12 x.1 x.2.1 x.2.2.1 x.2.2.2))))]⟩)]
def r11_Get_l0_fuel (x : r11_Get_l0_X) : Nat := ((↑x.1.length : Int) - x.2.2.1).toNat
def r11_Get_l0_run (x : r11_Get_l0_X) : r11_Get_l0_X := iterX r11_Get_l0_next r11_Get_l0_goes (r11_Get_l0_fuel x) x
theorem r11_Get_l0_ev (a0 : List TRow) (a1 : ByteArray) (a2 : Int) (a3 : ByteArray) : roundE (envT Cso5_5 L0) 9 (loopAt Try.prog 22 0) r11_Get_l0_S (r11_Get_l0_T (a0, a1, a2, a3)) = some (r11_Get_l0_psA (a0, a1, a2, a3), r11_Get_l0_outs (a0, a1, a2, a3), r11_Get_l0_goes (a0, a1, a2, a3), r11_Get_l0_T (r11_Get_l0_next (a0, a1, a2, a3))) := by kernel_rfl
theorem r11_Get_l0_hA (a0 : List TRow) (a1 : ByteArray) (a2 : Int) (a3 : ByteArray) (hp : ∀ p ∈ r11_Get_l0_ps (a0, a1, a2, a3), p) : ∀ p ∈ r11_Get_l0_psA (a0, a1, a2, a3), p := hp
noncomputable def r11_Get_l0_row := rowL (envT Cso5_5 L0) (loopAt Try.prog 22 0) r11_Get_l0_S r11_Get_l0_E r11_Get_l0_un r11_Get_l0_fuel r11_Get_l0_next r11_Get_l0_goes r11_Get_l0_ps r11_Get_l0_outs
theorem r11_Get_l0_rok : ∀ s b ps outs, r11_Get_l0_row s = some (b, ps, outs) → Wf s ⟨ps, outs, none⟩ ∧ LoopOk (envT C0 L0) b s ps outs :=
 rowP_ok (T := r11_Get_l0_T) Cso5_5_ok L0_ok (u := 9) (by kernel_rfl) (by decide) (fun ⟨a0, a1, a2, a3⟩ => r11_Get_l0_ev a0 a1 a2 a3) (fun ⟨a0, a1, a2, a3⟩ => r11_Get_l0_hA a0 a1 a2 a3) r11_Get_l0_unok (fun _ => okOuts_ok (n := 26) rfl) fun _ _ => rfl
noncomputable def r11_Get_l0_L := addLp 0 r11_Get_l0_row L0
theorem r11_Get_l0_Lok : LpOk r11_Get_l0_L := addLp_ok r11_Get_l0_rok L0_ok
def r11_Get_k4 (a0 : List TRow) (a1 : ByteArray) : List TRow := (r11_Get_l0_run (a0, a1, (0 : Int), ByteArray.mk #[])).fst
def r11_Get_k3 (a0 : List TRow) (a1 : ByteArray) : ByteArray := (r11_Get_l0_run (a0, a1, (0 : Int), ByteArray.mk #[])).snd.fst
def r11_Get_k2 (a0 : List TRow) (a1 : ByteArray) : ByteArray := (r11_Get_l0_run (a0, a1, (0 : Int), ByteArray.mk #[])).snd.snd.snd
def r11_Get_k1 (a0 : List TRow) (a1 : ByteArray) : Int := (r11_Get_l0_run (a0, a1, (0 : Int), ByteArray.mk #[])).snd.snd.fst
def r11_Get_k0 (a0 : List TRow) (a1 : ByteArray) : Bool := r11_Get_l0_f_k0 (r11_Get_k4 a0 a1) (r11_Get_k3 a0 a1) (r11_Get_k1 a0 a1) (r11_Get_k2 a0 a1)
def r11_Get_0 (a0 : List TRow) (a1 : ByteArray) : ByteArray := bif (r11_Get_k0 a0 a1) then r11_Get_l0_f_11 (r11_Get_k4 a0 a1) (r11_Get_k3 a0 a1) (r11_Get_k1 a0 a1) (r11_Get_k2 a0 a1) else ByteArray.mk #[]
def r11_Get_1 (a0 : List TRow) (a1 : ByteArray) : Bool := bif (r11_Get_k0 a0 a1) then true else false
def r11_Get_2 (a0 : List TRow) (a1 : ByteArray) : List TCell := bif (r11_Get_k0 a0 a1) then r11_Get_l0_f_12 (r11_Get_k4 a0 a1) (r11_Get_k3 a0 a1) (r11_Get_k1 a0 a1) (r11_Get_k2 a0 a1) else []
def r11_Get_r (a0 : List TRow) (a1 : ByteArray) : A := .tup [.agg [.v (.string (r11_Get_0 a0 a1)), .sq 0], .v (.bool (r11_Get_1 a0 a1))]
def r11_Get_o (a0 : List TRow) (a1 : ByteArray) : Objs := [(0, some (.arr 64 8 (.ty .cell (r11_Get_2 a0 a1))))]
def r11_Get_ps (a0 : List TRow) (a1 : ByteArray) : List Prop := [(needX r11_Get_l0_next r11_Get_l0_goes r11_Get_l0_ps (r11_Get_l0_fuel (a0, a1, (0 : Int), ByteArray.mk #[])) (a0, a1, (0 : Int), ByteArray.mk #[]))]
theorem r11_Get_ev (a0 : List TRow) (a1 : ByteArray) : evF (envT Cso5_5 r11_Get_l0_L) 9 22 [valA .rows a0, valA .str a1] 0 [] = some (1, r11_Get_r a0 a1, 1, r11_Get_o a0 a1, [(loopAt Try.prog (22 : FuncId) (0 : Nat) = loopAt Try.prog (22 : FuncId) (0 : Nat)), (needX r11_Get_l0_next r11_Get_l0_goes r11_Get_l0_ps (r11_Get_l0_fuel (a0, a1, (0 : Int), ByteArray.mk #[])) (a0, a1, (0 : Int), ByteArray.mk #[]))]) := by kernel_rfl
theorem r11_Get_c (a0 : List TRow) (a1 : ByteArray) (hp : ∀ p ∈ r11_Get_ps a0 a1, p) : CallOk Try.prog 22 [valA .rows a0, valA .str a1] 0 [] 1 (r11_Get_r a0 a1) 1 (r11_Get_o a0 a1) := by
 have n1 := N0 hp
 exact evF_ok (envP_ok Cso5_5_ok r11_Get_l0_Lok) (r11_Get_ev a0 a1) (needs_cons rfl (needs_cons n1 needs_nil))
def r11_Get_r2 (a0 : List TRow) (a1 : ByteArray) : A := .tup [.agg [.v (.string (bif hasR a0 a1 then a1 else ByteArray.mk #[])), .sq 0], .v (.bool (hasR a0 a1))]
def r11_Get_o2 (a0 : List TRow) (a1 : ByteArray) : Objs := [(0, some (.arr 64 8 (.ty .cell (cellsR a0 a1))))]
def r11_Get_ps2 (a0 : List TRow) (_a1 : ByteArray) : List Prop := [ScanP a0]
theorem atR_scan (key : ByteArray) : ∀ (l : List TRow) (k : Nat), k ≤ l.length → (∀ j, j < k → ((rowN l j).key == key) = false) → (k < l.length → ((rowN l k).key == key) = true) → hasR l key = decide (k < l.length) ∧ cellsR l key = (if k < l.length then (rowN l k).cells else [])
 | [], k, _, _, _ => ⟨rfl, rfl⟩
 | x :: a, 0, _, _, h => by
  have h2 : (x.key == key) = true := h (Nat.zero_lt_succ _)
  refine ⟨?_, ?_⟩
  ·unfold hasR
   rw [List.any_cons, h2]
   rfl
  ·show (bif (x.key == key) then x.cells else cellsR a key) = _
   rw [h2, if_pos (show 0 < (x :: a).length from Nat.zero_lt_succ _)]
   rfl
 | x :: a, k + 1, hk, h0, h => by
  have h2 : (x.key == key) = false := h0 0 (Nat.zero_lt_succ _)
  obtain ⟨g1, g2⟩ := atR_scan key a k (Nat.le_of_succ_le_succ hk) (fun j hj => h0 (j + 1) (Nat.succ_lt_succ hj)) (fun hk => h (Nat.succ_lt_succ hk))
  refine ⟨?_, ?_⟩
  ·have : hasR (x :: a) key = hasR a key := by unfold hasR; rw [List.any_cons, h2]; rfl
   rw [this, g1]
   by_cases hl : k < a.length
   ·rw [decide_eq_true hl, decide_eq_true (show k + 1 < (x :: a).length from Nat.succ_lt_succ hl)]
   ·rw [decide_eq_false hl, decide_eq_false (show ¬ k + 1 < (x :: a).length from fun h => hl (Nat.lt_of_succ_lt_succ h))]
  ·show (bif (x.key == key) then x.cells else cellsR a key) = _
   rw [h2]
   show cellsR a key = _
   rw [g2]
   by_cases hl : k < a.length
   ·rw [if_pos hl, if_pos (show k + 1 < (x :: a).length from Nat.succ_lt_succ hl)]
    rfl
   ·rw [if_neg hl, if_neg (show ¬ k + 1 < (x :: a).length from fun h => hl (Nat.lt_of_succ_lt_succ h))]
theorem r11g_eq (rows : List TRow) (key : ByteArray) (hb : wideN rows.length) (hc : ∀ r ∈ rows, boundP r.cells.length) : (∀ p ∈ r11_Get_ps rows key, p) ∧ r11_Get_0 rows key = (bif hasR rows key then key else ByteArray.mk #[]) ∧ r11_Get_1 rows key = hasR rows key ∧ r11_Get_2 rows key = cellsR rows key := by
 unfold wideN at hb
 have hk0 : ∀ i : Nat, r11_Get_l0_f_k0 rows key (i : Int) ⟨#[]⟩ = (decide (i < rows.length) && ((rowN rows i).key == key)) := fun i => by
  unfold r11_Get_l0_f_k0 r11_Get_l0_f_k1
  rw [nn, dlt, tlb, Int.toNat_natCast]
  rfl
 obtain ⟨h1, k, hk, hx, hs, hst, _⟩ := scanB (fun i => ((rows, key, (i : Int), ⟨#[]⟩) : r11_Get_l0_X)) rows.length (fun i => (rowN rows i).key == key) r11_Get_l0_next r11_Get_l0_goes r11_Get_l0_ps (r11_Get_l0_fuel (rows, key, 0, ⟨#[]⟩)) (rows, key, 0, ⟨#[]⟩) rfl (by show rows.length ≤ ((rows.length : Int) - 0).toNat; omega)
  (fun i _ _ => by
   show ((!!decide ((i : Int) < (rows.length : Int))) && !r11_Get_l0_f_k0 rows key (i : Int) ⟨#[]⟩) = _
   rw [hk0, nn, dlt]
   cases decide (i < rows.length) <;> rfl)
  (fun i hi _ => by
   show (rows, key, IntKind.i64.wrap ((i : Int) + 1), (⟨#[]⟩ : ByteArray)) = (rows, key, ((i + 1 : Nat) : Int), ⟨#[]⟩)
   rw [wsucc (by omega)])
  (fun i hi _ => by
   have hin : (!!decide ((i : Int) < (rows.length : Int))) = true → (i : Int) < (rows.length : Int) := fun h => by rw [nn] at h; exact of_decide_eq_true h
   refine needs_cons (fun h => ⟨by show (0 : Int) ≤ (i : Int); omega, hin h⟩) (needs_cons (fun h _ => ⟨by show (0 : Int) ≤ (i : Int); omega, hin h⟩) (needs_cons (fun h _ => ?_) needs_nil))
   have h2 := hin h
   show boundP (0 + (rows.getD ((i : Int)).toNat (dflt TC.row)).2.length)
   rw [Int.toNat_natCast, Nat.zero_add]
   exact hc _ (getD_in rows (dflt TC.row) i (by omega)))
 have hr : r11_Get_l0_run (rows, key, 0, ⟨#[]⟩) = (rows, key, (k : Int), ⟨#[]⟩) := hx
 obtain ⟨hat1, hat2⟩ := atR_scan key rows k hk hs hst
 refine ⟨needs_cons h1 needs_nil, ?_⟩
 have e0 : r11_Get_k0 rows key = decide (k < rows.length) := by
  unfold r11_Get_k0 r11_Get_k4 r11_Get_k3 r11_Get_k1 r11_Get_k2
  rw [hr]
  show r11_Get_l0_f_k0 rows key (k : Int) ⟨#[]⟩ = _
  rw [hk0]
  rcases Nat.lt_or_ge k rows.length with h | h
  ·have h2 : ((rowN rows k).key == key) = true := hst h
   rw [decide_eq_true h, h2]
   rfl
  ·rw [decide_eq_false (by omega)]
   rfl
 unfold r11_Get_0 r11_Get_1 r11_Get_2
 rw [e0, hat1, hat2]
 unfold r11_Get_k4 r11_Get_k3 r11_Get_k1 r11_Get_k2
 rw [hr]
 by_cases h : k < rows.length
 ·rw [decide_eq_true h, if_pos h]
  show r11_Get_l0_f_11 rows key (k : Int) ⟨#[]⟩ = key ∧ true = true ∧ r11_Get_l0_f_12 rows key (k : Int) ⟨#[]⟩ = _
  unfold r11_Get_l0_f_11 r11_Get_l0_f_12
  rw [Int.toNat_natCast]
  exact ⟨eq_of_beq (hst h), rfl, rfl⟩
 ·rw [decide_eq_false h, if_neg h]
  exact ⟨rfl, rfl, rfl⟩
theorem r11_Get_c2 (a0 : List TRow) (a1 : ByteArray) (hp : ∀ p ∈ r11_Get_ps2 a0 a1, p) : CallOk Try.prog 22 [valA .rows a0, valA .str a1] 0 [] 1 (r11_Get_r2 a0 a1) 1 (r11_Get_o2 a0 a1) := by
 obtain ⟨h1, h2⟩ := hp _ (List.mem_cons_self ..)
 obtain ⟨g1, e1, e2, e3⟩ := r11g_eq a0 a1 (by unfold boundP at h1; unfold wideN; omega) h2
 have h := r11_Get_c a0 a1 g1
 unfold r11_Get_r r11_Get_o at h
 rw [e1, e2, e3] at h
 exact h
def r11_Get_t : List A → Nat → Objs → Option CRes := rowK [.t .rows, .t .str] 1 r11_Get_r2 r11_Get_o2 r11_Get_ps2
theorem r11_Get_tok : TOk Try.prog 22 r11_Get_t := rowK_ok (ks := [.t .rows, .t .str]) r11_Get_c2
noncomputable def Cso5_6 := addC 22 r11_Get_t Cso5_5
theorem Cso5_6_ok : COk Try.prog Cso5_6 := addC_ok r11_Get_tok Cso5_5_ok
abbrev r11_Set_l0_X : Type := (List TRow) × Bool × Int × TRow × (List TRow)
def r11_Set_l0_T (x : r11_Set_l0_X) : St := ⟨54, 3, [(0, .sl .row x.1), (3, .own 0 0), (5, .sq 2), (6, .v (.bool x.2.1)), (7, .v (.int .i64 x.2.2.1))], [(0, some (.box 29 [.v (.string x.2.2.2.1.key), .sl .cell x.2.2.2.1.cells])), (2, some (.arr 29 2 (.ty .row x.2.2.2.2)))]⟩
def r11_Set_l0_un : St → Option r11_Set_l0_X
 | ⟨54, 3, [(0, .sl .row z0), (3, .own 0 0), (5, .sq 2), (6, .v (.bool z1)), (7, .v (.int .i64 z2))], [(0, some (.box 29 [.v (.string z3), .sl .cell z4])), (2, some (.arr 29 2 (.ty .row z5)))]⟩ => some (z0, z1, z2, ⟨z3, z4⟩, z5)
 | _ => none
theorem r11_Set_l0_unok : ∀ s x, r11_Set_l0_un s = some x → s = r11_Set_l0_T x := fun s x h => by
 unfold r11_Set_l0_un at h
 split at h
 ·cases h; rfl
 ·cases h
def r11_Set_l0_S : Shape := ⟨2, 3, [0, 3, 5, 6, 7], [], [(0, 0), (9, 2)], [0, 9], [5, 6], [2, 0]⟩
def r11_Set_l0_E : Entry := ⟨[.nil 5 29 .row], [(0, 0), (1, 2)], [0, 3, 5, 6, 7], [0, 1]⟩
def r11_Set_l0_f_k2 (a0 : List TRow) (_a1 : Bool) (a2 : Int) (_a3 : TRow) (_a4 : List TRow) : Bool := !!decide (a2 < (↑a0.length : Int))
def r11_Set_l0_f_k1 (a0 : List TRow) (a1 : Bool) (a2 : Int) (a3 : TRow) (_a4 : List TRow) : Bool := !(a0.getD a2.toNat (dflt TC.row)).1.toList == (bif !a1 && !Op.bytesLess (a0.getD a2.toNat (dflt TC.row)).1.toList a3.1.toList then a3.1 else a3.1).toList
def r11_Set_l0_f_k0 (a0 : List TRow) (a1 : Bool) (a2 : Int) (a3 : TRow) (a4 : List TRow) : List TRow := bif !a1 && !Op.bytesLess (a0.getD a2.toNat (dflt TC.row)).1.toList a3.1.toList then a4 ++ [TRow.mk a3.1 (r10_Copy_1 a3)] else a4
def r11_Set_l0_f_1 (a0 : List TRow) (a1 : Bool) (a2 : Int) (a3 : TRow) (_a4 : List TRow) : Bool := bif !a1 && !Op.bytesLess (a0.getD a2.toNat (dflt TC.row)).1.toList a3.1.toList then true else a1
def r11_Set_l0_f_3 (a0 : List TRow) (a1 : Bool) (a2 : Int) (a3 : TRow) (_a4 : List TRow) : TRow := TRow.mk (bif !a1 && !Op.bytesLess (a0.getD a2.toNat (dflt TC.row)).1.toList a3.1.toList then a3.1 else a3.1) (bif !a1 && !Op.bytesLess (a0.getD a2.toNat (dflt TC.row)).1.toList a3.1.toList then a3.2 else a3.2)
def r11_Set_l0_f_4 (a0 : List TRow) (a1 : Bool) (a2 : Int) (a3 : TRow) (a4 : List TRow) : List TRow := bif (r11_Set_l0_f_k1 a0 a1 a2 a3 a4) then (r11_Set_l0_f_k0 a0 a1 a2 a3 a4) ++ [a0.getD a2.toNat (dflt TC.row)] else (r11_Set_l0_f_k0 a0 a1 a2 a3 a4)
def r11_Set_l0_next (x : r11_Set_l0_X) : r11_Set_l0_X := (x.1, r11_Set_l0_f_1 x.1 x.2.1 x.2.2.1 x.2.2.2.1 x.2.2.2.2, IntKind.i64.wrap (x.2.2.1 + (1 : Int)), r11_Set_l0_f_3 x.1 x.2.1 x.2.2.1 x.2.2.2.1 x.2.2.2.2, r11_Set_l0_f_4 x.1 x.2.1 x.2.2.1 x.2.2.2.1 x.2.2.2.2)
def r11_Set_l0_goes (x : r11_Set_l0_X) : Cnd := some ((r11_Set_l0_f_k2 x.1 x.2.1 x.2.2.1 x.2.2.2.1 x.2.2.2.2))
def r11_Set_l0_psA (x : r11_Set_l0_X) : List Prop := [((r11_Set_l0_f_k2 x.1 x.2.1 x.2.2.1 x.2.2.2.1 x.2.2.2.2) = true → (!x.2.1) = true → (0 : Int) ≤ x.2.2.1 ∧ x.2.2.1 < (↑x.1.length : Int)), ((r11_Set_l0_f_k2 x.1 x.2.1 x.2.2.1 x.2.2.2.1 x.2.2.2.2) = true → (!x.2.1 && !Op.bytesLess (x.1.getD x.2.2.1.toNat (dflt TC.row)).1.toList x.2.2.2.1.1.toList) = true → boundP ((0 : Nat) + x.2.2.2.1.2.length)), ((r11_Set_l0_f_k2 x.1 x.2.1 x.2.2.1 x.2.2.2.1 x.2.2.2.2) = true → (!x.2.1 && !Op.bytesLess (x.1.getD x.2.2.1.toNat (dflt TC.row)).1.toList x.2.2.2.1.1.toList) = true → boundP (x.2.2.2.2.length + (1 : Nat))), ((r11_Set_l0_f_k2 x.1 x.2.1 x.2.2.1 x.2.2.2.1 x.2.2.2.2) = true → (0 : Int) ≤ x.2.2.1 ∧ x.2.2.1 < (↑x.1.length : Int)), ((r11_Set_l0_f_k2 x.1 x.2.1 x.2.2.1 x.2.2.2.1 x.2.2.2.2) = true → (r11_Set_l0_f_k1 x.1 x.2.1 x.2.2.1 x.2.2.2.1 x.2.2.2.2) = true → (0 : Int) ≤ x.2.2.1 ∧ x.2.2.1 < (↑x.1.length : Int)), ((r11_Set_l0_f_k2 x.1 x.2.1 x.2.2.1 x.2.2.2.1 x.2.2.2.2) = true → (r11_Set_l0_f_k1 x.1 x.2.1 x.2.2.1 x.2.2.2.1 x.2.2.2.2) = true → boundP ((r11_Set_l0_f_k0 x.1 x.2.1 x.2.2.1 x.2.2.2.1 x.2.2.2.2).length + (1 : Nat)))]
abbrev r11_Set_l0_ps : r11_Set_l0_X → List Prop := r11_Set_l0_psA
def r11_Set_l0_outs (x : r11_Set_l0_X) : Outs := [(some 0, some (!decide (x.2.2.1 < (↑x.1.length : Int))), ⟨54, 3, [(5, .sq 2), (6, .v (.bool x.2.1))], [(2, some (.arr 29 2 (.ty .row x.2.2.2.2))), (0, some (.box 29 [.v (.string x.2.2.2.1.1), .sl .cell x.2.2.2.1.2]))]⟩)]
def r11_Set_l0_fuel (x : r11_Set_l0_X) : Nat := ((↑x.1.length : Int) - x.2.2.1).toNat
def r11_Set_l0_run (x : r11_Set_l0_X) : r11_Set_l0_X := iterX r11_Set_l0_next r11_Set_l0_goes (r11_Set_l0_fuel x) x
theorem r11_Set_l0_ev (a0 : List TRow) (a1 : Bool) (a2 : Int) (a3 : TRow) (a4 : List TRow) : roundE (envT Cso5_6 L0) 9 (loopAt Try.prog 18 0) r11_Set_l0_S (r11_Set_l0_T (a0, a1, a2, a3, a4)) = some (r11_Set_l0_psA (a0, a1, a2, a3, a4), r11_Set_l0_outs (a0, a1, a2, a3, a4), r11_Set_l0_goes (a0, a1, a2, a3, a4), r11_Set_l0_T (r11_Set_l0_next (a0, a1, a2, a3, a4))) := by kernel_rfl
theorem r11_Set_l0_hA (a0 : List TRow) (a1 : Bool) (a2 : Int) (a3 : TRow) (a4 : List TRow) (hp : ∀ p ∈ r11_Set_l0_ps (a0, a1, a2, a3, a4), p) : ∀ p ∈ r11_Set_l0_psA (a0, a1, a2, a3, a4), p := hp
noncomputable def r11_Set_l0_row := rowL (envT Cso5_6 L0) (loopAt Try.prog 18 0) r11_Set_l0_S r11_Set_l0_E r11_Set_l0_un r11_Set_l0_fuel r11_Set_l0_next r11_Set_l0_goes r11_Set_l0_ps r11_Set_l0_outs
theorem r11_Set_l0_rok : ∀ s b ps outs, r11_Set_l0_row s = some (b, ps, outs) → Wf s ⟨ps, outs, none⟩ ∧ LoopOk (envT C0 L0) b s ps outs :=
 rowP_ok (T := r11_Set_l0_T) Cso5_6_ok L0_ok (u := 9) (by kernel_rfl) (by decide) (fun ⟨a0, a1, a2, a3, a4⟩ => r11_Set_l0_ev a0 a1 a2 a3 a4) (fun ⟨a0, a1, a2, a3, a4⟩ => r11_Set_l0_hA a0 a1 a2 a3 a4) r11_Set_l0_unok (fun _ => okOuts_ok (n := 54) rfl) fun _ _ => rfl
noncomputable def r11_Set_l0_L := addLp 0 r11_Set_l0_row L0
theorem r11_Set_l0_Lok : LpOk r11_Set_l0_L := addLp_ok r11_Set_l0_rok L0_ok
def r11_Set_k1 (a0 : List TRow) (a1 : TRow) : Bool := !(r11_Set_l0_run (a0, false, (0 : Int), a1, [])).snd.fst
def r11_Set_k0 (a0 : List TRow) (a1 : TRow) : List TRow := (r11_Set_l0_run (a0, false, (0 : Int), a1, [])).snd.snd.snd.snd
def r11_Set_0 (a0 : List TRow) (a1 : TRow) : List TRow := bif (r11_Set_k1 a0 a1) then (r11_Set_k0 a0 a1) ++ [TRow.mk (r11_Set_l0_run (a0, false, (0 : Int), a1, [])).snd.snd.snd.fst.1 (r10_Copy_1 (r11_Set_l0_run (a0, false, (0 : Int), a1, [])).snd.snd.snd.fst)] else (r11_Set_k0 a0 a1)
def r11_Set_r (_a0 : List TRow) (_a1 : TRow) : A := .sq 0
def r11_Set_o (a0 : List TRow) (a1 : TRow) : Objs := [(0, some (.arr 29 2 (.ty .row (r11_Set_0 a0 a1))))]
def r11_Set_ps (a0 : List TRow) (a1 : TRow) : List Prop := [(needX r11_Set_l0_next r11_Set_l0_goes r11_Set_l0_ps (r11_Set_l0_fuel (a0, false, (0 : Int), a1, [])) (a0, false, (0 : Int), a1, [])), ((r11_Set_k1 a0 a1) = true → boundP ((0 : Nat) + (r11_Set_l0_run (a0, false, (0 : Int), a1, [])).snd.snd.snd.fst.2.length)), ((r11_Set_k1 a0 a1) = true → boundP ((r11_Set_k0 a0 a1).length + (1 : Nat)))]
theorem r11_Set_ev (a0 : List TRow) (a1 : TRow) : evF (envT Cso5_6 r11_Set_l0_L) 9 18 [valA .rows a0, valA .row a1] 0 [] = some (1, r11_Set_r a0 a1, 1, r11_Set_o a0 a1, [(loopAt Try.prog (18 : FuncId) (0 : Nat) = loopAt Try.prog (18 : FuncId) (0 : Nat)), (needX r11_Set_l0_next r11_Set_l0_goes r11_Set_l0_ps (r11_Set_l0_fuel (a0, false, (0 : Int), a1, [])) (a0, false, (0 : Int), a1, [])), ((r11_Set_k1 a0 a1) = true → boundP ((0 : Nat) + (r11_Set_l0_run (a0, false, (0 : Int), a1, [])).snd.snd.snd.fst.2.length)), ((r11_Set_k1 a0 a1) = true → boundP ((r11_Set_k0 a0 a1).length + (1 : Nat)))]) := by kernel_rfl
theorem r11_Set_c (a0 : List TRow) (a1 : TRow) (hp : ∀ p ∈ r11_Set_ps a0 a1, p) : CallOk Try.prog 18 [valA .rows a0, valA .row a1] 0 [] 1 (r11_Set_r a0 a1) 1 (r11_Set_o a0 a1) := by
 have n1 := N0 hp
 have n2 := N0 (N1 hp)
 have n3 := N0 (N1 (N1 hp))
 exact evF_ok (envP_ok Cso5_6_ok r11_Set_l0_Lok) (r11_Set_ev a0 a1) (needs_cons rfl (needs_cons n1 (needs_cons n2 (needs_cons n3 needs_nil))))
def r11_Set_r2 (a0 : List TRow) (a1 : TRow) : A := .sl .row (setR a0 a1)
def r11_Set_o2 (_a0 : List TRow) (_a1 : TRow) : Objs := []
def r11_Set_ps2 (a0 : List TRow) (a1 : TRow) : List Prop := [a0.length ≤ 400000 ∧ boundP a1.cells.length ∧ SortR a0]
theorem r11s_eq (rows : List TRow) (r : TRow) (hb : rows.length ≤ 400000) (hc : boundP r.cells.length) (hs : SortR rows) : (∀ p ∈ r11_Set_ps rows r, p) ∧ r11_Set_0 rows r = setR rows r := by
 have hlt : ∀ i : Nat, Op.bytesLess (rows.getD ((i : Int)).toNat (dflt TC.row)).1.toList r.1.toList = ltS (rowN rows i).key r.key := fun i => by rw [Int.toNat_natCast]; rfl
 have same : ∀ (c : Bool) (x : ByteArray), (bif c then x else x) = x := fun c x => by cases c <;> rfl
 have hcp : r10_Copy_1 r = r.2 := rfl
 have e1 : ∀ (i : Nat) (d : Bool) (o : List TRow), r11_Set_l0_f_1 rows d (i : Int) r o = (d || !ltS (rowN rows i).key r.key) := fun i d o => by
  unfold r11_Set_l0_f_1
  rw [hlt]
  cases d <;> cases ltS (rowN rows i).key r.key <;> rfl
 have e3 : ∀ (i : Nat) (d : Bool) (o : List TRow), r11_Set_l0_f_3 rows d (i : Int) r o = r := fun i d o => by
  unfold r11_Set_l0_f_3
  rw [hlt]
  cases (!d && !ltS (rowN rows i).key r.key) <;> rfl
 have ek0 : ∀ (i : Nat) (d : Bool) (o : List TRow), r11_Set_l0_f_k0 rows d (i : Int) r o = bif !d && !ltS (rowN rows i).key r.key then o ++ [r] else o := fun i d o => by
  unfold r11_Set_l0_f_k0
  rw [hlt]
  rfl
 have ek1 : ∀ (i : Nat) (d : Bool) (o : List TRow), r11_Set_l0_f_k1 rows d (i : Int) r o = !((rowN rows i).key == r.key) := fun i d o => by
  unfold r11_Set_l0_f_k1
  rw [same, tlb, Int.toNat_natCast]
  rfl
 have e4 : ∀ (i : Nat) (d : Bool) (o : List TRow), r11_Set_l0_f_4 rows d (i : Int) r o = (bif !d && !ltS (rowN rows i).key r.key then o ++ [r] else o) ++ (bif (rowN rows i).key == r.key then [] else [rowN rows i]) := fun i d o => by
  unfold r11_Set_l0_f_4
  rw [ek0, ek1, Int.toNat_natCast]
  cases (rowN rows i).key == r.key with
  | true => exact (List.append_nil _).symm
  | false => rfl
 have k0len : ∀ (i : Nat) (d : Bool) (o : List TRow), (r11_Set_l0_f_k0 rows d (i : Int) r o).length ≤ o.length + 1 := fun i d o => by
  rw [ek0]
  cases (!d && !ltS (rowN rows i).key r.key) with
  | true => rw [cond_true, List.length_append]; exact Nat.le_refl _
  | false => exact Nat.le_succ _
 obtain ⟨h1, hx⟩ := scanAll (fun i => ((rows, (runS r rows i).2, (i : Int), r, (runS r rows i).1) : r11_Set_l0_X)) rows.length r11_Set_l0_next r11_Set_l0_goes r11_Set_l0_ps (r11_Set_l0_fuel (rows, false, 0, r, [])) (rows, false, 0, r, []) rfl (by show rows.length ≤ ((rows.length : Int) - 0).toNat; omega)
  (fun i _ => by
   show (!!decide ((i : Int) < (rows.length : Int))) = _
   rw [nn, dlt])
  (fun i hi => by
   show (rows, r11_Set_l0_f_1 rows (runS r rows i).2 (i : Int) r (runS r rows i).1, IntKind.i64.wrap ((i : Int) + 1), r11_Set_l0_f_3 rows (runS r rows i).2 (i : Int) r (runS r rows i).1, r11_Set_l0_f_4 rows (runS r rows i).2 (i : Int) r (runS r rows i).1) = (rows, (runS r rows (i + 1)).2, ((i + 1 : Nat) : Int), r, (runS r rows (i + 1)).1)
   rw [wsucc (by omega), e1, e3, e4, runS_succ r rows i hi]
   rfl)
  (fun i hi => by
   have hin : (!!decide ((i : Int) < (rows.length : Int))) = true → (i : Int) < (rows.length : Int) := fun h => by rw [nn] at h; exact of_decide_eq_true h
   have hl := runS_len r rows i hi
   refine needs_cons (fun h _ => ⟨by show (0 : Int) ≤ (i : Int); omega, hin h⟩) (needs_cons (fun _ _ => ?_) (needs_cons (fun _ _ => ?_) (needs_cons (fun h => ⟨by show (0 : Int) ≤ (i : Int); omega, hin h⟩) (needs_cons (fun h _ => ⟨by show (0 : Int) ≤ (i : Int); omega, hin h⟩) (needs_cons (fun _ _ => ?_) needs_nil)))))
   ·show boundP (0 + r.2.length)
    rw [Nat.zero_add]
    exact hc
   ·show boundP ((runS r rows i).1.length + 1)
    unfold boundP
    omega
   ·have := k0len i (runS r rows i).2 (runS r rows i).1
    show boundP ((r11_Set_l0_f_k0 rows (runS r rows i).2 (i : Int) r (runS r rows i).1).length + 1)
    unfold boundP
    omega)
 have hr : r11_Set_l0_run (rows, false, 0, r, []) = (rows, (runS r rows rows.length).2, (rows.length : Int), r, (runS r rows rows.length).1) := hx
 have hl := runS_len r rows rows.length (Nat.le_refl _)
 refine ⟨needs_cons h1 (needs_cons (fun _ => ?_) (needs_cons (fun _ => ?_) needs_nil)), ?_⟩
 ·rw [hr, Nat.zero_add]
  exact hc
 ·unfold r11_Set_k0
  rw [hr]
  show boundP ((runS r rows rows.length).1.length + 1)
  unfold boundP
  omega
 ·rw [← set_fin r hs]
  unfold r11_Set_0 r11_Set_k1 r11_Set_k0 finS
  rw [hr]
  show (bif !(runS r rows rows.length).2 then (runS r rows rows.length).1 ++ [r] else (runS r rows rows.length).1) = _
  cases (runS r rows rows.length).2 <;> rfl
theorem r11_Set_c2 (a0 : List TRow) (a1 : TRow) (hp : ∀ p ∈ r11_Set_ps2 a0 a1, p) : CallOk Try.prog 18 [valA .rows a0, valA .row a1] 0 [] 1 (r11_Set_r2 a0 a1) 0 (r11_Set_o2 a0 a1) := by
 obtain ⟨h1, h2, h3⟩ := hp _ (List.mem_cons_self ..)
 obtain ⟨g1, e1⟩ := r11s_eq a0 a1 h1 h2 h3
 have h := r11_Set_c a0 a1 g1
 unfold r11_Set_r r11_Set_o at h
 rw [e1] at h
 exact callOk_sl (c := .row) h
def r11_Set_t : List A → Nat → Objs → Option CRes := rowK [.t .rows, .t .row] 0 r11_Set_r2 r11_Set_o2 r11_Set_ps2
theorem r11_Set_tok : TOk Try.prog 18 r11_Set_t := rowK_ok (ks := [.t .rows, .t .row]) r11_Set_c2
noncomputable def Cso5_7 := addC 18 r11_Set_t Cso5_6
theorem Cso5_7_ok : COk Try.prog Cso5_7 := addC_ok r11_Set_tok Cso5_6_ok
abbrev r11_Drop_l0_X : Type := (List TRow) × ByteArray × Int × (List TRow)
def r11_Drop_l0_T (x : r11_Drop_l0_X) : St := ⟨28, 2, [(0, .sl .row x.1), (1, .v (.string x.2.1)), (5, .sq 1), (6, .v (.int .i64 x.2.2.1))], [(1, some (.arr 29 2 (.ty .row x.2.2.2)))]⟩
def r11_Drop_l0_un : St → Option r11_Drop_l0_X
 | ⟨28, 2, [(0, .sl .row z0), (1, .v (.string z1)), (5, .sq 1), (6, .v (.int .i64 z2))], [(1, some (.arr 29 2 (.ty .row z3)))]⟩ => some (z0, z1, z2, z3)
 | _ => none
theorem r11_Drop_l0_unok : ∀ s x, r11_Drop_l0_un s = some x → s = r11_Drop_l0_T x := fun s x h => by
 unfold r11_Drop_l0_un at h
 split at h
 ·cases h; rfl
 ·cases h
def r11_Drop_l0_S : Shape := ⟨1, 2, [0, 1, 5, 6], [], [(4, 1)], [4], [5], [1]⟩
def r11_Drop_l0_E : Entry := ⟨[.nil 5 29 .row], [(0, 1)], [0, 1, 5, 6], [0]⟩
def r11_Drop_l0_f_k1 (a0 : List TRow) (a1 : ByteArray) (a2 : Int) (_a3 : List TRow) : Bool := !(a0.getD a2.toNat (dflt TC.row)).1.toList == a1.toList
def r11_Drop_l0_f_k0 (a0 : List TRow) (_a1 : ByteArray) (a2 : Int) (_a3 : List TRow) : Bool := !!decide (a2 < (↑a0.length : Int))
def r11_Drop_l0_f_3 (a0 : List TRow) (a1 : ByteArray) (a2 : Int) (a3 : List TRow) : List TRow := bif (r11_Drop_l0_f_k1 a0 a1 a2 a3) then a3 ++ [a0.getD a2.toNat (dflt TC.row)] else a3
def r11_Drop_l0_next (x : r11_Drop_l0_X) : r11_Drop_l0_X := (x.1, x.2.1, IntKind.i64.wrap (x.2.2.1 + (1 : Int)), r11_Drop_l0_f_3 x.1 x.2.1 x.2.2.1 x.2.2.2)
def r11_Drop_l0_goes (x : r11_Drop_l0_X) : Cnd := some ((r11_Drop_l0_f_k0 x.1 x.2.1 x.2.2.1 x.2.2.2))
def r11_Drop_l0_psA (x : r11_Drop_l0_X) : List Prop := [((r11_Drop_l0_f_k0 x.1 x.2.1 x.2.2.1 x.2.2.2) = true → (0 : Int) ≤ x.2.2.1 ∧ x.2.2.1 < (↑x.1.length : Int)), ((r11_Drop_l0_f_k0 x.1 x.2.1 x.2.2.1 x.2.2.2) = true → (r11_Drop_l0_f_k1 x.1 x.2.1 x.2.2.1 x.2.2.2) = true → (0 : Int) ≤ x.2.2.1 ∧ x.2.2.1 < (↑x.1.length : Int)), ((r11_Drop_l0_f_k0 x.1 x.2.1 x.2.2.1 x.2.2.2) = true → (r11_Drop_l0_f_k1 x.1 x.2.1 x.2.2.1 x.2.2.2) = true → boundP (x.2.2.2.length + (1 : Nat)))]
abbrev r11_Drop_l0_ps : r11_Drop_l0_X → List Prop := r11_Drop_l0_psA
def r11_Drop_l0_outs (x : r11_Drop_l0_X) : Outs := [(some 0, some (!decide (x.2.2.1 < (↑x.1.length : Int))), ⟨28, 2, [(5, .sq 1)], [(1, some (.arr 29 2 (.ty .row x.2.2.2)))]⟩)]
def r11_Drop_l0_fuel (x : r11_Drop_l0_X) : Nat := ((↑x.1.length : Int) - x.2.2.1).toNat
def r11_Drop_l0_run (x : r11_Drop_l0_X) : r11_Drop_l0_X := iterX r11_Drop_l0_next r11_Drop_l0_goes (r11_Drop_l0_fuel x) x
theorem r11_Drop_l0_ev (a0 : List TRow) (a1 : ByteArray) (a2 : Int) (a3 : List TRow) : roundE (envT Cso5_7 L0) 9 (loopAt Try.prog 20 0) r11_Drop_l0_S (r11_Drop_l0_T (a0, a1, a2, a3)) = some (r11_Drop_l0_psA (a0, a1, a2, a3), r11_Drop_l0_outs (a0, a1, a2, a3), r11_Drop_l0_goes (a0, a1, a2, a3), r11_Drop_l0_T (r11_Drop_l0_next (a0, a1, a2, a3))) := by kernel_rfl
theorem r11_Drop_l0_hA (a0 : List TRow) (a1 : ByteArray) (a2 : Int) (a3 : List TRow) (hp : ∀ p ∈ r11_Drop_l0_ps (a0, a1, a2, a3), p) : ∀ p ∈ r11_Drop_l0_psA (a0, a1, a2, a3), p := hp
noncomputable def r11_Drop_l0_row := rowL (envT Cso5_7 L0) (loopAt Try.prog 20 0) r11_Drop_l0_S r11_Drop_l0_E r11_Drop_l0_un r11_Drop_l0_fuel r11_Drop_l0_next r11_Drop_l0_goes r11_Drop_l0_ps r11_Drop_l0_outs
theorem r11_Drop_l0_rok : ∀ s b ps outs, r11_Drop_l0_row s = some (b, ps, outs) → Wf s ⟨ps, outs, none⟩ ∧ LoopOk (envT C0 L0) b s ps outs :=
 rowP_ok (T := r11_Drop_l0_T) Cso5_7_ok L0_ok (u := 9) (by kernel_rfl) (by decide) (fun ⟨a0, a1, a2, a3⟩ => r11_Drop_l0_ev a0 a1 a2 a3) (fun ⟨a0, a1, a2, a3⟩ => r11_Drop_l0_hA a0 a1 a2 a3) r11_Drop_l0_unok (fun _ => okOuts_ok (n := 28) rfl) fun _ _ => rfl
noncomputable def r11_Drop_l0_L := addLp 0 r11_Drop_l0_row L0
theorem r11_Drop_l0_Lok : LpOk r11_Drop_l0_L := addLp_ok r11_Drop_l0_rok L0_ok
def r11_Drop_0 (a0 : List TRow) (a1 : ByteArray) : List TRow := (r11_Drop_l0_run (a0, a1, (0 : Int), [])).snd.snd.snd
def r11_Drop_r (_a0 : List TRow) (_a1 : ByteArray) : A := .sq 0
def r11_Drop_o (a0 : List TRow) (a1 : ByteArray) : Objs := [(0, some (.arr 29 2 (.ty .row (r11_Drop_0 a0 a1))))]
def r11_Drop_ps (a0 : List TRow) (a1 : ByteArray) : List Prop := [(needX r11_Drop_l0_next r11_Drop_l0_goes r11_Drop_l0_ps (r11_Drop_l0_fuel (a0, a1, (0 : Int), [])) (a0, a1, (0 : Int), []))]
theorem r11_Drop_ev (a0 : List TRow) (a1 : ByteArray) : evF (envT Cso5_7 r11_Drop_l0_L) 9 20 [valA .rows a0, valA .str a1] 0 [] = some (1, r11_Drop_r a0 a1, 1, r11_Drop_o a0 a1, [(loopAt Try.prog (20 : FuncId) (0 : Nat) = loopAt Try.prog (20 : FuncId) (0 : Nat)), (needX r11_Drop_l0_next r11_Drop_l0_goes r11_Drop_l0_ps (r11_Drop_l0_fuel (a0, a1, (0 : Int), [])) (a0, a1, (0 : Int), []))]) := by kernel_rfl
theorem r11_Drop_c (a0 : List TRow) (a1 : ByteArray) (hp : ∀ p ∈ r11_Drop_ps a0 a1, p) : CallOk Try.prog 20 [valA .rows a0, valA .str a1] 0 [] 1 (r11_Drop_r a0 a1) 1 (r11_Drop_o a0 a1) := by
 have n1 := N0 hp
 exact evF_ok (envP_ok Cso5_7_ok r11_Drop_l0_Lok) (r11_Drop_ev a0 a1) (needs_cons rfl (needs_cons n1 needs_nil))
def r11_Drop_r2 (a0 : List TRow) (a1 : ByteArray) : A := .sl .row (dropR a0 a1)
def r11_Drop_o2 (_a0 : List TRow) (_a1 : ByteArray) : Objs := []
def r11_Drop_ps2 (a0 : List TRow) (_a1 : ByteArray) : List Prop := [boundP a0.length ∧ SortR a0]
theorem take_filter {α : Type} (p : α → Bool) (l : List α) (d : α) (i : Nat) (h : i < l.length) : (l.take (i + 1)).filter p = bif p (l.getD i d) then (l.take i).filter p ++ [l.getD i d] else (l.take i).filter p := by
 rw [take_get l d i h, List.filter_append]
 cases hp : p (l.getD i d) with
 | true => rw [List.filter_cons_of_pos hp]; rfl
 | false => rw [List.filter_cons_of_neg (by rw [hp]; exact Bool.false_ne_true), List.filter_nil, List.append_nil]; rfl
theorem drop_filter {rows : List TRow} (h : SortR rows) (key : ByteArray) : rows.filter (fun r => !(r.key == key)) = dropR rows key := by
 induction rows with
 | nil => rfl
 | cons x a ih =>
  obtain ⟨h1, h2⟩ := List.pairwise_cons.1 h
  have ih := ih h2
  unfold dropR at ih ⊢
  cases hl : kLt x.key key with
  | true =>
   have hx : (x.key == key) = false := beq_eq_false_iff_ne.2 (kLt_ne hl)
   have hg : ¬ kLt key x.key = true := fun hg => by
    have := kLt_trans hl hg
    rw [kLt_irrefl] at this
    cases this
   rw [List.filter_cons_of_pos (by rw [hx]; rfl), List.filter_cons_of_pos (by exact hl), List.filter_cons_of_neg (by exact hg), ih]
   rfl
  | false =>
   have lo : (x :: a).filter (fun y => kLt y.key key) = [] := List.filter_eq_nil_iff.2 fun y hy => by
    rcases List.mem_cons.1 hy with rfl | hy
    ·rw [hl]; exact Bool.false_ne_true
    ·intro hy'
     have := kLt_trans (h1 y hy) hy'
     rw [hl] at this
     cases this
   have lo' : a.filter (fun y => kLt y.key key) = [] := List.filter_eq_nil_iff.2 fun y hy hy' => by
    have := kLt_trans (h1 y hy) hy'
    rw [hl] at this
    cases this
   rw [lo'] at ih
   rw [lo]
   cases hx : x.key == key with
   | true =>
    have ek := eq_of_beq hx
    rw [List.filter_cons_of_neg (by rw [hx]; exact Bool.false_ne_true), List.filter_cons_of_neg (by show ¬ kLt key x.key = true; rw [ek, kLt_irrefl]; exact Bool.false_ne_true), ih]
   | false =>
    have hne : x.key ≠ key := by simpa using hx
    have hg : kLt key x.key = true := bless_total (x := x.key.toList) (y := key.toList) hl fun e' => hne (toL_inj e')
    rw [List.filter_cons_of_pos (by rw [hx]; rfl), List.filter_cons_of_pos (by exact hg), ih]
    rfl
theorem r11_Drop_c2 (a0 : List TRow) (a1 : ByteArray) (hp : ∀ p ∈ r11_Drop_ps2 a0 a1, p) : CallOk Try.prog 20 [valA .rows a0, valA .str a1] 0 [] 1 (r11_Drop_r2 a0 a1) 0 (r11_Drop_o2 a0 a1) := by
 obtain ⟨hb, hs⟩ := hp _ (List.mem_cons_self ..)
 have hb' : a0.length ≤ 549755813888 := hb
 have fl : ∀ i : Nat, ((a0.take i).filter (fun r => !(r.key == a1))).length ≤ i := fun i => Nat.le_trans (List.length_filter_le ..) (by rw [List.length_take]; omega)
 obtain ⟨h1, hx⟩ := scanAll (fun i => ((a0, a1, (i : Int), (a0.take i).filter (fun r => !(r.key == a1))) : r11_Drop_l0_X)) a0.length r11_Drop_l0_next r11_Drop_l0_goes r11_Drop_l0_ps (r11_Drop_l0_fuel (a0, a1, 0, [])) (a0, a1, 0, []) rfl (by show a0.length ≤ ((a0.length : Int) - 0).toNat; omega)
  (fun i _ => by
   show (!!decide ((i : Int) < (a0.length : Int))) = _
   rw [nn, dlt])
  (fun i hi => by
   show (a0, a1, IntKind.i64.wrap ((i : Int) + 1), r11_Drop_l0_f_3 a0 a1 (i : Int) ((a0.take i).filter (fun r => !(r.key == a1)))) = _
   unfold r11_Drop_l0_f_3 r11_Drop_l0_f_k1
   rw [wsucc (by omega), Int.toNat_natCast, tlb, take_filter _ a0 (dflt TC.row) i hi])
  (fun i hi => by
   have hin : (!!decide ((i : Int) < (a0.length : Int))) = true → (i : Int) < (a0.length : Int) := fun h => by rw [nn] at h; exact of_decide_eq_true h
   have := fl i
   refine needs_cons (fun h => ⟨by show (0 : Int) ≤ (i : Int); omega, hin h⟩) (needs_cons (fun h _ => ⟨by show (0 : Int) ≤ (i : Int); omega, hin h⟩) (needs_cons (fun h _ => ?_) needs_nil))
   have h2 := hin h
   show boundP (((a0.take i).filter (fun r => !(r.key == a1))).length + 1)
   unfold boundP
   omega)
 have h := r11_Drop_c a0 a1 (needs_cons h1 needs_nil)
 have e0 : r11_Drop_0 a0 a1 = dropR a0 a1 := by
  have hr : r11_Drop_l0_run (a0, a1, 0, []) = _ := hx
  unfold r11_Drop_0
  rw [hr, ← drop_filter hs]
  show (a0.take a0.length).filter _ = _
  rw [List.take_length]
 unfold r11_Drop_r r11_Drop_o at h
 rw [e0] at h
 exact callOk_sl (c := .row) h
def r11_Drop_t : List A → Nat → Objs → Option CRes := rowK [.t .rows, .t .str] 0 r11_Drop_r2 r11_Drop_o2 r11_Drop_ps2
theorem r11_Drop_tok : TOk Try.prog 20 r11_Drop_t := rowK_ok (ks := [.t .rows, .t .str]) r11_Drop_c2
noncomputable def Cso5_8 := addC 20 r11_Drop_t Cso5_7
theorem Cso5_8_ok : COk Try.prog Cso5_8 := addC_ok r11_Drop_tok Cso5_7_ok
abbrev r11_Scan_l0_X : Type := (List TRow) × ByteArray × ByteArray × Int × Int × (List TRow)
def r11_Scan_l0_T (x : r11_Scan_l0_X) : St := ⟨52, 2, [(0, .sl .row x.1), (1, .v (.string x.2.1)), (2, .v (.string x.2.2.1)), (3, .v (.int .i64 x.2.2.2.1)), (9, .dq 1), (10, .v (.int .i64 x.2.2.2.2.1))], [(1, some (.deep 29 .row x.2.2.2.2.2))]⟩
def r11_Scan_l0_un : St → Option r11_Scan_l0_X
 | ⟨52, 2, [(0, .sl .row z0), (1, .v (.string z1)), (2, .v (.string z2)), (3, .v (.int .i64 z3)), (9, .dq 1), (10, .v (.int .i64 z4))], [(1, some (.deep 29 .row z5))]⟩ => some (z0, z1, z2, z3, z4, z5)
 | _ => none
theorem r11_Scan_l0_unok : ∀ s x, r11_Scan_l0_un s = some x → s = r11_Scan_l0_T x := fun s x h => by
 unfold r11_Scan_l0_un at h
 split at h
 ·cases h; rfl
 ·cases h
def r11_Scan_l0_S : Shape := ⟨1, 2, [0, 1, 2, 3, 9, 10], [], [(5, 1)], [5], [9], [1]⟩
def r11_Scan_l0_E : Entry := ⟨[.nilD 9 29 .row], [(0, 1)], [0, 1, 2, 3, 9, 10], [0]⟩
def r11_Scan_l0_f_k1 (a0 : List TRow) (a1 : ByteArray) (a2 : ByteArray) (_a3 : Int) (a4 : Int) (_a5 : List TRow) : Bool := !Op.bytesLess (a0.getD a4.toNat (dflt TC.row)).1.toList a1.toList && (a2.toList == (ByteArray.mk #[]).toList || Op.bytesLess (a0.getD a4.toNat (dflt TC.row)).1.toList a2.toList)
def r11_Scan_l0_f_k0 (a0 : List TRow) (_a1 : ByteArray) (_a2 : ByteArray) (a3 : Int) (a4 : Int) (a5 : List TRow) : Bool := !!(decide (a4 < (↑a0.length : Int)) && decide ((↑a5.length : Int) < a3))
def r11_Scan_l0_f_5 (a0 : List TRow) (a1 : ByteArray) (a2 : ByteArray) (a3 : Int) (a4 : Int) (a5 : List TRow) : List TRow := bif (r11_Scan_l0_f_k1 a0 a1 a2 a3 a4 a5) then a5 ++ [setI TC.row TC.cell (TRow.mk (a0.getD a4.toNat (dflt TC.row)).1 []) (r10_Copy_1 (a0.getD a4.toNat (dflt TC.row)))] else a5
def r11_Scan_l0_f_12 (a0 : List TRow) (_a1 : ByteArray) (_a2 : ByteArray) (a3 : Int) (a4 : Int) (a5 : List TRow) : Bool := !(decide (a4 < (↑a0.length : Int)) && decide ((↑a5.length : Int) < a3))
def r11_Scan_l0_next (x : r11_Scan_l0_X) : r11_Scan_l0_X := (x.1, x.2.1, x.2.2.1, x.2.2.2.1, IntKind.i64.wrap (x.2.2.2.2.1 + (1 : Int)), r11_Scan_l0_f_5 x.1 x.2.1 x.2.2.1 x.2.2.2.1 x.2.2.2.2.1 x.2.2.2.2.2)
def r11_Scan_l0_goes (x : r11_Scan_l0_X) : Cnd := some ((r11_Scan_l0_f_k0 x.1 x.2.1 x.2.2.1 x.2.2.2.1 x.2.2.2.2.1 x.2.2.2.2.2))
def r11_Scan_l0_psA (x : r11_Scan_l0_X) : List Prop := [((r11_Scan_l0_f_k0 x.1 x.2.1 x.2.2.1 x.2.2.2.1 x.2.2.2.2.1 x.2.2.2.2.2) = true → (0 : Int) ≤ x.2.2.2.2.1 ∧ x.2.2.2.2.1 < (↑x.1.length : Int)), ((r11_Scan_l0_f_k0 x.1 x.2.1 x.2.2.1 x.2.2.2.1 x.2.2.2.2.1 x.2.2.2.2.2) = true → (x.2.2.1.toList == (ByteArray.mk #[]).toList) = false → (!Op.bytesLess (x.1.getD x.2.2.2.2.1.toNat (dflt TC.row)).1.toList x.2.1.toList) = true → (0 : Int) ≤ x.2.2.2.2.1 ∧ x.2.2.2.2.1 < (↑x.1.length : Int)), ((r11_Scan_l0_f_k0 x.1 x.2.1 x.2.2.1 x.2.2.2.1 x.2.2.2.2.1 x.2.2.2.2.2) = true → (r11_Scan_l0_f_k1 x.1 x.2.1 x.2.2.1 x.2.2.2.1 x.2.2.2.2.1 x.2.2.2.2.2) = true → (0 : Int) ≤ x.2.2.2.2.1 ∧ x.2.2.2.2.1 < (↑x.1.length : Int)), ((r11_Scan_l0_f_k0 x.1 x.2.1 x.2.2.1 x.2.2.2.1 x.2.2.2.2.1 x.2.2.2.2.2) = true → (r11_Scan_l0_f_k1 x.1 x.2.1 x.2.2.1 x.2.2.2.1 x.2.2.2.2.1 x.2.2.2.2.2) = true → boundP ((0 : Nat) + (x.1.getD x.2.2.2.2.1.toNat (dflt TC.row)).2.length)), ((r11_Scan_l0_f_k0 x.1 x.2.1 x.2.2.1 x.2.2.2.1 x.2.2.2.2.1 x.2.2.2.2.2) = true → (r11_Scan_l0_f_k1 x.1 x.2.1 x.2.2.1 x.2.2.2.1 x.2.2.2.2.1 x.2.2.2.2.2) = true → boundP (x.2.2.2.2.2.length + (1 : Nat)))]
abbrev r11_Scan_l0_ps : r11_Scan_l0_X → List Prop := r11_Scan_l0_psA
def r11_Scan_l0_outs (x : r11_Scan_l0_X) : Outs := [(some 0, some (r11_Scan_l0_f_12 x.1 x.2.1 x.2.2.1 x.2.2.2.1 x.2.2.2.2.1 x.2.2.2.2.2), ⟨52, 2, [(9, .dq 1)], [(1, some (.deep 29 .row x.2.2.2.2.2))]⟩)]
def r11_Scan_l0_fuel (x : r11_Scan_l0_X) : Nat := ((↑x.1.length : Int) - x.2.2.2.2.1).toNat
def r11_Scan_l0_run (x : r11_Scan_l0_X) : r11_Scan_l0_X := iterX r11_Scan_l0_next r11_Scan_l0_goes (r11_Scan_l0_fuel x) x
theorem r11_Scan_l0_ev (a0 : List TRow) (a1 : ByteArray) (a2 : ByteArray) (a3 : Int) (a4 : Int) (a5 : List TRow) : roundE (envT Cso5_8 L0) 9 (loopAt Try.prog 24 0) r11_Scan_l0_S (r11_Scan_l0_T (a0, a1, a2, a3, a4, a5)) = some (r11_Scan_l0_psA (a0, a1, a2, a3, a4, a5), r11_Scan_l0_outs (a0, a1, a2, a3, a4, a5), r11_Scan_l0_goes (a0, a1, a2, a3, a4, a5), r11_Scan_l0_T (r11_Scan_l0_next (a0, a1, a2, a3, a4, a5))) := by kernel_rfl
theorem r11_Scan_l0_hA (a0 : List TRow) (a1 : ByteArray) (a2 : ByteArray) (a3 : Int) (a4 : Int) (a5 : List TRow) (hp : ∀ p ∈ r11_Scan_l0_ps (a0, a1, a2, a3, a4, a5), p) : ∀ p ∈ r11_Scan_l0_psA (a0, a1, a2, a3, a4, a5), p := hp
noncomputable def r11_Scan_l0_row := rowL (envT Cso5_8 L0) (loopAt Try.prog 24 0) r11_Scan_l0_S r11_Scan_l0_E r11_Scan_l0_un r11_Scan_l0_fuel r11_Scan_l0_next r11_Scan_l0_goes r11_Scan_l0_ps r11_Scan_l0_outs
theorem r11_Scan_l0_rok : ∀ s b ps outs, r11_Scan_l0_row s = some (b, ps, outs) → Wf s ⟨ps, outs, none⟩ ∧ LoopOk (envT C0 L0) b s ps outs :=
 rowP_ok (T := r11_Scan_l0_T) Cso5_8_ok L0_ok (u := 9) (by kernel_rfl) (by decide) (fun ⟨a0, a1, a2, a3, a4, a5⟩ => r11_Scan_l0_ev a0 a1 a2 a3 a4 a5) (fun ⟨a0, a1, a2, a3, a4, a5⟩ => r11_Scan_l0_hA a0 a1 a2 a3 a4 a5) r11_Scan_l0_unok (fun _ => okOuts_ok (n := 52) rfl) fun _ _ => rfl
noncomputable def r11_Scan_l0_L := addLp 0 r11_Scan_l0_row L0
theorem r11_Scan_l0_Lok : LpOk r11_Scan_l0_L := addLp_ok r11_Scan_l0_rok L0_ok
def r11_Scan_0 (a0 : List TRow) (a1 : ByteArray) (a2 : ByteArray) (a3 : Int) : List TRow := (r11_Scan_l0_run (a0, a1, a2, a3, (0 : Int), [])).snd.snd.snd.snd.snd
def r11_Scan_r (_a0 : List TRow) (_a1 : ByteArray) (_a2 : ByteArray) (_a3 : Int) : A := .dq 0
def r11_Scan_o (a0 : List TRow) (a1 : ByteArray) (a2 : ByteArray) (a3 : Int) : Objs := [(0, some (.deep 29 .row (r11_Scan_0 a0 a1 a2 a3)))]
def r11_Scan_ps (a0 : List TRow) (a1 : ByteArray) (a2 : ByteArray) (a3 : Int) : List Prop := [(needX r11_Scan_l0_next r11_Scan_l0_goes r11_Scan_l0_ps (r11_Scan_l0_fuel (a0, a1, a2, a3, (0 : Int), [])) (a0, a1, a2, a3, (0 : Int), []))]
theorem r11_Scan_ev (a0 : List TRow) (a1 : ByteArray) (a2 : ByteArray) (a3 : Int) : evF (envT Cso5_8 r11_Scan_l0_L) 9 24 [valA .rows a0, valA .str a1, valA .str a2, valA .i64 a3] 0 [] = some (1, r11_Scan_r a0 a1 a2 a3, 1, r11_Scan_o a0 a1 a2 a3, [(loopAt Try.prog (24 : FuncId) (0 : Nat) = loopAt Try.prog (24 : FuncId) (0 : Nat)), (needX r11_Scan_l0_next r11_Scan_l0_goes r11_Scan_l0_ps (r11_Scan_l0_fuel (a0, a1, a2, a3, (0 : Int), [])) (a0, a1, a2, a3, (0 : Int), []))]) := by kernel_rfl
theorem r11_Scan_c (a0 : List TRow) (a1 : ByteArray) (a2 : ByteArray) (a3 : Int) (hp : ∀ p ∈ r11_Scan_ps a0 a1 a2 a3, p) : CallOk Try.prog 24 [valA .rows a0, valA .str a1, valA .str a2, valA .i64 a3] 0 [] 1 (r11_Scan_r a0 a1 a2 a3) 1 (r11_Scan_o a0 a1 a2 a3) := by
 have n1 := N0 hp
 exact evF_ok (envP_ok Cso5_8_ok r11_Scan_l0_Lok) (r11_Scan_ev a0 a1 a2 a3) (needs_cons rfl (needs_cons n1 needs_nil))
def r11_Scan_r2 (_a0 : List TRow) (_a1 : ByteArray) (_a2 : ByteArray) (_a3 : Int) : A := .dq 0
def r11_Scan_o2 (a0 : List TRow) (a1 : ByteArray) (a2 : ByteArray) (a3 : Int) : Objs := [(0, some (.deep 29 .row (scanR a0 a1 a2 a3)))]
def r11_Scan_ps2 (a0 : List TRow) (_a1 : ByteArray) (_a2 : ByteArray) (_a3 : Int) : List Prop := [ScanP a0]
def scR (rows : List TRow) (from_ til : ByteArray) (lim : Int) (i : Nat) : List TRow := ((rows.take i).filter (inR from_ til)).take lim.toNat
theorem scR_succ (rows : List TRow) (from_ til : ByteArray) (lim : Int) (i : Nat) (h : i < rows.length) (hl : ((scR rows from_ til lim i).length : Int) < lim) : scR rows from_ til lim (i + 1) = bif inR from_ til (rowN rows i) then scR rows from_ til lim i ++ [rowN rows i] else scR rows from_ til lim i := by
 unfold scR at hl ⊢
 rw [take_filter _ rows (dflt TC.row) i h]
 unfold rowN
 cases inR from_ til (rows.getD i (dflt TC.row)) with
 | false => rfl
 | true =>
  rw [List.length_take] at hl
  have e1 : ((rows.take i).filter (inR from_ til)).take lim.toNat = (rows.take i).filter (inR from_ til) := List.take_of_length_le (by omega)
  have e2 : ((rows.take i).filter (inR from_ til) ++ [rows.getD i (dflt TC.row)]).take lim.toNat = (rows.take i).filter (inR from_ til) ++ [rows.getD i (dflt TC.row)] := List.take_of_length_le (by rw [List.length_append, List.length_singleton]; omega)
  rw [cond_true, cond_true, e1, e2]
theorem scR_stop (rows : List TRow) (from_ til : ByteArray) (lim : Int) (i : Nat) (hl : ¬ ((scR rows from_ til lim i).length : Int) < lim) : scanR rows from_ til lim = scR rows from_ til lim i := by
 unfold scR at hl ⊢
 unfold scanR
 have e : rows.filter (inR from_ til) = (rows.take i).filter (inR from_ til) ++ (rows.drop i).filter (inR from_ til) := by rw [← List.filter_append, List.take_append_drop]
 rw [List.length_take] at hl
 rw [e, List.take_append_of_le_length (by omega)]
theorem r11_Scan_c2 (a0 : List TRow) (a1 : ByteArray) (a2 : ByteArray) (a3 : Int) (hp : ∀ p ∈ r11_Scan_ps2 a0 a1 a2 a3, p) : CallOk Try.prog 24 [valA .rows a0, valA .str a1, valA .str a2, valA .i64 a3] 0 [] 1 (r11_Scan_r2 a0 a1 a2 a3) 1 (r11_Scan_o2 a0 a1 a2 a3) := by
 obtain ⟨hb, hc⟩ := hp _ (List.mem_cons_self ..)
 have hb' : a0.length ≤ 549755813888 := hb
 have fl : ∀ i : Nat, (scR a0 a1 a2 a3 i).length ≤ i := fun i => by
  unfold scR
  rw [List.length_take]
  exact Nat.le_trans (Nat.min_le_right ..) (Nat.le_trans (List.length_filter_le ..) (by rw [List.length_take]; omega))
 obtain ⟨h1, k, hk, hx, hs, hst, _⟩ := scanB (fun i => ((a0, a1, a2, a3, (i : Int), scR a0 a1 a2 a3 i) : r11_Scan_l0_X)) a0.length (fun i => !decide (((scR a0 a1 a2 a3 i).length : Int) < a3)) r11_Scan_l0_next r11_Scan_l0_goes r11_Scan_l0_ps (r11_Scan_l0_fuel (a0, a1, a2, a3, 0, [])) (a0, a1, a2, a3, 0, []) (by unfold scR; rw [List.take_zero, List.filter_nil, List.take_nil]; rfl) (by show a0.length ≤ ((a0.length : Int) - 0).toNat; omega)
  (fun i _ _ => by
   show r11_Scan_l0_f_k0 a0 a1 a2 a3 (i : Int) (scR a0 a1 a2 a3 i) = _
   unfold r11_Scan_l0_f_k0
   rw [nn, dlt, Bool.not_not])
  (fun i hi hj => by
   have hlt : ((scR a0 a1 a2 a3 i).length : Int) < a3 := by simpa using hj i (Nat.lt_succ_self i)
   show (a0, a1, a2, a3, IntKind.i64.wrap ((i : Int) + 1), r11_Scan_l0_f_5 a0 a1 a2 a3 (i : Int) (scR a0 a1 a2 a3 i)) = _
   unfold r11_Scan_l0_f_5 r11_Scan_l0_f_k1
   rw [wsucc (by omega), Int.toNat_natCast, scR_succ a0 a1 a2 a3 i hi hlt]
   rfl)
  (fun i hi hj => by
   have hin : r11_Scan_l0_f_k0 a0 a1 a2 a3 (i : Int) (scR a0 a1 a2 a3 i) = true → (i : Int) < (a0.length : Int) := fun h => by
    unfold r11_Scan_l0_f_k0 at h
    rw [nn, Bool.and_eq_true] at h
    exact of_decide_eq_true h.1
   have := fl i
   refine needs_cons (fun h => ⟨by show (0 : Int) ≤ (i : Int); omega, hin h⟩) (needs_cons (fun h _ _ => ⟨by show (0 : Int) ≤ (i : Int); omega, hin h⟩) (needs_cons (fun h _ => ⟨by show (0 : Int) ≤ (i : Int); omega, hin h⟩) (needs_cons (fun h _ => ?_) (needs_cons (fun h _ => ?_) needs_nil))))
   ·have h2 := hin h
    show boundP (0 + (a0.getD ((i : Int)).toNat (dflt TC.row)).2.length)
    rw [Int.toNat_natCast, Nat.zero_add]
    exact hc _ (getD_in a0 (dflt TC.row) i (by omega))
   ·have h2 := hin h
    show boundP ((scR a0 a1 a2 a3 i).length + 1)
    unfold boundP
    omega)
 have h := r11_Scan_c a0 a1 a2 a3 (needs_cons h1 needs_nil)
 have e0 : r11_Scan_0 a0 a1 a2 a3 = scanR a0 a1 a2 a3 := by
  have hr : r11_Scan_l0_run (a0, a1, a2, a3, 0, []) = _ := hx
  unfold r11_Scan_0
  rw [hr]
  show scR a0 a1 a2 a3 k = _
  rcases Nat.lt_or_ge k a0.length with hlt | hge
  ·have := hst hlt
   exact (scR_stop a0 a1 a2 a3 k (by simpa using this)).symm
  ·unfold scR scanR
   rw [List.take_of_length_le hge]
 unfold r11_Scan_r r11_Scan_o at h
 rw [e0] at h
 exact h
def r11_Scan_t : List A → Nat → Objs → Option CRes := rowK [.t .rows, .t .str, .t .str, .t .i64] 1 r11_Scan_r2 r11_Scan_o2 r11_Scan_ps2
theorem r11_Scan_tok : TOk Try.prog 24 r11_Scan_t := rowK_ok (ks := [.t .rows, .t .str, .t .str, .t .i64]) r11_Scan_c2
noncomputable def Cso5_9 := addC 24 r11_Scan_t Cso5_8
theorem Cso5_9_ok : COk Try.prog Cso5_9 := addC_ok r11_Scan_tok Cso5_8_ok
noncomputable def Cso5_10 := addC 12 (inl (envT Cso5_9 L0) 20 12) Cso5_9
theorem Cso5_10_ok : COk Try.prog Cso5_10 := addC_ok (inl_ok (envP_ok Cso5_9_ok L0_ok) 20 12) Cso5_9_ok
noncomputable def Cso5 := Cso5_10
theorem Cso5_ok : COk Try.prog Cso5 := Cso5_10_ok
end Go.Proofs.Ytnfmceffbnaanaa
namespace Go.Proofs.Ytnfmceffbnaanaa
open Go.RowKit
noncomputable def Cso6_1 := addC 28 (inl (envT Cso5 L0) 20 28) Cso5
theorem Cso6_1_ok : COk Try.prog Cso6_1 := addC_ok (inl_ok (envP_ok Cso5_ok L0_ok) 20 28) Cso5_ok
noncomputable def Cso6_2 := addC 11 (inl (envT Cso6_1 L0) 20 11) Cso6_1
theorem Cso6_2_ok : COk Try.prog Cso6_2 := addC_ok (inl_ok (envP_ok Cso6_1_ok L0_ok) 20 11) Cso6_1_ok
noncomputable def Cso6_3 := addC 21 (inl (envT Cso6_2 L0) 20 21) Cso6_2
theorem Cso6_3_ok : COk Try.prog Cso6_3 := addC_ok (inl_ok (envP_ok Cso6_2_ok L0_ok) 20 21) Cso6_2_ok
def l11_lives_k0  : List TRow := setR (setR [] (TRow.mk (ByteArray.mk #[(98 : UInt8)]) [])) (TRow.mk (ByteArray.mk #[(97 : UInt8)]) [])
def l11_lives_r  : A := .v (.bool (true))
def l11_lives_o  : Objs := []
def l11_lives_ps  : List Prop := [(true = true → FewR []), (true = true → FewR (setR [] (TRow.mk (ByteArray.mk #[(98 : UInt8)]) []))), (true = true → FewR (l11_lives_k0 )), (ScanP (setR (l11_lives_k0 ) (TRow.mk (ByteArray.mk #[(99 : UInt8)]) [])))]
theorem l11_lives_ev  : evF (envT Cso6_3 L0) 1040 9 [] 0 [] = some (1, l11_lives_r , 0, l11_lives_o , [((0 : Int) ≤ (0 : Int) ∧ (0 : Int) < (3 : Int)), ((0 : Nat) < (3 : Nat)), (true = true → boundP (0 : Nat)), (true = true → FewR []), ((0 : Int) ≤ (1 : Int) ∧ (1 : Int) < (3 : Int)), ((1 : Nat) < (3 : Nat)), (true = true → boundP (0 : Nat)), (true = true → FewR (setR [] (TRow.mk (ByteArray.mk #[(98 : UInt8)]) []))), ((0 : Int) ≤ (2 : Int) ∧ (2 : Int) < (3 : Int)), ((2 : Nat) < (3 : Nat)), (true = true → boundP (0 : Nat)), (true = true → FewR (l11_lives_k0 )), (ScanP (setR (l11_lives_k0 ) (TRow.mk (ByteArray.mk #[(99 : UInt8)]) []))), (true = true → (0 : Int) ≤ (0 : Int) ∧ (0 : Int) < (2 : Int)), (true = true → (0 : Nat) < (2 : Nat)), (true = true → (0 : Int) ≤ (1 : Int) ∧ (1 : Int) < (2 : Int)), (true = true → (1 : Nat) < (2 : Nat))]) := by kernel_rfl
theorem l11_lives_c  (hp : ∀ p ∈ l11_lives_ps , p) : CallOk Try.prog 9 [] 0 [] 1 (l11_lives_r ) 0 (l11_lives_o ) := by
 have n0 : ((0 : Int) ≤ (0 : Int) ∧ (0 : Int) < (3 : Int)) := by first | rfl | decide +kernel
 have n1 : ((0 : Nat) < (3 : Nat)) := by first | rfl | decide +kernel
 have n2 : (true = true → boundP (0 : Nat)) := by first | rfl | decide +kernel
 have n3 := N0 hp
 have n4 : ((0 : Int) ≤ (1 : Int) ∧ (1 : Int) < (3 : Int)) := by first | rfl | decide +kernel
 have n5 : ((1 : Nat) < (3 : Nat)) := by first | rfl | decide +kernel
 have n7 := N0 (N1 hp)
 have n8 : ((0 : Int) ≤ (2 : Int) ∧ (2 : Int) < (3 : Int)) := by first | rfl | decide +kernel
 have n9 : ((2 : Nat) < (3 : Nat)) := by first | rfl | decide +kernel
 have n11 := N0 (N1 (N1 hp))
 have n12 := N0 (N1 (N1 (N1 hp)))
 have n13 : (true = true → (0 : Int) ≤ (0 : Int) ∧ (0 : Int) < (2 : Int)) := by first | rfl | decide +kernel
 have n14 : (true = true → (0 : Nat) < (2 : Nat)) := by first | rfl | decide +kernel
 have n15 : (true = true → (0 : Int) ≤ (1 : Int) ∧ (1 : Int) < (2 : Int)) := by first | rfl | decide +kernel
 have n16 : (true = true → (1 : Nat) < (2 : Nat)) := by first | rfl | decide +kernel
 exact evF_ok (envP_ok Cso6_3_ok L0_ok) (l11_lives_ev ) (needs_cons n0 (needs_cons n1 (needs_cons n2 (needs_cons n3 (needs_cons n4 (needs_cons n5 (needs_cons n2 (needs_cons n7 (needs_cons n8 (needs_cons n9 (needs_cons n2 (needs_cons n11 (needs_cons n12 (needs_cons n13 (needs_cons n14 (needs_cons n15 (needs_cons n16 needs_nil)))))))))))))))))
def l11_lives_r2 : A := .v (.bool true)
def l11_lives_o2 : Objs := []
def l11_lives_ps2 : List Prop := []
theorem few0 {rows : List TRow} (h : Nat.ble rows.length 1099511627775 = true) : FewR rows := Nat.le_of_ble_eq_true h
theorem scan0 {rows : List TRow} (h : (Nat.ble rows.length 549755813888 && rows.all fun r => Nat.ble r.cells.length 549755813888) = true) : ScanP rows := by
 rw [Bool.and_eq_true, List.all_eq_true] at h
 exact ⟨Nat.le_of_ble_eq_true h.1, fun r hr => Nat.le_of_ble_eq_true (h.2 r hr)⟩
theorem l11_lives_c2 (_hp : ∀ p ∈ l11_lives_ps2, p) : CallOk Try.prog 9 [] 0 [] 1 l11_lives_r2 0 l11_lives_o2 := l11_lives_c (needs_cons (fun _ => few0 (by kernel_rfl)) (needs_cons (fun _ => few0 (by kernel_rfl)) (needs_cons (fun _ => few0 (by kernel_rfl)) (needs_cons (scan0 (by kernel_rfl)) needs_nil))))
def l11_lives_t : List A → Nat → Objs → Option CRes := rowK [] 0 l11_lives_r2 l11_lives_o2 l11_lives_ps2
theorem l11_lives_tok : TOk Try.prog 9 l11_lives_t := rowK_ok (ks := []) l11_lives_c2
noncomputable def Cso6_4 := addC 9 l11_lives_t Cso6_3
theorem Cso6_4_ok : COk Try.prog Cso6_4 := addC_ok l11_lives_tok Cso6_3_ok
abbrev l11_light_l2_X : Type := Int × Int × TAct
def l11_light_l2_T (x : l11_light_l2_X) : St := ⟨57, 1, [(3, .v (.int .i64 x.1)), (5, .own 0 0), (6, .v (.int .i64 x.2.1))], [(0, some (.box 31 [.v (.int .i64 x.2.2.kind), .v (.string x.2.2.row.key), .sl .cell x.2.2.row.cells, .v (.string x.2.2.til), .v (.int .i64 x.2.2.n)]))]⟩
def l11_light_l2_un : St → Option l11_light_l2_X
 | ⟨57, 1, [(3, .v (.int .i64 z0)), (5, .own 0 0), (6, .v (.int .i64 z1))], [(0, some (.box 31 [.v (.int .i64 z2), .v (.string z3), .sl .cell z4, .v (.string z5), .v (.int .i64 z6)]))]⟩ => some (z0, z1, ⟨z2, ⟨z3, z4⟩, z5, z6⟩)
 | _ => none
theorem l11_light_l2_unok : ∀ s x, l11_light_l2_un s = some x → s = l11_light_l2_T x := fun s x h => by
 unfold l11_light_l2_un at h
 split at h
 ·cases h; rfl
 ·cases h
def l11_light_l2_S : Shape := ⟨1, 1, [3, 5, 6], [], [(0, 0)], [0], [3], [0]⟩
def l11_light_l2_E : Entry := ⟨[], [(0, 0)], [3, 5, 6], [0]⟩
def l11_light_l2_f_k0 (a0 : Int) (a1 : Int) (a2 : TAct) : Bool := !!(decide (a1 < (↑a2.2.2.length : Int)) && decide (a0 ≤ (20000 : Int)))
def l11_light_l2_f_0 (a0 : Int) (a1 : Int) (a2 : TAct) : Int := r01_Add_0 (r01_Add_0 a0 (10 : Int) (20000 : Int)) (↑(a2.2.2.getD a1.toNat (dflt TC.cell)).4.size : Int) (20000 : Int)
def l11_light_l2_f_5 (a0 : Int) (a1 : Int) (a2 : TAct) : Bool := !(decide (a1 < (↑a2.2.2.length : Int)) && decide (a0 ≤ (20000 : Int)))
def l11_light_l2_next (x : l11_light_l2_X) : l11_light_l2_X := (l11_light_l2_f_0 x.1 x.2.1 x.2.2, IntKind.i64.wrap (x.2.1 + (1 : Int)), x.2.2)
def l11_light_l2_goes (x : l11_light_l2_X) : Cnd := some ((l11_light_l2_f_k0 x.1 x.2.1 x.2.2))
def l11_light_l2_psA (x : l11_light_l2_X) : List Prop := [((l11_light_l2_f_k0 x.1 x.2.1 x.2.2) = true → (0 : Int) ≤ x.2.1 ∧ x.2.1 < (↑x.2.2.2.2.length : Int))]
abbrev l11_light_l2_ps : l11_light_l2_X → List Prop := l11_light_l2_psA
def l11_light_l2_outs (x : l11_light_l2_X) : Outs := [(some 2, some (l11_light_l2_f_5 x.1 x.2.1 x.2.2), ⟨57, 1, [(3, .v (.int .i64 x.1))], [(0, some (.box 31 [.v (.int .i64 x.2.2.1), .v (.string x.2.2.2.1), .sl .cell x.2.2.2.2, .v (.string x.2.2.3), .v (.int .i64 x.2.2.4)]))]⟩)]
def l11_light_l2_fuel (x : l11_light_l2_X) : Nat := ((↑x.2.2.2.2.length : Int) - x.2.1).toNat
def l11_light_l2_run (x : l11_light_l2_X) : l11_light_l2_X := iterX l11_light_l2_next l11_light_l2_goes (l11_light_l2_fuel x) x
theorem l11_light_l2_ev (a0 : Int) (a1 : Int) (a2 : TAct) : roundE (envT Cso6_4 L0) 9 (loopAt Try.prog 8 2) l11_light_l2_S (l11_light_l2_T (a0, a1, a2)) = some (l11_light_l2_psA (a0, a1, a2), l11_light_l2_outs (a0, a1, a2), l11_light_l2_goes (a0, a1, a2), l11_light_l2_T (l11_light_l2_next (a0, a1, a2))) := by kernel_rfl
theorem l11_light_l2_hA (a0 : Int) (a1 : Int) (a2 : TAct) (hp : ∀ p ∈ l11_light_l2_ps (a0, a1, a2), p) : ∀ p ∈ l11_light_l2_psA (a0, a1, a2), p := hp
noncomputable def l11_light_l2_row := rowL (envT Cso6_4 L0) (loopAt Try.prog 8 2) l11_light_l2_S l11_light_l2_E l11_light_l2_un l11_light_l2_fuel l11_light_l2_next l11_light_l2_goes l11_light_l2_ps l11_light_l2_outs
theorem l11_light_l2_rok : ∀ s b ps outs, l11_light_l2_row s = some (b, ps, outs) → Wf s ⟨ps, outs, none⟩ ∧ LoopOk (envT C0 L0) b s ps outs :=
 rowP_ok (T := l11_light_l2_T) Cso6_4_ok L0_ok (u := 9) (by kernel_rfl) (by decide) (fun ⟨a0, a1, a2⟩ => l11_light_l2_ev a0 a1 a2) (fun ⟨a0, a1, a2⟩ => l11_light_l2_hA a0 a1 a2) l11_light_l2_unok (fun _ => okOuts_ok (n := 57) rfl) fun _ _ => rfl
noncomputable def l11_light_l2_L := addLp 2 l11_light_l2_row L0
theorem l11_light_l2_Lok : LpOk l11_light_l2_L := addLp_ok l11_light_l2_rok L0_ok
abbrev l11_light_l0_X : Type := (List TAct) × Int × Int
def l11_light_l0_T (x : l11_light_l0_X) : St := ⟨57, 0, [(0, .sl .act x.1), (3, .v (.int .i64 x.2.1)), (4, .v (.int .i64 x.2.2))], []⟩
def l11_light_l0_un : St → Option l11_light_l0_X
 | ⟨57, 0, [(0, .sl .act z0), (3, .v (.int .i64 z1)), (4, .v (.int .i64 z2))], []⟩ => some (z0, z1, z2)
 | _ => none
theorem l11_light_l0_unok : ∀ s x, l11_light_l0_un s = some x → s = l11_light_l0_T x := fun s x h => by
 unfold l11_light_l0_un at h
 split at h
 ·cases h; rfl
 ·cases h
def l11_light_l0_S : Shape := ⟨0, 0, [0, 3, 4], [], [], [], [3], []⟩
def l11_light_l0_E : Entry := ⟨[], [], [0, 3, 4], []⟩
def l11_light_l0_f_k0 (a0 : List TAct) (a1 : Int) (a2 : Int) : Bool := !!(decide (a2 < (↑a0.length : Int)) && decide (a1 ≤ (20000 : Int)))
def l11_light_l0_f_1 (a0 : List TAct) (a1 : Int) (a2 : Int) : Int := (l11_light_l2_run (r01_Add_0 (r01_Add_0 (r01_Add_0 a1 (20 : Int) (20000 : Int)) (↑(a0.getD a2.toNat (dflt TC.act)).2.1.size : Int) (20000 : Int)) (↑(a0.getD a2.toNat (dflt TC.act)).3.size : Int) (20000 : Int), (0 : Int), a0.getD a2.toNat (dflt TC.act))).fst
def l11_light_l0_f_7 (a0 : List TAct) (a1 : Int) (a2 : Int) : Bool := !(decide (a2 < (↑a0.length : Int)) && decide (a1 ≤ (20000 : Int)))
def l11_light_l0_next (x : l11_light_l0_X) : l11_light_l0_X := (x.1, l11_light_l0_f_1 x.1 x.2.1 x.2.2, IntKind.i64.wrap (x.2.2 + (1 : Int)))
def l11_light_l0_goes (x : l11_light_l0_X) : Cnd := some ((l11_light_l0_f_k0 x.1 x.2.1 x.2.2))
def l11_light_l0_psA (x : l11_light_l0_X) : List Prop := [((l11_light_l0_f_k0 x.1 x.2.1 x.2.2) = true → (0 : Int) ≤ x.2.2 ∧ x.2.2 < (↑x.1.length : Int)), ((l11_light_l0_f_k0 x.1 x.2.1 x.2.2) = true → loopAt Try.prog (8 : FuncId) (2 : Nat) = loopAt Try.prog (8 : FuncId) (2 : Nat)), ((l11_light_l0_f_k0 x.1 x.2.1 x.2.2) = true → needX l11_light_l2_next l11_light_l2_goes l11_light_l2_ps (l11_light_l2_fuel (r01_Add_0 (r01_Add_0 (r01_Add_0 x.2.1 (20 : Int) (20000 : Int)) (↑(x.1.getD x.2.2.toNat (dflt TC.act)).2.1.size : Int) (20000 : Int)) (↑(x.1.getD x.2.2.toNat (dflt TC.act)).3.size : Int) (20000 : Int), (0 : Int), x.1.getD x.2.2.toNat (dflt TC.act))) (r01_Add_0 (r01_Add_0 (r01_Add_0 x.2.1 (20 : Int) (20000 : Int)) (↑(x.1.getD x.2.2.toNat (dflt TC.act)).2.1.size : Int) (20000 : Int)) (↑(x.1.getD x.2.2.toNat (dflt TC.act)).3.size : Int) (20000 : Int), (0 : Int), x.1.getD x.2.2.toNat (dflt TC.act)))]
def l11_light_l0_ps (x : l11_light_l0_X) : List Prop := [((l11_light_l0_f_k0 x.1 x.2.1 x.2.2) = true → (0 : Int) ≤ x.2.2 ∧ x.2.2 < (↑x.1.length : Int)), ((l11_light_l0_f_k0 x.1 x.2.1 x.2.2) = true → needX l11_light_l2_next l11_light_l2_goes l11_light_l2_ps (l11_light_l2_fuel (r01_Add_0 (r01_Add_0 (r01_Add_0 x.2.1 (20 : Int) (20000 : Int)) (↑(x.1.getD x.2.2.toNat (dflt TC.act)).2.1.size : Int) (20000 : Int)) (↑(x.1.getD x.2.2.toNat (dflt TC.act)).3.size : Int) (20000 : Int), (0 : Int), x.1.getD x.2.2.toNat (dflt TC.act))) (r01_Add_0 (r01_Add_0 (r01_Add_0 x.2.1 (20 : Int) (20000 : Int)) (↑(x.1.getD x.2.2.toNat (dflt TC.act)).2.1.size : Int) (20000 : Int)) (↑(x.1.getD x.2.2.toNat (dflt TC.act)).3.size : Int) (20000 : Int), (0 : Int), x.1.getD x.2.2.toNat (dflt TC.act)))]
def l11_light_l0_outs (x : l11_light_l0_X) : Outs := [(some 0, some (l11_light_l0_f_7 x.1 x.2.1 x.2.2), ⟨57, 0, [(3, .v (.int .i64 x.2.1))], []⟩)]
def l11_light_l0_fuel (x : l11_light_l0_X) : Nat := ((↑x.1.length : Int) - x.2.2).toNat
def l11_light_l0_run (x : l11_light_l0_X) : l11_light_l0_X := iterX l11_light_l0_next l11_light_l0_goes (l11_light_l0_fuel x) x
theorem l11_light_l0_ev (a0 : List TAct) (a1 : Int) (a2 : Int) : roundE (envT Cso6_4 l11_light_l2_L) 9 (loopAt Try.prog 8 0) l11_light_l0_S (l11_light_l0_T (a0, a1, a2)) = some (l11_light_l0_psA (a0, a1, a2), l11_light_l0_outs (a0, a1, a2), l11_light_l0_goes (a0, a1, a2), l11_light_l0_T (l11_light_l0_next (a0, a1, a2))) := by kernel_rfl
theorem l11_light_l0_hA (a0 : List TAct) (a1 : Int) (a2 : Int) (hp : ∀ p ∈ l11_light_l0_ps (a0, a1, a2), p) : ∀ p ∈ l11_light_l0_psA (a0, a1, a2), p := by
 have n0 := N0 hp
 have n1 : ((l11_light_l0_f_k0 a0 a1 a2) = true → loopAt Try.prog (8 : FuncId) (2 : Nat) = loopAt Try.prog (8 : FuncId) (2 : Nat)) := by intros; rfl
 have n2 := N0 (N1 hp)
 exact (needs_cons n0 (needs_cons n1 (needs_cons n2 needs_nil)))
noncomputable def l11_light_l0_row := rowL (envT Cso6_4 l11_light_l2_L) (loopAt Try.prog 8 0) l11_light_l0_S l11_light_l0_E l11_light_l0_un l11_light_l0_fuel l11_light_l0_next l11_light_l0_goes l11_light_l0_ps l11_light_l0_outs
theorem l11_light_l0_rok : ∀ s b ps outs, l11_light_l0_row s = some (b, ps, outs) → Wf s ⟨ps, outs, none⟩ ∧ LoopOk (envT C0 L0) b s ps outs :=
 rowP_ok (T := l11_light_l0_T) Cso6_4_ok l11_light_l2_Lok (u := 9) (by kernel_rfl) (by decide) (fun ⟨a0, a1, a2⟩ => l11_light_l0_ev a0 a1 a2) (fun ⟨a0, a1, a2⟩ => l11_light_l0_hA a0 a1 a2) l11_light_l0_unok (fun _ => okOuts_ok (n := 57) rfl) fun _ _ => rfl
noncomputable def l11_light_l0_L := addLp 0 l11_light_l0_row l11_light_l2_L
theorem l11_light_l0_Lok : LpOk l11_light_l0_L := addLp_ok l11_light_l0_rok l11_light_l2_Lok
def l11_light_0 (a0 : List TAct) : Bool := decide ((l11_light_l0_run (a0, (0 : Int), (0 : Int))).snd.fst ≤ (20000 : Int))
def l11_light_r (a0 : List TAct) : A := .v (.bool (l11_light_0 a0))
def l11_light_o (_a0 : List TAct) : Objs := []
def l11_light_ps (a0 : List TAct) : List Prop := [(needX l11_light_l0_next l11_light_l0_goes l11_light_l0_ps (l11_light_l0_fuel (a0, (0 : Int), (0 : Int))) (a0, (0 : Int), (0 : Int)))]
theorem l11_light_ev (a0 : List TAct) : evF (envT Cso6_4 l11_light_l0_L) 9 8 [.sl .act a0] 0 [] = some (1, l11_light_r a0, 0, l11_light_o a0, [(loopAt Try.prog (8 : FuncId) (0 : Nat) = loopAt Try.prog (8 : FuncId) (0 : Nat)), (needX l11_light_l0_next l11_light_l0_goes l11_light_l0_ps (l11_light_l0_fuel (a0, (0 : Int), (0 : Int))) (a0, (0 : Int), (0 : Int)))]) := by kernel_rfl
theorem l11_light_c (a0 : List TAct) (hp : ∀ p ∈ l11_light_ps a0, p) : CallOk Try.prog 8 [.sl .act a0] 0 [] 1 (l11_light_r a0) 0 (l11_light_o a0) := by
 have n1 := N0 hp
 exact evF_ok (envP_ok Cso6_4_ok l11_light_l0_Lok) (l11_light_ev a0) (needs_cons rfl (needs_cons n1 needs_nil))
def l11_light_t : List A → Nat → Objs → Option CRes := rowK [.l .act] 0 l11_light_r l11_light_o l11_light_ps
theorem l11_light_tok : TOk Try.prog 8 l11_light_t := rowK_ok (ks := [.l .act]) l11_light_c
noncomputable def Cso6_5 := addC 8 l11_light_t Cso6_4
theorem Cso6_5_ok : COk Try.prog Cso6_5 := addC_ok l11_light_tok Cso6_4_ok
noncomputable def Cso6 := Cso6_5
theorem Cso6_ok : COk Try.prog Cso6 := Cso6_5_ok
end Go.Proofs.Ytnfmceffbnaanaa
namespace Go.Proofs.Ytnfmceffbnaanaa
open Go.RowKit
abbrev spd_l2_X : Type := Int × Int × ByteArray × Nat × (List TRow)
def spd_l2_T (x : spd_l2_X) : St := ⟨28, 4, [(3, .own 2 0), (5, .dq 3), (13, .v (.int .i64 x.1)), (14, .v (.int .i64 x.2.1))], [(2, some (.box 29 [.v (.string x.2.2.1), .iv 3 x.2.2.2.1])), (3, some (.deep 29 .row x.2.2.2.2))]⟩
def spd_l2_un : St → Option spd_l2_X
 | ⟨28, 4, [(3, .own 2 0), (5, .dq 3), (13, .v (.int .i64 z0)), (14, .v (.int .i64 z1))], [(2, some (.box 29 [.v (.string z2), .iv 3 z3])), (3, some (.deep 29 .row z4))]⟩ => some (z0, z1, z2, z3, z4)
 | _ => none
theorem spd_l2_unok : ∀ s x, spd_l2_un s = some x → s = spd_l2_T x := fun s x h => by
 unfold spd_l2_un at h
 split at h
 ·cases h; rfl
 ·cases h
def spd_l2_S : Shape := ⟨3, 4, [3, 5, 13, 14], [], [(2, 2), (3, 3)], [2, 3], [5], [3, 2]⟩
def spd_l2_E : Entry := ⟨[], [(2, 2), (1, 3)], [3, 5, 13, 14], [2, 1]⟩
def spd_l2_f_4 (_a0 : Int) (a1 : Int) (_a2 : ByteArray) (a3 : Nat) (a4 : List TRow) : List TRow := a4.set a3 (setI TC.row TC.cell (a4.getD a3 (dflt TC.row)) ((a4.getD a3 (dflt TC.row)).2.set a1.toNat (TCell.mk ((a4.getD a3 (dflt TC.row)).2.getD a1.toNat (dflt TC.cell)).1 ((a4.getD a3 (dflt TC.row)).2.getD a1.toNat (dflt TC.cell)).2 ((a4.getD a3 (dflt TC.row)).2.getD a1.toNat (dflt TC.cell)).3 (((a4.getD a3 (dflt TC.row)).2.getD a1.toNat (dflt TC.cell)).4 ++ ByteArray.mk #[(63 : UInt8)]) ((a4.getD a3 (dflt TC.row)).2.getD a1.toNat (dflt TC.cell)).5)))
def spd_l2_next (x : spd_l2_X) : spd_l2_X := (x.1, IntKind.i64.wrap (x.2.1 + (1 : Int)), x.2.2.1, x.2.2.2.1, spd_l2_f_4 x.1 x.2.1 x.2.2.1 x.2.2.2.1 x.2.2.2.2)
def spd_l2_goes (x : spd_l2_X) : Cnd := some (!!decide (x.2.1 < x.1))
def spd_l2_psA (x : spd_l2_X) : List Prop := [((!!decide (x.2.1 < x.1)) = true → x.2.2.2.1 < x.2.2.2.2.length ∧ (0 : Int) ≤ x.2.1 ∧ x.2.1 < (↑(x.2.2.2.2.getD x.2.2.2.1 (dflt TC.row)).2.length : Int)), ((!!decide (x.2.1 < x.1)) = true → x.2.2.2.1 < x.2.2.2.2.length ∧ x.2.1.toNat < (x.2.2.2.2.getD x.2.2.2.1 (dflt TC.row)).2.length), ((!!decide (x.2.1 < x.1)) = true → ((x.2.2.2.2.getD x.2.2.2.1 (dflt TC.row)).2.getD x.2.1.toNat (dflt TC.cell)).4.size + (1 : Nat) ≤ (9223372036854775807 : Nat)), ((!!decide (x.2.1 < x.1)) = true → x.2.2.2.1 < x.2.2.2.2.length ∧ (0 : Int) ≤ x.2.1 ∧ x.2.1 < (↑(x.2.2.2.2.getD x.2.2.2.1 (dflt TC.row)).2.length : Int)), ((!!decide (x.2.1 < x.1)) = true → x.2.2.2.1 < x.2.2.2.2.length), ((!!decide (x.2.1 < x.1)) = true → x.2.1.toNat < (x.2.2.2.2.getD x.2.2.2.1 (dflt TC.row)).2.length)]
def spd_l2_ps (x : spd_l2_X) : List Prop := [((!!decide (x.2.1 < x.1)) = true → x.2.2.2.1 < x.2.2.2.2.length ∧ (0 : Int) ≤ x.2.1 ∧ x.2.1 < (↑(x.2.2.2.2.getD x.2.2.2.1 (dflt TC.row)).2.length : Int)), ((!!decide (x.2.1 < x.1)) = true → ((x.2.2.2.2.getD x.2.2.2.1 (dflt TC.row)).2.getD x.2.1.toNat (dflt TC.cell)).4.size + (1 : Nat) ≤ (9223372036854775807 : Nat)), ((!!decide (x.2.1 < x.1)) = true → x.2.1.toNat < (x.2.2.2.2.getD x.2.2.2.1 (dflt TC.row)).2.length)]
def spd_l2_outs (x : spd_l2_X) : Outs := [(some 2, some (!decide (x.2.1 < x.1)), ⟨28, 4, [(5, .dq 3)], [(3, some (.deep 29 .row x.2.2.2.2)), (2, some (.box 29 [.v (.string x.2.2.1), .iv 3 x.2.2.2.1]))]⟩)]
def spd_l2_fuel (x : spd_l2_X) : Nat := (x.1 - x.2.1).toNat
def spd_l2_run (x : spd_l2_X) : spd_l2_X := iterX spd_l2_next spd_l2_goes (spd_l2_fuel x) x
theorem spd_l2_ev (a0 : Int) (a1 : Int) (a2 : ByteArray) (a3 : Nat) (a4 : List TRow) : roundE (envT Cso6 L0) 9 (loopAt Try.prog 19 2) spd_l2_S (spd_l2_T (a0, a1, a2, a3, a4)) = some (spd_l2_psA (a0, a1, a2, a3, a4), spd_l2_outs (a0, a1, a2, a3, a4), spd_l2_goes (a0, a1, a2, a3, a4), spd_l2_T (spd_l2_next (a0, a1, a2, a3, a4))) := by kernel_rfl
theorem spd_l2_hA (a0 : Int) (a1 : Int) (a2 : ByteArray) (a3 : Nat) (a4 : List TRow) (hp : ∀ p ∈ spd_l2_ps (a0, a1, a2, a3, a4), p) : ∀ p ∈ spd_l2_psA (a0, a1, a2, a3, a4), p := by
 have n0 : ((!!decide (a1 < a0)) = true → a3 < a4.length ∧ (0 : Int) ≤ a1 ∧ a1 < (↑(a4.getD a3 (dflt TC.row)).2.length : Int)) := N0 hp
 have n1 : ((!!decide (a1 < a0)) = true → a3 < a4.length ∧ a1.toNat < (a4.getD a3 (dflt TC.row)).2.length) := by intro h0; have g := n0 h0; omega
 have n2 := N0 (N1 hp)
 have n4 : ((!!decide (a1 < a0)) = true → a3 < a4.length) := by intro h0; have g := n0 h0; omega
 have n5 := N0 (N1 (N1 hp))
 exact (needs_cons n0 (needs_cons n1 (needs_cons n2 (needs_cons n0 (needs_cons n4 (needs_cons n5 needs_nil))))))
noncomputable def spd_l2_row := rowL (envT Cso6 L0) (loopAt Try.prog 19 2) spd_l2_S spd_l2_E spd_l2_un spd_l2_fuel spd_l2_next spd_l2_goes spd_l2_ps spd_l2_outs
theorem spd_l2_rok : ∀ s b ps outs, spd_l2_row s = some (b, ps, outs) → Wf s ⟨ps, outs, none⟩ ∧ LoopOk (envT C0 L0) b s ps outs :=
 rowP_ok (T := spd_l2_T) Cso6_ok L0_ok (u := 9) (by kernel_rfl) (by decide) (fun ⟨a0, a1, a2, a3, a4⟩ => spd_l2_ev a0 a1 a2 a3 a4) (fun ⟨a0, a1, a2, a3, a4⟩ => spd_l2_hA a0 a1 a2 a3 a4) spd_l2_unok (fun _ => okOuts_ok (n := 28) rfl) fun _ _ => rfl
noncomputable def spd_l2_L := addLp 2 spd_l2_row L0
theorem spd_l2_Lok : LpOk spd_l2_L := addLp_ok spd_l2_rok L0_ok
abbrev spd_l0_X : Type := Int × Int × (List TRow)
def spd_l0_T (x : spd_l0_X) : St := ⟨28, 2, [(5, .dq 1), (6, .v (.int .i64 x.1)), (7, .v (.int .i64 x.2.1))], [(1, some (.deep 29 .row x.2.2))]⟩
def spd_l0_un : St → Option spd_l0_X
 | ⟨28, 2, [(5, .dq 1), (6, .v (.int .i64 z0)), (7, .v (.int .i64 z1))], [(1, some (.deep 29 .row z2))]⟩ => some (z0, z1, z2)
 | _ => none
theorem spd_l0_unok : ∀ s x, spd_l0_un s = some x → s = spd_l0_T x := fun s x h => by
 unfold spd_l0_un at h
 split at h
 ·cases h; rfl
 ·cases h
def spd_l0_S : Shape := ⟨1, 2, [5, 6, 7], [], [(3, 1)], [3], [], [1]⟩
def spd_l0_E : Entry := ⟨[], [(0, 1)], [5, 6, 7], [0]⟩
def spd_l0_f_2 (_a0 : Int) (a1 : Int) (a2 : List TRow) : List TRow := (spd_l2_run ((↑(a2.getD a1.toNat (dflt TC.row)).2.length : Int), (0 : Int), (a2.getD a1.toNat (dflt TC.row)).1, a1.toNat, a2)).snd.snd.snd.snd
def spd_l0_next (x : spd_l0_X) : spd_l0_X := (x.1, IntKind.i64.wrap (x.2.1 + (1 : Int)), spd_l0_f_2 x.1 x.2.1 x.2.2)
def spd_l0_goes (x : spd_l0_X) : Cnd := some (!!decide (x.2.1 < x.1))
def spd_l0_psA (x : spd_l0_X) : List Prop := [((!!decide (x.2.1 < x.1)) = true → (0 : Int) ≤ x.2.1 ∧ x.2.1 < (↑x.2.2.length : Int)), ((!!decide (x.2.1 < x.1)) = true → x.2.1.toNat < x.2.2.length), ((!!decide (x.2.1 < x.1)) = true → x.2.1.toNat < x.2.2.length), ((!!decide (x.2.1 < x.1)) = true → x.2.1.toNat < x.2.2.length), ((!!decide (x.2.1 < x.1)) = true → loopAt Try.prog (19 : FuncId) (2 : Nat) = loopAt Try.prog (19 : FuncId) (2 : Nat)), ((!!decide (x.2.1 < x.1)) = true → needX spd_l2_next spd_l2_goes spd_l2_ps (spd_l2_fuel ((↑(x.2.2.getD x.2.1.toNat (dflt TC.row)).2.length : Int), (0 : Int), (x.2.2.getD x.2.1.toNat (dflt TC.row)).1, x.2.1.toNat, x.2.2)) ((↑(x.2.2.getD x.2.1.toNat (dflt TC.row)).2.length : Int), (0 : Int), (x.2.2.getD x.2.1.toNat (dflt TC.row)).1, x.2.1.toNat, x.2.2))]
def spd_l0_ps (x : spd_l0_X) : List Prop := [((!!decide (x.2.1 < x.1)) = true → (0 : Int) ≤ x.2.1 ∧ x.2.1 < (↑x.2.2.length : Int)), ((!!decide (x.2.1 < x.1)) = true → needX spd_l2_next spd_l2_goes spd_l2_ps (spd_l2_fuel ((↑(x.2.2.getD x.2.1.toNat (dflt TC.row)).2.length : Int), (0 : Int), (x.2.2.getD x.2.1.toNat (dflt TC.row)).1, x.2.1.toNat, x.2.2)) ((↑(x.2.2.getD x.2.1.toNat (dflt TC.row)).2.length : Int), (0 : Int), (x.2.2.getD x.2.1.toNat (dflt TC.row)).1, x.2.1.toNat, x.2.2))]
def spd_l0_outs (x : spd_l0_X) : Outs := [(some 0, some (!decide (x.2.1 < x.1)), ⟨28, 2, [], [(1, some (.deep 29 .row x.2.2))]⟩)]
def spd_l0_fuel (x : spd_l0_X) : Nat := (x.1 - x.2.1).toNat
theorem spd_l0_ev (a0 : Int) (a1 : Int) (a2 : List TRow) : roundE (envT Cso6 spd_l2_L) 9 (loopAt Try.prog 19 0) spd_l0_S (spd_l0_T (a0, a1, a2)) = some (spd_l0_psA (a0, a1, a2), spd_l0_outs (a0, a1, a2), spd_l0_goes (a0, a1, a2), spd_l0_T (spd_l0_next (a0, a1, a2))) := by kernel_rfl
theorem spd_l0_hA (a0 : Int) (a1 : Int) (a2 : List TRow) (hp : ∀ p ∈ spd_l0_ps (a0, a1, a2), p) : ∀ p ∈ spd_l0_psA (a0, a1, a2), p := by
 have n0 : ((!!decide (a1 < a0)) = true → (0 : Int) ≤ a1 ∧ a1 < (↑a2.length : Int)) := N0 hp
 have n1 : ((!!decide (a1 < a0)) = true → a1.toNat < a2.length) := by intro h0; have g := n0 h0; omega
 have n4 : ((!!decide (a1 < a0)) = true → loopAt Try.prog (19 : FuncId) (2 : Nat) = loopAt Try.prog (19 : FuncId) (2 : Nat)) := by intros; rfl
 have n5 := N0 (N1 hp)
 exact (needs_cons n0 (needs_cons n1 (needs_cons n1 (needs_cons n1 (needs_cons n4 (needs_cons n5 needs_nil))))))
noncomputable def spd_l0_row := rowL (envT Cso6 spd_l2_L) (loopAt Try.prog 19 0) spd_l0_S spd_l0_E spd_l0_un spd_l0_fuel spd_l0_next spd_l0_goes spd_l0_ps spd_l0_outs
theorem spd_l0_rok : ∀ s b ps outs, spd_l0_row s = some (b, ps, outs) → Wf s ⟨ps, outs, none⟩ ∧ LoopOk (envT C0 L0) b s ps outs :=
 rowP_ok (T := spd_l0_T) Cso6_ok spd_l2_Lok (u := 9) (by kernel_rfl) (by decide) (fun ⟨a0, a1, a2⟩ => spd_l0_ev a0 a1 a2) (fun ⟨a0, a1, a2⟩ => spd_l0_hA a0 a1 a2) spd_l0_unok (fun _ => okOuts_ok (n := 28) rfl) fun _ _ => rfl
noncomputable def spd_l0_L := addLp 0 spd_l0_row spd_l2_L
theorem spd_l0_Lok : LpOk spd_l0_L := addLp_ok spd_l0_rok spd_l2_Lok
def spd_r (_a0 : List TRow) : A := .v (.tuple ⟨[]⟩)
def spd_o (a0 : List TRow) : Objs := [(0, none), (0, some (.deep 29 .row a0))]
def spd_ps (a0 : List TRow) : List Prop := [(needX spd_l0_next spd_l0_goes spd_l0_ps (spd_l0_fuel ((↑a0.length : Int), (0 : Int), a0)) ((↑a0.length : Int), (0 : Int), a0))]
theorem spd_ev (a0 : List TRow) : evF (envT Cso6 spd_l0_L) 9 19 [.dq 0] 1 [(0, some (.deep 29 .row a0))] = some (2, spd_r a0, 1, spd_o a0, [(loopAt Try.prog (19 : FuncId) (0 : Nat) = loopAt Try.prog (19 : FuncId) (0 : Nat)), (needX spd_l0_next spd_l0_goes spd_l0_ps (spd_l0_fuel ((↑a0.length : Int), (0 : Int), a0)) ((↑a0.length : Int), (0 : Int), a0))]) := by kernel_rfl
theorem spd_c (a0 : List TRow) (hp : ∀ p ∈ spd_ps a0, p) : CallOk Try.prog 19 [.dq 0] 1 [(0, some (.deep 29 .row a0))] 2 (spd_r a0) 1 (spd_o a0) := by
 have n1 := N0 hp
 exact evF_ok (envP_ok Cso6_ok spd_l0_Lok) (spd_ev a0) (needs_cons rfl (needs_cons n1 needs_nil))
abbrev spo_l2_X : Type := Int × Int × ByteArray × (List TCell)
def spo_l2_T (x : spo_l2_X) : St := ⟨28, 4, [(3, .own 2 0), (13, .v (.int .i64 x.1)), (14, .v (.int .i64 x.2.1))], [(2, some (.box 29 [.v (.string x.2.2.1), .sq 3])), (3, some (.arr 64 8 (.ty .cell x.2.2.2)))]⟩
def spo_l2_un : St → Option spo_l2_X
 | ⟨28, 4, [(3, .own 2 0), (13, .v (.int .i64 z0)), (14, .v (.int .i64 z1))], [(2, some (.box 29 [.v (.string z2), .sq 3])), (3, some (.arr 64 8 (.ty .cell z3)))]⟩ => some (z0, z1, z2, z3)
 | _ => none
theorem spo_l2_unok : ∀ s x, spo_l2_un s = some x → s = spo_l2_T x := fun s x h => by
 unfold spo_l2_un at h
 split at h
 ·cases h; rfl
 ·cases h
def spo_l2_S : Shape := ⟨3, 4, [3, 13, 14], [], [(2, 2), (3, 3)], [2, 3], [], [2, 3]⟩
def spo_l2_E : Entry := ⟨[], [(2, 2), (0, 3)], [3, 13, 14], [2, 0]⟩
def spo_l2_f_3 (_a0 : Int) (a1 : Int) (_a2 : ByteArray) (a3 : List TCell) : List TCell := a3.set a1.toNat (TCell.mk (a3.getD a1.toNat (dflt TC.cell)).1 (a3.getD a1.toNat (dflt TC.cell)).2 (a3.getD a1.toNat (dflt TC.cell)).3 ((a3.getD a1.toNat (dflt TC.cell)).4 ++ ByteArray.mk #[(63 : UInt8)]) (a3.getD a1.toNat (dflt TC.cell)).5)
def spo_l2_next (x : spo_l2_X) : spo_l2_X := (x.1, IntKind.i64.wrap (x.2.1 + (1 : Int)), x.2.2.1, spo_l2_f_3 x.1 x.2.1 x.2.2.1 x.2.2.2)
def spo_l2_goes (x : spo_l2_X) : Cnd := some (!!decide (x.2.1 < x.1))
def spo_l2_psA (x : spo_l2_X) : List Prop := [((!!decide (x.2.1 < x.1)) = true → (0 : Int) ≤ x.2.1 ∧ x.2.1 < (↑x.2.2.2.length : Int)), ((!!decide (x.2.1 < x.1)) = true → x.2.1.toNat < x.2.2.2.length), ((!!decide (x.2.1 < x.1)) = true → (x.2.2.2.getD x.2.1.toNat (dflt TC.cell)).4.size + (1 : Nat) ≤ (9223372036854775807 : Nat)), ((!!decide (x.2.1 < x.1)) = true → (0 : Int) ≤ x.2.1 ∧ x.2.1 < (↑x.2.2.2.length : Int)), ((!!decide (x.2.1 < x.1)) = true → x.2.1.toNat < x.2.2.2.length)]
def spo_l2_ps (x : spo_l2_X) : List Prop := [((!!decide (x.2.1 < x.1)) = true → (0 : Int) ≤ x.2.1 ∧ x.2.1 < (↑x.2.2.2.length : Int)), ((!!decide (x.2.1 < x.1)) = true → (x.2.2.2.getD x.2.1.toNat (dflt TC.cell)).4.size + (1 : Nat) ≤ (9223372036854775807 : Nat))]
def spo_l2_outs (x : spo_l2_X) : Outs := [(some 2, some (!decide (x.2.1 < x.1)), ⟨28, 4, [], [(2, some (.box 29 [.v (.string x.2.2.1), .sq 3])), (3, some (.arr 64 8 (.ty .cell x.2.2.2)))]⟩)]
def spo_l2_fuel (x : spo_l2_X) : Nat := (x.1 - x.2.1).toNat
theorem spo_l2_ev (a0 : Int) (a1 : Int) (a2 : ByteArray) (a3 : List TCell) : roundE (envT Cso6 L0) 20 (loopAt Try.prog 19 2) spo_l2_S (spo_l2_T (a0, a1, a2, a3)) = some (spo_l2_psA (a0, a1, a2, a3), spo_l2_outs (a0, a1, a2, a3), spo_l2_goes (a0, a1, a2, a3), spo_l2_T (spo_l2_next (a0, a1, a2, a3))) := by kernel_rfl
theorem spo_l2_hA (a0 : Int) (a1 : Int) (a2 : ByteArray) (a3 : List TCell) (hp : ∀ p ∈ spo_l2_ps (a0, a1, a2, a3), p) : ∀ p ∈ spo_l2_psA (a0, a1, a2, a3), p := by
 have n0 : ((!!decide (a1 < a0)) = true → (0 : Int) ≤ a1 ∧ a1 < (↑a3.length : Int)) := N0 hp
 have n1 : ((!!decide (a1 < a0)) = true → a1.toNat < a3.length) := by intro h0; have g := n0 h0; omega
 have n2 := N0 (N1 hp)
 exact (needs_cons n0 (needs_cons n1 (needs_cons n2 (needs_cons n0 (needs_cons n1 needs_nil)))))
noncomputable def spo_l2_row := rowL (envT Cso6 L0) (loopAt Try.prog 19 2) spo_l2_S spo_l2_E spo_l2_un spo_l2_fuel spo_l2_next spo_l2_goes spo_l2_ps spo_l2_outs
theorem spo_l2_rok : ∀ s b ps outs, spo_l2_row s = some (b, ps, outs) → Wf s ⟨ps, outs, none⟩ ∧ LoopOk (envT C0 L0) b s ps outs :=
 rowP_ok (T := spo_l2_T) Cso6_ok L0_ok (u := 20) (by kernel_rfl) (by decide) (fun ⟨a0, a1, a2, a3⟩ => spo_l2_ev a0 a1 a2 a3) (fun ⟨a0, a1, a2, a3⟩ => spo_l2_hA a0 a1 a2 a3) spo_l2_unok (fun _ => okOuts_ok (n := 28) rfl) fun _ _ => rfl
noncomputable def spo_l2_L := addLp 2 spo_l2_row L0
theorem spo_l2_Lok : LpOk spo_l2_L := addLp_ok spo_l2_rok L0_ok
def spo_r (_a0 : ByteArray) (_a1 : List TCell) : A := .v (.tuple ⟨[]⟩)
def spo_o (a0 : ByteArray) (a1 : List TCell) : Objs := [(0, none), (0, some (.arr 64 8 (.ty .cell a1))), (1, some (.arr 29 2 (.lst [[.v (.string a0), .sq 0]])))]
def spo_ps (a0 : ByteArray) (a1 : List TCell) : List Prop := [(needX spo_l2_next spo_l2_goes spo_l2_ps (spo_l2_fuel ((↑a1.length : Int), (0 : Int), a0, a1)) ((↑a1.length : Int), (0 : Int), a0, a1))]
theorem spo_ev (a0 : ByteArray) (a1 : List TCell) : evF (envT Cso6 spo_l2_L) 20 19 [.sq 1] 2 [(0, some (.arr 64 8 (.ty .cell a1))), (1, some (.arr 29 2 (.lst [[.v (.string a0), .sq 0]])))] = some (2, spo_r a0 a1, 2, spo_o a0 a1, [((0 : Int) ≤ (0 : Int) ∧ (0 : Int) < (↑(1 : Nat) : Int)), ((0 : Nat) < (1 : Nat)), (loopAt Try.prog (19 : FuncId) (2 : Nat) = loopAt Try.prog (19 : FuncId) (2 : Nat)), (needX spo_l2_next spo_l2_goes spo_l2_ps (spo_l2_fuel ((↑a1.length : Int), (0 : Int), a0, a1)) ((↑a1.length : Int), (0 : Int), a0, a1))]) := by kernel_rfl
theorem spo_c (a0 : ByteArray) (a1 : List TCell) (hp : ∀ p ∈ spo_ps a0 a1, p) : CallOk Try.prog 19 [.sq 1] 2 [(0, some (.arr 64 8 (.ty .cell a1))), (1, some (.arr 29 2 (.lst [[.v (.string a0), .sq 0]])))] 2 (spo_r a0 a1) 2 (spo_o a0 a1) := by
 have n0 : ((0 : Int) ≤ (0 : Int) ∧ (0 : Int) < (↑(1 : Nat) : Int)) := by first | rfl | decide +kernel
 have n1 : ((0 : Nat) < (1 : Nat)) := by first | rfl | decide +kernel
 have n3 := N0 hp
 exact evF_ok (envP_ok Cso6_ok spo_l2_Lok) (spo_ev a0 a1) (needs_cons n0 (needs_cons n1 (needs_cons rfl (needs_cons n3 needs_nil))))
end Go.Proofs.Ytnfmceffbnaanaa
namespace Go.Proofs.Ytnfmceffbnaanaa
open Go.RowKit
theorem kLt_two {a b : ByteArray} (h : a ≠ b) : kLt a b = true ∨ kLt b a = true := by
 cases hl : kLt a b with
 | true => exact .inl rfl
 | false => exact .inr (bless_total (x := a.toList) (y := b.toList) hl fun e => h (toL_inj e))
theorem ne_lt {a b : ByteArray} : a ≠ b ↔ (kLt a b = true ∨ kLt b a = true) := ⟨kLt_two, fun h => by
 rcases h with h | h
 ·exact kLt_ne h
 ·exact (kLt_ne h).symm⟩
theorem setR_mem {rows : List TRow} {r x : TRow} : x ∈ setR rows r ↔ (x ∈ rows ∧ x.key ≠ r.key) ∨ x = r := by
 unfold setR
 rw [List.mem_append, List.mem_cons, List.mem_filter, List.mem_filter, ne_lt]
 constructor
 ·rintro (⟨h1, h2⟩ | rfl | ⟨h1, h2⟩)
  ·exact .inl ⟨h1, .inl h2⟩
  ·exact .inr rfl
  ·exact .inl ⟨h1, .inr h2⟩
 ·rintro (⟨h1, h2 | h2⟩ | rfl)
  ·exact .inl ⟨h1, h2⟩
  ·exact .inr (.inr ⟨h1, h2⟩)
  ·exact .inr (.inl rfl)
theorem dropR_mem {rows : List TRow} {key : ByteArray} {x : TRow} : x ∈ dropR rows key ↔ x ∈ rows ∧ x.key ≠ key := by
 unfold dropR
 rw [List.mem_append, List.mem_filter, List.mem_filter, ne_lt]
 constructor
 ·rintro (⟨h1, h2⟩ | ⟨h1, h2⟩)
  ·exact ⟨h1, .inl h2⟩
  ·exact ⟨h1, .inr h2⟩
 ·rintro ⟨h1, h2 | h2⟩
  ·exact .inl ⟨h1, h2⟩
  ·exact .inr ⟨h1, h2⟩
theorem setR_sort {rows : List TRow} {r : TRow} (h : SortR rows) : SortR (setR rows r) := by
 unfold setR
 refine List.pairwise_append.2 ⟨h.filter _, List.pairwise_cons.2 ⟨fun x hx => (List.mem_filter.1 hx).2, h.filter _⟩, fun a ha b hb => ?_⟩
 have ha := (List.mem_filter.1 ha).2
 rcases List.mem_cons.1 hb with rfl | hb
 ·exact ha
 ·exact kLt_trans ha (List.mem_filter.1 hb).2
theorem dropR_sort {rows : List TRow} {key : ByteArray} (h : SortR rows) : SortR (dropR rows key) := by
 unfold dropR
 exact List.pairwise_append.2 ⟨h.filter _, h.filter _, fun a ha b hb => kLt_trans (List.mem_filter.1 ha).2 (List.mem_filter.1 hb).2⟩
theorem two_len (key : ByteArray) : ∀ rows : List TRow, (rows.filter fun x => kLt x.key key).length + (rows.filter fun x => kLt key x.key).length ≤ rows.length
 | [] => Nat.le_refl _
 | x :: l => by
  have ih := two_len key l
  cases h1 : kLt x.key key with
  | true =>
   rw [List.filter_cons_of_pos (by exact h1), List.filter_cons_of_neg (by show ¬ kLt key x.key = true; rw [kLt_asymm h1]; exact Bool.false_ne_true), List.length_cons, List.length_cons]
   omega
  | false =>
   rw [List.filter_cons_of_neg (by show ¬ kLt x.key key = true; rw [h1]; exact Bool.false_ne_true)]
   cases h2 : kLt key x.key with
   | true => rw [List.filter_cons_of_pos (by exact h2), List.length_cons, List.length_cons]; omega
   | false => rw [List.filter_cons_of_neg (by show ¬ kLt key x.key = true; rw [h2]; exact Bool.false_ne_true), List.length_cons]; omega
theorem setR_len (rows : List TRow) (r : TRow) : (setR rows r).length ≤ rows.length + 1 := by
 have := two_len r.key rows
 unfold setR
 rw [List.length_append, List.length_cons]
 omega
theorem dropR_len (rows : List TRow) (key : ByteArray) : (dropR rows key).length ≤ rows.length := by
 have := two_len key rows
 unfold dropR
 rw [List.length_append]
 omega
theorem hasR_iff {rows : List TRow} {key : ByteArray} : hasR rows key = true ↔ ∃ x ∈ rows, x.key = key := by
 unfold hasR
 rw [List.any_eq_true]
 constructor
 ·rintro ⟨x, h1, h2⟩; exact ⟨x, h1, eq_of_beq h2⟩
 ·rintro ⟨x, h1, h2⟩; exact ⟨x, h1, by rw [h2]; exact beq_self_eq_true _⟩
theorem sort_ext : ∀ {a b : List TRow}, SortR a → SortR b → (∀ x, x ∈ a ↔ x ∈ b) → a = b
 | [], [], _, _, _ => rfl
 | [], y :: b, _, _, h => absurd ((h y).2 (List.mem_cons_self ..)) (by simp)
 | x :: a, [], _, _, h => absurd ((h x).1 (List.mem_cons_self ..)) (by simp)
 | x :: a, y :: b, ha, hb, h => by
  obtain ⟨a1, a2⟩ := List.pairwise_cons.1 ha
  obtain ⟨b1, b2⟩ := List.pairwise_cons.1 hb
  have hxy : x = y := by
   rcases List.mem_cons.1 ((h x).1 (List.mem_cons_self ..)) with e | hx
   ·exact e
   ·rcases List.mem_cons.1 ((h y).2 (List.mem_cons_self ..)) with e | hy
    ·exact e.symm
    ·have := kLt_trans (a1 y hy) (b1 x hx)
     rw [kLt_irrefl] at this
     cases this
  subst hxy
  congr 1
  refine sort_ext a2 b2 fun z => ⟨fun hz => ?_, fun hz => ?_⟩
  ·rcases List.mem_cons.1 ((h z).1 (List.mem_cons_of_mem _ hz)) with e | hz'
   ·subst e
    have := a1 z hz
    rw [kLt_irrefl] at this
    cases this
   ·exact hz'
  ·rcases List.mem_cons.1 ((h z).2 (List.mem_cons_of_mem _ hz)) with e | hz'
   ·subst e
    have := b1 z hz
    rw [kLt_irrefl] at this
    cases this
   ·exact hz'
def E0 : ByteArray := ByteArray.mk #[]
theorem kLt_E0 (a : ByteArray) : kLt a E0 = false := by
 unfold kLt
 have : E0.toList = [] := by rw [ByteArray.toList_eq]; rfl
 rw [this]
 cases a.toList <;> rfl
theorem inR_all (r : TRow) : inR E0 E0 r = true := by
 show (!kLt r.key E0 && (E0.toList == E0.toList || kLt r.key E0)) = true
 rw [kLt_E0, beq_self_eq_true]
 rfl
theorem scan_all {rows : List TRow} {n : Int} (h : (rows.length : Int) ≤ n) : scanR rows E0 E0 n = rows := by
 unfold scanR
 rw [filter_all fun x _ => inR_all x, List.take_of_length_le (by omega)]
def put (m : List TRow) (k : ByteArray) : List TRow := bif k.toList == E0.toList then m else setR m ⟨k, []⟩
theorem isE {k : ByteArray} : (k.toList == E0.toList) = true ↔ k = E0 := by rw [tlb, beq_iff_eq]
structure Puts (l : List ByteArray) (m : List TRow) : Prop where
 sort : SortR m
 mem : ∀ x, x ∈ m ↔ x.key ∈ l ∧ x.key ≠ E0 ∧ x.cells = []
 len : m.length ≤ l.length
theorem Puts.step {l : List ByteArray} {m : List TRow} (h : Puts l m) (k : ByteArray) : Puts (l ++ [k]) (put m k) := by
 unfold put
 cases hk : k.toList == E0.toList with
 | true =>
  have ek := isE.1 hk
  refine ⟨h.sort, fun x => ?_, by rw [List.length_append]; have := h.len; simp; omega⟩
  rw [cond_true, h.mem, List.mem_append, List.mem_singleton]
  constructor
  ·rintro ⟨h1, h2, h3⟩; exact ⟨.inl h1, h2, h3⟩
  ·rintro ⟨h1 | h1, h2, h3⟩
   ·exact ⟨h1, h2, h3⟩
   ·exact absurd (h1.trans ek) h2
 | false =>
  have ek : k ≠ E0 := fun e => by rw [isE.2 e] at hk; cases hk
  refine ⟨setR_sort h.sort, fun x => ?_, ?_⟩
  ·rw [cond_false, setR_mem, h.mem, List.mem_append, List.mem_singleton]
   constructor
   ·rintro (⟨⟨h1, h2, h3⟩, _⟩ | rfl)
    ·exact ⟨.inl h1, h2, h3⟩
    ·exact ⟨.inr rfl, ek, rfl⟩
   ·rintro ⟨h1, h2, h3⟩
    by_cases e : x.key = k
    ·right
     cases x
     cases e
     cases h3
     rfl
    ·rcases h1 with h1 | h1
     ·exact .inl ⟨⟨h1, h2, h3⟩, e⟩
     ·exact absurd h1 e
  ·have h1 := setR_len m ⟨k, []⟩
   have h2 := h.len
   rw [cond_false, List.length_append, List.length_singleton]
   omega
theorem Puts.nil : Puts [] [] := ⟨List.Pairwise.nil, fun _ => ⟨fun h => (nomatch h), fun h => (nomatch h.1)⟩, Nat.le_refl _⟩
theorem Puts.same {l l' : List ByteArray} {m m' : List TRow} (h : Puts l m) (h' : Puts l' m') (he : ∀ k, k ∈ l ↔ k ∈ l') : m = m' :=
 sort_ext h.sort h'.sort fun x => by rw [h.mem, h'.mem, he]
theorem Puts.has {l : List ByteArray} {m : List TRow} (h : Puts l m) {k : ByteArray} (hk : k ∈ l) : hasR m k = !(k.toList == E0.toList) := by
 rw [Bool.eq_iff_iff, hasR_iff]
 constructor
 ·rintro ⟨x, h1, rfl⟩
  have := ((h.mem x).1 h1).2.1
  cases hb : x.key.toList == E0.toList with
  | true => exact absurd (isE.1 hb) this
  | false => rfl
 ·intro hb
  refine ⟨⟨k, []⟩, (h.mem _).2 ⟨hk, fun e => ?_, rfl⟩, rfl⟩
  have e' : k = E0 := e
  rw [isE.2 e'] at hb
  cases hb
theorem Puts.scan {l : List ByteArray} {m : List TRow} (h : Puts l m) (hl : l.length ≤ 1000000) : ScanP m := ⟨by have := h.len; unfold boundP; omega, fun r hr => by rw [((h.mem r).1 hr).2.2]; exact Nat.zero_le _⟩
end Go.Proofs.Ytnfmceffbnaanaa
namespace Go.Proofs.Ytnfmceffbnaanaa
open Go.RowKit
def subO : List (Nat × Ob) → Objs
 | [] => []
 | (i, ob) :: r => (i, some ob) :: subO r
def eatO : List (Nat × Ob) → Objs
 | [] => []
 | (i, _) :: r => (i, none) :: eatO r
theorem subO_mem : ∀ {es : List (Nat × Ob)} {i : Nat} {ob : Ob}, lookO i (subO es) = some ob → (i, ob) ∈ es
 | [], _, _, h => by cases h
 | (k, x) :: r, i, ob, h => by
  unfold subO at h
  rw [lookO_cons] at h
  by_cases e : i = k
  ·rw [if_pos e] at h; cases h; subst e; exact List.mem_cons_self ..
  ·rw [if_neg e] at h; exact List.mem_cons_of_mem _ (subO_mem h)
theorem eatO_no : ∀ {es : List (Nat × Ob)} {i : Nat}, lookO i (eatO es) = none
 | [], _ => rfl
 | (k, x) :: r, i => by
  unfold eatO
  rw [lookO_cons]
  by_cases e : i = k
  ·rw [if_pos e]
  ·rw [if_neg e]; exact eatO_no
theorem eatO_app : ∀ {es : List (Nat × Ob)} {i : Nat} {o : Objs} {ob : Ob}, lookO i (eatO es ++ o) = some ob → lookO i o = some ob ∧ lookO i (subO es) = none
 | [], _, _, _, h => ⟨h, rfl⟩
 | (k, x) :: r, i, o, ob, h => by
  unfold eatO at h
  rw [List.cons_append, lookO_cons] at h
  by_cases e : i = k
  ·rw [if_pos e] at h; cases h
  ·rw [if_neg e] at h
   obtain ⟨h1, h2⟩ := eatO_app h
   refine ⟨h1, ?_⟩
   unfold subO
   rw [lookO_cons, if_neg e]
   exact h2
theorem callOk_eat {P : Program} {f : FuncId} {args args0 : List A} {nx0 nx nx1 k : Nat} {o o0 o1 : Objs} {u : Value} (h : CallOk P f args0 nx0 o0 k (.v u) nx1 o1) (ρ : Nat → Option Nat) (σ : Nat → Nat) (hρ : ∀ i j, ρ i = some j → j < nx0 ∧ σ j = i) (es : List (Nat × Ob))
  (hes : ∀ e ∈ es, lookO e.1 o = some e.2) (ho0 : ∀ j ob', lookO j o0 = some ob' → ∃ i ob, ρ i = some j ∧ lookO i (subO es) = some ob ∧ ob' = ob.pk ρ) (ha : args0 = pkL ρ args) : CallOk P f args nx o 2 (.v u) nx (eatO es ++ o) := fun F N R vs hh hl => by
 have hsub : ∀ i ob, lookO i (subO es) = some ob → lookO i o = some ob := fun i ob hi => hes _ (subO_mem hi)
 let N0 : Nm := ⟨fun j => N.b (σ j), fun j => N.q (σ j)⟩
 have st : Pk ρ N nx N0 nx0 := fun i j _ hj => by
  obtain ⟨h1, h2⟩ := hρ i j hj
  exact ⟨h1, by show N.b (σ j) = _; rw [h2], by show N.q (σ j) = _; rw [h2]⟩
 obtain ⟨g1, g2⟩ := (hh.weak hsub).pk st ho0
 refine (h F N0 R vs g1 (by rw [ha]; exact hl.pk st)).mono fun e R' ⟨y, F', N', e1, e2, e3, e4, _⟩ => ?_
 obtain rfl := e4.v_inv
 have st1 : Step F N nx (subO es) R F' N nx (eatO es) R' := ⟨Nat.le_refl _, fun _ _ => rfl, fun _ _ => rfl, e3.f, fun g hg => by
   rcases e3.fnew g hg with q | q | q
   ·exact .inl q
   ·exact .inr (.inl (g2 g q))
   ·exact .inr (.inr q), fun g ⟨i, ob, hi, _⟩ => (by rw [eatO_no] at hi; cases hi), e3.os, e3.tape, e3.output, e3.size, fun g hg hn => e3.keep g hg fun hf => hn (g2 g hf)⟩
 have hp : HRel F' N nx (eatO es) R' := ⟨e2.flt, fun i ob hi => (by rw [eatO_no] at hi; cases hi), fun i ob g hi => (by rw [eatO_no] at hi; cases hi), fun i j x y g hi => (by rw [eatO_no] at hi; cases hi), e2.gl⟩
 obtain ⟨q1, q2⟩ := hh.frame (o1 := subO es) (o' := eatO es ++ o) hsub st1 hp fun i ob hi => .inr (eatO_app hi)
 exact ⟨_, F', N, e1, q1, q2, .v _, fun hk => by omega⟩
def SpoilC (l : List TCell) : Prop := boundP l.length ∧ ∀ c ∈ l, c.value.size + 1 ≤ 9223372036854775807
def SpoilR (rows : List TRow) : Prop := boundP rows.length ∧ ∀ r ∈ rows, SpoilC r.cells
theorem lt_of {i n : Int} (h : (!!decide (i < n)) = true) : i < n := by rw [nn] at h; exact of_decide_eq_true h
theorem spo_need (key : ByteArray) (l : List TCell) (h : SpoilC l) : needX spo_l2_next spo_l2_goes spo_l2_ps (spo_l2_fuel ((l.length : Int), 0, key, l)) ((l.length : Int), 0, key, l) := by
 obtain ⟨hb, hc⟩ := h
 have hb' : l.length ≤ 549755813888 := hb
 refine (loop_inv (fun x : spo_l2_X => x.1 = (l.length : Int) ∧ 0 ≤ x.2.1 ∧ x.2.2.2.length = l.length ∧ ∀ j : Nat, x.2.1 ≤ (j : Int) → j < l.length → x.2.2.2.getD j (dflt TC.cell) = l.getD j (dflt TC.cell)) (fun x => (x.1 - x.2.1).toNat) (fun ⟨n, i, k, cs⟩ ⟨h1, h2, h3, h4⟩ => ?_) _ _ ⟨rfl, Int.le_refl _, rfl, fun j _ _ => rfl⟩ (Nat.le_refl _)).1
 have h1 : n = (l.length : Int) := h1
 have h2 : 0 ≤ i := h2
 have h3 : cs.length = l.length := h3
 have h4 : ∀ j : Nat, i ≤ (j : Int) → j < l.length → cs.getD j (dflt TC.cell) = l.getD j (dflt TC.cell) := h4
 refine ⟨needs_cons (fun hg => ?_) (needs_cons (fun hg => ?_) needs_nil), fun hg => ?_⟩
 ·have := lt_of hg
  show 0 ≤ i ∧ i < (cs.length : Int)
  have : i < n := this
  omega
 ·have : i < n := lt_of hg
  show (cs.getD i.toNat (dflt TC.cell)).value.size + 1 ≤ _
  rw [h4 i.toNat (by omega) (by omega)]
  exact hc _ (getD_in _ _ _ (by omega))
 ·have : i < n := lt_of hg
  have hw : IntKind.i64.wrap (i + 1) = i + 1 := i64_in (by omega)
  refine ⟨⟨h1, ?_, ?_, fun j hj hl => ?_⟩, ?_⟩
  ·show 0 ≤ IntKind.i64.wrap (i + 1)
   omega
  ·show (spo_l2_f_3 n i k cs).length = _
   unfold spo_l2_f_3
   rw [List.length_set]
   exact h3
  ·have hj : IntKind.i64.wrap (i + 1) ≤ (j : Int) := hj
   show (spo_l2_f_3 n i k cs).getD j _ = _
   unfold spo_l2_f_3
   rw [List.getD_eq_getElem?_getD, List.getElem?_set_ne (by omega), ← List.getD_eq_getElem?_getD]
   exact h4 j (by omega) hl
  ·show (n - IntKind.i64.wrap (i + 1)).toNat < (n - i).toNat
   omega
theorem spd_need2 (k : Nat) (L : List TRow) (key : ByteArray) (hk : k < L.length) (h : SpoilC (L.getD k (dflt TC.row)).cells) :
  needX spd_l2_next spd_l2_goes spd_l2_ps (spd_l2_fuel (((L.getD k (dflt TC.row)).2.length : Int), 0, key, k, L)) (((L.getD k (dflt TC.row)).2.length : Int), 0, key, k, L) ∧
  (spd_l2_run (((L.getD k (dflt TC.row)).2.length : Int), 0, key, k, L)).2.2.2.2.length = L.length ∧ ∀ j, j ≠ k → (spd_l2_run (((L.getD k (dflt TC.row)).2.length : Int), 0, key, k, L)).2.2.2.2.getD j (dflt TC.row) = L.getD j (dflt TC.row) := by
 obtain ⟨hb, hc⟩ := h
 generalize hl0 : (L.getD k (dflt TC.row)).cells = l at hb hc
 have hb' : l.length ≤ 549755813888 := hb
 have hI := loop_inv (next := spd_l2_next) (goes := spd_l2_goes) (ps := spd_l2_ps) (fun x : spd_l2_X => x.1 = (l.length : Int) ∧ 0 ≤ x.2.1 ∧ x.2.2.2.1 = k ∧ x.2.2.2.2.length = L.length ∧ (x.2.2.2.2.getD k (dflt TC.row)).cells.length = l.length ∧ (∀ j : Nat, x.2.1 ≤ (j : Int) → j < l.length → (x.2.2.2.2.getD k (dflt TC.row)).cells.getD j (dflt TC.cell) = l.getD j (dflt TC.cell)) ∧
   ∀ j, j ≠ k → x.2.2.2.2.getD j (dflt TC.row) = L.getD j (dflt TC.row)) (fun x => (x.1 - x.2.1).toNat) (fun ⟨n, i, ky, k', M⟩ ⟨h1, h2, h3, h4, h5, h6, h7⟩ => ?_) (spd_l2_fuel ((l.length : Int), 0, key, k, L)) ((l.length : Int), 0, key, k, L) ⟨rfl, Int.le_refl _, rfl, rfl, by show (L.getD k (dflt TC.row)).cells.length = _; rw [hl0], fun j _ _ => by show (L.getD k (dflt TC.row)).cells.getD j _ = _; rw [hl0], fun j _ => rfl⟩ (Nat.le_refl _)
 ·exact ⟨hI.1, hI.2.1.2.2.2.1, hI.2.1.2.2.2.2.2.2⟩
 have h1 : n = (l.length : Int) := h1
 have h2 : 0 ≤ i := h2
 have h3 : k' = k := h3
 subst h3
 have h4 : M.length = L.length := h4
 have h5 : (M.getD k' (dflt TC.row)).cells.length = l.length := h5
 have h6 : ∀ j : Nat, i ≤ (j : Int) → j < l.length → (M.getD k' (dflt TC.row)).cells.getD j (dflt TC.cell) = l.getD j (dflt TC.cell) := h6
 have h7 : ∀ j, j ≠ k' → M.getD j (dflt TC.row) = L.getD j (dflt TC.row) := h7
 refine ⟨needs_cons (fun hg => ?_) (needs_cons (fun hg => ?_) (needs_cons (fun hg => ?_) needs_nil)), fun hg => ?_⟩
 ·have : i < n := lt_of hg
  show k' < M.length ∧ 0 ≤ i ∧ i < ((M.getD k' (dflt TC.row)).cells.length : Int)
  omega
 ·have : i < n := lt_of hg
  show ((M.getD k' (dflt TC.row)).cells.getD i.toNat (dflt TC.cell)).value.size + 1 ≤ _
  rw [h6 i.toNat (by omega) (by omega)]
  exact hc _ (getD_in _ _ _ (by omega))
 ·have : i < n := lt_of hg
  show i.toNat < (M.getD k' (dflt TC.row)).cells.length
  omega
 ·have : i < n := lt_of hg
  have hw : IntKind.i64.wrap (i + 1) = i + 1 := i64_in (by omega)
  have same : (spd_l2_f_4 n i ky k' M).getD k' (dflt TC.row) = setI TC.row TC.cell (M.getD k' (dflt TC.row)) ((M.getD k' (dflt TC.row)).2.set i.toNat (TCell.mk ((M.getD k' (dflt TC.row)).2.getD i.toNat (dflt TC.cell)).1 ((M.getD k' (dflt TC.row)).2.getD i.toNat (dflt TC.cell)).2 ((M.getD k' (dflt TC.row)).2.getD i.toNat (dflt TC.cell)).3 (((M.getD k' (dflt TC.row)).2.getD i.toNat (dflt TC.cell)).4 ++ ByteArray.mk #[(63 : UInt8)]) ((M.getD k' (dflt TC.row)).2.getD i.toNat (dflt TC.cell)).5)) := by
   unfold spd_l2_f_4
   rw [List.getD_eq_getElem?_getD, List.getElem?_set_self (by omega)]
   rfl
  refine ⟨⟨h1, ?_, rfl, ?_, ?_, fun j hj hl => ?_, fun j hj => ?_⟩, ?_⟩
  ·show 0 ≤ IntKind.i64.wrap (i + 1)
   omega
  ·show (spd_l2_f_4 n i ky k' M).length = _
   unfold spd_l2_f_4
   rw [List.length_set]
   exact h4
  ·show ((spd_l2_f_4 n i ky k' M).getD k' (dflt TC.row)).cells.length = _
   rw [same]
   show ((M.getD k' (dflt TC.row)).2.set _ _).length = _
   rw [List.length_set]
   exact h5
  ·have hj : IntKind.i64.wrap (i + 1) ≤ (j : Int) := hj
   show ((spd_l2_f_4 n i ky k' M).getD k' (dflt TC.row)).cells.getD j _ = _
   rw [same]
   show ((M.getD k' (dflt TC.row)).2.set _ _).getD j _ = _
   rw [List.getD_eq_getElem?_getD, List.getElem?_set_ne (by omega), ← List.getD_eq_getElem?_getD]
   exact h6 j (by omega) hl
  ·show (spd_l2_f_4 n i ky k' M).getD j _ = _
   unfold spd_l2_f_4
   rw [List.getD_eq_getElem?_getD, List.getElem?_set_ne (fun e => hj e.symm), ← List.getD_eq_getElem?_getD]
   exact h7 j hj
  ·show (n - IntKind.i64.wrap (i + 1)).toNat < (n - i).toNat
   omega
theorem spd_need (L : List TRow) (h : SpoilR L) : needX spd_l0_next spd_l0_goes spd_l0_ps (spd_l0_fuel ((L.length : Int), 0, L)) ((L.length : Int), 0, L) := by
 obtain ⟨hb, hc⟩ := h
 have hb' : L.length ≤ 549755813888 := hb
 refine (loop_inv (fun x : spd_l0_X => x.1 = (L.length : Int) ∧ 0 ≤ x.2.1 ∧ x.2.2.length = L.length ∧ ∀ j : Nat, x.2.1 ≤ (j : Int) → j < L.length → x.2.2.getD j (dflt TC.row) = L.getD j (dflt TC.row)) (fun x => (x.1 - x.2.1).toNat) (fun ⟨n, i, M⟩ ⟨h1, h2, h3, h4⟩ => ?_) _ _ ⟨rfl, Int.le_refl _, rfl, fun j _ _ => rfl⟩ (Nat.le_refl _)).1
 have h1 : n = (L.length : Int) := h1
 have h2 : 0 ≤ i := h2
 have h3 : M.length = L.length := h3
 have h4 : ∀ j : Nat, i ≤ (j : Int) → j < L.length → M.getD j (dflt TC.row) = L.getD j (dflt TC.row) := h4
 have two : i < n → SpoilC (M.getD i.toNat (dflt TC.row)).cells := fun hi => by
  rw [h4 i.toNat (by omega) (by omega)]
  exact hc _ (getD_in _ _ _ (by omega))
 refine ⟨needs_cons (fun hg => ?_) (needs_cons (fun hg => ?_) needs_nil), fun hg => ?_⟩
 ·have : i < n := lt_of hg
  show 0 ≤ i ∧ i < (M.length : Int)
  omega
 ·have hi : i < n := lt_of hg
  exact (spd_need2 i.toNat M _ (by omega) (two hi)).1
 ·have hi : i < n := lt_of hg
  have hw : IntKind.i64.wrap (i + 1) = i + 1 := i64_in (by omega)
  obtain ⟨_, q2, q3⟩ := spd_need2 i.toNat M (M.getD i.toNat (dflt TC.row)).1 (by omega) (two hi)
  refine ⟨⟨h1, ?_, ?_, fun j hj hl => ?_⟩, ?_⟩
  ·show 0 ≤ IntKind.i64.wrap (i + 1)
   omega
  ·show (spd_l0_f_2 n i M).length = _
   unfold spd_l0_f_2
   exact q2.trans h3
  ·have hj : IntKind.i64.wrap (i + 1) ≤ (j : Int) := hj
   show (spd_l0_f_2 n i M).getD j _ = _
   unfold spd_l0_f_2
   exact (q3 j (by omega)).trans (h4 j (by omega) hl)
  ·show (n - IntKind.i64.wrap (i + 1)).toNat < (n - i).toNat
   omega
def spoil_t : List A → Nat → Objs → Option CRes
 | [.dq j], nx, o => match lookO j o with
  | some (.deep e .row rows) => bif Nat.beq e 29 then some (2, .v (.tuple #[]), nx, (j, none) :: o, [SpoilR rows]) else none
  | _ => none
 | [.sq i], nx, o => match lookO i o with
  | some (.arr e 2 (.lst [[.v (.string _), .sq q]])) => match lookO q o with
   | some (.arr e' 8 (.ty .cell cells)) => bif Nat.beq e 29 && Nat.beq e' 64 then some (2, .v (.tuple #[]), nx, (q, none) :: (i, none) :: o, [SpoilC cells]) else none
   | _ => none
  | _ => none
 | _, _, _ => none
theorem spoil_tok : TOk Try.prog 19 spoil_t := fun args nx o k x nx' o' ps h => by
 unfold spoil_t at h
 split at h <;> first | (cases h; done) | skip
 ·rename_i j
  split at h <;> first | (cases h; done) | skip
  rename_i e rows hj
  cases hb : Nat.beq e 29 with
  | false => rw [hb] at h; cases h
  | true =>
   rw [hb] at h
   cases h
   obtain rfl := Nat.eq_of_beq_eq_true hb
   refine ⟨fun hp => ?_, [(j, none)], rfl⟩
   refine callOk_eat (spd_c rows (needs_cons (spd_need rows (N0 hp)) needs_nil)) (fun i => if i = j then some 0 else none) (fun _ => j) (fun i i' hi => ?_) [(j, .deep 29 .row rows)] (fun e he => ?_) (fun i ob hi => ?_) ?_
   ·by_cases e : i = j
    ·rw [if_pos e] at hi; cases hi; exact ⟨Nat.zero_lt_one, e.symm⟩
    ·rw [if_neg e] at hi; cases hi
   ·rw [List.mem_singleton.1 he]; exact hj
   ·rw [lookO_cons] at hi
    by_cases e : i = 0
    ·rw [if_pos e] at hi
     cases hi
     subst e
     exact ⟨j, .deep 29 .row rows, if_pos rfl, by unfold subO; rw [lookO_cons, if_pos rfl], rfl⟩
    ·rw [if_neg e] at hi; cases hi
   ·show [A.dq 0] = pkL _ [A.dq j]
    simp [pkL, A.pk]
 ·rename_i i
  split at h <;> first | (cases h; done) | skip
  rename_i e key q hi
  split at h <;> first | (cases h; done) | skip
  rename_i e' cells hq
  cases hb : (Nat.beq e 29 && Nat.beq e' 64) with
  | false => rw [hb] at h; cases h
  | true =>
   rw [hb] at h
   cases h
   rw [Bool.and_eq_true] at hb
   obtain rfl := Nat.eq_of_beq_eq_true hb.1
   obtain rfl := Nat.eq_of_beq_eq_true hb.2
   have hne : i ≠ q := fun e => by subst e; rw [hi] at hq; cases hq
   refine ⟨fun hp => ?_, [(q, none), (i, none)], rfl⟩
   refine callOk_eat (spo_c key cells (needs_cons (spo_need key cells (N0 hp)) needs_nil)) (fun z => if z = q then some 0 else if z = i then some 1 else none) (fun z => if z = 0 then q else i) (fun z z' hz => ?_) [(q, .arr 64 8 (.ty .cell cells)), (i, .arr 29 2 (.lst [[.v (.string key), .sq q]]))] (fun e he => ?_) (fun z ob hz => ?_) ?_
   ·by_cases e : z = q
    ·rw [if_pos e] at hz; cases hz; exact ⟨by omega, e.symm⟩
    ·rw [if_neg e] at hz
     by_cases e' : z = i
     ·rw [if_pos e'] at hz; cases hz; exact ⟨by omega, e'.symm⟩
     ·rw [if_neg e'] at hz; cases hz
   ·rcases List.mem_cons.1 he with rfl | he
    ·exact hq
    ·rw [List.mem_singleton.1 he]; exact hi
   ·rw [lookO_cons, lookO_cons] at hz
    by_cases e : z = 0
    ·rw [if_pos e] at hz
     cases hz
     subst e
     exact ⟨q, .arr 64 8 (.ty .cell cells), if_pos rfl, by unfold subO; rw [lookO_cons, if_pos rfl], rfl⟩
    ·rw [if_neg e] at hz
     by_cases e' : z = 1
     ·rw [if_pos e'] at hz
      cases hz
      subst e'
      refine ⟨i, .arr 29 2 (.lst [[.v (.string key), .sq q]]), by rw [if_neg hne, if_pos rfl], by unfold subO subO; rw [lookO_cons, if_neg hne, lookO_cons, if_pos rfl], ?_⟩
      simp [Ob.pk, Els.pk, pkL, A.pk]
     ·rw [if_neg e'] at hz; cases hz
   ·show [A.sq 1] = pkL _ [A.sq i]
    simp [pkL, A.pk, hne]
noncomputable def Csp : Tab := addC 19 spoil_t Cso6
theorem Csp_ok : COk Try.prog Csp := addC_ok spoil_tok Cso6_ok
end Go.Proofs.Ytnfmceffbnaanaa
namespace Go.Proofs.Ytnfmceffbnaanaa
open Go.RowKit
theorem deep_sl {F : Nat → Prop} {N : Nm} {nx : Nat} {R : World} {i : Nat} {e : TypeId} {c : TC} {l : List (U c)} (hob : ObR F N nx R i (.deep e c l)) : Hv (fun g => F g ∨ foot N i (.deep e c l) g) N nx R (.sl c l) (fam (N.q i) 0) := by
 obtain ⟨col, c', zs, h1, h2, h3, h4, h5⟩ := hob
 have hF : ∀ g, F g → (F g ∨ foot N i (.deep e c l) g) := fun g hg => .inl hg
 have hw : Ext F N nx R (fun g => F g ∨ foot N i (.deep e c l) g) N nx R := Ext.wide hF
 have hin : ∀ k, k < l.length → ∃ l' : List (U c'), (enc c (l.getD k (dflt c)))[col]? = some (.sl c' l') ∧ Hv (fun g => F g ∨ foot N i (.deep e c l) g) N nx R (.sl c' l') (fam (N.q i) (k + 1)) := fun k hk => by
  obtain ⟨l', e', us, k1, k2, k3⟩ := h4 k _ (getD_some hk)
  exact ⟨l', k1, (sl_of_own k2 (fun j hj => (k3 j hj).step hw) (fun g hg => .inr ⟨k + 1, by omega, hg⟩)).1⟩
 have hel : ∀ k, k < l.length → HL (fun g => F g ∨ foot N i (.deep e c l) g) N nx R (enc c (l.getD k (dflt c))) ((zs.drop (k * size c)).take (size c)) := fun k hk => by
  obtain ⟨l', k1, k2⟩ := hin k hk
  have hk3 := (h3 k (l.getD k (dflt c)) (getD_some hk)).step hw
  have go : ∀ (cs : List A) (vs : List Value), (∀ (p : Nat) (c2 : TC) (l2 : List (U c2)), cs[p]? = some (.sl c2 l2) → Hv (fun g => F g ∨ foot N i (.deep e c l) g) N nx R (.sl c2 l2) (fam (N.q i) (k + 1))) → HL (fun g => F g ∨ foot N i (.deep e c l) g) N nx R (encI i k cs) vs → HL (fun g => F g ∨ foot N i (.deep e c l) g) N nx R cs vs := fun cs => by
   induction cs with
   | nil => intro vs _ hh; rw [hh.inv0]; exact HL.nil
   | cons x r ih =>
    intro vs hc hh
    cases x
    case sl c2 l2 =>
     obtain ⟨w, ws, rfl, w1, w2⟩ := hh.inv
     rw [w1.iv_inv.2]
     exact HL.cons (hc 0 c2 l2 rfl) (ih ws (fun p c3 l3 hp => hc (p + 1) c3 l3 hp) w2)
    all_goals
     obtain ⟨w, ws, rfl, w1, w2⟩ := hh.inv
     exact HL.cons w1 (ih ws (fun p c3 l3 hp => hc (p + 1) c3 l3 hp) w2)
  refine go _ _ (fun p c2 l2 hp => ?_) hk3
  obtain rfl := colOf_only h1 _ p c2 l2 hp
  rw [k1] at hp
  cases hp
  exact k2
 have hrow := (sl_of_own h2 hel (fun g hg => .inr ⟨0, by omega, hg⟩)).1
 exact hrow
def rowIn (o : Objs) : A → Option TRow
 | .agg [.v (.string k), .sl .cell cells] => some ⟨k, cells⟩
 | .agg [.v (.string k), .sq q] => match lookO q o with
  | some (.arr _ 8 (.ty .cell cells)) => some ⟨k, cells⟩
  | _ => none
 | _ => none
def rowsIn1 (o : Objs) : A → Option (List TRow)
 | .sl .row l => some l
 | .dq j => match lookO j o with
  | some (.deep _ .row l) => some l
  | _ => none
 | _ => none
section
variable {F : Nat → Prop} {N : Nm} {nx : Nat} {R : World} {o : Objs}
theorem rowIn_ok (hh : HRel F N nx o R) {x : A} {r : TRow} (h : rowIn o x = some r) {v : Value} (hv : Hv F N nx R x v) : Hv (fun g => F g ∨ Foot N o g) N nx R (valA .row r) v := by
 have hw : Ext F N nx R (fun g => F g ∨ Foot N o g) N nx R := Ext.wide fun g hg => .inl hg
 unfold rowIn at h
 split at h <;> first | (cases h; done) | skip
 ·cases h
  exact hv.step hw
 ·rename_i k q
  split at h <;> first | (cases h; done) | skip
  rename_i e cells hq
  cases h
  obtain ⟨vs, rfl, hl⟩ := hv.agg_inv
  obtain ⟨v1, w1, rfl, a1, a2⟩ := hl.inv
  obtain ⟨v2, w2, rfl, a3, a4⟩ := a2.inv
  obtain rfl := a4.inv0
  obtain rfl := a1.v_inv
  obtain ⟨_, zs, g1, g2⟩ := hh.ob q _ hq
  have h3 := (sl_of_own (F' := fun g => F g ∨ Foot N o g) (N := N) (nx := nx) (c := .cell) g1 (fun k hk => (g2 k hk).step hw) (fun g hg => .inr ⟨q, _, hq, hg⟩)).1
  rw [(a3.sq_inv).2]
  show Hv _ N nx R (.agg [.v (.string k), .sl .cell cells]) _
  exact .agg [_, _] rfl fun j x v hx hv => by
   match j, hx, hv with
   | 0, hx, hv => cases hx; cases hv; exact .v _
   | 1, hx, hv => cases hx; cases hv; exact h3
theorem rowsIn1_ok (hh : HRel F N nx o R) {x : A} {r : List TRow} (h : rowsIn1 o x = some r) {v : Value} (hv : Hv F N nx R x v) : Hv (fun g => F g ∨ Foot N o g) N nx R (valA .rows r) v := by
 have hw : Ext F N nx R (fun g => F g ∨ Foot N o g) N nx R := Ext.wide fun g hg => .inl hg
 unfold rowsIn1 at h
 split at h <;> first | (cases h; done) | skip
 ·cases h
  exact hv.step hw
 ·rename_i j
  split at h <;> first | (cases h; done) | skip
  rename_i e l hj
  cases h
  obtain ⟨_, hob⟩ := hh.ob j _ hj
  cases hv with
  | dq _ => exact (deep_sl hob).step (Ext.wide fun g hg => by
    rcases hg with hg | hg
    ·exact .inl hg
    ·exact .inr ⟨j, _, hj, hg⟩)
end
theorem callOk_lend {P : Program} {f : FuncId} {args args' : List A} {k nx1 nx : Nat} {b : Value} {o o1 : Objs} (h : CallOk P f args' nx [] k (.v b) nx1 o1) (hk : k ≤ 1)
  (ha : ∀ (F : Nat → Prop) (N : Nm) (R : World) (vs : List Value), HRel F N nx o R → HL F N nx R args vs → HL (fun g => F g ∨ Foot N o g) N nx R args' vs) : CallOk P f args nx o 1 (.v b) nx o := fun F N R vs hh hl => by
 have hh1 : HRel (fun g => F g ∨ Foot N o g) N nx [] R := ⟨fun g hg => by
   rcases hg with h | ⟨i, ob, hi, hg⟩
   ·exact hh.flt g h
   ·exact (hh.ob i ob hi).2.lt hg, fun i ob hi => (by cases hi), fun i ob g hi => (by cases hi), fun i j x y g hi => (by cases hi), fun x hx => ⟨.inl (hh.gl x hx).1, (hh.gl x hx).2⟩⟩
 refine (h _ N R vs hh1 (ha F N R vs hh hl)).mono fun e R' ⟨y, F', N', e1, _, _, e4, e5⟩ => ?_
 have hb := e5 hk
 exact ⟨y, F, N, e1, (hh.grow hb).1, Step.of_below hb, by rw [e4.v_inv]; exact .v _, fun _ => hb⟩
def same_t : List A → Nat → Objs → Option CRes
 | [x, y], nx, o => match rowIn o x, rowIn o y with
  | some a, some b => some (1, .v (.bool (eqRw a b)), nx, o, [boundP a.cells.length])
  | _, _ => none
 | _, _, _ => none
theorem same_tok : TOk Try.prog 23 same_t := fun args nx o k x nx' o' ps h => by
 unfold same_t at h
 split at h <;> first | (cases h; done) | skip
 rename_i x y
 split at h <;> first | (cases h; done) | skip
 rename_i a b ha hb
 cases h
 refine ⟨fun hp => ?_, [], rfl⟩
 refine callOk_lend (callOk_shift (r10_Same_c2 a b hp) (Nat.le_refl _) (by rfl) nx []) (Nat.le_refl _) fun F N R vs hh hl => ?_
 obtain ⟨v1, w1, rfl, a1, a2⟩ := hl.inv
 obtain ⟨v2, w2, rfl, a3, a4⟩ := a2.inv
 obtain rfl := a4.inv0
 exact HL.cons (rowIn_ok hh ha a1) (HL.cons (rowIn_ok hh hb a3) HL.nil)
def all_t : List A → Nat → Objs → Option CRes
 | [x, y], nx, o => match rowsIn1 o x, rowsIn1 o y with
  | some a, some b => some (1, .v (.bool (eqRs a b)), nx, o, [wideN a.length, ∀ r ∈ a, boundP r.cells.length])
  | _, _ => none
 | _, _, _ => none
theorem all_tok : TOk Try.prog 14 all_t := fun args nx o k x nx' o' ps h => by
 unfold all_t at h
 split at h <;> first | (cases h; done) | skip
 rename_i x y
 split at h <;> first | (cases h; done) | skip
 rename_i a b ha hb
 cases h
 refine ⟨fun hp => ?_, [], rfl⟩
 refine callOk_lend (callOk_shift (r10_All_c2 a b hp) (Nat.le_refl _) (by rfl) nx []) (Nat.le_refl _) fun F N R vs hh hl => ?_
 obtain ⟨v1, w1, rfl, a1, a2⟩ := hl.inv
 obtain ⟨v2, w2, rfl, a3, a4⟩ := a2.inv
 obtain rfl := a4.inv0
 exact HL.cons (rowsIn1_ok hh ha a1) (HL.cons (rowsIn1_ok hh hb a3) HL.nil)
noncomputable def Cln : Tab := addC 23 same_t (addC 14 all_t Csp)
theorem Cln_ok : COk Try.prog Cln := addC_ok same_tok (addC_ok all_tok Csp_ok)
end Go.Proofs.Ytnfmceffbnaanaa
namespace Go.Proofs.Ytnfmceffbnaanaa
open Go.RowKit
noncomputable def Csos_1 := addC 29 (inl (envT Cln L0) 20 29) Cln
theorem Csos_1_ok : COk Try.prog Csos_1 := addC_ok (inl_ok (envP_ok Cln_ok L0_ok) 20 29) Cln_ok
abbrev sto_l0_X : Type := (List TRow) × Bool × Int × ByteArray × (List TCell) × (List TRow)
def sto_l0_T (x : sto_l0_X) : St := ⟨54, 4, [(0, .sl .row x.1), (3, .own 1 0), (5, .sq 3), (6, .v (.bool x.2.1)), (7, .v (.int .i64 x.2.2.1))], [(1, some (.box 29 [.v (.string x.2.2.2.1), .sq 0])), (0, some (.arr 64 8 (.ty .cell x.2.2.2.2.1))), (3, some (.arr 29 2 (.ty .row x.2.2.2.2.2)))]⟩
def sto_l0_un : St → Option sto_l0_X
 | ⟨54, 4, [(0, .sl .row z0), (3, .own 1 0), (5, .sq 3), (6, .v (.bool z1)), (7, .v (.int .i64 z2))], [(1, some (.box 29 [.v (.string z3), .sq 0])), (0, some (.arr 64 8 (.ty .cell z4))), (3, some (.arr 29 2 (.ty .row z5)))]⟩ => some (z0, z1, z2, z3, z4, z5)
 | _ => none
theorem sto_l0_unok : ∀ s x, sto_l0_un s = some x → s = sto_l0_T x := fun s x h => by
 unfold sto_l0_un at h
 split at h
 ·cases h; rfl
 ·cases h
def sto_l0_S : Shape := ⟨3, 4, [0, 3, 5, 6, 7], [], [(1, 1), (0, 0), (10, 3)], [1, 0, 10], [5, 6], [3, 1, 0]⟩
def sto_l0_E : Entry := ⟨[.nil 5 29 .row], [(1, 1), (0, 0), (2, 3)], [0, 3, 5, 6, 7], [1, 0, 2]⟩
def sto_l0_f_k2 (a0 : List TRow) (_a1 : Bool) (a2 : Int) (_a3 : ByteArray) (_a4 : List TCell) (_a5 : List TRow) : Bool := !!decide (a2 < (↑a0.length : Int))
def sto_l0_f_k1 (a0 : List TRow) (a1 : Bool) (a2 : Int) (a3 : ByteArray) (_a4 : List TCell) (_a5 : List TRow) : Bool := !(a0.getD a2.toNat (dflt TC.row)).1.toList == (bif !a1 && !Op.bytesLess (a0.getD a2.toNat (dflt TC.row)).1.toList a3.toList then a3 else a3).toList
def sto_l0_f_k0 (a0 : List TRow) (a1 : Bool) (a2 : Int) (a3 : ByteArray) (a4 : List TCell) (a5 : List TRow) : List TRow := bif !a1 && !Op.bytesLess (a0.getD a2.toNat (dflt TC.row)).1.toList a3.toList then a5 ++ [TRow.mk a3 ([] ++ a4)] else a5
def sto_l0_f_1 (a0 : List TRow) (a1 : Bool) (a2 : Int) (a3 : ByteArray) (_a4 : List TCell) (_a5 : List TRow) : Bool := bif !a1 && !Op.bytesLess (a0.getD a2.toNat (dflt TC.row)).1.toList a3.toList then true else a1
def sto_l0_f_3 (a0 : List TRow) (a1 : Bool) (a2 : Int) (a3 : ByteArray) (_a4 : List TCell) (_a5 : List TRow) : ByteArray := bif !a1 && !Op.bytesLess (a0.getD a2.toNat (dflt TC.row)).1.toList a3.toList then a3 else a3
def sto_l0_f_4 (a0 : List TRow) (a1 : Bool) (a2 : Int) (a3 : ByteArray) (a4 : List TCell) (_a5 : List TRow) : List TCell := bif !a1 && !Op.bytesLess (a0.getD a2.toNat (dflt TC.row)).1.toList a3.toList then a4 else a4
def sto_l0_f_5 (a0 : List TRow) (a1 : Bool) (a2 : Int) (a3 : ByteArray) (a4 : List TCell) (a5 : List TRow) : List TRow := bif (sto_l0_f_k1 a0 a1 a2 a3 a4 a5) then (sto_l0_f_k0 a0 a1 a2 a3 a4 a5) ++ [a0.getD a2.toNat (dflt TC.row)] else (sto_l0_f_k0 a0 a1 a2 a3 a4 a5)
def sto_l0_next (x : sto_l0_X) : sto_l0_X := (x.1, sto_l0_f_1 x.1 x.2.1 x.2.2.1 x.2.2.2.1 x.2.2.2.2.1 x.2.2.2.2.2, IntKind.i64.wrap (x.2.2.1 + (1 : Int)), sto_l0_f_3 x.1 x.2.1 x.2.2.1 x.2.2.2.1 x.2.2.2.2.1 x.2.2.2.2.2, sto_l0_f_4 x.1 x.2.1 x.2.2.1 x.2.2.2.1 x.2.2.2.2.1 x.2.2.2.2.2, sto_l0_f_5 x.1 x.2.1 x.2.2.1 x.2.2.2.1 x.2.2.2.2.1 x.2.2.2.2.2)
def sto_l0_goes (x : sto_l0_X) : Cnd := some ((sto_l0_f_k2 x.1 x.2.1 x.2.2.1 x.2.2.2.1 x.2.2.2.2.1 x.2.2.2.2.2))
def sto_l0_psA (x : sto_l0_X) : List Prop := [((sto_l0_f_k2 x.1 x.2.1 x.2.2.1 x.2.2.2.1 x.2.2.2.2.1 x.2.2.2.2.2) = true → (!x.2.1) = true → (0 : Int) ≤ x.2.2.1 ∧ x.2.2.1 < (↑x.1.length : Int)), ((sto_l0_f_k2 x.1 x.2.1 x.2.2.1 x.2.2.2.1 x.2.2.2.2.1 x.2.2.2.2.2) = true → (!x.2.1 && !Op.bytesLess (x.1.getD x.2.2.1.toNat (dflt TC.row)).1.toList x.2.2.2.1.toList) = true → boundP ((0 : Nat) + x.2.2.2.2.1.length)), ((sto_l0_f_k2 x.1 x.2.1 x.2.2.1 x.2.2.2.1 x.2.2.2.2.1 x.2.2.2.2.2) = true → (!x.2.1 && !Op.bytesLess (x.1.getD x.2.2.1.toNat (dflt TC.row)).1.toList x.2.2.2.1.toList) = true → boundP (x.2.2.2.2.2.length + (1 : Nat))), ((sto_l0_f_k2 x.1 x.2.1 x.2.2.1 x.2.2.2.1 x.2.2.2.2.1 x.2.2.2.2.2) = true → (0 : Int) ≤ x.2.2.1 ∧ x.2.2.1 < (↑x.1.length : Int)), ((sto_l0_f_k2 x.1 x.2.1 x.2.2.1 x.2.2.2.1 x.2.2.2.2.1 x.2.2.2.2.2) = true → (sto_l0_f_k1 x.1 x.2.1 x.2.2.1 x.2.2.2.1 x.2.2.2.2.1 x.2.2.2.2.2) = true → (0 : Int) ≤ x.2.2.1 ∧ x.2.2.1 < (↑x.1.length : Int)), ((sto_l0_f_k2 x.1 x.2.1 x.2.2.1 x.2.2.2.1 x.2.2.2.2.1 x.2.2.2.2.2) = true → (sto_l0_f_k1 x.1 x.2.1 x.2.2.1 x.2.2.2.1 x.2.2.2.2.1 x.2.2.2.2.2) = true → boundP ((sto_l0_f_k0 x.1 x.2.1 x.2.2.1 x.2.2.2.1 x.2.2.2.2.1 x.2.2.2.2.2).length + (1 : Nat)))]
abbrev sto_l0_ps : sto_l0_X → List Prop := sto_l0_psA
def sto_l0_outs (x : sto_l0_X) : Outs := [(some 0, some (!decide (x.2.2.1 < (↑x.1.length : Int))), ⟨54, 4, [(5, .sq 3), (6, .v (.bool x.2.1))], [(3, some (.arr 29 2 (.ty .row x.2.2.2.2.2))), (1, some (.box 29 [.v (.string x.2.2.2.1), .sq 0])), (0, some (.arr 64 8 (.ty .cell x.2.2.2.2.1)))]⟩)]
def sto_l0_fuel (x : sto_l0_X) : Nat := ((↑x.1.length : Int) - x.2.2.1).toNat
def sto_l0_run (x : sto_l0_X) : sto_l0_X := iterX sto_l0_next sto_l0_goes (sto_l0_fuel x) x
theorem sto_l0_ev (a0 : List TRow) (a1 : Bool) (a2 : Int) (a3 : ByteArray) (a4 : List TCell) (a5 : List TRow) : roundE (envT Csos_1 L0) 9 (loopAt Try.prog 18 0) sto_l0_S (sto_l0_T (a0, a1, a2, a3, a4, a5)) = some (sto_l0_psA (a0, a1, a2, a3, a4, a5), sto_l0_outs (a0, a1, a2, a3, a4, a5), sto_l0_goes (a0, a1, a2, a3, a4, a5), sto_l0_T (sto_l0_next (a0, a1, a2, a3, a4, a5))) := by kernel_rfl
theorem sto_l0_hA (a0 : List TRow) (a1 : Bool) (a2 : Int) (a3 : ByteArray) (a4 : List TCell) (a5 : List TRow) (hp : ∀ p ∈ sto_l0_ps (a0, a1, a2, a3, a4, a5), p) : ∀ p ∈ sto_l0_psA (a0, a1, a2, a3, a4, a5), p := hp
noncomputable def sto_l0_row := rowL (envT Csos_1 L0) (loopAt Try.prog 18 0) sto_l0_S sto_l0_E sto_l0_un sto_l0_fuel sto_l0_next sto_l0_goes sto_l0_ps sto_l0_outs
theorem sto_l0_rok : ∀ s b ps outs, sto_l0_row s = some (b, ps, outs) → Wf s ⟨ps, outs, none⟩ ∧ LoopOk (envT C0 L0) b s ps outs :=
 rowP_ok (T := sto_l0_T) Csos_1_ok L0_ok (u := 9) (by kernel_rfl) (by decide) (fun ⟨a0, a1, a2, a3, a4, a5⟩ => sto_l0_ev a0 a1 a2 a3 a4 a5) (fun ⟨a0, a1, a2, a3, a4, a5⟩ => sto_l0_hA a0 a1 a2 a3 a4 a5) sto_l0_unok (fun _ => okOuts_ok (n := 54) rfl) fun _ _ => rfl
noncomputable def sto_l0_L := addLp 0 sto_l0_row L0
theorem sto_l0_Lok : LpOk sto_l0_L := addLp_ok sto_l0_rok L0_ok
def sto_k3 (a0 : List TRow) (a1 : ByteArray) (a2 : List TCell) : Bool := !(sto_l0_run (a0, false, (0 : Int), a1, a2, [])).snd.fst
def sto_k2 (a0 : List TRow) (a1 : ByteArray) (a2 : List TCell) : List TCell := (sto_l0_run (a0, false, (0 : Int), a1, a2, [])).snd.snd.snd.snd.fst
def sto_k1 (a0 : List TRow) (a1 : ByteArray) (a2 : List TCell) : List TRow := (sto_l0_run (a0, false, (0 : Int), a1, a2, [])).snd.snd.snd.snd.snd
def sto_k0 (a0 : List TRow) (a1 : ByteArray) (a2 : List TCell) : List TCell := bif (sto_k3 a0 a1 a2) then (sto_k2 a0 a1 a2) else (sto_k2 a0 a1 a2)
def sto_0 (a0 : List TRow) (a1 : ByteArray) (a2 : List TCell) : List TRow := bif (sto_k3 a0 a1 a2) then (sto_k1 a0 a1 a2) ++ [TRow.mk (sto_l0_run (a0, false, (0 : Int), a1, a2, [])).snd.snd.snd.fst ([] ++ (sto_k2 a0 a1 a2))] else (sto_k1 a0 a1 a2)
def sto_1 (a0 : List TRow) (a1 : ByteArray) (a2 : List TCell) : List TCell := (sto_k0 a0 a1 a2)
def sto_2 (a0 : List TRow) (a1 : ByteArray) (a2 : List TCell) : List TCell := (sto_k0 a0 a1 a2)
def sto_3 (a0 : List TRow) (a1 : ByteArray) (a2 : List TCell) : List TCell := (sto_k0 a0 a1 a2)
def sto_4 (a0 : List TRow) (a1 : ByteArray) (a2 : List TCell) : List TCell := (sto_k0 a0 a1 a2)
def sto_5 (a0 : List TRow) (a1 : ByteArray) (a2 : List TCell) : List TCell := (sto_k0 a0 a1 a2)
def sto_r (_a0 : List TRow) (_a1 : ByteArray) (_a2 : List TCell) : A := .sq 1
def sto_o (a0 : List TRow) (a1 : ByteArray) (a2 : List TCell) : Objs := [(1, some (.arr 29 2 (.ty .row (sto_0 a0 a1 a2)))), (0, some (.arr 64 8 (.ty .cell (sto_1 a0 a1 a2)))), (0, some (.arr 64 8 (.ty .cell (sto_2 a0 a1 a2)))), (0, some (.arr 64 8 (.ty .cell (sto_3 a0 a1 a2)))), (0, some (.arr 64 8 (.ty .cell (sto_4 a0 a1 a2)))), (0, some (.arr 64 8 (.ty .cell (sto_5 a0 a1 a2)))), (0, some (.arr 64 8 (.ty .cell a2)))]
def sto_ps (a0 : List TRow) (a1 : ByteArray) (a2 : List TCell) : List Prop := [(needX sto_l0_next sto_l0_goes sto_l0_ps (sto_l0_fuel (a0, false, (0 : Int), a1, a2, [])) (a0, false, (0 : Int), a1, a2, [])), ((sto_k3 a0 a1 a2) = true → boundP ((0 : Nat) + (sto_k2 a0 a1 a2).length)), ((sto_k3 a0 a1 a2) = true → boundP ((sto_k1 a0 a1 a2).length + (1 : Nat)))]
theorem sto_ev (a0 : List TRow) (a1 : ByteArray) (a2 : List TCell) : evF (envT Csos_1 sto_l0_L) 9 18 [.sl .row a0, .agg [.v (.string a1), .sq 0]] 1 [(0, some (.arr 64 8 (.ty .cell a2)))] = some (2, sto_r a0 a1 a2, 2, sto_o a0 a1 a2, [(loopAt Try.prog (18 : FuncId) (0 : Nat) = loopAt Try.prog (18 : FuncId) (0 : Nat)), (needX sto_l0_next sto_l0_goes sto_l0_ps (sto_l0_fuel (a0, false, (0 : Int), a1, a2, [])) (a0, false, (0 : Int), a1, a2, [])), ((sto_k3 a0 a1 a2) = true → boundP ((0 : Nat) + (sto_k2 a0 a1 a2).length)), ((sto_k3 a0 a1 a2) = true → boundP ((sto_k1 a0 a1 a2).length + (1 : Nat)))]) := by kernel_rfl
theorem sto_c (a0 : List TRow) (a1 : ByteArray) (a2 : List TCell) (hp : ∀ p ∈ sto_ps a0 a1 a2, p) : CallOk Try.prog 18 [.sl .row a0, .agg [.v (.string a1), .sq 0]] 1 [(0, some (.arr 64 8 (.ty .cell a2)))] 2 (sto_r a0 a1 a2) 2 (sto_o a0 a1 a2) := by
 have n1 := N0 hp
 have n2 := N0 (N1 hp)
 have n3 := N0 (N1 (N1 hp))
 exact evF_ok (envP_ok Csos_1_ok sto_l0_Lok) (sto_ev a0 a1 a2) (needs_cons rfl (needs_cons n1 (needs_cons n2 (needs_cons n3 needs_nil))))
end Go.Proofs.Ytnfmceffbnaanaa
namespace Go.Proofs.Ytnfmceffbnaanaa
open Go.RowKit
theorem sto_eq (rows : List TRow) (r : TRow) (hb : rows.length ≤ 400000) (hc : boundP r.cells.length) (hs : SortR rows) : (∀ p ∈ sto_ps rows r.key r.cells, p) ∧ sto_0 rows r.key r.cells = setR rows r ∧ sto_k0 rows r.key r.cells = r.cells := by
 have hlt : ∀ i : Nat, Op.bytesLess (rows.getD ((i : Int)).toNat (dflt TC.row)).1.toList r.key.toList = ltS (rowN rows i).key r.key := fun i => by rw [Int.toNat_natCast]; rfl
 have same : ∀ (c : Bool) (x : ByteArray), (bif c then x else x) = x := fun c x => by cases c <;> rfl
 have sameC : ∀ (c : Bool) (x : List TCell), (bif c then x else x) = x := fun c x => by cases c <;> rfl
 have er : (TRow.mk r.key ([] ++ r.cells)) = r := rfl
 have e1 : ∀ (i : Nat) (d : Bool) (o : List TRow), sto_l0_f_1 rows d (i : Int) r.key r.cells o = (d || !ltS (rowN rows i).key r.key) := fun i d o => by
  unfold sto_l0_f_1
  rw [hlt]
  cases d <;> cases ltS (rowN rows i).key r.key <;> rfl
 have ek0 : ∀ (i : Nat) (d : Bool) (o : List TRow), sto_l0_f_k0 rows d (i : Int) r.key r.cells o = bif !d && !ltS (rowN rows i).key r.key then o ++ [r] else o := fun i d o => by
  unfold sto_l0_f_k0
  rw [hlt]
  rfl
 have ek1 : ∀ (i : Nat) (d : Bool) (o : List TRow), sto_l0_f_k1 rows d (i : Int) r.key r.cells o = !((rowN rows i).key == r.key) := fun i d o => by
  unfold sto_l0_f_k1
  rw [same, tlb, Int.toNat_natCast]
  rfl
 have e5 : ∀ (i : Nat) (d : Bool) (o : List TRow), sto_l0_f_5 rows d (i : Int) r.key r.cells o = (bif !d && !ltS (rowN rows i).key r.key then o ++ [r] else o) ++ (bif (rowN rows i).key == r.key then [] else [rowN rows i]) := fun i d o => by
  unfold sto_l0_f_5
  rw [ek0, ek1, Int.toNat_natCast]
  cases (rowN rows i).key == r.key with
  | true => exact (List.append_nil _).symm
  | false => rfl
 have k0len : ∀ (i : Nat) (d : Bool) (o : List TRow), (sto_l0_f_k0 rows d (i : Int) r.key r.cells o).length ≤ o.length + 1 := fun i d o => by
  rw [ek0]
  cases (!d && !ltS (rowN rows i).key r.key) with
  | true => rw [cond_true, List.length_append]; exact Nat.le_refl _
  | false => exact Nat.le_succ _
 obtain ⟨h1, hx⟩ := scanAll (fun i => ((rows, (runS r rows i).2, (i : Int), r.key, r.cells, (runS r rows i).1) : sto_l0_X)) rows.length sto_l0_next sto_l0_goes sto_l0_ps (sto_l0_fuel (rows, false, 0, r.key, r.cells, [])) (rows, false, 0, r.key, r.cells, []) rfl (by show rows.length ≤ ((rows.length : Int) - 0).toNat; omega)
  (fun i _ => by
   show (!!decide ((i : Int) < (rows.length : Int))) = _
   rw [nn, dlt])
  (fun i hi => by
   show (rows, sto_l0_f_1 rows (runS r rows i).2 (i : Int) r.key r.cells (runS r rows i).1, IntKind.i64.wrap ((i : Int) + 1), sto_l0_f_3 rows (runS r rows i).2 (i : Int) r.key r.cells (runS r rows i).1, sto_l0_f_4 rows (runS r rows i).2 (i : Int) r.key r.cells (runS r rows i).1, sto_l0_f_5 rows (runS r rows i).2 (i : Int) r.key r.cells (runS r rows i).1) = _
   unfold sto_l0_f_3 sto_l0_f_4
   rw [same, sameC, wsucc (by omega), e1, e5, runS_succ r rows i hi]
   rfl)
  (fun i hi => by
   have hin : (!!decide ((i : Int) < (rows.length : Int))) = true → (i : Int) < (rows.length : Int) := fun h => by rw [nn] at h; exact of_decide_eq_true h
   have hl := runS_len r rows i hi
   refine needs_cons (fun h _ => ⟨by show (0 : Int) ≤ (i : Int); omega, hin h⟩) (needs_cons (fun _ _ => ?_) (needs_cons (fun _ _ => ?_) (needs_cons (fun h => ⟨by show (0 : Int) ≤ (i : Int); omega, hin h⟩) (needs_cons (fun h _ => ⟨by show (0 : Int) ≤ (i : Int); omega, hin h⟩) (needs_cons (fun _ _ => ?_) needs_nil)))))
   ·show boundP (0 + r.cells.length)
    rw [Nat.zero_add]
    exact hc
   ·show boundP ((runS r rows i).1.length + 1)
    unfold boundP
    omega
   ·have := k0len i (runS r rows i).2 (runS r rows i).1
    show boundP ((sto_l0_f_k0 rows (runS r rows i).2 (i : Int) r.key r.cells (runS r rows i).1).length + 1)
    unfold boundP
    omega)
 have hr : sto_l0_run (rows, false, 0, r.key, r.cells, []) = (rows, (runS r rows rows.length).2, (rows.length : Int), r.key, r.cells, (runS r rows rows.length).1) := hx
 have hl := runS_len r rows rows.length (Nat.le_refl _)
 refine ⟨needs_cons h1 (needs_cons (fun _ => ?_) (needs_cons (fun _ => ?_) needs_nil)), ?_, ?_⟩
 ·unfold sto_k2
  rw [hr, Nat.zero_add]
  exact hc
 ·unfold sto_k1
  rw [hr]
  show boundP ((runS r rows rows.length).1.length + 1)
  unfold boundP
  omega
 ·rw [← set_fin r hs]
  unfold sto_0 sto_k3 sto_k1 sto_k2 finS
  rw [hr]
  show (bif !(runS r rows rows.length).2 then (runS r rows rows.length).1 ++ [r] else (runS r rows rows.length).1) = _
  cases (runS r rows rows.length).2 <;> rfl
 ·unfold sto_k0 sto_k2
  rw [hr, sameC]
theorem callOk_keep {P : Program} {f : FuncId} {args args0 : List A} {e e0 : TypeId} {c c0 : TC} {l : List (U c)} {l0 : List (U c0)} {sz k nx nx1 q : Nat} {o o1 : Objs} (h : CallOk P f args0 1 [(0, some (.arr e0 sz (.ty c0 l0)))] k (.sq 1) nx1 o1) (h1 : lookO 1 o1 = some (.arr e (size c) (.ty c l))) (h0 : lookO 0 o1 = some (.arr e0 sz (.ty c0 l0)))
  (hq : lookO q o = some (.arr e0 sz (.ty c0 l0))) (ha : args0 = pkL (fun i => if i = q then some 0 else none) args) : CallOk P f args nx o 2 (.sl c l) nx o := fun F N R vs hh hl => by
 let ob : Ob := .arr e0 sz (.ty c0 l0)
 have one : ∀ {i : Nat} {x : Ob}, lookO i [(q, some ob)] = some x → i = q ∧ x = ob := fun {i x} hi => by
  rw [lookO_cons] at hi
  by_cases e : i = q
  ·rw [if_pos e] at hi; cases hi; exact ⟨e, rfl⟩
  ·rw [if_neg e] at hi; cases hi
 have hsub : ∀ i x, lookO i [(q, some ob)] = some x → lookO i o = some x := fun i x hi => by obtain ⟨rfl, rfl⟩ := one hi; exact hq
 obtain ⟨hqn, _⟩ := hh.ob q _ hq
 let N0 : Nm := ⟨fun _ => N.b q, fun _ => N.q q⟩
 have st : Pk (fun i => if i = q then some 0 else none) N nx N0 1 := fun i j _ hj => by
  by_cases e : i = q
  ·have hj' : (if i = q then some 0 else none) = some j := hj
   rw [if_pos e] at hj'; cases hj'; subst e; exact ⟨Nat.zero_lt_one, rfl, rfl⟩
  ·have hj' : (if i = q then some 0 else none) = some j := hj
   rw [if_neg e] at hj'; cases hj'
 obtain ⟨g1, g2⟩ := (hh.weak hsub).pk (o' := [(0, some ob)]) st fun j x hj => by
  rw [lookO_cons] at hj
  by_cases e : j = 0
  ·rw [if_pos e] at hj
   cases hj
   subst e
   exact ⟨q, ob, if_pos rfl, by rw [lookO_cons, if_pos rfl], rfl⟩
  ·rw [if_neg e] at hj; cases hj
 refine (h F N0 R vs g1 (by rw [ha]; exact hl.pk st)).mono fun e' R' ⟨y, F', N', e1, e2, e3, e4, _⟩ => ?_
 obtain ⟨_, rfl⟩ := e4.sq_inv
 have hb : N'.b 0 = N.b q := e3.b 0 Nat.zero_lt_one
 have hqq : N'.q 0 = N.q q := e3.q 0 Nat.zero_lt_one
 have hob1 := e2.ob 1 _ h1
 obtain ⟨_, zs, r1, r2⟩ := id hob1
 let F2 : Nat → Prop := fun g => F' g ∨ blkOf (N'.q 1) = some g
 have hw : Ext F' N' nx1 R' F2 N' nx1 R' := Ext.wide fun g hg => .inl hg
 have hv : Hv F2 N' nx1 R' (.sl c l) (N'.q 1) := (sl_of_own (F' := F2) (N := N') (nx := nx1) r1 (fun k hk => (r2 k hk).step hw) (fun g hg => .inr hg)).1
 obtain ⟨h0n, hob0⟩ := e2.ob 0 _ h0
 have st2 : Pk (fun i => if i = 0 then some q else none) N' nx1 N nx := fun i j _ hj => by
  by_cases e : i = 0
  ·have hj' : (if i = 0 then some q else none) = some j := hj
   rw [if_pos e] at hj'; cases hj'; subst e; exact ⟨hqn, hb.symm, hqq.symm⟩
  ·have hj' : (if i = 0 then some q else none) = some j := hj
   rw [if_neg e] at hj'; cases hj'
 have hobq : ObR F' N nx R' q ob := hob0.pk st2 h0n (if_pos rfl)
 have st1 : Step F N nx [(q, some ob)] R F2 N nx [(q, some ob)] R' := ⟨Nat.le_refl _, fun _ _ => rfl, fun _ _ => rfl, fun g hg => .inl (e3.f g hg), fun g hg => by
   rcases hg with hg | hg
   ·rcases e3.fnew g hg with z | z | z
    ·exact .inl z
    ·exact .inr (.inl (g2 g z))
    ·exact .inr (.inr z)
   ·rcases e3.foot g ⟨1, _, h1, hg⟩ with z | z
    ·exact .inr (.inl (g2 g z))
    ·exact .inr (.inr z), fun g hg => .inl hg, e3.os, e3.tape, e3.output, e3.size, fun g hg hn => e3.keep g hg fun hf => hn (g2 g hf)⟩
 have hp : HRel F2 N nx [(q, some ob)] R' := ⟨fun g hg => by
   rcases hg with hg | hg
   ·exact e2.flt g hg
   ·exact hob1.2.lt hg, fun i x hi => by
   obtain ⟨rfl, rfl⟩ := one hi
   exact ⟨hqn, hobq.step (Ext.wide fun g hg => .inl hg) hqn fun _ _ => rfl⟩, fun i x g hi hg hF => by
   obtain ⟨rfl, rfl⟩ := one hi
   have hg0 : foot N' 0 ob g := by show blkOf (N'.q 0) = some g; rw [hqq]; exact hg
   rcases hF with hF | hF
   ·exact e2.ff 0 _ g h0 hg0 hF
   ·exact absurd (e2.sep 0 1 _ _ g h0 h1 hg0 hF) (by decide), fun i j x y g hi hj _ _ => by rw [(one hi).1, (one hj).1], fun x hx => ⟨.inl (e2.gl x hx).1, (e2.gl x hx).2⟩⟩
 obtain ⟨q1, q2⟩ := hh.frame (o1 := [(q, some ob)]) (o' := o) hsub st1 hp fun i x hi => by
  by_cases e : i = q
  ·subst e
   rw [hq] at hi
   cases hi
   exact .inl (by rw [lookO_cons, if_pos rfl])
  ·exact .inr ⟨hi, by rw [lookO_cons, if_neg e]; rfl⟩
 exact ⟨_, F2, N, e1, q1, q2, hv.free rfl, fun hk => by omega⟩
def rset_t : List A → Nat → Objs → Option CRes
 | [.sl .row rows, .agg [.v (.string key), .sq q]], nx, o => match lookO q o with
  | some (.arr e 8 (.ty .cell cells)) => bif Nat.beq e 64 then some (2, .sl .row (setR rows ⟨key, cells⟩), nx, o, [rows.length ≤ 400000 ∧ boundP cells.length ∧ SortR rows]) else none
  | _ => none
 | _, _, _ => none
theorem rset_tok : TOk Try.prog 18 rset_t := fun args nx o k x nx' o' ps h => by
 unfold rset_t at h
 split at h <;> first | (cases h; done) | skip
 rename_i rows key q
 split at h <;> first | (cases h; done) | skip
 rename_i e cells hq
 cases hb : Nat.beq e 64 with
 | false => rw [hb] at h; cases h
 | true =>
  rw [hb] at h
  cases h
  obtain rfl := Nat.eq_of_beq_eq_true hb
  refine ⟨fun hp => ?_, [], rfl⟩
  obtain ⟨h1, h2, h3⟩ := N0 hp
  obtain ⟨g1, g2, g3⟩ := sto_eq rows ⟨key, cells⟩ h1 h2 h3
  have hc := sto_c rows key cells g1
  unfold sto_r sto_o sto_1 sto_2 sto_3 sto_4 sto_5 at hc
  have g2' : sto_0 rows key cells = setR rows ⟨key, cells⟩ := g2
  have g3' : sto_k0 rows key cells = cells := g3
  rw [g2', g3'] at hc
  exact callOk_keep (c := .row) hc rfl rfl hq (by simp [pkL, A.pk])
noncomputable def Csz : Tab := addC 18 rset_t Cln
theorem Csz_ok : COk Try.prog Csz := addC_ok rset_tok Cln_ok
end Go.Proofs.Ytnfmceffbnaanaa
namespace Go.Proofs.Ytnfmceffbnaanaa
open Go.RowKit
def mcell_0 (a0 : List TCell) : List TCell := [] ++ a0
def mcell_r (_a0 : List TCell) : A := .sq 0
def mcell_o (a0 : List TCell) : Objs := [(0, some (.arr 64 8 (.ty .cell (mcell_0 a0))))]
def mcell_ps (a0 : List TCell) : List Prop := [(boundP ((0 : Nat) + a0.length))]
theorem mcell_ev (a0 : List TCell) : evF (envT Csz L0) 9 28 [valA .cells a0] 0 [] = some (1, mcell_r a0, 1, mcell_o a0, mcell_ps a0) := by kernel_rfl
theorem mcell_c (a0 : List TCell) (hp : ∀ p ∈ mcell_ps a0, p) : CallOk Try.prog 28 [valA .cells a0] 0 [] 1 (mcell_r a0) 1 (mcell_o a0) := evF_ok (envP_ok Csz_ok L0_ok) (mcell_ev a0) hp
def mcell_t : List A → Nat → Objs → Option CRes := rowK [.t .cells] 1 mcell_r mcell_o mcell_ps
theorem mcell_tok : TOk Try.prog 28 mcell_t := rowK_ok (ks := [.t .cells]) mcell_c
end Go.Proofs.Ytnfmceffbnaanaa
namespace Go.Proofs.Ytnfmceffbnaanaa
open Go.RowKit
theorem callOk_lendn {P : Program} {f : FuncId} {args args' : List A} {k m nx : Nat} {x : A} {os o : Objs} (h : CallOk P f args' 0 [] k x m os) (hk : k ≤ 1) (hf : freeL args' = true) (hx : nof (x.pk (shiftR nx)) = true) (ho : nofOs (shiftO nx os) = true)
  (ha : ∀ (F : Nat → Prop) (N : Nm) (R : World) (vs : List Value), HRel F N nx o R → HL F N nx R args vs → HL (fun g => F g ∨ Foot N o g) N nx R args' vs) : CallOk P f args nx o 1 (x.pk (shiftR nx)) (nx + m) (shiftO nx os ++ o) := fun F N R vs hh hl => by
 have hh1 : HRel (fun g => F g ∨ Foot N o g) N nx [] R := ⟨fun g hg => by
   rcases hg with h | ⟨i, ob, hi, hg⟩
   ·exact hh.flt g h
   ·exact (hh.ob i ob hi).2.lt hg, fun i ob hi => (by cases hi), fun i ob g hi => (by cases hi), fun i j x y g hi => (by cases hi), fun x hx => ⟨.inl (hh.gl x hx).1, (hh.gl x hx).2⟩⟩
 refine (callOk_shift h hk hf nx [] _ N R vs hh1 (ha F N R vs hh hl)).mono fun e R' ⟨y, F', N', q1, q2, q3, q4, q5⟩ => ?_
 have hb := q5 (Nat.le_refl _)
 rw [List.append_nil] at q2 q3
 have ex : Ext F N nx R F N' (nx + m) R' := ⟨q3.le, q3.b, q3.q, fun _ h => h, fun g hg => hb.block g (hh.flt g hg)⟩
 have new : ∀ {g}, Foot N' (shiftO nx os) g → R.heap.size ≤ g := fun {g} hg => by
  rcases q3.foot g hg with ⟨i, ob, hi, _⟩ | h
  ·cases hi
  ·exact h
 have old : ∀ {i ob}, lookO i o = some ob → i < nx ∧ ObR F N' (nx + m) R' i ob ∧ ∀ g, foot N' i ob g → foot N i ob g ∧ g < R.heap.size := fun {i ob} hi => by
  obtain ⟨w1, w2⟩ := hh.ob i ob hi
  refine ⟨w1, w2.step ex w1 fun g hg => hb.block g (w2.lt hg), fun g hg => ?_⟩
  have := (foot_step ex w1).1 hg
  exact ⟨this, w2.lt this⟩
 refine ⟨y, F, N', q1, ⟨fun g hg => Nat.lt_of_lt_of_le (hh.flt g hg) hb.size, fun i ob hi => ?_, fun i ob g hi hg hF => ?_, fun i j x y g hi hj hx hy => ?_, fun x hx => ⟨(hh.gl x hx).1, by rw [hb.block _ (hh.flt _ (hh.gl x hx).1)]; exact (hh.gl x hx).2⟩⟩, ⟨q3.le, q3.b, q3.q, fun _ h => h, fun g h => .inl h, fun g hg => ?_, hb.os, hb.tape, hb.output, hb.size, fun g hg _ => hb.block g hg⟩, q4.nof hx, fun _ => hb⟩
 ·rcases lookO_split hi with ⟨_, w⟩ | ⟨_, w⟩
  ·obtain ⟨w1, w2⟩ := q2.ob i ob w
   exact ⟨w1, w2.nof (nofOs_get ho w)⟩
  ·obtain ⟨w1, w2, _⟩ := old w
   exact ⟨Nat.lt_of_lt_of_le w1 q3.le, w2⟩
 ·rcases lookO_split hi with ⟨_, w⟩ | ⟨_, w⟩
  ·have := new ⟨i, ob, w, hg⟩
   have := hh.flt g hF
   omega
  ·exact hh.ff i ob g w ((old w).2.2 g hg).1 hF
 ·rcases lookO_split hi with ⟨_, w⟩ | ⟨_, w⟩ <;> rcases lookO_split hj with ⟨_, w'⟩ | ⟨_, w'⟩
  ·exact q2.sep i j x y g w w' hx hy
  ·have h1 := new ⟨i, x, w, hx⟩
   have h2 := ((old w').2.2 g hy).2
   omega
  ·have h1 := new ⟨j, y, w', hy⟩
   have h2 := ((old w).2.2 g hx).2
   omega
  ·exact hh.sep i j x y g w w' ((old w).2.2 g hx).1 ((old w').2.2 g hy).1
 ·obtain ⟨i, ob, hi, hg⟩ := hg
  rcases lookO_split hi with ⟨_, w⟩ | ⟨_, w⟩
  ·exact .inr (new ⟨i, ob, w, hg⟩)
  ·exact .inl ⟨i, ob, w, ((old w).2.2 g hg).1⟩
def cells_t : List A → Nat → Objs → Option CRes
 | [.sq q], nx, o => match lookO q o with
  | some (.arr _ 8 els) => match elsTy .cell els with
   | some (l, ps) => some (1, .sq nx, nx + 1, (nx, some (.arr 64 8 (.ty .cell l))) :: o, boundP l.length :: ps)
   | none => none
  | _ => none
 | _, _, _ => none
theorem cells_tok : TOk Try.prog 28 cells_t := fun args nx o k x nx' o' ps h => by
 unfold cells_t at h
 split at h <;> first | (cases h; done) | skip
 rename_i q
 split at h <;> first | (cases h; done) | skip
 rename_i e els hq
 split at h <;> first | (cases h; done) | skip
 rename_i l qs hty
 cases h
 refine ⟨fun hp => ?_, [_], rfl⟩
 have hc := mcell_c l (needs_cons (by rw [Nat.zero_add]; exact N0 hp) needs_nil)
 refine callOk_lendn (m := 1) (x := .sq 0) (os := [(0, some (.arr 64 8 (.ty .cell l)))]) hc (Nat.le_refl _) rfl rfl rfl fun F N R vs hh hl => ?_
 obtain ⟨v, w, rfl, a1, a2⟩ := hl.inv
 obtain rfl := a2.inv0
 refine HL.cons ?_ HL.nil
 have hw : Ext F N nx R (fun g => F g ∨ Foot N o g) N nx R := Ext.wide fun g hg => .inl hg
 obtain ⟨_, zs, g1, g2⟩ := hh.ob q _ hq
 obtain ⟨n1, n2⟩ := elsTy_ok (F := F) (N := N) (nx := nx) (R := R) hty (N1 hp)
 rw [← n1] at g1 g2 n2
 have h3 := (sl_of_own (F' := fun g => F g ∨ Foot N o g) (N := N) (nx := nx) (c := .cell) g1 (fun k hk => (n2 k hk _ (g2 k hk)).step hw) (fun g hg => .inr ⟨q, _, hq, by show blkOf (N.q q) = some g; exact hg⟩)).1
 rw [(a1.sq_inv).2]
 exact h3
noncomputable def Ccl : Tab := addC 28 (orT cells_t mcell_t) Csz
theorem Ccl_ok : COk Try.prog Ccl := addC_ok (orT_ok cells_tok mcell_tok) Csz_ok
end Go.Proofs.Ytnfmceffbnaanaa
namespace Go.Proofs.Ytnfmceffbnaanaa
open Go.RowKit
def noneR_t : List A → Nat → Objs → Option CRes
 | [.ref [.ref [.sl .block _, .v (.int .i64 _)]]], nx, o => some (1, .v (.bool false), nx, o, [])
 | _, _, _ => none
theorem noneR_tok : TOk Try.prog 26 noneR_t := fun args nx o k x nx' o' ps h => by
 unfold noneR_t at h
 split at h <;> first | (cases h; done) | skip
 rename_i bs n
 cases h
 refine ⟨fun _ => ?_, [], rfl⟩
 have h3 := callOk_frame (o := o) (callOk_shift (mnone_c bs n (fun p hp => (nomatch hp))) (Nat.le_refl _) (by rfl) nx []) (Nat.le_refl _)
 exact fun F N R vs hh ha => (h3 F N R vs hh ha).mono fun e R' ⟨y, F', N', e1, e2, e3, e4, e5⟩ => by
  obtain rfl := e4.v_inv
  exact ⟨_, F', N', e1, e2, e3, .v _, e5⟩
noncomputable def Cco : Tab := addC 26 noneR_t Ccl
theorem Cco_ok : COk Try.prog Cco := addC_ok noneR_tok Ccl_ok
end Go.Proofs.Ytnfmceffbnaanaa
namespace Go.Proofs.Ytnfmceffbnaanaa
open Go.RowKit
abbrev mcopy_l2_X : Type := (List ByteArray) × Int × Int × TBlock × (List TRow)
def mcopy_l2_T (x : mcopy_l2_X) : St := ⟨46, 5, [(3, .own 0 0), (5, .own 3 0), (24, .sl .str x.1), (25, .v (.int .i64 x.2.1)), (26, .v (.int .i64 x.2.2.1))], [(0, some (.box 56 [.dq 4])), (3, some (.box 75 [.sl .str x.2.2.2.1.keys, .sl .cells x.2.2.2.1.vals])), (4, some (.abs 0 .row x.2.2.2.2))]⟩
def mcopy_l2_un : St → Option mcopy_l2_X
 | ⟨46, 5, [(3, .own 0 0), (5, .own 3 0), (24, .sl .str z0), (25, .v (.int .i64 z1)), (26, .v (.int .i64 z2))], [(0, some (.box 56 [.dq 4])), (3, some (.box 75 [.sl .str z3, .sl .cells z4])), (4, some (.abs 0 .row z5))]⟩ => some (z0, z1, z2, ⟨z3, z4⟩, z5)
 | _ => none
theorem mcopy_l2_unok : ∀ s x, mcopy_l2_un s = some x → s = mcopy_l2_T x := fun s x h => by
 unfold mcopy_l2_un at h
 split at h
 ·cases h; rfl
 ·cases h
def mcopy_l2_S : Shape := ⟨4, 5, [3, 5, 24, 25, 26], [], [(0, 0), (3, 3), (6, 4)], [0, 3, 6], [], [0, 4, 3]⟩
def mcopy_l2_E : Entry := ⟨[], [(0, 0), (3, 3), (2, 4)], [3, 5, 24, 25, 26], [0, 3, 2]⟩
def mcopy_l2_f_4 (a0 : List ByteArray) (_a1 : Int) (a2 : Int) (a3 : TBlock) (a4 : List TRow) : List TRow := setR a4 (TRow.mk (a0.getD a2.toNat (dflt TC.str)) (mcell_0 (a3.2.getD a2.toNat (dflt TC.cells))))
def mcopy_l2_next (x : mcopy_l2_X) : mcopy_l2_X := (x.1, x.2.1, IntKind.i64.wrap (x.2.2.1 + (1 : Int)), x.2.2.2.1, mcopy_l2_f_4 x.1 x.2.1 x.2.2.1 x.2.2.2.1 x.2.2.2.2)
def mcopy_l2_goes (x : mcopy_l2_X) : Cnd := some (!!decide (x.2.2.1 < x.2.1))
def mcopy_l2_psA (x : mcopy_l2_X) : List Prop := [((!!decide (x.2.2.1 < x.2.1)) = true → (0 : Int) ≤ x.2.2.1 ∧ x.2.2.1 < (↑x.1.length : Int)), ((!!decide (x.2.2.1 < x.2.1)) = true → (0 : Int) ≤ x.2.2.1 ∧ x.2.2.1 < (↑x.2.2.2.1.2.length : Int)), ((!!decide (x.2.2.1 < x.2.1)) = true → boundP ((0 : Nat) + List.length (x.2.2.2.1.2.getD x.2.2.1.toNat (dflt TC.cells)))), ((!!decide (x.2.2.1 < x.2.1)) = true → FewR x.2.2.2.2)]
abbrev mcopy_l2_ps : mcopy_l2_X → List Prop := mcopy_l2_psA
def mcopy_l2_outs (x : mcopy_l2_X) : Outs := [(some 2, some (!decide (x.2.2.1 < x.2.1)), ⟨46, 5, [], [(0, some (.box 56 [.dq 4])), (4, some (.abs 0 .row x.2.2.2.2)), (3, some (.box 75 [.sl .str x.2.2.2.1.1, .sl .cells x.2.2.2.1.2]))]⟩)]
def mcopy_l2_fuel (x : mcopy_l2_X) : Nat := (x.2.1 - x.2.2.1).toNat
def mcopy_l2_run (x : mcopy_l2_X) : mcopy_l2_X := iterX mcopy_l2_next mcopy_l2_goes (mcopy_l2_fuel x) x
theorem mcopy_l2_ev (a0 : List ByteArray) (a1 : Int) (a2 : Int) (a3 : TBlock) (a4 : List TRow) : roundE (envT Cco L0) 9 (loopAt Try.prog 25 2) mcopy_l2_S (mcopy_l2_T (a0, a1, a2, a3, a4)) = some (mcopy_l2_psA (a0, a1, a2, a3, a4), mcopy_l2_outs (a0, a1, a2, a3, a4), mcopy_l2_goes (a0, a1, a2, a3, a4), mcopy_l2_T (mcopy_l2_next (a0, a1, a2, a3, a4))) := by kernel_rfl
theorem mcopy_l2_hA (a0 : List ByteArray) (a1 : Int) (a2 : Int) (a3 : TBlock) (a4 : List TRow) (hp : ∀ p ∈ mcopy_l2_ps (a0, a1, a2, a3, a4), p) : ∀ p ∈ mcopy_l2_psA (a0, a1, a2, a3, a4), p := hp
noncomputable def mcopy_l2_row := rowL (envT Cco L0) (loopAt Try.prog 25 2) mcopy_l2_S mcopy_l2_E mcopy_l2_un mcopy_l2_fuel mcopy_l2_next mcopy_l2_goes mcopy_l2_ps mcopy_l2_outs
theorem mcopy_l2_rok : ∀ s b ps outs, mcopy_l2_row s = some (b, ps, outs) → Wf s ⟨ps, outs, none⟩ ∧ LoopOk (envT C0 L0) b s ps outs :=
 rowP_ok (T := mcopy_l2_T) Cco_ok L0_ok (u := 9) (by kernel_rfl) (by decide) (fun ⟨a0, a1, a2, a3, a4⟩ => mcopy_l2_ev a0 a1 a2 a3 a4) (fun ⟨a0, a1, a2, a3, a4⟩ => mcopy_l2_hA a0 a1 a2 a3 a4) mcopy_l2_unok (fun _ => okOuts_ok (n := 46) rfl) fun _ _ => rfl
noncomputable def mcopy_l2_L := addLp 2 mcopy_l2_row L0
theorem mcopy_l2_Lok : LpOk mcopy_l2_L := addLp_ok mcopy_l2_rok L0_ok
abbrev mcopy_l0_X : Type := (List TBlock) × Int × Int × (List TRow)
def mcopy_l0_T (x : mcopy_l0_X) : St := ⟨46, 3, [(3, .own 0 0), (17, .sl .block x.1), (18, .v (.int .i64 x.2.1)), (19, .v (.int .i64 x.2.2.1))], [(0, some (.box 56 [.dq 2])), (2, some (.abs 0 .row x.2.2.2))]⟩
def mcopy_l0_un : St → Option mcopy_l0_X
 | ⟨46, 3, [(3, .own 0 0), (17, .sl .block z0), (18, .v (.int .i64 z1)), (19, .v (.int .i64 z2))], [(0, some (.box 56 [.dq 2])), (2, some (.abs 0 .row z3))]⟩ => some (z0, z1, z2, z3)
 | _ => none
theorem mcopy_l0_unok : ∀ s x, mcopy_l0_un s = some x → s = mcopy_l0_T x := fun s x h => by
 unfold mcopy_l0_un at h
 split at h
 ·cases h; rfl
 ·cases h
def mcopy_l0_S : Shape := ⟨2, 3, [3, 17, 18, 19], [], [(0, 0), (4, 2)], [0, 4], [], [0, 2]⟩
def mcopy_l0_E : Entry := ⟨[], [(0, 0), (1, 2)], [3, 17, 18, 19], [0, 1]⟩
def mcopy_l0_f_3 (a0 : List TBlock) (_a1 : Int) (a2 : Int) (a3 : List TRow) : List TRow := (mcopy_l2_run ((a0.getD a2.toNat (dflt TC.block)).1, (↑(a0.getD a2.toNat (dflt TC.block)).1.length : Int), (0 : Int), a0.getD a2.toNat (dflt TC.block), a3)).snd.snd.snd.snd
def mcopy_l0_next (x : mcopy_l0_X) : mcopy_l0_X := (x.1, x.2.1, IntKind.i64.wrap (x.2.2.1 + (1 : Int)), mcopy_l0_f_3 x.1 x.2.1 x.2.2.1 x.2.2.2)
def mcopy_l0_goes (x : mcopy_l0_X) : Cnd := some (!!decide (x.2.2.1 < x.2.1))
def mcopy_l0_psA (x : mcopy_l0_X) : List Prop := [((!!decide (x.2.2.1 < x.2.1)) = true → (0 : Int) ≤ x.2.2.1 ∧ x.2.2.1 < (↑x.1.length : Int)), ((!!decide (x.2.2.1 < x.2.1)) = true → loopAt Try.prog (25 : FuncId) (2 : Nat) = loopAt Try.prog (25 : FuncId) (2 : Nat)), ((!!decide (x.2.2.1 < x.2.1)) = true → needX mcopy_l2_next mcopy_l2_goes mcopy_l2_ps (mcopy_l2_fuel ((x.1.getD x.2.2.1.toNat (dflt TC.block)).1, (↑(x.1.getD x.2.2.1.toNat (dflt TC.block)).1.length : Int), (0 : Int), x.1.getD x.2.2.1.toNat (dflt TC.block), x.2.2.2)) ((x.1.getD x.2.2.1.toNat (dflt TC.block)).1, (↑(x.1.getD x.2.2.1.toNat (dflt TC.block)).1.length : Int), (0 : Int), x.1.getD x.2.2.1.toNat (dflt TC.block), x.2.2.2))]
def mcopy_l0_ps (x : mcopy_l0_X) : List Prop := [((!!decide (x.2.2.1 < x.2.1)) = true → (0 : Int) ≤ x.2.2.1 ∧ x.2.2.1 < (↑x.1.length : Int)), ((!!decide (x.2.2.1 < x.2.1)) = true → needX mcopy_l2_next mcopy_l2_goes mcopy_l2_ps (mcopy_l2_fuel ((x.1.getD x.2.2.1.toNat (dflt TC.block)).1, (↑(x.1.getD x.2.2.1.toNat (dflt TC.block)).1.length : Int), (0 : Int), x.1.getD x.2.2.1.toNat (dflt TC.block), x.2.2.2)) ((x.1.getD x.2.2.1.toNat (dflt TC.block)).1, (↑(x.1.getD x.2.2.1.toNat (dflt TC.block)).1.length : Int), (0 : Int), x.1.getD x.2.2.1.toNat (dflt TC.block), x.2.2.2))]
def mcopy_l0_outs (x : mcopy_l0_X) : Outs := [(some 0, some (!decide (x.2.2.1 < x.2.1)), ⟨46, 3, [], [(0, some (.box 56 [.dq 2])), (2, some (.abs 0 .row x.2.2.2))]⟩)]
def mcopy_l0_fuel (x : mcopy_l0_X) : Nat := (x.2.1 - x.2.2.1).toNat
def mcopy_l0_run (x : mcopy_l0_X) : mcopy_l0_X := iterX mcopy_l0_next mcopy_l0_goes (mcopy_l0_fuel x) x
theorem mcopy_l0_ev (a0 : List TBlock) (a1 : Int) (a2 : Int) (a3 : List TRow) : roundE (envT Cco mcopy_l2_L) 9 (loopAt Try.prog 25 0) mcopy_l0_S (mcopy_l0_T (a0, a1, a2, a3)) = some (mcopy_l0_psA (a0, a1, a2, a3), mcopy_l0_outs (a0, a1, a2, a3), mcopy_l0_goes (a0, a1, a2, a3), mcopy_l0_T (mcopy_l0_next (a0, a1, a2, a3))) := by kernel_rfl
theorem mcopy_l0_hA (a0 : List TBlock) (a1 : Int) (a2 : Int) (a3 : List TRow) (hp : ∀ p ∈ mcopy_l0_ps (a0, a1, a2, a3), p) : ∀ p ∈ mcopy_l0_psA (a0, a1, a2, a3), p := by
 have n0 := N0 hp
 have n1 : ((!!decide (a2 < a1)) = true → loopAt Try.prog (25 : FuncId) (2 : Nat) = loopAt Try.prog (25 : FuncId) (2 : Nat)) := by intros; rfl
 have n2 := N0 (N1 hp)
 exact (needs_cons n0 (needs_cons n1 (needs_cons n2 needs_nil)))
noncomputable def mcopy_l0_row := rowL (envT Cco mcopy_l2_L) (loopAt Try.prog 25 0) mcopy_l0_S mcopy_l0_E mcopy_l0_un mcopy_l0_fuel mcopy_l0_next mcopy_l0_goes mcopy_l0_ps mcopy_l0_outs
theorem mcopy_l0_rok : ∀ s b ps outs, mcopy_l0_row s = some (b, ps, outs) → Wf s ⟨ps, outs, none⟩ ∧ LoopOk (envT C0 L0) b s ps outs :=
 rowP_ok (T := mcopy_l0_T) Cco_ok mcopy_l2_Lok (u := 9) (by kernel_rfl) (by decide) (fun ⟨a0, a1, a2, a3⟩ => mcopy_l0_ev a0 a1 a2 a3) (fun ⟨a0, a1, a2, a3⟩ => mcopy_l0_hA a0 a1 a2 a3) mcopy_l0_unok (fun _ => okOuts_ok (n := 46) rfl) fun _ _ => rfl
noncomputable def mcopy_l0_L := addLp 0 mcopy_l0_row mcopy_l2_L
theorem mcopy_l0_Lok : LpOk mcopy_l0_L := addLp_ok mcopy_l0_rok mcopy_l2_Lok
def mcopy_0 (a0 : List TBlock) (_a1 : Int) : List TRow := (mcopy_l0_run (a0, (↑a0.length : Int), (0 : Int), [])).snd.snd.snd
def mcopy_r (_a0 : List TBlock) (_a1 : Int) : A := .own 0 0
def mcopy_o (a0 : List TBlock) (a1 : Int) : Objs := [(0, some (.box 56 [.dq 1])), (1, some (.abs 0 .row (mcopy_0 a0 a1)))]
def mcopy_ps (a0 : List TBlock) (_a1 : Int) : List Prop := [(needX mcopy_l0_next mcopy_l0_goes mcopy_l0_ps (mcopy_l0_fuel (a0, (↑a0.length : Int), (0 : Int), [])) (a0, (↑a0.length : Int), (0 : Int), []))]
theorem mcopy_ev (a0 : List TBlock) (a1 : Int) : evF (envT Cco mcopy_l0_L) 1040 25 [.ref [.ref [.sl .block a0, .v (.int .i64 a1)]]] 0 [] = some (1, mcopy_r a0 a1, 2, mcopy_o a0 a1, [(loopAt Try.prog (25 : FuncId) (0 : Nat) = loopAt Try.prog (25 : FuncId) (0 : Nat)), (needX mcopy_l0_next mcopy_l0_goes mcopy_l0_ps (mcopy_l0_fuel (a0, (↑a0.length : Int), (0 : Int), [])) (a0, (↑a0.length : Int), (0 : Int), []))]) := by kernel_rfl
theorem mcopy_c (a0 : List TBlock) (a1 : Int) (hp : ∀ p ∈ mcopy_ps a0 a1, p) : CallOk Try.prog 25 [.ref [.ref [.sl .block a0, .v (.int .i64 a1)]]] 0 [] 1 (mcopy_r a0 a1) 2 (mcopy_o a0 a1) := by
 have n1 := N0 hp
 exact evF_ok (envP_ok Cco_ok mcopy_l0_Lok) (mcopy_ev a0 a1) (needs_cons rfl (needs_cons n1 needs_nil))
end Go.Proofs.Ytnfmceffbnaanaa
namespace Go.Proofs.Ytnfmceffbnaanaa
open Go.RowKit
theorem setR_end {P : List TRow} {r : TRow} (h : ∀ x ∈ P, kLt x.key r.key = true) : setR P r = P ++ [r] := by
 unfold setR
 rw [filter_all h, List.filter_eq_nil_iff.2 fun x hx => by rw [kLt_asymm (h x hx)]; exact Bool.false_ne_true]
theorem rowsB_get {b : TBlock} (h : b.keys.length = b.vals.length) {j : Nat} (hj : j < b.keys.length) : (rowsB b).getD j (dflt .row) = ⟨b.keys.getD j (dflt .str), b.vals.getD j (dflt .cells)⟩ := by
 have := congrArg List.head? (rowsB_drop h hj)
 rw [List.head?_drop] at this
 rw [List.getD_eq_getElem?_getD, this]
 rfl
theorem cp_l2 {b : TBlock} (hb : b.keys.length = b.vals.length) {P : List TRow} (hs : SortR (P ++ rowsB b)) (hf : FewR (P ++ rowsB b)) (hc : ∀ r ∈ rowsB b, boundP r.cells.length) :
  needX mcopy_l2_next mcopy_l2_goes mcopy_l2_ps (mcopy_l2_fuel (b.keys, (b.keys.length : Int), 0, b, P)) (b.keys, (b.keys.length : Int), 0, b, P) ∧ mcopy_l2_run (b.keys, (b.keys.length : Int), 0, b, P) = (b.keys, (b.keys.length : Int), (b.keys.length : Int), b, P ++ rowsB b) := by
 have hlen := rowsB_len hb
 unfold FewR at hf
 rw [List.length_append, hlen] at hf
 obtain ⟨h1, hx⟩ := scanAll (fun i => ((b.keys, (b.keys.length : Int), (i : Int), b, P ++ (rowsB b).take i) : mcopy_l2_X)) b.keys.length mcopy_l2_next mcopy_l2_goes mcopy_l2_ps (mcopy_l2_fuel (b.keys, (b.keys.length : Int), 0, b, P)) (b.keys, (b.keys.length : Int), 0, b, P)
  (by rw [List.take_zero, List.append_nil]; rfl) (by show b.keys.length ≤ ((b.keys.length : Int) - 0).toNat; omega)
  (fun i _ => by
   show (!!decide ((i : Int) < (b.keys.length : Int))) = _
   rw [nn, dlt])
  (fun i hi => by
   have hr := rowsB_get hb hi
   have hm : (rowsB b).getD i (dflt .row) ∈ (rowsB b).drop i := by
    rw [rowsB_drop hb hi, hr]
    exact List.mem_cons_self ..
   have e : (rowsB b).take (i + 1) = (rowsB b).take i ++ [(rowsB b).getD i (dflt .row)] := take_get _ _ i (by omega)
   have ha : ∀ x ∈ P ++ (rowsB b).take i, kLt x.key ((rowsB b).getD i (dflt .row)).key = true := fun x hx => by
    have hs' : SortR ((P ++ (rowsB b).take i) ++ (rowsB b).drop i) := by rw [List.append_assoc, List.take_append_drop]; exact hs
    exact (List.pairwise_append.1 hs').2.2 x hx _ hm
   show (b.keys, (b.keys.length : Int), IntKind.i64.wrap ((i : Int) + 1), b, mcopy_l2_f_4 b.keys (b.keys.length : Int) (i : Int) b (P ++ (rowsB b).take i)) = _
   unfold mcopy_l2_f_4
   rw [Int.toNat_natCast, wsucc (by omega)]
   have e2 : (TRow.mk (b.keys.getD i (dflt TC.str)) (mcell_0 (b.2.getD i (dflt TC.cells)))) = (rowsB b).getD i (dflt .row) := by rw [hr]; rfl
   rw [e2, setR_end ha, List.append_assoc, ← e])
  (fun i hi => by
   have hin : (!!decide ((i : Int) < (b.keys.length : Int))) = true → i < b.keys.length := fun h => by rw [nn, dlt] at h; exact of_decide_eq_true h
   refine needs_cons (fun h => ?_) (needs_cons (fun h => ?_) (needs_cons (fun h => ?_) (needs_cons (fun h => ?_) needs_nil)))
   ·have := hin h
    show (0 : Int) ≤ (i : Int) ∧ (i : Int) < (b.keys.length : Int)
    omega
   ·have := hin h
    show (0 : Int) ≤ (i : Int) ∧ (i : Int) < (b.vals.length : Int)
    omega
   ·show boundP (0 + (b.2.getD ((i : Int)).toNat (dflt TC.cells)).length)
    rw [Int.toNat_natCast, Nat.zero_add]
    have hi' := hin h
    have := hc _ (getD_in (rowsB b) (dflt .row) i (by omega))
    rw [rowsB_get hb hi'] at this
    exact this
   ·show (P ++ (rowsB b).take i).length ≤ 1099511627775
    rw [List.length_append, List.length_take]
    omega)
 refine ⟨h1, ?_⟩
 have hr : mcopy_l2_run (b.keys, (b.keys.length : Int), 0, b, P) = _ := hx
 rw [hr, List.take_of_length_le (by omega)]
theorem rowsOf_take (bs : List TBlock) (i : Nat) (h : i < bs.length) : rowsOf (bs.take (i + 1)) = rowsOf (bs.take i) ++ rowsB (bs.getD i (dflt .block)) := by
 rw [take_get bs (dflt .block) i h, rowsOf_app]
 congr 1
 show rowsB _ ++ [] = _
 exact List.append_nil _
theorem mapcopy_ok {bs : List TBlock} (h : GoodB bs) (hp : ScanP (rowsOf bs)) (n : Int) : CallOk Try.prog 25 [.ref [.ref [.sl .block bs, .v (.int .i64 n)]]] 0 [] 1 (.own 0 0) 2 [(0, some (.box 56 [.dq 1])), (1, some (.abs 0 .row (rowsOf bs)))] := by
 obtain ⟨hl, hc⟩ := hp
 have hlen := rowsOf_len h.len
 have hl' : (rowsOf bs).length ≤ 549755813888 := hl
 have part : ∀ i : Nat, i < bs.length → SortR (rowsOf (bs.take i) ++ rowsB (bs.getD i (dflt .block))) ∧ FewR (rowsOf (bs.take i) ++ rowsB (bs.getD i (dflt .block))) ∧ ∀ r ∈ rowsB (bs.getD i (dflt .block)), boundP r.cells.length := fun i hi => by
  have e : rowsOf bs = rowsOf (bs.take i) ++ rowsB (bs.getD i (dflt .block)) ++ rowsOf (bs.drop (i + 1)) := by
   rw [← rowsOf_take bs i hi, ← rowsOf_app, List.take_append_drop]
  have hs := good_sort h
  rw [e] at hs hl' hc
  rw [List.length_append] at hl'
  exact ⟨(List.pairwise_append.1 hs).1, by unfold FewR; omega, fun r hr => hc r (List.mem_append.2 (.inl (List.mem_append.2 (.inr hr))))⟩
 have inner : ∀ i : Nat, i < bs.length → _ := fun i hi => cp_l2 (P := rowsOf (bs.take i)) ((h.len _ (getD_in bs (dflt .block) i hi)).1) (part i hi).1 (part i hi).2.1 (part i hi).2.2
 obtain ⟨h1, hx⟩ := scanAll (fun i => ((bs, (bs.length : Int), (i : Int), rowsOf (bs.take i)) : mcopy_l0_X)) bs.length mcopy_l0_next mcopy_l0_goes mcopy_l0_ps (mcopy_l0_fuel (bs, (bs.length : Int), 0, [])) (bs, (bs.length : Int), 0, [])
  (by rw [List.take_zero]; rfl) (by show bs.length ≤ ((bs.length : Int) - 0).toNat; omega)
  (fun i _ => by
   show (!!decide ((i : Int) < (bs.length : Int))) = _
   rw [nn, dlt])
  (fun i hi => by
   show (bs, (bs.length : Int), IntKind.i64.wrap ((i : Int) + 1), mcopy_l0_f_3 bs (bs.length : Int) (i : Int) (rowsOf (bs.take i))) = _
   unfold mcopy_l0_f_3
   rw [Int.toNat_natCast, wsucc (by omega)]
   have := (inner i hi).2
   show (bs, _, _, (mcopy_l2_run ((bs.getD i (dflt .block)).keys, (((bs.getD i (dflt .block)).keys).length : Int), 0, bs.getD i (dflt .block), rowsOf (bs.take i))).snd.snd.snd.snd) = _
   rw [this, rowsOf_take bs i hi])
  (fun i hi => by
   have hin : (!!decide ((i : Int) < (bs.length : Int))) = true → i < bs.length := fun h => by rw [nn, dlt] at h; exact of_decide_eq_true h
   refine needs_cons (fun h => ?_) (needs_cons (fun h => ?_) needs_nil)
   ·have := hin h
    show (0 : Int) ≤ (i : Int) ∧ (i : Int) < (bs.length : Int)
    omega
   ·have := (inner i (hin h)).1
    have e : ((i : Int)).toNat = i := Int.toNat_natCast i
    show needX mcopy_l2_next mcopy_l2_goes mcopy_l2_ps (mcopy_l2_fuel ((bs.getD ((i : Int)).toNat (dflt .block)).keys, (((bs.getD ((i : Int)).toNat (dflt .block)).keys).length : Int), 0, bs.getD ((i : Int)).toNat (dflt .block), rowsOf (bs.take i))) ((bs.getD ((i : Int)).toNat (dflt .block)).keys, (((bs.getD ((i : Int)).toNat (dflt .block)).keys).length : Int), 0, bs.getD ((i : Int)).toNat (dflt .block), rowsOf (bs.take i))
    rw [e]
    exact this)
 have hr : mcopy_l0_run (bs, (bs.length : Int), 0, []) = _ := hx
 have hc2 := mcopy_c bs n (needs_cons h1 needs_nil)
 have e0 : mcopy_0 bs n = rowsOf bs := by
  unfold mcopy_0
  rw [hr, List.take_length]
 unfold mcopy_r mcopy_o at hc2
 rw [e0] at hc2
 exact hc2
def copy_t : List A → Nat → Objs → Option CRes
 | [.own i off], nx, o => match mapOf [.own i off] o with
  | some rows => some (1, .own nx 0, nx + 2, (nx, some (.box 56 [.dq (nx + 1)])) :: (nx + 1, some (.abs 0 .row rows)) :: o, [ScanP rows])
  | none => none
 | _, _, _ => none
theorem copy_tok : TOk Try.prog 25 copy_t := fun args nx o k x nx' o' ps h => by
 unfold copy_t at h
 split at h <;> first | (cases h; done) | skip
 split at h <;> first | (cases h; done) | skip
 rename_i rows hm
 cases h
 obtain ⟨rfl, t, j, hi, hj⟩ := mapOf_ok hm
 refine ⟨fun hps => ?_, [_, _], rfl⟩
 exact callOk_abs (m := 2) (args := []) (x := .own 0 0) (os := [(0, some (.box 56 [.dq 1])), (1, some (.abs 0 .row rows))]) (fun bs hg hr => by subst hr; exact mapcopy_ok hg (N0 hps) _) (Nat.le_refl _) rfl rfl rfl hi hj
noncomputable def Ccq : Tab := addC 25 copy_t Ccl
theorem Ccq_ok : COk Try.prog Ccq := addC_ok copy_tok Ccl_ok
end Go.Proofs.Ytnfmceffbnaanaa
namespace Go.Proofs.Ytnfmceffbnaanaa
open Go.RowKit
noncomputable def Csod_1 := addC 11 (inl (envT Ccq L0) 20 11) Ccq
theorem Csod_1_ok : COk Try.prog Csod_1 := addC_ok (inl_ok (envP_ok Ccq_ok L0_ok) 20 11) Ccq_ok
noncomputable def Csod_2 := addC 21 (inl (envT Csod_1 L0) 20 21) Csod_1
theorem Csod_2_ok : COk Try.prog Csod_2 := addC_ok (inl_ok (envP_ok Csod_1_ok L0_ok) 20 21) Csod_1_ok
abbrev l11_SortedApart_l0_X : Type := (List TAct) × Int × Int × (List TRow)
def l11_SortedApart_l0_T (x : l11_SortedApart_l0_X) : St := ⟨107, 3, [(5, .own 0 0), (27, .sl .act x.1), (28, .v (.int .i64 x.2.1)), (29, .v (.int .i64 x.2.2.1))], [(0, some (.box 56 [.dq 2])), (2, some (.abs 0 .row x.2.2.2))]⟩
def l11_SortedApart_l0_un : St → Option l11_SortedApart_l0_X
 | ⟨107, 3, [(5, .own 0 0), (27, .sl .act z0), (28, .v (.int .i64 z1)), (29, .v (.int .i64 z2))], [(0, some (.box 56 [.dq 2])), (2, some (.abs 0 .row z3))]⟩ => some (z0, z1, z2, z3)
 | _ => none
theorem l11_SortedApart_l0_unok : ∀ s x, l11_SortedApart_l0_un s = some x → s = l11_SortedApart_l0_T x := fun s x h => by
 unfold l11_SortedApart_l0_un at h
 split at h
 ·cases h; rfl
 ·cases h
def l11_SortedApart_l0_S : Shape := ⟨2, 3, [5, 27, 28, 29], [], [(0, 0), (5, 2)], [0, 5], [], [0, 2]⟩
def l11_SortedApart_l0_E : Entry := ⟨[], [(0, 0), (1, 2)], [5, 27, 28, 29], [0, 1]⟩
def l11_SortedApart_l0_f_k1 (a0 : List TAct) (_a1 : Int) (a2 : Int) (_a3 : List TRow) : Bool := (bif (a0.getD a2.toNat (dflt TC.act)).1 == (4 : Int) then (a0.getD a2.toNat (dflt TC.act)).2.1 else (a0.getD a2.toNat (dflt TC.act)).2.1).toList == (ByteArray.mk #[]).toList
def l11_SortedApart_l0_f_k0 (a0 : List TAct) (_a1 : Int) (a2 : Int) (_a3 : List TRow) : List TCell := bif (a0.getD a2.toNat (dflt TC.act)).1 == (4 : Int) then [TCell.mk (TStamp.mk (0 : Int) (0 : Int)) (TVec.mk (0 : Int) (0 : Int)) false (a0.getD a2.toNat (dflt TC.act)).3 (TVec.mk (0 : Int) (0 : Int))] else r10_Copy_1 (a0.getD a2.toNat (dflt TC.act)).2
def l11_SortedApart_l0_f_3 (a0 : List TAct) (a1 : Int) (a2 : Int) (a3 : List TRow) : List TRow := bif (l11_SortedApart_l0_f_k1 a0 a1 a2 a3) then a3 else setR a3 (TRow.mk (bif (a0.getD a2.toNat (dflt TC.act)).1 == (4 : Int) then (a0.getD a2.toNat (dflt TC.act)).2.1 else (a0.getD a2.toNat (dflt TC.act)).2.1) (l11_SortedApart_l0_f_k0 a0 a1 a2 a3))
def l11_SortedApart_l0_next (x : l11_SortedApart_l0_X) : l11_SortedApart_l0_X := (x.1, x.2.1, IntKind.i64.wrap (x.2.2.1 + (1 : Int)), l11_SortedApart_l0_f_3 x.1 x.2.1 x.2.2.1 x.2.2.2)
def l11_SortedApart_l0_goes (x : l11_SortedApart_l0_X) : Cnd := some (!!decide (x.2.2.1 < x.2.1))
def l11_SortedApart_l0_psA (x : l11_SortedApart_l0_X) : List Prop := [((!!decide (x.2.2.1 < x.2.1)) = true → (0 : Int) ≤ x.2.2.1 ∧ x.2.2.1 < (↑x.1.length : Int)), ((!!decide (x.2.2.1 < x.2.1)) = true → boundP ((0 : Nat) + (x.1.getD x.2.2.1.toNat (dflt TC.act)).2.2.length)), ((!!decide (x.2.2.1 < x.2.1)) = true → (!(l11_SortedApart_l0_f_k1 x.1 x.2.1 x.2.2.1 x.2.2.2)) = true → boundP (l11_SortedApart_l0_f_k0 x.1 x.2.1 x.2.2.1 x.2.2.2).length), ((!!decide (x.2.2.1 < x.2.1)) = true → (!(l11_SortedApart_l0_f_k1 x.1 x.2.1 x.2.2.1 x.2.2.2)) = true → FewR x.2.2.2)]
abbrev l11_SortedApart_l0_ps : l11_SortedApart_l0_X → List Prop := l11_SortedApart_l0_psA
def l11_SortedApart_l0_outs (x : l11_SortedApart_l0_X) : Outs := [(some 0, some (!decide (x.2.2.1 < x.2.1)), ⟨107, 3, [], [(0, some (.box 56 [.dq 2])), (2, some (.abs 0 .row x.2.2.2))]⟩)]
def l11_SortedApart_l0_fuel (x : l11_SortedApart_l0_X) : Nat := (x.2.1 - x.2.2.1).toNat
def l11_SortedApart_l0_run (x : l11_SortedApart_l0_X) : l11_SortedApart_l0_X := iterX l11_SortedApart_l0_next l11_SortedApart_l0_goes (l11_SortedApart_l0_fuel x) x
theorem l11_SortedApart_l0_ev (a0 : List TAct) (a1 : Int) (a2 : Int) (a3 : List TRow) : roundE (envT Csod_2 L0) 9 (loopAt Try.prog 6 0) l11_SortedApart_l0_S (l11_SortedApart_l0_T (a0, a1, a2, a3)) = some (l11_SortedApart_l0_psA (a0, a1, a2, a3), l11_SortedApart_l0_outs (a0, a1, a2, a3), l11_SortedApart_l0_goes (a0, a1, a2, a3), l11_SortedApart_l0_T (l11_SortedApart_l0_next (a0, a1, a2, a3))) := by kernel_rfl
theorem l11_SortedApart_l0_hA (a0 : List TAct) (a1 : Int) (a2 : Int) (a3 : List TRow) (hp : ∀ p ∈ l11_SortedApart_l0_ps (a0, a1, a2, a3), p) : ∀ p ∈ l11_SortedApart_l0_psA (a0, a1, a2, a3), p := hp
noncomputable def l11_SortedApart_l0_row := rowL (envT Csod_2 L0) (loopAt Try.prog 6 0) l11_SortedApart_l0_S l11_SortedApart_l0_E l11_SortedApart_l0_un l11_SortedApart_l0_fuel l11_SortedApart_l0_next l11_SortedApart_l0_goes l11_SortedApart_l0_ps l11_SortedApart_l0_outs
theorem l11_SortedApart_l0_rok : ∀ s b ps outs, l11_SortedApart_l0_row s = some (b, ps, outs) → Wf s ⟨ps, outs, none⟩ ∧ LoopOk (envT C0 L0) b s ps outs :=
 rowP_ok (T := l11_SortedApart_l0_T) Csod_2_ok L0_ok (u := 9) (by kernel_rfl) (by decide) (fun ⟨a0, a1, a2, a3⟩ => l11_SortedApart_l0_ev a0 a1 a2 a3) (fun ⟨a0, a1, a2, a3⟩ => l11_SortedApart_l0_hA a0 a1 a2 a3) l11_SortedApart_l0_unok (fun _ => okOuts_ok (n := 107) rfl) fun _ _ => rfl
noncomputable def l11_SortedApart_l0_L := addLp 0 l11_SortedApart_l0_row L0
theorem l11_SortedApart_l0_Lok : LpOk l11_SortedApart_l0_L := addLp_ok l11_SortedApart_l0_rok L0_ok
abbrev l11_SortedApart_l2_X : Type := (List TAct) × Int × Int × (List TRow)
def l11_SortedApart_l2_T (x : l11_SortedApart_l2_X) : St := ⟨107, 8, [(8, .own 3 0), (51, .sl .act x.1), (52, .v (.int .i64 x.2.1)), (53, .v (.int .i64 x.2.2.1))], [(3, some (.box 56 [.dq 7])), (7, some (.abs 0 .row x.2.2.2))]⟩
def l11_SortedApart_l2_un : St → Option l11_SortedApart_l2_X
 | ⟨107, 8, [(8, .own 3 0), (51, .sl .act z0), (52, .v (.int .i64 z1)), (53, .v (.int .i64 z2))], [(3, some (.box 56 [.dq 7])), (7, some (.abs 0 .row z3))]⟩ => some (z0, z1, z2, z3)
 | _ => none
theorem l11_SortedApart_l2_unok : ∀ s x, l11_SortedApart_l2_un s = some x → s = l11_SortedApart_l2_T x := fun s x h => by
 unfold l11_SortedApart_l2_un at h
 split at h
 ·cases h; rfl
 ·cases h
def l11_SortedApart_l2_S : Shape := ⟨7, 8, [8, 51, 52, 53], [], [(3, 3), (11, 7)], [3, 11], [], [3, 7]⟩
def l11_SortedApart_l2_E : Entry := ⟨[], [(3, 3), (4, 7)], [8, 51, 52, 53], [3, 4]⟩
def l11_SortedApart_l2_f_k1 (a0 : List TAct) (_a1 : Int) (a2 : Int) (_a3 : List TRow) : Bool := (bif (a0.getD a2.toNat (dflt TC.act)).1 == (4 : Int) then (a0.getD a2.toNat (dflt TC.act)).2.1 else (a0.getD a2.toNat (dflt TC.act)).2.1).toList == (ByteArray.mk #[]).toList
def l11_SortedApart_l2_f_k0 (a0 : List TAct) (_a1 : Int) (a2 : Int) (_a3 : List TRow) : List TCell := bif (a0.getD a2.toNat (dflt TC.act)).1 == (4 : Int) then [TCell.mk (TStamp.mk (0 : Int) (0 : Int)) (TVec.mk (0 : Int) (0 : Int)) false (a0.getD a2.toNat (dflt TC.act)).3 (TVec.mk (0 : Int) (0 : Int))] else r10_Copy_1 (a0.getD a2.toNat (dflt TC.act)).2
def l11_SortedApart_l2_f_3 (a0 : List TAct) (a1 : Int) (a2 : Int) (a3 : List TRow) : List TRow := bif (a0.getD a2.toNat (dflt TC.act)).1 == (1 : Int) then dropR a3 (a0.getD a2.toNat (dflt TC.act)).2.1 else bif (l11_SortedApart_l2_f_k1 a0 a1 a2 a3) then a3 else setR a3 (TRow.mk (bif (a0.getD a2.toNat (dflt TC.act)).1 == (4 : Int) then (a0.getD a2.toNat (dflt TC.act)).2.1 else (a0.getD a2.toNat (dflt TC.act)).2.1) (l11_SortedApart_l2_f_k0 a0 a1 a2 a3))
def l11_SortedApart_l2_next (x : l11_SortedApart_l2_X) : l11_SortedApart_l2_X := (x.1, x.2.1, IntKind.i64.wrap (x.2.2.1 + (1 : Int)), l11_SortedApart_l2_f_3 x.1 x.2.1 x.2.2.1 x.2.2.2)
def l11_SortedApart_l2_goes (x : l11_SortedApart_l2_X) : Cnd := some (!!decide (x.2.2.1 < x.2.1))
def l11_SortedApart_l2_psA (x : l11_SortedApart_l2_X) : List Prop := [((!!decide (x.2.2.1 < x.2.1)) = true → (0 : Int) ≤ x.2.2.1 ∧ x.2.2.1 < (↑x.1.length : Int)), ((!!decide (x.2.2.1 < x.2.1)) = true → ((x.1.getD x.2.2.1.toNat (dflt TC.act)).1 == (1 : Int)) = true → true = true → FewR x.2.2.2), ((!!decide (x.2.2.1 < x.2.1)) = true → ((x.1.getD x.2.2.1.toNat (dflt TC.act)).1 == (1 : Int)) = true → false = false), ((!!decide (x.2.2.1 < x.2.1)) = true → ((x.1.getD x.2.2.1.toNat (dflt TC.act)).1 == (1 : Int)) = false → boundP ((0 : Nat) + (x.1.getD x.2.2.1.toNat (dflt TC.act)).2.2.length)), ((!!decide (x.2.2.1 < x.2.1)) = true → ((x.1.getD x.2.2.1.toNat (dflt TC.act)).1 == (1 : Int)) = false → (!(l11_SortedApart_l2_f_k1 x.1 x.2.1 x.2.2.1 x.2.2.2)) = true → boundP (l11_SortedApart_l2_f_k0 x.1 x.2.1 x.2.2.1 x.2.2.2).length), ((!!decide (x.2.2.1 < x.2.1)) = true → ((x.1.getD x.2.2.1.toNat (dflt TC.act)).1 == (1 : Int)) = false → (!(l11_SortedApart_l2_f_k1 x.1 x.2.1 x.2.2.1 x.2.2.2)) = true → FewR x.2.2.2)]
def l11_SortedApart_l2_ps (x : l11_SortedApart_l2_X) : List Prop := [((!!decide (x.2.2.1 < x.2.1)) = true → (0 : Int) ≤ x.2.2.1 ∧ x.2.2.1 < (↑x.1.length : Int)), ((!!decide (x.2.2.1 < x.2.1)) = true → ((x.1.getD x.2.2.1.toNat (dflt TC.act)).1 == (1 : Int)) = true → true = true → FewR x.2.2.2), ((!!decide (x.2.2.1 < x.2.1)) = true → ((x.1.getD x.2.2.1.toNat (dflt TC.act)).1 == (1 : Int)) = false → boundP ((0 : Nat) + (x.1.getD x.2.2.1.toNat (dflt TC.act)).2.2.length)), ((!!decide (x.2.2.1 < x.2.1)) = true → ((x.1.getD x.2.2.1.toNat (dflt TC.act)).1 == (1 : Int)) = false → (!(l11_SortedApart_l2_f_k1 x.1 x.2.1 x.2.2.1 x.2.2.2)) = true → boundP (l11_SortedApart_l2_f_k0 x.1 x.2.1 x.2.2.1 x.2.2.2).length), ((!!decide (x.2.2.1 < x.2.1)) = true → ((x.1.getD x.2.2.1.toNat (dflt TC.act)).1 == (1 : Int)) = false → (!(l11_SortedApart_l2_f_k1 x.1 x.2.1 x.2.2.1 x.2.2.2)) = true → FewR x.2.2.2)]
def l11_SortedApart_l2_outs (x : l11_SortedApart_l2_X) : Outs := [(some 2, some (!decide (x.2.2.1 < x.2.1)), ⟨107, 8, [], [(3, some (.box 56 [.dq 7])), (7, some (.abs 0 .row x.2.2.2))]⟩)]
def l11_SortedApart_l2_fuel (x : l11_SortedApart_l2_X) : Nat := (x.2.1 - x.2.2.1).toNat
def l11_SortedApart_l2_run (x : l11_SortedApart_l2_X) : l11_SortedApart_l2_X := iterX l11_SortedApart_l2_next l11_SortedApart_l2_goes (l11_SortedApart_l2_fuel x) x
theorem l11_SortedApart_l2_ev (a0 : List TAct) (a1 : Int) (a2 : Int) (a3 : List TRow) : roundE (envT Csod_2 l11_SortedApart_l0_L) 9 (loopAt Try.prog 6 2) l11_SortedApart_l2_S (l11_SortedApart_l2_T (a0, a1, a2, a3)) = some (l11_SortedApart_l2_psA (a0, a1, a2, a3), l11_SortedApart_l2_outs (a0, a1, a2, a3), l11_SortedApart_l2_goes (a0, a1, a2, a3), l11_SortedApart_l2_T (l11_SortedApart_l2_next (a0, a1, a2, a3))) := by kernel_rfl
theorem l11_SortedApart_l2_hA (a0 : List TAct) (a1 : Int) (a2 : Int) (a3 : List TRow) (hp : ∀ p ∈ l11_SortedApart_l2_ps (a0, a1, a2, a3), p) : ∀ p ∈ l11_SortedApart_l2_psA (a0, a1, a2, a3), p := by
 have n0 := N0 hp
 have n1 := N0 (N1 hp)
 have n2 : ((!!decide (a2 < a1)) = true → ((a0.getD a2.toNat (dflt TC.act)).1 == (1 : Int)) = true → false = false) := by intros; rfl
 have n3 := N0 (N1 (N1 hp))
 have n4 := N0 (N1 (N1 (N1 hp)))
 have n5 := N0 (N1 (N1 (N1 (N1 hp))))
 exact (needs_cons n0 (needs_cons n1 (needs_cons n2 (needs_cons n3 (needs_cons n4 (needs_cons n5 needs_nil))))))
noncomputable def l11_SortedApart_l2_row := rowL (envT Csod_2 l11_SortedApart_l0_L) (loopAt Try.prog 6 2) l11_SortedApart_l2_S l11_SortedApart_l2_E l11_SortedApart_l2_un l11_SortedApart_l2_fuel l11_SortedApart_l2_next l11_SortedApart_l2_goes l11_SortedApart_l2_ps l11_SortedApart_l2_outs
theorem l11_SortedApart_l2_rok : ∀ s b ps outs, l11_SortedApart_l2_row s = some (b, ps, outs) → Wf s ⟨ps, outs, none⟩ ∧ LoopOk (envT C0 L0) b s ps outs :=
 rowP_ok (T := l11_SortedApart_l2_T) Csod_2_ok l11_SortedApart_l0_Lok (u := 9) (by kernel_rfl) (by decide) (fun ⟨a0, a1, a2, a3⟩ => l11_SortedApart_l2_ev a0 a1 a2 a3) (fun ⟨a0, a1, a2, a3⟩ => l11_SortedApart_l2_hA a0 a1 a2 a3) l11_SortedApart_l2_unok (fun _ => okOuts_ok (n := 107) rfl) fun _ _ => rfl
noncomputable def l11_SortedApart_l2_L := addLp 2 l11_SortedApart_l2_row l11_SortedApart_l0_L
theorem l11_SortedApart_l2_Lok : LpOk l11_SortedApart_l2_L := addLp_ok l11_SortedApart_l2_rok l11_SortedApart_l0_Lok
abbrev l11_SortedApart_l4_X : Type := Int × Int × (List TRow) × (List TRow)
def l11_SortedApart_l4_T (x : l11_SortedApart_l4_X) : St := ⟨107, 12, [(5, .own 0 0), (77, .dq 11), (78, .v (.int .i64 x.1)), (79, .v (.int .i64 x.2.1))], [(0, some (.box 56 [.dq 10])), (10, some (.abs 0 .row x.2.2.1)), (11, some (.deep 29 .row x.2.2.2))]⟩
def l11_SortedApart_l4_un : St → Option l11_SortedApart_l4_X
 | ⟨107, 12, [(5, .own 0 0), (77, .dq 11), (78, .v (.int .i64 z0)), (79, .v (.int .i64 z1))], [(0, some (.box 56 [.dq 10])), (10, some (.abs 0 .row z2)), (11, some (.deep 29 .row z3))]⟩ => some (z0, z1, z2, z3)
 | _ => none
theorem l11_SortedApart_l4_unok : ∀ s x, l11_SortedApart_l4_un s = some x → s = l11_SortedApart_l4_T x := fun s x h => by
 unfold l11_SortedApart_l4_un at h
 split at h
 ·cases h; rfl
 ·cases h
def l11_SortedApart_l4_S : Shape := ⟨10, 12, [5, 77, 78, 79], [], [(0, 0), (13, 10), (11, 11)], [0, 13, 11], [], [0, 10, 11]⟩
def l11_SortedApart_l4_E : Entry := ⟨[], [(0, 0), (2, 10), (5, 11)], [5, 77, 78, 79], [0, 2, 5]⟩
def l11_SortedApart_l4_f_2 (_a0 : Int) (a1 : Int) (a2 : List TRow) (a3 : List TRow) : List TRow := dropR a2 (a3.getD a1.toNat (dflt TC.row)).1
def l11_SortedApart_l4_next (x : l11_SortedApart_l4_X) : l11_SortedApart_l4_X := (x.1, IntKind.i64.wrap (x.2.1 + (1 : Int)), l11_SortedApart_l4_f_2 x.1 x.2.1 x.2.2.1 x.2.2.2, x.2.2.2)
def l11_SortedApart_l4_goes (x : l11_SortedApart_l4_X) : Cnd := some (!!decide (x.2.1 < x.1))
def l11_SortedApart_l4_psA (x : l11_SortedApart_l4_X) : List Prop := [((!!decide (x.2.1 < x.1)) = true → (0 : Int) ≤ x.2.1 ∧ x.2.1 < (↑x.2.2.2.length : Int)), ((!!decide (x.2.1 < x.1)) = true → x.2.1.toNat < x.2.2.2.length), ((!!decide (x.2.1 < x.1)) = true → x.2.1.toNat < x.2.2.2.length), ((!!decide (x.2.1 < x.1)) = true → true = true → FewR x.2.2.1), ((!!decide (x.2.1 < x.1)) = true → false = false)]
def l11_SortedApart_l4_ps (x : l11_SortedApart_l4_X) : List Prop := [((!!decide (x.2.1 < x.1)) = true → (0 : Int) ≤ x.2.1 ∧ x.2.1 < (↑x.2.2.2.length : Int)), ((!!decide (x.2.1 < x.1)) = true → true = true → FewR x.2.2.1)]
def l11_SortedApart_l4_outs (x : l11_SortedApart_l4_X) : Outs := [(some 4, some (!decide (x.2.1 < x.1)), ⟨107, 12, [], [(0, some (.box 56 [.dq 10])), (10, some (.abs 0 .row x.2.2.1)), (11, some (.deep 29 .row x.2.2.2))]⟩)]
def l11_SortedApart_l4_fuel (x : l11_SortedApart_l4_X) : Nat := (x.1 - x.2.1).toNat
def l11_SortedApart_l4_run (x : l11_SortedApart_l4_X) : l11_SortedApart_l4_X := iterX l11_SortedApart_l4_next l11_SortedApart_l4_goes (l11_SortedApart_l4_fuel x) x
theorem l11_SortedApart_l4_ev (a0 : Int) (a1 : Int) (a2 : List TRow) (a3 : List TRow) : roundE (envT Csod_2 l11_SortedApart_l2_L) 9 (loopAt Try.prog 6 4) l11_SortedApart_l4_S (l11_SortedApart_l4_T (a0, a1, a2, a3)) = some (l11_SortedApart_l4_psA (a0, a1, a2, a3), l11_SortedApart_l4_outs (a0, a1, a2, a3), l11_SortedApart_l4_goes (a0, a1, a2, a3), l11_SortedApart_l4_T (l11_SortedApart_l4_next (a0, a1, a2, a3))) := by kernel_rfl
theorem l11_SortedApart_l4_hA (a0 : Int) (a1 : Int) (a2 : List TRow) (a3 : List TRow) (hp : ∀ p ∈ l11_SortedApart_l4_ps (a0, a1, a2, a3), p) : ∀ p ∈ l11_SortedApart_l4_psA (a0, a1, a2, a3), p := by
 have n0 : ((!!decide (a1 < a0)) = true → (0 : Int) ≤ a1 ∧ a1 < (↑a3.length : Int)) := N0 hp
 have n1 : ((!!decide (a1 < a0)) = true → a1.toNat < a3.length) := by intro h0; have g := n0 h0; omega
 have n3 := N0 (N1 hp)
 have n4 : ((!!decide (a1 < a0)) = true → false = false) := by intros; rfl
 exact (needs_cons n0 (needs_cons n1 (needs_cons n1 (needs_cons n3 (needs_cons n4 needs_nil)))))
noncomputable def l11_SortedApart_l4_row := rowL (envT Csod_2 l11_SortedApart_l2_L) (loopAt Try.prog 6 4) l11_SortedApart_l4_S l11_SortedApart_l4_E l11_SortedApart_l4_un l11_SortedApart_l4_fuel l11_SortedApart_l4_next l11_SortedApart_l4_goes l11_SortedApart_l4_ps l11_SortedApart_l4_outs
theorem l11_SortedApart_l4_rok : ∀ s b ps outs, l11_SortedApart_l4_row s = some (b, ps, outs) → Wf s ⟨ps, outs, none⟩ ∧ LoopOk (envT C0 L0) b s ps outs :=
 rowP_ok (T := l11_SortedApart_l4_T) Csod_2_ok l11_SortedApart_l2_Lok (u := 9) (by kernel_rfl) (by decide) (fun ⟨a0, a1, a2, a3⟩ => l11_SortedApart_l4_ev a0 a1 a2 a3) (fun ⟨a0, a1, a2, a3⟩ => l11_SortedApart_l4_hA a0 a1 a2 a3) l11_SortedApart_l4_unok (fun _ => okOuts_ok (n := 107) rfl) fun _ _ => rfl
noncomputable def l11_SortedApart_l4_L := addLp 4 l11_SortedApart_l4_row l11_SortedApart_l2_L
theorem l11_SortedApart_l4_Lok : LpOk l11_SortedApart_l4_L := addLp_ok l11_SortedApart_l4_rok l11_SortedApart_l2_Lok
def l11_SortedApart_k4 (a0 : List TAct) (_a1 : List TAct) : List TRow := (l11_SortedApart_l0_run (a0, (↑a0.length : Int), (0 : Int), [])).snd.snd.snd
def l11_SortedApart_k3 (a0 : List TAct) (a1 : List TAct) : List TRow := scanR (l11_SortedApart_k4 a0 a1) (ByteArray.mk #[]) (ByteArray.mk #[]) (1000000 : Int)
def l11_SortedApart_k2 (a0 : List TAct) (a1 : List TAct) : List TRow := scanR (l11_SortedApart_l2_run (a1, (↑a1.length : Int), (0 : Int), (l11_SortedApart_k4 a0 a1))).snd.snd.snd (ByteArray.mk #[]) (ByteArray.mk #[]) (1000000 : Int)
def l11_SortedApart_k1 (a0 : List TAct) (a1 : List TAct) : Bool := !eqRs (l11_SortedApart_k3 a0 a1) (l11_SortedApart_k3 a0 a1)
def l11_SortedApart_k0 (a0 : List TAct) (a1 : List TAct) : Bool := (↑(l11_SortedApart_l4_run ((↑(l11_SortedApart_k3 a0 a1).length : Int), (0 : Int), (l11_SortedApart_k4 a0 a1), (l11_SortedApart_k3 a0 a1))).snd.snd.fst.length : Int) == (0 : Int) && (↑(l11_SortedApart_l2_run (a1, (↑a1.length : Int), (0 : Int), (l11_SortedApart_k4 a0 a1))).snd.snd.snd.length : Int) == (↑(l11_SortedApart_k2 a0 a1).length : Int)
def l11_SortedApart_0 (a0 : List TAct) (a1 : List TAct) : Bool := bif !l11_light_0 a0 || !l11_light_0 a1 then true else bif (l11_SortedApart_k1 a0 a1) then false else bif (l11_SortedApart_k1 a0 a1) then false else bif (l11_SortedApart_k0 a0 a1) && eqRs (l11_SortedApart_k2 a0 a1) (l11_SortedApart_k2 a0 a1) then true else bif (l11_SortedApart_k0 a0 a1) then false else false
def l11_SortedApart_r (a0 : List TAct) (a1 : List TAct) : A := .v (.bool (l11_SortedApart_0 a0 a1))
def l11_SortedApart_o (_a0 : List TAct) (_a1 : List TAct) : Objs := []
def l11_SortedApart_ps (a0 : List TAct) (a1 : List TAct) : List Prop := [(needX l11_light_l0_next l11_light_l0_goes l11_light_l0_ps (l11_light_l0_fuel (a0, (0 : Int), (0 : Int))) (a0, (0 : Int), (0 : Int))), ((!l11_light_0 a0) = false → needX l11_light_l0_next l11_light_l0_goes l11_light_l0_ps (l11_light_l0_fuel (a1, (0 : Int), (0 : Int))) (a1, (0 : Int), (0 : Int))), ((!(!l11_light_0 a0 || !l11_light_0 a1)) = true → true = true → needX l11_SortedApart_l0_next l11_SortedApart_l0_goes l11_SortedApart_l0_ps (l11_SortedApart_l0_fuel (a0, (↑a0.length : Int), (0 : Int), [])) (a0, (↑a0.length : Int), (0 : Int), [])), ((!(!l11_light_0 a0 || !l11_light_0 a1)) = true → true = true → ScanP (l11_SortedApart_k4 a0 a1)), ((!(!l11_light_0 a0 || !l11_light_0 a1)) = true → true = true → true = true → ScanP (l11_SortedApart_k4 a0 a1)), ((!(!l11_light_0 a0 || !l11_light_0 a1)) = true → true = true → true = true → false = false → wideN (l11_SortedApart_k3 a0 a1).length), ((!(!l11_light_0 a0 || !l11_light_0 a1)) = true → true = true → true = true → false = false → ∀ (r : TRow), r ∈ (l11_SortedApart_k3 a0 a1) → boundP r.2.length), ((!(!l11_light_0 a0 || !l11_light_0 a1)) = true → true = true → (!(l11_SortedApart_k1 a0 a1)) = true → needX l11_SortedApart_l2_next l11_SortedApart_l2_goes l11_SortedApart_l2_ps (l11_SortedApart_l2_fuel (a1, (↑a1.length : Int), (0 : Int), (l11_SortedApart_k4 a0 a1))) (a1, (↑a1.length : Int), (0 : Int), (l11_SortedApart_k4 a0 a1))), ((!(!l11_light_0 a0 || !l11_light_0 a1)) = true → true = true → (!(l11_SortedApart_k1 a0 a1)) = true → ScanP (l11_SortedApart_k4 a0 a1)), ((!(!l11_light_0 a0 || !l11_light_0 a1)) = true → true = true → (!(l11_SortedApart_k1 a0 a1)) = true → wideN (l11_SortedApart_k3 a0 a1).length), ((!(!l11_light_0 a0 || !l11_light_0 a1)) = true → true = true → (!(l11_SortedApart_k1 a0 a1)) = true → ∀ (r : TRow), r ∈ (l11_SortedApart_k3 a0 a1) → boundP r.2.length), ((!(!l11_light_0 a0 || !l11_light_0 a1)) = true → true = true → (!(l11_SortedApart_k1 a0 a1)) = true → (!(l11_SortedApart_k1 a0 a1)) = true → ScanP (l11_SortedApart_l2_run (a1, (↑a1.length : Int), (0 : Int), (l11_SortedApart_k4 a0 a1))).snd.snd.snd), ((!(!l11_light_0 a0 || !l11_light_0 a1)) = true → true = true → (!(l11_SortedApart_k1 a0 a1)) = true → (!(l11_SortedApart_k1 a0 a1)) = true → needX l11_SortedApart_l4_next l11_SortedApart_l4_goes l11_SortedApart_l4_ps (l11_SortedApart_l4_fuel ((↑(l11_SortedApart_k3 a0 a1).length : Int), (0 : Int), (l11_SortedApart_k4 a0 a1), (l11_SortedApart_k3 a0 a1))) ((↑(l11_SortedApart_k3 a0 a1).length : Int), (0 : Int), (l11_SortedApart_k4 a0 a1), (l11_SortedApart_k3 a0 a1))), ((!(!l11_light_0 a0 || !l11_light_0 a1)) = true → true = true → (!(l11_SortedApart_k1 a0 a1)) = true → (!(l11_SortedApart_k1 a0 a1)) = true → (l11_SortedApart_k0 a0 a1) = true → ScanP (l11_SortedApart_l2_run (a1, (↑a1.length : Int), (0 : Int), (l11_SortedApart_k4 a0 a1))).snd.snd.snd), ((!(!l11_light_0 a0 || !l11_light_0 a1)) = true → true = true → (!(l11_SortedApart_k1 a0 a1)) = true → (!(l11_SortedApart_k1 a0 a1)) = true → (l11_SortedApart_k0 a0 a1) = true → true = true → wideN (l11_SortedApart_k2 a0 a1).length), ((!(!l11_light_0 a0 || !l11_light_0 a1)) = true → true = true → (!(l11_SortedApart_k1 a0 a1)) = true → (!(l11_SortedApart_k1 a0 a1)) = true → (l11_SortedApart_k0 a0 a1) = true → true = true → ∀ (r : TRow), r ∈ (l11_SortedApart_k2 a0 a1) → boundP r.2.length)]
theorem l11_SortedApart_ev (a0 : List TAct) (a1 : List TAct) : evF (envT Csod_2 l11_SortedApart_l4_L) 9 6 [.sl .act a0, .sl .act a1] 0 [] = some (1, l11_SortedApart_r a0 a1, 0, l11_SortedApart_o a0 a1, [(needX l11_light_l0_next l11_light_l0_goes l11_light_l0_ps (l11_light_l0_fuel (a0, (0 : Int), (0 : Int))) (a0, (0 : Int), (0 : Int))), ((!l11_light_0 a0) = false → needX l11_light_l0_next l11_light_l0_goes l11_light_l0_ps (l11_light_l0_fuel (a1, (0 : Int), (0 : Int))) (a1, (0 : Int), (0 : Int))), ((!(!l11_light_0 a0 || !l11_light_0 a1)) = true → true = true → loopAt Try.prog (6 : FuncId) (0 : Nat) = loopAt Try.prog (6 : FuncId) (0 : Nat)), ((!(!l11_light_0 a0 || !l11_light_0 a1)) = true → true = true → needX l11_SortedApart_l0_next l11_SortedApart_l0_goes l11_SortedApart_l0_ps (l11_SortedApart_l0_fuel (a0, (↑a0.length : Int), (0 : Int), [])) (a0, (↑a0.length : Int), (0 : Int), [])), ((!(!l11_light_0 a0 || !l11_light_0 a1)) = true → true = true → ScanP (l11_SortedApart_k4 a0 a1)), ((!(!l11_light_0 a0 || !l11_light_0 a1)) = true → true = true → ScanP (l11_SortedApart_k4 a0 a1)), ((!(!l11_light_0 a0 || !l11_light_0 a1)) = true → true = true → true = true → ScanP (l11_SortedApart_k4 a0 a1)), ((!(!l11_light_0 a0 || !l11_light_0 a1)) = true → true = true → true = true → false = false → wideN (l11_SortedApart_k3 a0 a1).length), ((!(!l11_light_0 a0 || !l11_light_0 a1)) = true → true = true → true = true → false = false → ∀ (r : TRow), r ∈ (l11_SortedApart_k3 a0 a1) → boundP r.2.length), ((!(!l11_light_0 a0 || !l11_light_0 a1)) = true → true = true → true = true), ((!(!l11_light_0 a0 || !l11_light_0 a1)) = true → true = true → true = true), ((!(!l11_light_0 a0 || !l11_light_0 a1)) = true → true = true → true = true), ((!(!l11_light_0 a0 || !l11_light_0 a1)) = true → true = true → (!(l11_SortedApart_k1 a0 a1)) = true → loopAt Try.prog (6 : FuncId) (2 : Nat) = loopAt Try.prog (6 : FuncId) (2 : Nat)), ((!(!l11_light_0 a0 || !l11_light_0 a1)) = true → true = true → (!(l11_SortedApart_k1 a0 a1)) = true → needX l11_SortedApart_l2_next l11_SortedApart_l2_goes l11_SortedApart_l2_ps (l11_SortedApart_l2_fuel (a1, (↑a1.length : Int), (0 : Int), (l11_SortedApart_k4 a0 a1))) (a1, (↑a1.length : Int), (0 : Int), (l11_SortedApart_k4 a0 a1))), ((!(!l11_light_0 a0 || !l11_light_0 a1)) = true → true = true → (!(l11_SortedApart_k1 a0 a1)) = true → ScanP (l11_SortedApart_k4 a0 a1)), ((!(!l11_light_0 a0 || !l11_light_0 a1)) = true → true = true → (!(l11_SortedApart_k1 a0 a1)) = true → wideN (l11_SortedApart_k3 a0 a1).length), ((!(!l11_light_0 a0 || !l11_light_0 a1)) = true → true = true → (!(l11_SortedApart_k1 a0 a1)) = true → ∀ (r : TRow), r ∈ (l11_SortedApart_k3 a0 a1) → boundP r.2.length), ((!(!l11_light_0 a0 || !l11_light_0 a1)) = true → true = true → (!(l11_SortedApart_k1 a0 a1)) = true → (!(l11_SortedApart_k1 a0 a1)) = true → ScanP (l11_SortedApart_l2_run (a1, (↑a1.length : Int), (0 : Int), (l11_SortedApart_k4 a0 a1))).snd.snd.snd), ((!(!l11_light_0 a0 || !l11_light_0 a1)) = true → true = true → (!(l11_SortedApart_k1 a0 a1)) = true → (!(l11_SortedApart_k1 a0 a1)) = true → loopAt Try.prog (6 : FuncId) (4 : Nat) = loopAt Try.prog (6 : FuncId) (4 : Nat)), ((!(!l11_light_0 a0 || !l11_light_0 a1)) = true → true = true → (!(l11_SortedApart_k1 a0 a1)) = true → (!(l11_SortedApart_k1 a0 a1)) = true → needX l11_SortedApart_l4_next l11_SortedApart_l4_goes l11_SortedApart_l4_ps (l11_SortedApart_l4_fuel ((↑(l11_SortedApart_k3 a0 a1).length : Int), (0 : Int), (l11_SortedApart_k4 a0 a1), (l11_SortedApart_k3 a0 a1))) ((↑(l11_SortedApart_k3 a0 a1).length : Int), (0 : Int), (l11_SortedApart_k4 a0 a1), (l11_SortedApart_k3 a0 a1))), ((!(!l11_light_0 a0 || !l11_light_0 a1)) = true → true = true → (!(l11_SortedApart_k1 a0 a1)) = true → (!(l11_SortedApart_k1 a0 a1)) = true → (l11_SortedApart_k0 a0 a1) = true → ScanP (l11_SortedApart_l2_run (a1, (↑a1.length : Int), (0 : Int), (l11_SortedApart_k4 a0 a1))).snd.snd.snd), ((!(!l11_light_0 a0 || !l11_light_0 a1)) = true → true = true → (!(l11_SortedApart_k1 a0 a1)) = true → (!(l11_SortedApart_k1 a0 a1)) = true → (l11_SortedApart_k0 a0 a1) = true → true = true → wideN (l11_SortedApart_k2 a0 a1).length), ((!(!l11_light_0 a0 || !l11_light_0 a1)) = true → true = true → (!(l11_SortedApart_k1 a0 a1)) = true → (!(l11_SortedApart_k1 a0 a1)) = true → (l11_SortedApart_k0 a0 a1) = true → true = true → ∀ (r : TRow), r ∈ (l11_SortedApart_k2 a0 a1) → boundP r.2.length), ((!(!l11_light_0 a0 || !l11_light_0 a1)) = true → true = true → (!(l11_SortedApart_k1 a0 a1)) = true → (!(l11_SortedApart_k1 a0 a1)) = true → false = false), ((!(!l11_light_0 a0 || !l11_light_0 a1)) = true → true = true → (!(l11_SortedApart_k1 a0 a1)) = true → (!(l11_SortedApart_k1 a0 a1)) = true → false = false), ((!(!l11_light_0 a0 || !l11_light_0 a1)) = true → true = true → (!(l11_SortedApart_k1 a0 a1)) = true → (!(l11_SortedApart_k1 a0 a1)) = true → (l11_SortedApart_k0 a0 a1) = true → false = false), ((!(!l11_light_0 a0 || !l11_light_0 a1)) = true → true = true → (!(l11_SortedApart_k1 a0 a1)) = true → (!(l11_SortedApart_k1 a0 a1)) = true → false = false)]) := by kernel_rfl
theorem l11_SortedApart_c (a0 : List TAct) (a1 : List TAct) (hp : ∀ p ∈ l11_SortedApart_ps a0 a1, p) : CallOk Try.prog 6 [.sl .act a0, .sl .act a1] 0 [] 1 (l11_SortedApart_r a0 a1) 0 (l11_SortedApart_o a0 a1) := by
 have n0 := N0 hp
 have n1 := N0 (N1 hp)
 have n2 : ((!(!l11_light_0 a0 || !l11_light_0 a1)) = true → true = true → loopAt Try.prog (6 : FuncId) (0 : Nat) = loopAt Try.prog (6 : FuncId) (0 : Nat)) := by intros; rfl
 have n3 := N0 (N1 (N1 hp))
 have n4 : ((!(!l11_light_0 a0 || !l11_light_0 a1)) = true → true = true → ScanP (l11_SortedApart_k4 a0 a1)) := N0 (N1 (N1 (N1 hp)))
 have n6 := N0 (N1 (N1 (N1 (N1 hp))))
 have n7 := N0 (N1 (N1 (N1 (N1 (N1 hp)))))
 have n8 := N0 (N1 (N1 (N1 (N1 (N1 (N1 hp))))))
 have n9 : ((!(!l11_light_0 a0 || !l11_light_0 a1)) = true → true = true → true = true) := by intros; rfl
 have n12 : ((!(!l11_light_0 a0 || !l11_light_0 a1)) = true → true = true → (!(l11_SortedApart_k1 a0 a1)) = true → loopAt Try.prog (6 : FuncId) (2 : Nat) = loopAt Try.prog (6 : FuncId) (2 : Nat)) := by intros; rfl
 have n13 := N0 (N1 (N1 (N1 (N1 (N1 (N1 (N1 hp)))))))
 have n14 := N0 (N1 (N1 (N1 (N1 (N1 (N1 (N1 (N1 hp))))))))
 have n15 := N0 (N1 (N1 (N1 (N1 (N1 (N1 (N1 (N1 (N1 hp)))))))))
 have n16 := N0 (N1 (N1 (N1 (N1 (N1 (N1 (N1 (N1 (N1 (N1 hp))))))))))
 have n17 := N0 (N1 (N1 (N1 (N1 (N1 (N1 (N1 (N1 (N1 (N1 (N1 hp)))))))))))
 have n18 : ((!(!l11_light_0 a0 || !l11_light_0 a1)) = true → true = true → (!(l11_SortedApart_k1 a0 a1)) = true → (!(l11_SortedApart_k1 a0 a1)) = true → loopAt Try.prog (6 : FuncId) (4 : Nat) = loopAt Try.prog (6 : FuncId) (4 : Nat)) := by intros; rfl
 have n19 := N0 (N1 (N1 (N1 (N1 (N1 (N1 (N1 (N1 (N1 (N1 (N1 (N1 hp))))))))))))
 have n20 := N0 (N1 (N1 (N1 (N1 (N1 (N1 (N1 (N1 (N1 (N1 (N1 (N1 (N1 hp)))))))))))))
 have n21 := N0 (N1 (N1 (N1 (N1 (N1 (N1 (N1 (N1 (N1 (N1 (N1 (N1 (N1 (N1 hp))))))))))))))
 have n22 := N0 (N1 (N1 (N1 (N1 (N1 (N1 (N1 (N1 (N1 (N1 (N1 (N1 (N1 (N1 (N1 hp)))))))))))))))
 have n23 : ((!(!l11_light_0 a0 || !l11_light_0 a1)) = true → true = true → (!(l11_SortedApart_k1 a0 a1)) = true → (!(l11_SortedApart_k1 a0 a1)) = true → false = false) := by intros; rfl
 have n25 : ((!(!l11_light_0 a0 || !l11_light_0 a1)) = true → true = true → (!(l11_SortedApart_k1 a0 a1)) = true → (!(l11_SortedApart_k1 a0 a1)) = true → (l11_SortedApart_k0 a0 a1) = true → false = false) := by intros; rfl
 exact evF_ok (envP_ok Csod_2_ok l11_SortedApart_l4_Lok) (l11_SortedApart_ev a0 a1) (needs_cons n0 (needs_cons n1 (needs_cons n2 (needs_cons n3 (needs_cons n4 (needs_cons n4 (needs_cons n6 (needs_cons n7 (needs_cons n8 (needs_cons n9 (needs_cons n9 (needs_cons n9 (needs_cons n12 (needs_cons n13 (needs_cons n14 (needs_cons n15 (needs_cons n16 (needs_cons n17 (needs_cons n18 (needs_cons n19 (needs_cons n20 (needs_cons n21 (needs_cons n22 (needs_cons n23 (needs_cons n23 (needs_cons n25 (needs_cons n23 needs_nil)))))))))))))))))))))))))))
end Go.Proofs.Ytnfmceffbnaanaa
namespace Go.Proofs.Ytnfmceffbnaanaa
open Go.RowKit
theorem add_ok {n k m : Int} (hn : 0 ≤ n) (hk : 0 ≤ k ∧ k ≤ 9223372036854775807) (hm : 0 ≤ m ∧ m ≤ 1099511627776) : (r01_Add_0 n k m ≤ m → n + k ≤ m ∧ r01_Add_0 n k m = n + k) ∧ 0 ≤ r01_Add_0 n k m := by
 unfold r01_Add_0
 rw [i64_in (n := m - k) (by omega), i64_in (n := m + 1) (by omega)]
 by_cases h : n + k ≤ m
 ·have e : (decide (n > m) || decide (k > m) || decide (n > m - k)) = false := by
   rw [decide_eq_false (by omega), decide_eq_false (by omega), decide_eq_false (by omega)]; rfl
  rw [e, cond_false, i64_in (by omega)]
  exact ⟨fun _ => ⟨h, rfl⟩, by omega⟩
 ·have e : (decide (n > m) || decide (k > m) || decide (n > m - k)) = true := by
   rw [decide_eq_true (p := n > m - k) (by omega), Bool.or_true]
  rw [e, cond_true]
  exact ⟨fun h' => by omega, by omega⟩
theorem sz_in {k : Nat} (h : wideN k) : (0 : Int) ≤ (k : Int) ∧ (k : Int) ≤ 9223372036854775807 := by unfold wideN at h; omega
def smallA (a : TAct) : Prop := a.row.cells.length ≤ 2000 ∧ (∀ c ∈ a.row.cells, c.value.size ≤ 20000) ∧ a.til.size ≤ 20000 ∧ a.row.key.size ≤ 20000
def wideA (a : TAct) : Prop := wideN a.row.key.size ∧ wideN a.row.cells.length ∧ (∀ c ∈ a.row.cells, wideN c.value.size) ∧ wideN a.til.size
def nkA (cs : List TCell) (n0 : Int) : Nat → Int
 | 0 => n0
 | k + 1 => r01_Add_0 (r01_Add_0 (nkA cs n0 k) 10 20000) ((cs.getD k (dflt TC.cell)).4.size : Int) 20000
theorem nkA_ok (cs : List TCell) (n0 : Int) (h0 : 0 ≤ n0) (hw : ∀ c ∈ cs, wideN c.value.size) : ∀ k, k ≤ cs.length → 0 ≤ nkA cs n0 k ∧ (nkA cs n0 k ≤ 20000 → n0 + 10 * (k : Int) ≤ 20000 ∧ n0 + 10 * (k : Int) ≤ nkA cs n0 k ∧ ∀ j, j < k → (cs.getD j (dflt TC.cell)).value.size ≤ 20000)
 | 0, _ => ⟨h0, fun h => ⟨by have : nkA cs n0 0 = n0 := rfl; omega, by have : nkA cs n0 0 = n0 := rfl; omega, fun j hj => absurd hj (Nat.not_lt_zero _)⟩⟩
 | k + 1, hk => by
  obtain ⟨g1, g2⟩ := nkA_ok cs n0 h0 hw k (by omega)
  obtain ⟨a1, a2⟩ := add_ok (k := 10) g1 (by omega) (m := 20000) (by omega)
  obtain ⟨c1, c2⟩ := add_ok a2 (sz_in (hw _ (getD_in cs (dflt TC.cell) k (by omega)))) (m := 20000) (by omega)
  refine ⟨c2, fun h => ?_⟩
  obtain ⟨c3, c4⟩ := c1 h
  obtain ⟨a3, a4⟩ := a1 (by omega)
  obtain ⟨b1, b2, b3⟩ := g2 (by omega)
  have e : nkA cs n0 (k + 1) = r01_Add_0 (r01_Add_0 (nkA cs n0 k) 10 20000) ((cs.getD k (dflt TC.cell)).4.size : Int) 20000 := rfl
  have c4' : r01_Add_0 (r01_Add_0 (nkA cs n0 k) 10 20000) ((cs.getD k (dflt TC.cell)).4.size : Int) 20000 = r01_Add_0 (nkA cs n0 k) 10 20000 + ((cs.getD k (dflt TC.cell)).4.size : Int) := c4
  refine ⟨by omega, by omega, fun j hj => ?_⟩
  by_cases e : j < k
  ·exact b3 j e
  ·obtain rfl : j = k := by omega
   have c3' : r01_Add_0 (nkA cs n0 j) 10 20000 + ((cs.getD j (dflt TC.cell)).4.size : Int) ≤ 20000 := c3
   show (cs.getD j (dflt TC.cell)).4.size ≤ 20000
   omega
theorem lightA_inner (a : TAct) (n0 : Int) (h0 : 0 ≤ n0) (hl : wideN a.row.cells.length) (hw : ∀ c ∈ a.row.cells, wideN c.value.size) :
  needX l11_light_l2_next l11_light_l2_goes l11_light_l2_ps (l11_light_l2_fuel (n0, 0, a)) (n0, 0, a) ∧
  0 ≤ (l11_light_l2_run (n0, 0, a)).fst ∧ ((l11_light_l2_run (n0, 0, a)).fst ≤ 20000 → n0 ≤ (l11_light_l2_run (n0, 0, a)).fst ∧ a.row.cells.length ≤ 2000 ∧ ∀ c ∈ a.row.cells, c.value.size ≤ 20000) := by
 generalize hcs : a.row.cells = cs at *
 have hcs2 : a.2.2 = cs := hcs
 unfold wideN at hl
 have hgo : ∀ k : Nat, l11_light_l2_f_k0 (nkA cs n0 k) (k : Int) a = (decide (k < cs.length) && !!decide (nkA cs n0 k ≤ 20000)) := fun k => by
  unfold l11_light_l2_f_k0
  rw [hcs2, nn, nn, dlt]
 obtain ⟨h1, k, hk, hx, hs, hst, _⟩ := scanB (fun k => ((nkA cs n0 k, (k : Int), a) : l11_light_l2_X)) cs.length (fun k => !decide (nkA cs n0 k ≤ 20000)) l11_light_l2_next l11_light_l2_goes l11_light_l2_ps (l11_light_l2_fuel (n0, 0, a)) (n0, 0, a) rfl
  (by show cs.length ≤ ((a.2.2.length : Int) - 0).toNat; rw [hcs2]; omega)
  (fun k _ _ => by
   show l11_light_l2_f_k0 (nkA cs n0 k) (k : Int) a = _
   rw [hgo])
  (fun k hk hs => by
   show (l11_light_l2_f_0 (nkA cs n0 k) (k : Int) a, IntKind.i64.wrap ((k : Int) + 1), a) = (nkA cs n0 (k + 1), ((k + 1 : Nat) : Int), a)
   rw [wsucc (by omega)]
   unfold l11_light_l2_f_0
   rw [Int.toNat_natCast, hcs2]
   rfl)
  (fun k _ _ => needs_cons (fun h => by
   have h' : l11_light_l2_f_k0 (nkA cs n0 k) (k : Int) a = true := h
   rw [hgo, Bool.and_eq_true] at h'
   have := of_decide_eq_true h'.1
   show (0 : Int) ≤ (k : Int) ∧ (k : Int) < (a.2.2.length : Int)
   rw [hcs2]
   omega) needs_nil)
 have hr : l11_light_l2_run (n0, 0, a) = (nkA cs n0 k, (k : Int), a) := hx
 obtain ⟨g1, g2⟩ := nkA_ok cs n0 h0 hw k hk
 rw [hr]
 refine ⟨h1, g1, fun h => ?_⟩
 have h : nkA cs n0 k ≤ 20000 := h
 obtain ⟨b1, b2, b3⟩ := g2 h
 have hkn : k = cs.length := by
  rcases Nat.lt_or_ge k cs.length with h' | h'
  ·have := hst h'
   rw [decide_eq_true h] at this
   cases this
  ·omega
 refine ⟨by show n0 ≤ nkA cs n0 k; omega, by omega, fun c hc => ?_⟩
 obtain ⟨j, hj, rfl⟩ := List.mem_iff_getElem.1 hc
 have := b3 j (by omega)
 rw [List.getD_eq_getElem?_getD, List.getElem?_eq_getElem hj] at this
 exact this
def nrA (acts : List TAct) : Nat → Int
 | 0 => 0
 | i + 1 => l11_light_l0_f_1 acts (nrA acts i) (i : Int)
theorem lightA_step (acts : List TAct) (i : Nat) (n : Int) (hn : 0 ≤ n) (hw : wideA (acts.getD i (dflt TC.act))) :
  needX l11_light_l2_next l11_light_l2_goes l11_light_l2_ps (l11_light_l2_fuel (r01_Add_0 (r01_Add_0 (r01_Add_0 n (20 : Int) (20000 : Int)) ((acts.getD i (dflt TC.act)).2.1.size : Int) (20000 : Int)) ((acts.getD i (dflt TC.act)).3.size : Int) (20000 : Int), (0 : Int), acts.getD i (dflt TC.act))) (r01_Add_0 (r01_Add_0 (r01_Add_0 n (20 : Int) (20000 : Int)) ((acts.getD i (dflt TC.act)).2.1.size : Int) (20000 : Int)) ((acts.getD i (dflt TC.act)).3.size : Int) (20000 : Int), (0 : Int), acts.getD i (dflt TC.act)) ∧
  0 ≤ l11_light_l0_f_1 acts n (i : Int) ∧ (l11_light_l0_f_1 acts n (i : Int) ≤ 20000 → n + 20 ≤ l11_light_l0_f_1 acts n (i : Int) ∧ smallA (acts.getD i (dflt TC.act))) := by
 obtain ⟨w1, w2, w3, w4⟩ := hw
 obtain ⟨d1, d2⟩ := add_ok (k := 20) hn (by omega) (m := 20000) (by omega)
 obtain ⟨a1, a2⟩ := add_ok (k := ((acts.getD i (dflt TC.act)).2.1.size : Int)) d2 (sz_in w1) (m := 20000) (by omega)
 obtain ⟨c1, c2⟩ := add_ok (k := ((acts.getD i (dflt TC.act)).3.size : Int)) a2 (sz_in w4) (m := 20000) (by omega)
 obtain ⟨g1, g2, g3⟩ := lightA_inner (acts.getD i (dflt TC.act)) _ c2 w2 w3
 unfold l11_light_l0_f_1
 rw [Int.toNat_natCast]
 refine ⟨g1, g2, fun h => ?_⟩
 obtain ⟨h1, h2, h3⟩ := g3 h
 obtain ⟨q1, q2⟩ := c1 (by omega)
 obtain ⟨q3, q4⟩ := a1 (by omega)
 obtain ⟨q5, q6⟩ := d1 (by omega)
 exact ⟨by omega, h2, h3, by show (acts.getD i (dflt TC.act)).3.size ≤ 20000; omega, by show (acts.getD i (dflt TC.act)).2.1.size ≤ 20000; omega⟩
theorem nrA_ok (acts : List TAct) (hw : ∀ a ∈ acts, wideA a) : ∀ k, k ≤ acts.length → 0 ≤ nrA acts k ∧ (nrA acts k ≤ 20000 → 20 * (k : Int) ≤ nrA acts k ∧ ∀ j, j < k → smallA (acts.getD j (dflt TC.act)))
 | 0, _ => ⟨Int.le_refl _, fun _ => ⟨Int.le_refl _, fun j hj => absurd hj (Nat.not_lt_zero _)⟩⟩
 | k + 1, hk => by
  obtain ⟨g1, g2⟩ := nrA_ok acts hw k (by omega)
  obtain ⟨_, a2, a3⟩ := lightA_step acts k (nrA acts k) g1 (hw _ (getD_in acts (dflt TC.act) k (by omega)))
  refine ⟨a2, fun h => ?_⟩
  obtain ⟨h1, h2⟩ := a3 h
  have e : nrA acts (k + 1) = l11_light_l0_f_1 acts (nrA acts k) (k : Int) := rfl
  obtain ⟨b1, b2⟩ := g2 (by omega)
  refine ⟨by omega, fun j hj => ?_⟩
  by_cases e : j < k
  ·exact b2 j e
  ·obtain rfl : j = k := by omega
   exact h2
theorem lightA_eq (acts : List TAct) (hl : wideN acts.length) (hw : ∀ a ∈ acts, wideA a) : needX l11_light_l0_next l11_light_l0_goes l11_light_l0_ps (l11_light_l0_fuel (acts, (0 : Int), (0 : Int))) (acts, (0 : Int), (0 : Int)) ∧ (l11_light_0 acts = true → acts.length ≤ 1000 ∧ ∀ a ∈ acts, smallA a) := by
 unfold wideN at hl
 have hgo : ∀ k : Nat, l11_light_l0_f_k0 acts (nrA acts k) (k : Int) = (decide (k < acts.length) && !!decide (nrA acts k ≤ 20000)) := fun k => by
  unfold l11_light_l0_f_k0
  rw [nn, nn, dlt]
 obtain ⟨h1, k, hk, hx, hs, hst, _⟩ := scanB (fun k => ((acts, nrA acts k, (k : Int)) : l11_light_l0_X)) acts.length (fun k => !decide (nrA acts k ≤ 20000)) l11_light_l0_next l11_light_l0_goes l11_light_l0_ps (l11_light_l0_fuel (acts, 0, 0)) (acts, 0, 0) rfl
  (by show acts.length ≤ ((acts.length : Int) - 0).toNat; omega)
  (fun k _ _ => by
   show l11_light_l0_f_k0 acts (nrA acts k) (k : Int) = _
   rw [hgo])
  (fun k hk hs => by
   show (acts, l11_light_l0_f_1 acts (nrA acts k) (k : Int), IntKind.i64.wrap ((k : Int) + 1)) = (acts, nrA acts (k + 1), ((k + 1 : Nat) : Int))
   rw [wsucc (by omega)]
   rfl)
  (fun k hk _ => by
   have hin : l11_light_l0_f_k0 acts (nrA acts k) (k : Int) = true → k < acts.length := fun h => by
    rw [hgo, Bool.and_eq_true] at h
    exact of_decide_eq_true h.1
   refine needs_cons (fun h => ?_) (needs_cons (fun h => ?_) needs_nil)
   ·have := hin h
    show (0 : Int) ≤ (k : Int) ∧ (k : Int) < (acts.length : Int)
    omega
   ·have hk' := hin h
    have := (lightA_step acts k (nrA acts k) (nrA_ok acts hw k hk).1 (hw _ (getD_in acts (dflt TC.act) k hk'))).1
    have e : ((k : Int)).toNat = k := Int.toNat_natCast k
    show needX l11_light_l2_next l11_light_l2_goes l11_light_l2_ps (l11_light_l2_fuel (r01_Add_0 (r01_Add_0 (r01_Add_0 (nrA acts k) (20 : Int) (20000 : Int)) ((acts.getD ((k : Int)).toNat (dflt TC.act)).2.1.size : Int) (20000 : Int)) ((acts.getD ((k : Int)).toNat (dflt TC.act)).3.size : Int) (20000 : Int), (0 : Int), acts.getD ((k : Int)).toNat (dflt TC.act))) (r01_Add_0 (r01_Add_0 (r01_Add_0 (nrA acts k) (20 : Int) (20000 : Int)) ((acts.getD ((k : Int)).toNat (dflt TC.act)).2.1.size : Int) (20000 : Int)) ((acts.getD ((k : Int)).toNat (dflt TC.act)).3.size : Int) (20000 : Int), (0 : Int), acts.getD ((k : Int)).toNat (dflt TC.act))
    rw [e]
    exact this)
 have hrun : l11_light_l0_run (acts, 0, 0) = (acts, nrA acts k, (k : Int)) := hx
 refine ⟨h1, fun h => ?_⟩
 unfold l11_light_0 at h
 rw [hrun] at h
 have h5 : nrA acts k ≤ 20000 := of_decide_eq_true h
 obtain ⟨b1, b2⟩ := (nrA_ok acts hw k hk).2 h5
 have hkn : k = acts.length := by
  rcases Nat.lt_or_ge k acts.length with h' | h'
  ·have := hst h'
   rw [decide_eq_true h5] at this
   cases this
  ·omega
 refine ⟨by omega, fun r hr => ?_⟩
 obtain ⟨j, hj, rfl⟩ := List.mem_iff_getElem.1 hr
 have := b2 j (by omega)
 rw [List.getD_eq_getElem?_getD, List.getElem?_eq_getElem hj] at this
 exact this
theorem wideA_of {a : TAct} (h : Wfd .act a) : wideA a := ⟨h.2.1.1, h.2.1.2.1, fun c hc => (h.2.1.2.2 c hc).2.2.2.1, h.2.2.1⟩
def actCells (a : TAct) : List TCell := bif a.kind == 4 then [⟨⟨0, 0⟩, ⟨0, 0⟩, false, a.til, ⟨0, 0⟩⟩] else a.row.cells
def actRow (a : TAct) : TRow := ⟨a.row.key, actCells a⟩
def actSet (m : List TRow) (a : TAct) : List TRow := bif a.row.key.toList == E0.toList then m else setR m (actRow a)
theorem actCells_len {a : TAct} (h : smallA a) : (actCells a).length ≤ 2000 ∧ ∀ c ∈ actCells a, c.value.size ≤ 20000 := by
 unfold actCells
 cases a.kind == 4 with
 | true => exact ⟨by simp, fun c hc => by rw [List.mem_singleton.1 hc]; exact h.2.2.1⟩
 | false => exact ⟨h.1, h.2.1⟩
structure OkM (n : Nat) (m : List TRow) : Prop where
 sort : SortR m
 len : m.length ≤ n
 cell : ∀ r ∈ m, r.cells.length ≤ 2000 ∧ ∀ c ∈ r.cells, c.value.size ≤ 20000
theorem OkM.nil : OkM 0 [] := ⟨List.Pairwise.nil, Nat.le_refl _, fun _ h => (nomatch h)⟩
theorem OkM.up {n n' : Nat} {m : List TRow} (h : OkM n m) (hn : n ≤ n') : OkM n' m := ⟨h.sort, Nat.le_trans h.len hn, h.cell⟩
theorem OkM.set {n : Nat} {m : List TRow} (h : OkM n m) {a : TAct} (ha : smallA a) : OkM (n + 1) (setR m (actRow a)) := by
 refine ⟨setR_sort h.sort, ?_, fun r hr => ?_⟩
 ·have := setR_len m (actRow a)
  have := h.len
  omega
 ·rcases setR_mem.1 hr with ⟨h1, _⟩ | rfl
  ·exact h.cell r h1
  ·exact actCells_len ha
theorem OkM.actSet {n : Nat} {m : List TRow} (h : OkM n m) {a : TAct} (ha : smallA a) : OkM (n + 1) (actSet m a) := by
 unfold Proofs.Ytnfmceffbnaanaa.actSet
 cases a.row.key.toList == E0.toList with
 | true => exact h.up (Nat.le_succ _)
 | false => exact h.set ha
theorem OkM.drop {n : Nat} {m : List TRow} (h : OkM n m) (key : ByteArray) : OkM (n + 1) (dropR m key) := by
 refine ⟨dropR_sort h.sort, ?_, fun r hr => h.cell r (dropR_mem.1 hr).1⟩
 have := dropR_len m key
 have := h.len
 omega
theorem OkM.scanP {n : Nat} {m : List TRow} (h : OkM n m) (hn : n ≤ 100000) : ScanP m := by
 have := h.len
 exact ⟨by unfold boundP; omega, fun r hr => by have := (h.cell r hr).1; unfold boundP; omega⟩
theorem OkM.few {n : Nat} {m : List TRow} (h : OkM n m) (hn : n ≤ 100000) : FewR m := by
 have := h.len
 unfold FewR
 omega
theorem OkM.cellsR {n : Nat} {m : List TRow} (h : OkM n m) (key : ByteArray) : (cellsR m key).length ≤ 2000 ∧ ∀ c ∈ cellsR m key, c.value.size ≤ 20000 := by
 have hm := h.cell
 clear h
 induction m with
 | nil => exact ⟨Nat.zero_le _, fun c hc => (nomatch hc)⟩
 | cons r l ih =>
  show (bif r.key == key then r.cells else Proofs.Ytnfmceffbnaanaa.cellsR l key).length ≤ 2000 ∧ ∀ c ∈ (bif r.key == key then r.cells else Proofs.Ytnfmceffbnaanaa.cellsR l key), c.value.size ≤ 20000
  cases r.key == key with
  | true => exact hm r (List.mem_cons_self ..)
  | false => exact ih fun x hx => hm x (List.mem_cons_of_mem _ hx)
theorem scanR_mem {m : List TRow} {f t : ByteArray} {n : Int} {r : TRow} (h : r ∈ scanR m f t n) : r ∈ m := (List.mem_filter.1 (List.mem_of_mem_take h)).1
theorem scanR_len (m : List TRow) (f t : ByteArray) (n : Int) : (scanR m f t n).length ≤ m.length := by
 unfold scanR
 rw [List.length_take]
 exact Nat.le_trans (Nat.min_le_right ..) (List.length_filter_le ..)
theorem OkM.scan {n : Nat} {m : List TRow} (h : OkM n m) (f t : ByteArray) (k : Int) : (scanR m f t k).length ≤ n ∧ ∀ r ∈ scanR m f t k, r.cells.length ≤ 2000 ∧ ∀ c ∈ r.cells, c.value.size ≤ 20000 :=
 ⟨Nat.le_trans (scanR_len ..) h.len, fun r hr => h.cell r (scanR_mem hr)⟩
end Go.Proofs.Ytnfmceffbnaanaa
