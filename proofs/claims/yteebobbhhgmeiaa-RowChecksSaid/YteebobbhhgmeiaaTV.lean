/- A symbolic run over typed data, part V: what is put together for a function; its arguments as data. -/
import Derived.Test.YteebobbhhgmeiaaTU
import Derived.Test.YteebobbhhgmeiaaTR
namespace Go.Proofs.Yteebobbhhgmeiaa
open Go.RowKit

def LpOk (L : LTab) : Prop := ∀ l s b ps outs, L l s = some (b, ps, outs) → Wf s ⟨ps, outs, none⟩ ∧ LoopOk (envT C0 L0) b s ps outs
theorem L0_ok : LpOk L0 := fun _ _ _ _ _ h => by cases h
theorem addLp_ok {l0 : Nat} {g : St → Option (Code × List Prop × Outs)} {L : LTab} (hg : ∀ s b ps outs, g s = some (b, ps, outs) → Wf s ⟨ps, outs, none⟩ ∧ LoopOk (envT C0 L0) b s ps outs) (hL : LpOk L) : LpOk (addLp l0 g L) := fun l s b ps outs h => by
  unfold addLp at h
  cases hb : Nat.beq l l0 with
  | true => rw [hb] at h; exact hg s b ps outs h
  | false => rw [hb] at h; exact hL l s b ps outs h
theorem envP_ok {C : Tab} {L : LTab} (hC : COk Try.prog C) (hL : LpOk L) : CodeOk (envT C L) := envT_ok hC hL
/-- A loop's row, as the table takes it. -/
theorem rowP_ok {C : Tab} {L : LTab} (hC : COk Try.prog C) (hL : LpOk L) {u : Nat} {b : Code} {S : Shape} {En : Entry} {X : Type} {T : X → St} {unT : St → Option X} {fuel : X → Nat} {next : X → X} {goes : X → Cnd} {psA ps : X → List Prop} {outs : X → Outs} (hS : okL S.nb S.nx1 S.ren = true) (hnb : S.nb ≤ S.nx1)
    (hr : ∀ x, roundE (envT C L) u b S (T x) = some (psA x, outs x, goes x, T (next x))) (hA : ∀ x, (∀ p ∈ ps x, p) → ∀ p ∈ psA x, p) (hu : ∀ s x, unT s = some x → s = T x)
    (hw : ∀ x, Once (outs x) ∧ ∀ t c y, getO t (outs x) = some (c, y) → y.n = (T x).n) (hTn : ∀ x y, (T x).n = (T y).n) : ∀ s b0 qs os, rowL (envT C L) b S En unT fuel next goes ps outs s = some (b0, qs, os) → Wf s ⟨qs, os, none⟩ ∧ LoopOk (envT C0 L0) b0 s qs os :=
  fun _ _ _ _ he => rowL_ok (envP_ok hC hL) hS hnb hr hA hu hw hTn he
/-- The outs' own form. -/
def okOuts (n : Nat) : Outs → Bool
  | [] => true
  | (t, _, s) :: r => Nat.beq s.n n && ((match getO t r with | some _ => false | none => true) && okOuts n r)
theorem okOuts_ok {n : Nat} : ∀ {o : Outs}, okOuts n o = true → Once o ∧ ∀ t c y, getO t o = some (c, y) → y.n = n
  | [], _ => ⟨trivial, fun t c y h => by cases h⟩
  | (k, d, s) :: r, h => by
    unfold okOuts at h
    simp only [Bool.and_eq_true] at h
    obtain ⟨h1, h2, h3⟩ := h
    obtain ⟨g1, g2⟩ := okOuts_ok h3
    refine ⟨⟨?_, g1⟩, fun t c y hy => ?_⟩
    · cases hg : getO k r with
      | none => rfl
      | some x => rw [hg] at h2; cases h2
    · have hy' : (bif tagB k t then some (d, s) else getO t r) = some (c, y) := hy
      cases hb : tagB k t with
      | true => rw [hb] at hy'; cases hy'; exact Nat.eq_of_beq_eq_true h1
      | false => rw [hb] at hy'; exact g2 t c y hy'

theorem wrapU8 (x : Int) : 0 ≤ IntKind.u8.wrap x ∧ IntKind.u8.wrap x < 256 := by
  simp only [IntKind.wrap, IntKind.bits, IntKind.signed]
  have h1 := Int.emod_nonneg x (show (256 : Int) ≠ 0 by decide)
  have h2 := Int.emod_lt_of_pos x (show (0 : Int) < 256 by decide)
  exact ⟨h1, h2⟩
theorem wrapU64 (x : Int) : 0 ≤ IntKind.u64.wrap x := by
  simp only [IntKind.wrap, IntKind.bits, IntKind.signed]
  exact Int.emod_nonneg x (by decide)
theorem wrapU32 (x : Int) : 0 ≤ IntKind.u32.wrap x := by
  simp only [IntKind.wrap, IntKind.bits, IntKind.signed]
  exact Int.emod_nonneg x (by decide)
/-! ### arguments as data -/
def argT (c : TC) (x : A) : Option (U c × List Prop) := match cellsA x with
  | some cs => dec c cs
  | none => none
def argL (c : TC) : A → Option (List (U c))
  | .sl c' l => match TC.same c' c with
    | some h => some (castL h.down l)
    | none => none
  | .nl => some []
  | .v x => bif isNilV x then some [] else none
  | _ => none
section
variable {F : Nat → Prop} {N : Nm} {nx : Nat} {R : World}
theorem argL_ok {c : TC} {x : A} {l : List (U c)} {v : Value} (he : argL c x = some l) (h : Hv F N nx R x v) : Hv F N nx R (.sl c l) v := by
  unfold argL at he
  split at he <;> first | (cases he; done) | skip
  · split at he <;> first | (cases he; done) | skip
    rename_i h1 _
    obtain ⟨h1⟩ := h1
    subst h1
    cases he
    exact h
  · cases he
    obtain ⟨a, e⟩ := h.nl_inv
    exact Hv.sl_nil e
  · rename_i x
    cases hb : isNilV x with
    | false => rw [hb] at he; cases he
    | true =>
      rw [hb] at he
      cases he
      exact Hv.sl_nil (by rw [h.v_inv, isNilV_ok hb])
theorem hl_agg {c : TC} {d : U c} {vs : List Value} (h : HL F N nx R (enc c d) vs) (ha : c.isAgg = true) : Hv F N nx R (valA c d) (.agg vs.toArray) := by
  unfold valA
  rw [ha]
  exact aggA_ok h
theorem hl_one {c : TC} {d : U c} {vs : List Value} {v : Value} (h : HL F N nx R (enc c d) vs) (ha : c.isAgg = false) (hv : vs[0]? = some v) : Hv F N nx R (valA c d) v := by
  unfold valA
  rw [ha]
  show Hv F N nx R (match enc c d with | x :: _ => x | [] => .dead) v
  generalize enc c d = l at h
  cases l with
  | nil => exact .dead _
  | cons x r =>
    obtain ⟨w, ws, rfl, h1, _⟩ := h.inv
    cases hv
    exact h1
/-- A value whose kind fits its cells: one that is spread is an aggregate. -/
def fitsT (c : TC) : A → Bool
  | .v (.agg _) => c.isAgg
  | .agg _ => c.isAgg
  | .v (.tuple _) => false
  | .v x => !c.isAgg && x.oneCell'
  | .opt _ _ _ => false
  | .tup _ => false
  | .dead => false
  | .it _ _ => false
  | .sq _ => false
  | _ => !c.isAgg
def argU (c : TC) (x : A) : Option (U c × List Prop) := bif fitsT c x then argT c x else none
theorem argU_ok {c : TC} {x : A} {d : U c} {ps : List Prop} {v : Value} (he : argU c x = some (d, ps)) (hp : ∀ p ∈ ps, p) (h : Hv F N nx R x v) : Hv F N nx R (valA c d) v := by
  unfold argU at he
  cases hf : fitsT c x with
  | false => rw [hf] at he; cases he
  | true =>
    rw [hf] at he
    simp only [cond_true] at he
    unfold argT at he
    split at he <;> first | (cases he; done) | skip
    rename_i cs hcs
    have hd := dec_ok (F := F) (N := N) (nx := nx) (R := R) he hp
    have single : ∀ {y : A}, Hv F N nx R y v → cs = [y] → c.isAgg = false → Hv F N nx R (valA c d) v := fun {y} hy e hc => by
      subst e
      exact hl_one (hd [v] (HL.cons hy HL.nil)) hc rfl
    cases x <;> first | (cases hf; done) | skip
    · rename_i y
      have hv := h.v_inv
      subst hv
      cases hcs
      have hl : HL F N nx R (toL v.cells.toList) v.cells.toList := HL.toL _
      cases v with
      | agg xs =>
        have hl' : HL F N nx R (toL xs.toList) xs.toList := hl
        have := hl_agg (hd _ hl') hf
        simpa using this
      | tuple xs => cases hf
      | _ =>
        simp only [fitsT, Bool.and_eq_true, Bool.not_eq_true'] at hf
        exact hl_one (hd _ hl) hf.1 rfl
    · cases hcs
      exact single h rfl (by simpa [fitsT] using hf)
    · cases hcs
      exact single h rfl (by simpa [fitsT] using hf)
    · cases hcs
      exact single h rfl (by simpa [fitsT] using hf)
    · cases hcs
      exact single h rfl (by simpa [fitsT] using hf)
    · cases hcs
      exact single h rfl (by simpa [fitsT] using hf)
    · cases hcs
      exact single h rfl (by simpa [fitsT] using hf)
    · cases hcs
      exact single h rfl (by simpa [fitsT] using hf)
    · cases hcs
      exact single h rfl (by simpa [fitsT] using hf)
    · cases hcs
      exact single h rfl (by simpa [fitsT] using hf)
    · cases hcs
      obtain ⟨vs, rfl, h2⟩ := h.agg_inv
      exact hl_agg (hd _ h2) hf
end
theorem freeL_nil : freeL [] = true := by unfold freeL; rfl
theorem freeL_cons {x : A} {r : List A} (h : x.free = true) (k : freeL r = true) : freeL (x :: r) = true := by unfold freeL; rw [h, k]; rfl
theorem valA_free (c : TC) (d : U c) : (valA c d).free = true := by
  have hfr : ∀ l : List A, (∀ x ∈ l, x.free = true) → freeL l = true := fun l => by
    induction l with
    | nil => intro _; unfold freeL; rfl
    | cons x r ih => intro h; unfold freeL; rw [h x (List.mem_cons_self ..), ih fun y hy => h y (List.mem_cons_of_mem _ hy)]; rfl
  have h := enc_free c d
  unfold valA
  cases c.isAgg with
  | true =>
    show (aggA (enc c d)).free = true
    unfold aggA
    split
    · unfold A.free; rfl
    · unfold A.free; exact hfr _ h
  | false =>
    show A.free (match enc c d with | x :: _ => x | [] => .dead) = true
    have hl := enc_length c d
    have hs : 0 < size c := by cases c <;> decide
    generalize enc c d = l at h hl
    cases l with
    | nil => rw [← hl] at hs; cases hs
    | cons x r => exact h x (List.mem_cons_self ..)
/-- Arguments that are brought into another form. -/
theorem callOk_args {P : Program} {f : FuncId} {args args' : List A} {nx k nx' : Nat} {o o' : Objs} {x : A} (h : CallOk P f args' nx o k x nx' o') (ha : ∀ (F : Nat → Prop) (N : Nm) (R : World) (vs : List Value), HL F N nx R args vs → HL F N nx R args' vs) : CallOk P f args nx o k x nx' o' :=
  fun F N R vs hh hl => h F N R vs hh (ha F N R vs hl)
end Go.Proofs.Yteebobbhhgmeiaa
