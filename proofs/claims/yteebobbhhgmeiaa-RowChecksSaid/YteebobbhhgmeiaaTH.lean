/- A symbolic run over typed data, part H: effects: new blocks, stores, append, make, copy, calls. -/
import Derived.Test.YteebobbhhgmeiaaTH0
import Derived.Test.YteebobbhhgmeiaaTP
namespace Go.Proofs.Yteebobbhhgmeiaa
open Go.RowKit

/-- What an operation comes to: its value, the next number, the objects, what it is (0: it leaves all alone; 1: it makes new things; 2: it turns what was there), what must hold. -/
structure Eff where
  x : A
  nx : Nat
  o : Objs
  k : Nat
  ps : List Prop

def EK (F : Nat → Prop) (N : Nm) (nx : Nat) (o : Objs) (R : World) (f : Eff) (v : Value) (R' : World) : Prop :=
  ∃ F' N', HRel F' N' f.nx f.o R' ∧ Step F N nx o R F' N' f.nx f.o R' ∧ Hv F' N' f.nx R' f.x v ∧ (f.k ≤ 1 → Below R.heap.size R R')

/-! ### new boxes, new rows -/
section
variable {F : Nat → Prop} {N : Nm} {nx : Nat} {o : Objs} {R R' : World}
theorem below_alloc (ob : Obj) : Below R.heap.size R (R.alloc ob) := (Below.refl _ _).alloc (Nat.le_refl _) _
theorem HL.up {N' : Nm} {nx' : Nat} {xs : List A} {vs : List Value} (st : Ext F N nx R F N' nx' R') (h : HL F N nx R xs vs) : HL F N' nx' R' xs vs := h.step st
/-- A new object of its own block. -/
theorem ek_new (h : HRel F N nx o R) {ob : Ob} {B : Obj} {k : Nat} {ps : List Prop} {x : A} {v : Value} (hfoot : ∀ N' g, foot N' nx ob g → g = N'.b nx)
    (hob : Ext F N nx R F (N.setB nx R.heap.size) (nx + 1) (R.alloc B) → (R.alloc B).heap[(N.setB nx R.heap.size).b nx]? = some B → ObR F (N.setB nx R.heap.size) (nx + 1) (R.alloc B) nx ob)
    (hx : Hv F (N.setB nx R.heap.size) (nx + 1) (R.alloc B) x v) :
    EK F N nx o R ⟨x, nx + 1, (nx, some ob) :: o, k, ps⟩ v (R.alloc B) := by
  have hb : (R.alloc B).heap[(N.setB nx R.heap.size).b nx]? = some B := by
    show (R.alloc B).heap[setF N.b nx R.heap.size nx]? = _
    rw [setF_same]
    exact heap_alloc_new R _
  have hne : ∀ i, i < nx → (N.setB nx R.heap.size).b i = N.b i := fun i hi => setF_ne _ _ (by omega)
  obtain ⟨h1, h2⟩ := h.upd (R' := R.alloc B) (N' := N.setB nx R.heap.size) (nx' := nx + 1) (o' := (nx, some ob) :: o) (i0 := nx) (ob0 := ob) (T := fun _ => False) rfl rfl rfl (by simp)
    (fun g hg => hg.elim) (fun g hg _ => Below.heap_alloc R _ g hg) (by omega) hne (fun _ _ => rfl)
    (fun i ob' hi hl => by rw [lookO_cons, if_neg hi] at hl; exact ⟨hl, fun _ _ hf => hf.elim⟩)
    (fun ob' hl => by rw [lookO_cons, if_pos rfl] at hl; exact (Option.some.inj hl).symm) (by omega) (fun st => hob st hb)
    (fun g hg => .inl (by rw [hfoot _ g hg]; show R.heap.size ≤ setF N.b nx R.heap.size nx; rw [setF_same]; exact Nat.le_refl _))
  exact ⟨F, N.setB nx R.heap.size, h1, h2, hx, fun _ => below_alloc _⟩
/-- An object of one block is turned. -/
theorem ek_upd (h : HRel F N nx o R) {i : Nat} {ob ob' : Ob} {B B0 : Obj} {ps : List Prop} {x : A} {v : Value} (hl : lookO i o = some ob) (hf : foot N i ob (N.b i)) (hf' : ∀ g, foot N i ob' g → g = N.b i) (hb : R.heap[N.b i]? = some B0)
    (hob : { R with heap := R.heap.setIfInBounds (N.b i) B }.heap[N.b i]? = some B → ObR F N nx { R with heap := R.heap.setIfInBounds (N.b i) B } i ob') (hx : Hv F N nx { R with heap := R.heap.setIfInBounds (N.b i) B } x v) :
    EK F N nx o R ⟨x, nx, (i, some ob') :: o, 2, ps⟩ v { R with heap := R.heap.setIfInBounds (N.b i) B } := by
  have hi := (h.ob i _ hl).1
  have hlt := blk_lt hb
  have hset : { R with heap := R.heap.setIfInBounds (N.b i) B }.heap[N.b i]? = some B := by simp [hlt]
  obtain ⟨h1, h2⟩ := h.upd (R' := { R with heap := R.heap.setIfInBounds (N.b i) B }) (N' := N) (nx' := nx) (o' := (i, some ob') :: o) (i0 := i) (ob0 := ob') (T := fun g => g = N.b i) rfl rfl rfl (by simp)
    (fun g hg => ⟨i, _, hl, by rw [show g = N.b i from hg]; exact hf⟩) (fun g _ hg => by have hne : ¬ N.b i = g := fun e => hg e.symm; simp [hne]) (Nat.le_refl _) (fun _ _ => rfl) (fun _ _ => rfl)
    (fun j ob2 hj hl' => by
      rw [lookO_cons, if_neg hj] at hl'
      refine ⟨hl', fun g hg e => hj ?_⟩
      have e' : g = N.b i := e
      subst e'
      exact h.sep j i ob2 _ _ hl' hl hg hf)
    (fun ob2 hl' => by rw [lookO_cons, if_pos rfl] at hl'; exact (Option.some.inj hl').symm) hi
    (fun _ => hob hset) (fun g hg => .inr (hf' g hg))
  exact ⟨F, N, h1, h2, hx, fun hk => by cases hk with | step hk => cases hk⟩
theorem ek_box (h : HRel F N nx o R) {cs : List A} {vs : List Value} (hc : HL F N nx R cs vs) (e : TypeId) (k : Nat) (ps : List Prop) :
    EK F N nx o R ⟨.own nx 0, nx + 1, (nx, some (.box e cs)) :: o, k, ps⟩ (.pointer (some ⟨R.heap.size, 0, none⟩)) (R.alloc (.cells vs.toArray e (0, 0))) := by
  refine ek_new h (fun N' g hg => hg) (fun st hb => ⟨vs, hc.step st, hb⟩) ?_
  have : (⟨R.heap.size, 0, none⟩ : Addr) = ⟨(N.setB nx R.heap.size).b nx, 0, none⟩ := by
    show _ = (⟨setF N.b nx R.heap.size nx, 0, none⟩ : Addr)
    rw [setF_same]
  rw [this]
  exact .own (by omega)

/-- The objects without one. -/
def dropO1 (o : Objs) : Option Nat → Objs
  | none => o
  | some i => (i, none) :: o
theorem lookO_drop1 {d : Option Nat} {i : Nat} {ob : Ob} (h : lookO i (dropO1 o d) = some ob) : lookO i o = some ob ∧ d ≠ some i := by
  cases d with
  | none => exact ⟨h, fun e => by cases e⟩
  | some j =>
    have h' : lookO i ((j, none) :: o) = some ob := h
    rw [lookO_cons] at h'
    by_cases e : i = j
    · rw [if_pos e] at h'; cases h'
    · rw [if_neg e] at h'; exact ⟨h', fun e' => e (Option.some.inj e').symm⟩
/-- A new row of one's own, in the place of one that is given up, or none. -/
theorem ek_row (h : HRel F N nx o R) {d : Option Nat} {e : TypeId} {size : Nat} {els : Els} {zs : List Value} {v : Value} {k : Nat} {ps : List Prop}
    (hos : R'.os = R.os) (htape : R'.tape = R.tape) (hout : R'.output = R.output) (hsz : R.heap.size ≤ R'.heap.size)
    (hd : ∀ i, d = some i → ∃ e' s' els', lookO i o = some (.arr e' s' els'))
    (keep : ∀ g, g < R.heap.size → (∀ i, d = some i → blkOf (N.q i) ≠ some g) → R'.heap[g]? = R.heap[g]?)
    (hown : OwnR R' e size v els.n zs) (hels : RowHL F N nx R els size zs) (hnew : ∀ g, blkOf v = some g → R.heap.size ≤ g ∨ ∃ i, d = some i ∧ blkOf (N.q i) = some g) (hk : k ≤ 1 → d = none) :
    EK F N nx o R ⟨.sq nx, nx + 1, (nx, some (.arr e size els)) :: dropO1 o d, k, ps⟩ v R' := by
  let T : Nat → Prop := fun g => ∃ i, d = some i ∧ blkOf (N.q i) = some g
  have hq : (N.setQ nx v).q nx = v := setF_same _ _ _
  have hne : ∀ i, i < nx → (N.setQ nx v).q i = N.q i := fun i hi => setF_ne _ _ (by omega)
  have keep' : ∀ g, g < R.heap.size → ¬ T g → R'.heap[g]? = R.heap[g]? := fun g hg ht => keep g hg fun i hi hb => ht ⟨i, hi, hb⟩
  obtain ⟨h1, h2⟩ := h.upd (R' := R') (N' := N.setQ nx v) (nx' := nx + 1) (o' := (nx, some (.arr e size els)) :: dropO1 o d) (i0 := nx) (ob0 := .arr e size els) (T := T) hos htape hout hsz
    (fun g ⟨i, hi, hg⟩ => by obtain ⟨e', s', els', hl⟩ := hd i hi; exact ⟨i, _, hl, hg⟩) keep' (by omega) (fun _ _ => rfl) hne
    (fun i ob' hi hl => by
      rw [lookO_cons, if_neg hi] at hl
      obtain ⟨g1, g2⟩ := lookO_drop1 hl
      refine ⟨g1, fun g hg ⟨j, hj, hb⟩ => ?_⟩
      obtain ⟨e', s', els', hl'⟩ := hd j hj
      have := h.sep i j ob' _ g g1 hl' hg hb
      subst this
      exact g2 hj)
    (fun ob' hl => by rw [lookO_cons, if_pos rfl] at hl; exact (Option.some.inj hl).symm) (by omega)
    (fun st => ⟨zs, by rw [hq]; exact hown, (hels.step st).2⟩)
    (fun g hg => by
      have hg' : blkOf ((N.setQ nx v).q nx) = some g := hg
      rw [hq] at hg'
      exact hnew g hg')
  refine ⟨F, N.setQ nx v, h1, h2, ?_, fun hk' => ⟨hos, htape, hout, hsz, fun g hg => keep' g hg fun ⟨i, hi, _⟩ => by rw [hk hk'] at hi; cases hi⟩⟩
  have := Hv.sq (F := F) (N := N.setQ nx v) (nx := nx + 1) (R := R') (i := nx) (by omega)
  rwa [hq] at this
/-- A box of one's own is written. -/
theorem ek_set (h : HRel F N nx o R) {i : Nat} {e : TypeId} {cs cs' : List A} {vs vs' : List Value} {ps : List Prop} (hl : lookO i o = some (.box e cs)) (hc' : HL F N nx R cs' vs') (hb : R.heap[N.b i]? = some (.cells vs.toArray e (0, 0))) :
    EK F N nx o R ⟨.v undef, nx, (i, some (.box e cs')) :: o, 2, ps⟩ undef (R.setRow (N.b i) vs'.toArray) := by
  have hi := (h.ob i _ hl).1
  obtain ⟨h1, h2⟩ := h.upd (R' := R.setRow (N.b i) vs'.toArray) (N' := N) (nx' := nx) (o' := (i, some (.box e cs')) :: o) (i0 := i) (ob0 := .box e cs') (T := fun g => g = N.b i) rfl rfl rfl (by simp)
    (fun g hg => ⟨i, _, hl, hg⟩) (fun g _ hg => setRow_other R _ g _ (fun e => hg e)) (Nat.le_refl _) (fun _ _ => rfl) (fun _ _ => rfl)
    (fun j ob' hj hl' => by
      rw [lookO_cons, if_neg hj] at hl'
      refine ⟨hl', fun g hg e => hj ?_⟩
      subst e
      exact h.sep j i ob' _ _ hl' hl hg rfl)
    (fun ob' hl' => by rw [lookO_cons, if_pos rfl] at hl'; exact (Option.some.inj hl').symm) hi
    (fun st => ⟨vs', hc'.step st, setRow_heap R _ _ _ e _ hb⟩) (fun g hg => .inr hg)
  exact ⟨F, N, h1, h2, .v _, fun hk => by cases hk with | step hk => cases hk⟩
/-- A row of one's own is written. -/
theorem ek_put (h : HRel F N nx o R) {i : Nat} {e : TypeId} {size : Nat} {els els' : Els} {zs' : List Value} {ps : List Prop} (hl : lookO i o = some (.arr e size els))
    (hos : R'.os = R.os) (htape : R'.tape = R.tape) (hout : R'.output = R.output) (hsz : R.heap.size ≤ R'.heap.size)
    (keep : ∀ g, g < R.heap.size → blkOf (N.q i) ≠ some g → R'.heap[g]? = R.heap[g]?) (hown : OwnR R' e size (N.q i) els'.n zs') (hels : RowHL F N nx R els' size zs') {v : Value} {x : A} (hx : ∀ F' N', Hv F' N' nx R' x v) :
    EK F N nx o R ⟨x, nx, (i, some (.arr e size els')) :: o, 2, ps⟩ v R' := by
  have hi := (h.ob i _ hl).1
  obtain ⟨h1, h2⟩ := h.upd (R' := R') (N' := N) (nx' := nx) (o' := (i, some (.arr e size els')) :: o) (i0 := i) (ob0 := .arr e size els') (T := fun g => blkOf (N.q i) = some g) hos htape hout hsz
    (fun g hg => ⟨i, _, hl, hg⟩) keep (Nat.le_refl _) (fun _ _ => rfl) (fun _ _ => rfl)
    (fun j ob' hj hl' => by
      rw [lookO_cons, if_neg hj] at hl'
      exact ⟨hl', fun g hg e => hj (h.sep j i ob' _ g hl' hl hg e)⟩)
    (fun ob' hl' => by rw [lookO_cons, if_pos rfl] at hl'; exact (Option.some.inj hl').symm) hi
    (fun st => ⟨zs', hown, (hels.step st).2⟩) (fun g hg => .inr hg)
  exact ⟨F, N, h1, h2, hx F N, fun hk => by cases hk with | step hk => cases hk⟩
/-- A new block that stays as it is. -/
theorem ek_frozen (h : HRel F N nx o R) (hb : Below R.heap.size R R') {x : A} {v : Value} {k : Nat} {ps : List Prop} (hlt : R.heap.size < R'.heap.size)
    (hx : Hv (fun g => F g ∨ g = R.heap.size) N nx R' x v) : EK F N nx o R ⟨x, nx, o, k, ps⟩ v R' := by
  have st : Step F N nx o R (fun g => F g ∨ g = R.heap.size) N nx o R' :=
    ⟨Nat.le_refl _, fun _ _ => rfl, fun _ _ => rfl, fun _ h => .inl h, fun g hg => by
      rcases hg with hg | hg
      · exact .inl hg
      · exact .inr (.inr (by omega)), fun _ h => .inl h, hb.os, hb.tape, hb.output, hb.size, fun g hg _ => hb.block g hg⟩
  have hx2 := st.ext h
  refine ⟨_, N, ⟨fun g hg => ?_, fun i ob hi => ⟨(h.ob i ob hi).1, (h.ob i ob hi).2.step hx2 (h.ob i ob hi).1 fun g hg => hb.block g ((h.ob i ob hi).2.lt hg)⟩, fun i ob g hi hg hf => ?_, h.sep⟩, st, hx, fun _ => hb⟩
  · rcases hg with hg | hg
    · exact Nat.lt_of_lt_of_le (h.flt g hg) hb.size
    · omega
  · rcases hf with hf | hf
    · exact h.ff i ob g hi hg hf
    · have := (h.ob i ob hi).2.lt hg; omega
end
end Go.Proofs.Yteebobbhhgmeiaa
