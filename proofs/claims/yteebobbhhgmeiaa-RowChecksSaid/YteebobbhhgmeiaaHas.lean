/- What a walk knows of its own blocks, carried as one fact. -/
import Derived.Test.YteebobbhhgmeiaaParC
namespace Go.Proofs.Yteebobbhhgmeiaa
open Go.RowKit

/-- The world W is w with more behind block n, and holds the blocks of L. -/
structure Sx (w : World) (n : Nat) (L : List (Nat × Obj)) (W : World) : Prop where
  bel : Below n w W
  sz : n ≤ W.heap.size
  has : ∀ e ∈ L, W.heap[e.1]? = some e.2

variable {w W W' : World} {n m : Nat} {L : List (Nat × Obj)} {o : Obj}

theorem Sx.start (hn : w.heap.size = n) : Sx w n [] w := ⟨Below.refl _ _, Nat.le_of_eq hn.symm, fun _ h => by cases h⟩
theorem Sx.call (h : Sx w n L W) (hb : Below W.heap.size W W') : Sx w n L W' :=
  ⟨below_next h.bel h.sz hb, size_next h.sz hb, fun e he => blk_next (h.has e he) hb⟩
theorem Sx.grow (h : Sx w n L W) (x : Xt) : Sx w n L (ext W x) := h.call (below_ext W x)
theorem Sx.push (h : Sx w n L W) (hm : W.heap.size = m) (hb : Below m W W') (ho : W'.heap[m]? = some o) : Sx w n ((m, o) :: L) W' := by
  subst hm
  have h' := h.call hb
  exact ⟨h'.bel, h'.sz, fun e he => by
    rcases List.mem_cons.1 he with rfl | he
    · exact ho
    · exact h'.has e he⟩
theorem Sx.new (h : Sx w n L W) (hb : Below W.heap.size W W') (ho : W'.heap[m]? = some o) : Sx w n ((m, o) :: L) W' := by
  have h' := h.call hb
  exact ⟨h'.bel, h'.sz, fun e he => by
    rcases List.mem_cons.1 he with rfl | he
    · exact ho
    · exact h'.has e he⟩
theorem Sx.add (h : Sx w n L W) (ho : W.heap[m]? = some o) : Sx w n ((m, o) :: L) W :=
  ⟨h.bel, h.sz, fun e he => by
    rcases List.mem_cons.1 he with rfl | he
    · exact ho
    · exact h.has e he⟩
theorem Sx.get {e : Nat × Obj} (h : Sx w n L W) (i : Nat) (hi : L[i]? = some e) : W.heap[e.1]? = some e.2 := h.has e (List.mem_of_getElem? hi)
theorem Sx.lt {e : Nat × Obj} (h : Sx w n L W) (i : Nat) (hi : L[i]? = some e) : e.1 < W.heap.size := blk_lt (h.get i hi)
theorem Sx.of1 {o0 : Obj} (hb : Below n w W) (hz : W.heap.size = n + 1) (b0 : W.heap[n]? = some o0) : Sx w n [(n, o0)] W :=
  ⟨hb, by omega, fun e he => by
    rcases List.mem_cons.1 he with rfl | he
    · exact b0
    · cases he⟩
theorem Sx.of2 {o0 o1 : Obj} (hb : Below n w W) (hz : W.heap.size = n + 1 + 1) (b0 : W.heap[n]? = some o0) (b1 : W.heap[n + 1]? = some o1) : Sx w n [(n, o0), (n + 1, o1)] W :=
  (((⟨hb, by omega, fun _ h => by cases h⟩ : Sx w n [] W).add b1).add b0)
theorem Sx.of3 {o0 o1 o2 : Obj} (hb : Below n w W) (hz : W.heap.size = n + 1 + 1 + 1) (b0 : W.heap[n]? = some o0) (b1 : W.heap[n + 1]? = some o1) (b2 : W.heap[n + 1 + 1]? = some o2) :
    Sx w n [(n, o0), (n + 1, o1), (n + 1 + 1, o2)] W :=
  ((((⟨hb, by omega, fun _ h => by cases h⟩ : Sx w n [] W).add b2).add b1).add b0)
theorem Sx.of4 {o0 o1 o2 o3 : Obj} (hb : Below n w W) (hz : W.heap.size = n + 1 + 1 + 1 + 1) (b0 : W.heap[n]? = some o0) (b1 : W.heap[n + 1]? = some o1) (b2 : W.heap[n + 1 + 1]? = some o2) (b3 : W.heap[n + 1 + 1 + 1]? = some o3) :
    Sx w n [(n, o0), (n + 1, o1), (n + 1 + 1, o2), (n + 1 + 1 + 1, o3)] W :=
  (((((⟨hb, by omega, fun _ h => by cases h⟩ : Sx w n [] W).add b3).add b2).add b1).add b0)
theorem Sx.weak (h : Sx w n L W) (L' : List (Nat × Obj)) (hl : ∀ e ∈ L', e ∈ L) : Sx w n L' W := ⟨h.bel, h.sz, fun e he => h.has e (hl e he)⟩
/-- A store into the first block of the list. -/
theorem Sx.upd0 {g j : Nat} {cs : Array Value} {t : TypeId} {T : List (Nat × Obj)} (h : Sx w n ((g, .cells cs t (0, 0)) :: T) W) (hg : n ≤ g) (hT : ∀ e ∈ T, e.1 ≠ g) (v : Value) :
    Sx w n ((g, .cells (cs.setIfInBounds j v) t (0, 0)) :: T) (W.setCell ⟨g, j, none⟩ v) :=
  ⟨below_set h.bel hg v, by rw [set_size]; exact h.sz, fun e he => by
    rcases List.mem_cons.1 he with rfl | he
    · exact set_same (h.get 0 rfl) v
    · exact set_far (p := ⟨g, j, none⟩) (h.has e (List.mem_cons_of_mem _ he)) (hT e he) v⟩
/-- A whole value stored, cell by cell. -/
theorem Sx.upd2 {g : Nat} {t : TypeId} {c0 c1 : Value} {T : List (Nat × Obj)} (h : Sx w n ((g, .cells #[c0, c1] t (0, 0)) :: T) W) (hg : n ≤ g) (hT : ∀ e ∈ T, e.1 ≠ g) (v0 v1 : Value) :
    Sx w n ((g, .cells #[v0, v1] t (0, 0)) :: T) ((W.setCell ⟨g, 0, none⟩ v0).setCell ⟨g, 1, none⟩ v1) := ((h.upd0 (j := 0) hg hT v0).upd0 (j := 1) hg hT v1)
theorem Sx.upd5 {g : Nat} {t : TypeId} {c0 c1 c2 c3 c4 : Value} {T : List (Nat × Obj)} (h : Sx w n ((g, .cells #[c0, c1, c2, c3, c4] t (0, 0)) :: T) W) (hg : n ≤ g) (hT : ∀ e ∈ T, e.1 ≠ g) (v0 v1 v2 v3 v4 : Value) :
    Sx w n ((g, .cells #[v0, v1, v2, v3, v4] t (0, 0)) :: T) (((((W.setCell ⟨g, 0, none⟩ v0).setCell ⟨g, 1, none⟩ v1).setCell ⟨g, 2, none⟩ v2).setCell ⟨g, 3, none⟩ v3).setCell ⟨g, 4, none⟩ v4) := (((((h.upd0 (j := 0) hg hT v0).upd0 (j := 1) hg hT v1).upd0 (j := 2) hg hT v2).upd0 (j := 3) hg hT v3).upd0 (j := 4) hg hT v4)
theorem Sx.upd8 {g : Nat} {t : TypeId} {c0 c1 c2 c3 c4 c5 c6 c7 : Value} {T : List (Nat × Obj)} (h : Sx w n ((g, .cells #[c0, c1, c2, c3, c4, c5, c6, c7] t (0, 0)) :: T) W) (hg : n ≤ g) (hT : ∀ e ∈ T, e.1 ≠ g) (v0 v1 v2 v3 v4 v5 v6 v7 : Value) :
    Sx w n ((g, .cells #[v0, v1, v2, v3, v4, v5, v6, v7] t (0, 0)) :: T) ((((((((W.setCell ⟨g, 0, none⟩ v0).setCell ⟨g, 1, none⟩ v1).setCell ⟨g, 2, none⟩ v2).setCell ⟨g, 3, none⟩ v3).setCell ⟨g, 4, none⟩ v4).setCell ⟨g, 5, none⟩ v5).setCell ⟨g, 6, none⟩ v6).setCell ⟨g, 7, none⟩ v7) := by
  have h1 := (((((((h.upd0 (j := 0) hg hT v0).upd0 (j := 1) hg hT v1).upd0 (j := 2) hg hT v2).upd0 (j := 3) hg hT v3).upd0 (j := 4) hg hT v4).upd0 (j := 5) hg hT v5).upd0 (j := 6) hg hT v6).upd0 (j := 7) hg hT v7
  simpa only [List.setIfInBounds_toArray, List.set_cons_zero, List.set_cons_succ] using h1
end Go.Proofs.Yteebobbhhgmeiaa
