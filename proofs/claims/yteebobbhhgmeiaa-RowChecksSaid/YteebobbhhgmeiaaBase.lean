/- Worlds that grow: 'ext w x' is w with more blocks behind it. A region that draws its order, whose operations only read and whose callees only add blocks, is walked once. -/
import Derived.WalkKit
import Derived.Deep.QuietTactic
import Derived.BigQuiet
import Derived.Deep.Draws
import Derived.Lib.Hide
namespace Go.Proofs.Yteebobbhhgmeiaa
open Go.RowKit

structure Xt where
  hp : Array Obj
  dr : Nat

instance : Inhabited Xt := ⟨⟨#[], 0⟩⟩

def ext (w : World) (x : Xt) : World := { w with heap := w.heap ++ x.hp, drawn := x.dr }

theorem ext_size (w : World) (x : Xt) : (ext w x).heap.size = w.heap.size + x.hp.size := by simp [ext]

theorem ext_ext (w : World) (x y : Xt) : ext (ext w x) y = ext w ⟨x.hp ++ y.hp, y.dr⟩ := by
  simp [ext, Array.append_assoc]

theorem ext_block (w : World) (x : Xt) (k : Nat) (h : k < w.heap.size) : (ext w x).heap[k]? = w.heap[k]? := by
  simp only [ext]
  exact Array.getElem?_append_left h

theorem below_ext (w : World) (x : Xt) : Below w.heap.size w (ext w x) :=
  ⟨rfl, rfl, rfl, by rw [ext_size]; omega, fun k hk => ext_block w x k hk⟩

theorem ext_of_below {w w' : World} (h : Below w.heap.size w w') : ∃ x, w' = ext w x := by
  refine ⟨⟨w'.heap.extract w.heap.size w'.heap.size, w'.drawn⟩, ?_⟩
  have hh : w'.heap = w.heap ++ w'.heap.extract w.heap.size w'.heap.size := by
    apply Array.ext_getElem?
    intro i
    by_cases hi : i < w.heap.size
    · rw [Array.getElem?_append_left hi, h.block i hi]
    · rw [Array.getElem?_append_right (by omega), Array.getElem?_extract]
      have hs := h.size
      by_cases hj : i < w'.heap.size
      · rw [if_pos (by omega)]
        congr 1
        omega
      · rw [if_neg (by omega), Array.getElem?_eq_none (by omega)]
  cases w with
  | mk a b c d e =>
    cases w' with
    | mk a' b' c' d' e' =>
      obtain ⟨h1, h2, h3, _, _⟩ := h
      simp only at h1 h2 h3 hh
      subst h1 h2 h3
      simp only [ext]
      congr 1

theorem ext_cell {w : World} {p : Addr} {v : Value} (h : w.cell? p = some v) (x : Xt) : (ext w x).cell? p = some v := by
  have hp : p.block < w.heap.size := by
    rcases Nat.lt_or_ge p.block w.heap.size with h' | h'
    · exact h'
    · unfold World.cell? at h
      rw [Array.getElem?_eq_none h'] at h
      cases h
  rw [(below_ext w x).cell hp]
  exact h

theorem ext_blk {w : World} {k : Nat} {o : Obj} (h : w.heap[k]? = some o) (x : Xt) : (ext w x).heap[k]? = some o := by
  have hp : k < w.heap.size := by
    rcases Nat.lt_or_ge k w.heap.size with h' | h'
    · exact h'
    · rw [Array.getElem?_eq_none h'] at h
      cases h
  rw [ext_block w x k hp]
  exact h

/-- A region that draws its order, walked once, in the class of all worlds that w grows to. -/
theorem wp_region_ext {P : Program} {id : Nat} {Q : Exit → Act → World → Prop} {a : Act} {w : World} {l : List Oper} (hm : P.follows .mixedOrders = true) (hB : Region.lexB .any l.toArray = true)
    (h : wpQuiet P l.toArray (fun w' => ∃ x, w' = ext w x) (fun a' => ∀ w', (∃ x, w' = ext w x) → Q .normal a' w') l a) : (Code.region id l.toArray true).wp P Q a w :=
  wp_region_quiet (C := fun w' => ∃ x, w' = ext w x) hm hB ⟨⟨#[], w.drawn + 1⟩, by simp [ext]⟩ (by simpa using h)

theorem qcall {P : Program} {f : FuncId} {args : Array Value} {w : World} {x : Xt} {v : Value}
    (h : Calls P f args (ext w x) fun e w' => e = .returned v ∧ Below (ext w x).heap.size (ext w x) w') : Calls P f args (ext w x) fun e w'' => e = .returned v ∧ ∃ y, w'' = ext w y :=
  h.mono fun _ _ ⟨he, hb⟩ => ⟨he, by
    obtain ⟨y, rfl⟩ := ext_of_below hb
    exact ⟨_, ext_ext w x y⟩⟩

theorem qcall_same {P : Program} {f : FuncId} {args : Array Value} {w : World} {x : Xt} {v : Value}
    (h : Calls P f args (ext w x) fun e w' => e = .returned v ∧ ext w x = w') : Calls P f args (ext w x) fun e w'' => e = .returned v ∧ ∃ y, w'' = ext w y :=
  h.mono fun _ _ ⟨he, hb⟩ => ⟨he, x, hb.symm⟩

/-- The world of a walk under a new name, of which R is known. -/
theorem wp_world {P : Program} {c : Code} {Q : Exit → Act → World → Prop} {a : Act} {w : World} (R : World → Prop) (h : R w) (k : ∀ W, R W → c.wp P Q a W) : c.wp P Q a w := k w h

theorem bcell {W w1 : World} (hb : Below W.heap.size W w1) : (∀ b o, b < W.heap.size → w1.cell? ⟨b, o, none⟩ = W.cell? ⟨b, o, none⟩) ∧ (∀ b o, b < W.heap.size → w1.frozen? ⟨b, o, none⟩ = W.frozen? ⟨b, o, none⟩) :=
  ⟨fun b o h => hb.cell (p := ⟨b, o, none⟩) h, fun b o h => hb.frozen (p := ⟨b, o, none⟩) h⟩

/-! blocks that are known whole -/
theorem blk_lt {w : World} {g : Nat} {o : Obj} (h : w.heap[g]? = some o) : g < w.heap.size := by
  rcases Nat.lt_or_ge g w.heap.size with hlt | hge
  · exact hlt
  · rw [Array.getElem?_eq_none hge] at h; cases h
theorem blk_cell {w : World} {g : Nat} {t : TypeId} {cs : Array Value} {fz : Nat × Nat} (h : w.heap[g]? = some (.cells cs t fz)) (i : Nat) : w.cell? ⟨g, i, none⟩ = cs[i]? := cell_of_row w g i cs t fz h
theorem blk_frozen {w : World} {g : Nat} {t : TypeId} {cs : Array Value} (h : w.heap[g]? = some (.cells cs t (0, 0))) (i : Nat) : w.frozen? ⟨g, i, none⟩ = false := by
  simp [World.frozen?, h]
theorem blk_below {w w' : World} {B g : Nat} {o : Obj} (h : w.heap[g]? = some o) (hb : Below B w w') (hg : g < B) : w'.heap[g]? = some o := (hb.block g hg).trans h
theorem blk_next {w w' : World} {g : Nat} {o : Obj} (h : w.heap[g]? = some o) (hb : Below w.heap.size w w') : w'.heap[g]? = some o := (hb.block g (blk_lt h)).trans h

theorem cb1 {w : World} {g : Nat} {t : TypeId} {v0 : Value} (h : w.heap[g]? = some (.cells #[v0] t (0, 0))) : w.cell? ⟨g, 0, none⟩ = some v0 :=
  blk_cell h 0
theorem fb1 {w : World} {g : Nat} {t : TypeId} {v0 : Value} (h : w.heap[g]? = some (.cells #[v0] t (0, 0))) : w.frozen? ⟨g, 0, none⟩ = false :=
  blk_frozen h 0
theorem xb1 {w : World} {g : Nat} {t : TypeId} {v0 : Value} (h : w.heap[g]? = some (.cells #[v0] t (0, 0))) : (∀ x, (ext w x).cell? ⟨g, 0, none⟩ = some v0) :=
  fun x => ext_cell (blk_cell h 0) x
theorem cb2 {w : World} {g : Nat} {t : TypeId} {v0 v1 : Value} (h : w.heap[g]? = some (.cells #[v0, v1] t (0, 0))) : w.cell? ⟨g, 0, none⟩ = some v0 ∧ w.cell? ⟨g, 1, none⟩ = some v1 :=
  ⟨blk_cell h 0, blk_cell h 1⟩
theorem fb2 {w : World} {g : Nat} {t : TypeId} {v0 v1 : Value} (h : w.heap[g]? = some (.cells #[v0, v1] t (0, 0))) : w.frozen? ⟨g, 0, none⟩ = false ∧ w.frozen? ⟨g, 1, none⟩ = false :=
  ⟨blk_frozen h 0, blk_frozen h 1⟩
theorem xb2 {w : World} {g : Nat} {t : TypeId} {v0 v1 : Value} (h : w.heap[g]? = some (.cells #[v0, v1] t (0, 0))) : (∀ x, (ext w x).cell? ⟨g, 0, none⟩ = some v0) ∧ (∀ x, (ext w x).cell? ⟨g, 1, none⟩ = some v1) :=
  ⟨fun x => ext_cell (blk_cell h 0) x, fun x => ext_cell (blk_cell h 1) x⟩
theorem cb3 {w : World} {g : Nat} {t : TypeId} {v0 v1 v2 : Value} (h : w.heap[g]? = some (.cells #[v0, v1, v2] t (0, 0))) : w.cell? ⟨g, 0, none⟩ = some v0 ∧ w.cell? ⟨g, 1, none⟩ = some v1 ∧ w.cell? ⟨g, 2, none⟩ = some v2 :=
  ⟨blk_cell h 0, blk_cell h 1, blk_cell h 2⟩
theorem fb3 {w : World} {g : Nat} {t : TypeId} {v0 v1 v2 : Value} (h : w.heap[g]? = some (.cells #[v0, v1, v2] t (0, 0))) : w.frozen? ⟨g, 0, none⟩ = false ∧ w.frozen? ⟨g, 1, none⟩ = false ∧ w.frozen? ⟨g, 2, none⟩ = false :=
  ⟨blk_frozen h 0, blk_frozen h 1, blk_frozen h 2⟩
theorem xb3 {w : World} {g : Nat} {t : TypeId} {v0 v1 v2 : Value} (h : w.heap[g]? = some (.cells #[v0, v1, v2] t (0, 0))) : (∀ x, (ext w x).cell? ⟨g, 0, none⟩ = some v0) ∧ (∀ x, (ext w x).cell? ⟨g, 1, none⟩ = some v1) ∧ (∀ x, (ext w x).cell? ⟨g, 2, none⟩ = some v2) :=
  ⟨fun x => ext_cell (blk_cell h 0) x, fun x => ext_cell (blk_cell h 1) x, fun x => ext_cell (blk_cell h 2) x⟩
theorem cb4 {w : World} {g : Nat} {t : TypeId} {v0 v1 v2 v3 : Value} (h : w.heap[g]? = some (.cells #[v0, v1, v2, v3] t (0, 0))) : w.cell? ⟨g, 0, none⟩ = some v0 ∧ w.cell? ⟨g, 1, none⟩ = some v1 ∧ w.cell? ⟨g, 2, none⟩ = some v2 ∧ w.cell? ⟨g, 3, none⟩ = some v3 :=
  ⟨blk_cell h 0, blk_cell h 1, blk_cell h 2, blk_cell h 3⟩
theorem fb4 {w : World} {g : Nat} {t : TypeId} {v0 v1 v2 v3 : Value} (h : w.heap[g]? = some (.cells #[v0, v1, v2, v3] t (0, 0))) : w.frozen? ⟨g, 0, none⟩ = false ∧ w.frozen? ⟨g, 1, none⟩ = false ∧ w.frozen? ⟨g, 2, none⟩ = false ∧ w.frozen? ⟨g, 3, none⟩ = false :=
  ⟨blk_frozen h 0, blk_frozen h 1, blk_frozen h 2, blk_frozen h 3⟩
theorem xb4 {w : World} {g : Nat} {t : TypeId} {v0 v1 v2 v3 : Value} (h : w.heap[g]? = some (.cells #[v0, v1, v2, v3] t (0, 0))) : (∀ x, (ext w x).cell? ⟨g, 0, none⟩ = some v0) ∧ (∀ x, (ext w x).cell? ⟨g, 1, none⟩ = some v1) ∧ (∀ x, (ext w x).cell? ⟨g, 2, none⟩ = some v2) ∧ (∀ x, (ext w x).cell? ⟨g, 3, none⟩ = some v3) :=
  ⟨fun x => ext_cell (blk_cell h 0) x, fun x => ext_cell (blk_cell h 1) x, fun x => ext_cell (blk_cell h 2) x, fun x => ext_cell (blk_cell h 3) x⟩
theorem cb5 {w : World} {g : Nat} {t : TypeId} {v0 v1 v2 v3 v4 : Value} (h : w.heap[g]? = some (.cells #[v0, v1, v2, v3, v4] t (0, 0))) : w.cell? ⟨g, 0, none⟩ = some v0 ∧ w.cell? ⟨g, 1, none⟩ = some v1 ∧ w.cell? ⟨g, 2, none⟩ = some v2 ∧ w.cell? ⟨g, 3, none⟩ = some v3 ∧ w.cell? ⟨g, 4, none⟩ = some v4 :=
  ⟨blk_cell h 0, blk_cell h 1, blk_cell h 2, blk_cell h 3, blk_cell h 4⟩
theorem fb5 {w : World} {g : Nat} {t : TypeId} {v0 v1 v2 v3 v4 : Value} (h : w.heap[g]? = some (.cells #[v0, v1, v2, v3, v4] t (0, 0))) : w.frozen? ⟨g, 0, none⟩ = false ∧ w.frozen? ⟨g, 1, none⟩ = false ∧ w.frozen? ⟨g, 2, none⟩ = false ∧ w.frozen? ⟨g, 3, none⟩ = false ∧ w.frozen? ⟨g, 4, none⟩ = false :=
  ⟨blk_frozen h 0, blk_frozen h 1, blk_frozen h 2, blk_frozen h 3, blk_frozen h 4⟩
theorem xb5 {w : World} {g : Nat} {t : TypeId} {v0 v1 v2 v3 v4 : Value} (h : w.heap[g]? = some (.cells #[v0, v1, v2, v3, v4] t (0, 0))) : (∀ x, (ext w x).cell? ⟨g, 0, none⟩ = some v0) ∧ (∀ x, (ext w x).cell? ⟨g, 1, none⟩ = some v1) ∧ (∀ x, (ext w x).cell? ⟨g, 2, none⟩ = some v2) ∧ (∀ x, (ext w x).cell? ⟨g, 3, none⟩ = some v3) ∧ (∀ x, (ext w x).cell? ⟨g, 4, none⟩ = some v4) :=
  ⟨fun x => ext_cell (blk_cell h 0) x, fun x => ext_cell (blk_cell h 1) x, fun x => ext_cell (blk_cell h 2) x, fun x => ext_cell (blk_cell h 3) x, fun x => ext_cell (blk_cell h 4) x⟩
theorem cb6 {w : World} {g : Nat} {t : TypeId} {v0 v1 v2 v3 v4 v5 : Value} (h : w.heap[g]? = some (.cells #[v0, v1, v2, v3, v4, v5] t (0, 0))) : w.cell? ⟨g, 0, none⟩ = some v0 ∧ w.cell? ⟨g, 1, none⟩ = some v1 ∧ w.cell? ⟨g, 2, none⟩ = some v2 ∧ w.cell? ⟨g, 3, none⟩ = some v3 ∧ w.cell? ⟨g, 4, none⟩ = some v4 ∧ w.cell? ⟨g, 5, none⟩ = some v5 :=
  ⟨blk_cell h 0, blk_cell h 1, blk_cell h 2, blk_cell h 3, blk_cell h 4, blk_cell h 5⟩
theorem fb6 {w : World} {g : Nat} {t : TypeId} {v0 v1 v2 v3 v4 v5 : Value} (h : w.heap[g]? = some (.cells #[v0, v1, v2, v3, v4, v5] t (0, 0))) : w.frozen? ⟨g, 0, none⟩ = false ∧ w.frozen? ⟨g, 1, none⟩ = false ∧ w.frozen? ⟨g, 2, none⟩ = false ∧ w.frozen? ⟨g, 3, none⟩ = false ∧ w.frozen? ⟨g, 4, none⟩ = false ∧ w.frozen? ⟨g, 5, none⟩ = false :=
  ⟨blk_frozen h 0, blk_frozen h 1, blk_frozen h 2, blk_frozen h 3, blk_frozen h 4, blk_frozen h 5⟩
theorem xb6 {w : World} {g : Nat} {t : TypeId} {v0 v1 v2 v3 v4 v5 : Value} (h : w.heap[g]? = some (.cells #[v0, v1, v2, v3, v4, v5] t (0, 0))) : (∀ x, (ext w x).cell? ⟨g, 0, none⟩ = some v0) ∧ (∀ x, (ext w x).cell? ⟨g, 1, none⟩ = some v1) ∧ (∀ x, (ext w x).cell? ⟨g, 2, none⟩ = some v2) ∧ (∀ x, (ext w x).cell? ⟨g, 3, none⟩ = some v3) ∧ (∀ x, (ext w x).cell? ⟨g, 4, none⟩ = some v4) ∧ (∀ x, (ext w x).cell? ⟨g, 5, none⟩ = some v5) :=
  ⟨fun x => ext_cell (blk_cell h 0) x, fun x => ext_cell (blk_cell h 1) x, fun x => ext_cell (blk_cell h 2) x, fun x => ext_cell (blk_cell h 3) x, fun x => ext_cell (blk_cell h 4) x, fun x => ext_cell (blk_cell h 5) x⟩
theorem cb7 {w : World} {g : Nat} {t : TypeId} {v0 v1 v2 v3 v4 v5 v6 : Value} (h : w.heap[g]? = some (.cells #[v0, v1, v2, v3, v4, v5, v6] t (0, 0))) : w.cell? ⟨g, 0, none⟩ = some v0 ∧ w.cell? ⟨g, 1, none⟩ = some v1 ∧ w.cell? ⟨g, 2, none⟩ = some v2 ∧ w.cell? ⟨g, 3, none⟩ = some v3 ∧ w.cell? ⟨g, 4, none⟩ = some v4 ∧ w.cell? ⟨g, 5, none⟩ = some v5 ∧ w.cell? ⟨g, 6, none⟩ = some v6 :=
  ⟨blk_cell h 0, blk_cell h 1, blk_cell h 2, blk_cell h 3, blk_cell h 4, blk_cell h 5, blk_cell h 6⟩
theorem fb7 {w : World} {g : Nat} {t : TypeId} {v0 v1 v2 v3 v4 v5 v6 : Value} (h : w.heap[g]? = some (.cells #[v0, v1, v2, v3, v4, v5, v6] t (0, 0))) : w.frozen? ⟨g, 0, none⟩ = false ∧ w.frozen? ⟨g, 1, none⟩ = false ∧ w.frozen? ⟨g, 2, none⟩ = false ∧ w.frozen? ⟨g, 3, none⟩ = false ∧ w.frozen? ⟨g, 4, none⟩ = false ∧ w.frozen? ⟨g, 5, none⟩ = false ∧ w.frozen? ⟨g, 6, none⟩ = false :=
  ⟨blk_frozen h 0, blk_frozen h 1, blk_frozen h 2, blk_frozen h 3, blk_frozen h 4, blk_frozen h 5, blk_frozen h 6⟩
theorem xb7 {w : World} {g : Nat} {t : TypeId} {v0 v1 v2 v3 v4 v5 v6 : Value} (h : w.heap[g]? = some (.cells #[v0, v1, v2, v3, v4, v5, v6] t (0, 0))) : (∀ x, (ext w x).cell? ⟨g, 0, none⟩ = some v0) ∧ (∀ x, (ext w x).cell? ⟨g, 1, none⟩ = some v1) ∧ (∀ x, (ext w x).cell? ⟨g, 2, none⟩ = some v2) ∧ (∀ x, (ext w x).cell? ⟨g, 3, none⟩ = some v3) ∧ (∀ x, (ext w x).cell? ⟨g, 4, none⟩ = some v4) ∧ (∀ x, (ext w x).cell? ⟨g, 5, none⟩ = some v5) ∧ (∀ x, (ext w x).cell? ⟨g, 6, none⟩ = some v6) :=
  ⟨fun x => ext_cell (blk_cell h 0) x, fun x => ext_cell (blk_cell h 1) x, fun x => ext_cell (blk_cell h 2) x, fun x => ext_cell (blk_cell h 3) x, fun x => ext_cell (blk_cell h 4) x, fun x => ext_cell (blk_cell h 5) x, fun x => ext_cell (blk_cell h 6) x⟩
theorem cb8 {w : World} {g : Nat} {t : TypeId} {v0 v1 v2 v3 v4 v5 v6 v7 : Value} (h : w.heap[g]? = some (.cells #[v0, v1, v2, v3, v4, v5, v6, v7] t (0, 0))) : w.cell? ⟨g, 0, none⟩ = some v0 ∧ w.cell? ⟨g, 1, none⟩ = some v1 ∧ w.cell? ⟨g, 2, none⟩ = some v2 ∧ w.cell? ⟨g, 3, none⟩ = some v3 ∧ w.cell? ⟨g, 4, none⟩ = some v4 ∧ w.cell? ⟨g, 5, none⟩ = some v5 ∧ w.cell? ⟨g, 6, none⟩ = some v6 ∧ w.cell? ⟨g, 7, none⟩ = some v7 :=
  ⟨blk_cell h 0, blk_cell h 1, blk_cell h 2, blk_cell h 3, blk_cell h 4, blk_cell h 5, blk_cell h 6, blk_cell h 7⟩
theorem fb8 {w : World} {g : Nat} {t : TypeId} {v0 v1 v2 v3 v4 v5 v6 v7 : Value} (h : w.heap[g]? = some (.cells #[v0, v1, v2, v3, v4, v5, v6, v7] t (0, 0))) : w.frozen? ⟨g, 0, none⟩ = false ∧ w.frozen? ⟨g, 1, none⟩ = false ∧ w.frozen? ⟨g, 2, none⟩ = false ∧ w.frozen? ⟨g, 3, none⟩ = false ∧ w.frozen? ⟨g, 4, none⟩ = false ∧ w.frozen? ⟨g, 5, none⟩ = false ∧ w.frozen? ⟨g, 6, none⟩ = false ∧ w.frozen? ⟨g, 7, none⟩ = false :=
  ⟨blk_frozen h 0, blk_frozen h 1, blk_frozen h 2, blk_frozen h 3, blk_frozen h 4, blk_frozen h 5, blk_frozen h 6, blk_frozen h 7⟩
theorem xb8 {w : World} {g : Nat} {t : TypeId} {v0 v1 v2 v3 v4 v5 v6 v7 : Value} (h : w.heap[g]? = some (.cells #[v0, v1, v2, v3, v4, v5, v6, v7] t (0, 0))) : (∀ x, (ext w x).cell? ⟨g, 0, none⟩ = some v0) ∧ (∀ x, (ext w x).cell? ⟨g, 1, none⟩ = some v1) ∧ (∀ x, (ext w x).cell? ⟨g, 2, none⟩ = some v2) ∧ (∀ x, (ext w x).cell? ⟨g, 3, none⟩ = some v3) ∧ (∀ x, (ext w x).cell? ⟨g, 4, none⟩ = some v4) ∧ (∀ x, (ext w x).cell? ⟨g, 5, none⟩ = some v5) ∧ (∀ x, (ext w x).cell? ⟨g, 6, none⟩ = some v6) ∧ (∀ x, (ext w x).cell? ⟨g, 7, none⟩ = some v7) :=
  ⟨fun x => ext_cell (blk_cell h 0) x, fun x => ext_cell (blk_cell h 1) x, fun x => ext_cell (blk_cell h 2) x, fun x => ext_cell (blk_cell h 3) x, fun x => ext_cell (blk_cell h 4) x, fun x => ext_cell (blk_cell h 5) x, fun x => ext_cell (blk_cell h 6) x, fun x => ext_cell (blk_cell h 7) x⟩
theorem cb9 {w : World} {g : Nat} {t : TypeId} {v0 v1 v2 v3 v4 v5 v6 v7 v8 : Value} (h : w.heap[g]? = some (.cells #[v0, v1, v2, v3, v4, v5, v6, v7, v8] t (0, 0))) : w.cell? ⟨g, 0, none⟩ = some v0 ∧ w.cell? ⟨g, 1, none⟩ = some v1 ∧ w.cell? ⟨g, 2, none⟩ = some v2 ∧ w.cell? ⟨g, 3, none⟩ = some v3 ∧ w.cell? ⟨g, 4, none⟩ = some v4 ∧ w.cell? ⟨g, 5, none⟩ = some v5 ∧ w.cell? ⟨g, 6, none⟩ = some v6 ∧ w.cell? ⟨g, 7, none⟩ = some v7 ∧ w.cell? ⟨g, 8, none⟩ = some v8 :=
  ⟨blk_cell h 0, blk_cell h 1, blk_cell h 2, blk_cell h 3, blk_cell h 4, blk_cell h 5, blk_cell h 6, blk_cell h 7, blk_cell h 8⟩
theorem fb9 {w : World} {g : Nat} {t : TypeId} {v0 v1 v2 v3 v4 v5 v6 v7 v8 : Value} (h : w.heap[g]? = some (.cells #[v0, v1, v2, v3, v4, v5, v6, v7, v8] t (0, 0))) : w.frozen? ⟨g, 0, none⟩ = false ∧ w.frozen? ⟨g, 1, none⟩ = false ∧ w.frozen? ⟨g, 2, none⟩ = false ∧ w.frozen? ⟨g, 3, none⟩ = false ∧ w.frozen? ⟨g, 4, none⟩ = false ∧ w.frozen? ⟨g, 5, none⟩ = false ∧ w.frozen? ⟨g, 6, none⟩ = false ∧ w.frozen? ⟨g, 7, none⟩ = false ∧ w.frozen? ⟨g, 8, none⟩ = false :=
  ⟨blk_frozen h 0, blk_frozen h 1, blk_frozen h 2, blk_frozen h 3, blk_frozen h 4, blk_frozen h 5, blk_frozen h 6, blk_frozen h 7, blk_frozen h 8⟩
theorem xb9 {w : World} {g : Nat} {t : TypeId} {v0 v1 v2 v3 v4 v5 v6 v7 v8 : Value} (h : w.heap[g]? = some (.cells #[v0, v1, v2, v3, v4, v5, v6, v7, v8] t (0, 0))) : (∀ x, (ext w x).cell? ⟨g, 0, none⟩ = some v0) ∧ (∀ x, (ext w x).cell? ⟨g, 1, none⟩ = some v1) ∧ (∀ x, (ext w x).cell? ⟨g, 2, none⟩ = some v2) ∧ (∀ x, (ext w x).cell? ⟨g, 3, none⟩ = some v3) ∧ (∀ x, (ext w x).cell? ⟨g, 4, none⟩ = some v4) ∧ (∀ x, (ext w x).cell? ⟨g, 5, none⟩ = some v5) ∧ (∀ x, (ext w x).cell? ⟨g, 6, none⟩ = some v6) ∧ (∀ x, (ext w x).cell? ⟨g, 7, none⟩ = some v7) ∧ (∀ x, (ext w x).cell? ⟨g, 8, none⟩ = some v8) :=
  ⟨fun x => ext_cell (blk_cell h 0) x, fun x => ext_cell (blk_cell h 1) x, fun x => ext_cell (blk_cell h 2) x, fun x => ext_cell (blk_cell h 3) x, fun x => ext_cell (blk_cell h 4) x, fun x => ext_cell (blk_cell h 5) x, fun x => ext_cell (blk_cell h 6) x, fun x => ext_cell (blk_cell h 7) x, fun x => ext_cell (blk_cell h 8) x⟩

/-! entry: the boxes of a call -/
theorem alloc_new {w : World} {n : Nat} (o : Obj) (hn : w.heap.size = n) : (w.alloc o).heap[n]? = some o := by subst hn; exact heap_alloc_new w o
theorem alloc_old {w : World} {k : Nat} {o' : Obj} (o : Obj) (h : w.heap[k]? = some o') : (w.alloc o).heap[k]? = some o' := (Below.heap_alloc w o k (blk_lt h)).trans h
theorem alloc_sz {w : World} {n : Nat} (o : Obj) (hn : w.heap.size = n) : (w.alloc o).heap.size = n + 1 := by subst hn; simp
theorem set_same {w : World} {g i : Nat} {t : TypeId} {cs : Array Value} {fz : Nat × Nat} (h : w.heap[g]? = some (.cells cs t fz)) (v : Value) : (w.setCell ⟨g, i, none⟩ v).heap[g]? = some (.cells (cs.setIfInBounds i v) t fz) := by
  simp [World.setCell, Array.getElem?_modify, h]
theorem set_far {w : World} {g : Nat} {o : Obj} {p : Addr} (h : w.heap[g]? = some o) (hp : g ≠ p.block) (v : Value) : (w.setCell p v).heap[g]? = some o := (Below.heap_setCell w p v g hp).trans h
theorem set_size (w : World) (p : Addr) (v : Value) : (w.setCell p v).heap.size = w.heap.size := by simp [World.setCell]
theorem below_grow {n : Nat} {w W : World} (hb : Below n w W) (hz : n ≤ W.heap.size) (x : Xt) : Below n w (ext W x) := hb.trans ((below_ext W x).mono hz)
theorem below_next {n : Nat} {w W W1 : World} (hb : Below n w W) (hz : n ≤ W.heap.size) (h : Below W.heap.size W W1) : Below n w W1 := hb.trans (h.mono hz)
theorem size_next {n : Nat} {W W1 : World} (hz : n ≤ W.heap.size) (h : Below W.heap.size W W1) : n ≤ W1.heap.size := Nat.le_trans hz h.size
theorem size_grow {n : Nat} {W : World} (hz : n ≤ W.heap.size) (x : Xt) : n ≤ (ext W x).heap.size := by rw [ext_size]; omega
theorem below_set {n g i : Nat} {w W : World} (hb : Below n w W) (hg : n ≤ g) (v : Value) : Below n w (W.setCell ⟨g, i, none⟩ v) := hb.setCell hg v
section
variable {P : Program} {c : Code} {Q : Exit → Act → World → Prop} {a : Act} {w : World} {n : Nat}
theorem wp_boxes1 {o0 : Obj} (hn : w.heap.size = n) (k : ∀ W, Below n w W → W.heap.size = n + 1 → W.heap[n]? = some o0 → c.wp P Q a W) : c.wp P Q a (w.alloc o0) :=
  k _ ((Below.refl n w).alloc (by rw [hn]; omega) o0) (alloc_sz o0 hn) (alloc_new o0 hn)
theorem wp_boxes2 {o0 o1 : Obj} (hn : w.heap.size = n) (k : ∀ W, Below n w W → W.heap.size = n + 1 + 1 → W.heap[n]? = some o0 → W.heap[n + 1]? = some o1 → c.wp P Q a W) : c.wp P Q a ((w.alloc o0).alloc o1) :=
  k _ (((Below.refl n w).alloc (by rw [hn]; omega) o0).alloc (by rw [(alloc_sz o0 hn)]; omega) o1) (alloc_sz o1 (alloc_sz o0 hn)) (alloc_old o1 (alloc_new o0 hn)) (alloc_new o1 (alloc_sz o0 hn))
theorem wp_boxes3 {o0 o1 o2 : Obj} (hn : w.heap.size = n) (k : ∀ W, Below n w W → W.heap.size = n + 1 + 1 + 1 → W.heap[n]? = some o0 → W.heap[n + 1]? = some o1 → W.heap[n + 1 + 1]? = some o2 → c.wp P Q a W) : c.wp P Q a (((w.alloc o0).alloc o1).alloc o2) :=
  k _ ((((Below.refl n w).alloc (by rw [hn]; omega) o0).alloc (by rw [(alloc_sz o0 hn)]; omega) o1).alloc (by rw [(alloc_sz o1 (alloc_sz o0 hn))]; omega) o2) (alloc_sz o2 (alloc_sz o1 (alloc_sz o0 hn))) (alloc_old o2 (alloc_old o1 (alloc_new o0 hn))) (alloc_old o2 (alloc_new o1 (alloc_sz o0 hn))) (alloc_new o2 (alloc_sz o1 (alloc_sz o0 hn)))
theorem wp_boxes4 {o0 o1 o2 o3 : Obj} (hn : w.heap.size = n) (k : ∀ W, Below n w W → W.heap.size = n + 1 + 1 + 1 + 1 → W.heap[n]? = some o0 → W.heap[n + 1]? = some o1 → W.heap[n + 1 + 1]? = some o2 → W.heap[n + 1 + 1 + 1]? = some o3 → c.wp P Q a W) : c.wp P Q a ((((w.alloc o0).alloc o1).alloc o2).alloc o3) :=
  k _ (((((Below.refl n w).alloc (by rw [hn]; omega) o0).alloc (by rw [(alloc_sz o0 hn)]; omega) o1).alloc (by rw [(alloc_sz o1 (alloc_sz o0 hn))]; omega) o2).alloc (by rw [(alloc_sz o2 (alloc_sz o1 (alloc_sz o0 hn)))]; omega) o3) (alloc_sz o3 (alloc_sz o2 (alloc_sz o1 (alloc_sz o0 hn)))) (alloc_old o3 (alloc_old o2 (alloc_old o1 (alloc_new o0 hn)))) (alloc_old o3 (alloc_old o2 (alloc_new o1 (alloc_sz o0 hn)))) (alloc_old o3 (alloc_new o2 (alloc_sz o1 (alloc_sz o0 hn)))) (alloc_new o3 (alloc_sz o2 (alloc_sz o1 (alloc_sz o0 hn))))
theorem wp_boxes5 {o0 o1 o2 o3 o4 : Obj} (hn : w.heap.size = n) (k : ∀ W, Below n w W → W.heap.size = n + 1 + 1 + 1 + 1 + 1 → W.heap[n]? = some o0 → W.heap[n + 1]? = some o1 → W.heap[n + 1 + 1]? = some o2 → W.heap[n + 1 + 1 + 1]? = some o3 → W.heap[n + 1 + 1 + 1 + 1]? = some o4 → c.wp P Q a W) : c.wp P Q a (((((w.alloc o0).alloc o1).alloc o2).alloc o3).alloc o4) :=
  k _ ((((((Below.refl n w).alloc (by rw [hn]; omega) o0).alloc (by rw [(alloc_sz o0 hn)]; omega) o1).alloc (by rw [(alloc_sz o1 (alloc_sz o0 hn))]; omega) o2).alloc (by rw [(alloc_sz o2 (alloc_sz o1 (alloc_sz o0 hn)))]; omega) o3).alloc (by rw [(alloc_sz o3 (alloc_sz o2 (alloc_sz o1 (alloc_sz o0 hn))))]; omega) o4) (alloc_sz o4 (alloc_sz o3 (alloc_sz o2 (alloc_sz o1 (alloc_sz o0 hn))))) (alloc_old o4 (alloc_old o3 (alloc_old o2 (alloc_old o1 (alloc_new o0 hn))))) (alloc_old o4 (alloc_old o3 (alloc_old o2 (alloc_new o1 (alloc_sz o0 hn))))) (alloc_old o4 (alloc_old o3 (alloc_new o2 (alloc_sz o1 (alloc_sz o0 hn))))) (alloc_old o4 (alloc_new o3 (alloc_sz o2 (alloc_sz o1 (alloc_sz o0 hn))))) (alloc_new o4 (alloc_sz o3 (alloc_sz o2 (alloc_sz o1 (alloc_sz o0 hn)))))
theorem wp_boxes6 {o0 o1 o2 o3 o4 o5 : Obj} (hn : w.heap.size = n) (k : ∀ W, Below n w W → W.heap.size = n + 1 + 1 + 1 + 1 + 1 + 1 → W.heap[n]? = some o0 → W.heap[n + 1]? = some o1 → W.heap[n + 1 + 1]? = some o2 → W.heap[n + 1 + 1 + 1]? = some o3 → W.heap[n + 1 + 1 + 1 + 1]? = some o4 → W.heap[n + 1 + 1 + 1 + 1 + 1]? = some o5 → c.wp P Q a W) : c.wp P Q a ((((((w.alloc o0).alloc o1).alloc o2).alloc o3).alloc o4).alloc o5) :=
  k _ (((((((Below.refl n w).alloc (by rw [hn]; omega) o0).alloc (by rw [(alloc_sz o0 hn)]; omega) o1).alloc (by rw [(alloc_sz o1 (alloc_sz o0 hn))]; omega) o2).alloc (by rw [(alloc_sz o2 (alloc_sz o1 (alloc_sz o0 hn)))]; omega) o3).alloc (by rw [(alloc_sz o3 (alloc_sz o2 (alloc_sz o1 (alloc_sz o0 hn))))]; omega) o4).alloc (by rw [(alloc_sz o4 (alloc_sz o3 (alloc_sz o2 (alloc_sz o1 (alloc_sz o0 hn)))))]; omega) o5) (alloc_sz o5 (alloc_sz o4 (alloc_sz o3 (alloc_sz o2 (alloc_sz o1 (alloc_sz o0 hn)))))) (alloc_old o5 (alloc_old o4 (alloc_old o3 (alloc_old o2 (alloc_old o1 (alloc_new o0 hn)))))) (alloc_old o5 (alloc_old o4 (alloc_old o3 (alloc_old o2 (alloc_new o1 (alloc_sz o0 hn)))))) (alloc_old o5 (alloc_old o4 (alloc_old o3 (alloc_new o2 (alloc_sz o1 (alloc_sz o0 hn)))))) (alloc_old o5 (alloc_old o4 (alloc_new o3 (alloc_sz o2 (alloc_sz o1 (alloc_sz o0 hn)))))) (alloc_old o5 (alloc_new o4 (alloc_sz o3 (alloc_sz o2 (alloc_sz o1 (alloc_sz o0 hn)))))) (alloc_new o5 (alloc_sz o4 (alloc_sz o3 (alloc_sz o2 (alloc_sz o1 (alloc_sz o0 hn))))))
theorem wp_boxes7 {o0 o1 o2 o3 o4 o5 o6 : Obj} (hn : w.heap.size = n) (k : ∀ W, Below n w W → W.heap.size = n + 1 + 1 + 1 + 1 + 1 + 1 + 1 → W.heap[n]? = some o0 → W.heap[n + 1]? = some o1 → W.heap[n + 1 + 1]? = some o2 → W.heap[n + 1 + 1 + 1]? = some o3 → W.heap[n + 1 + 1 + 1 + 1]? = some o4 → W.heap[n + 1 + 1 + 1 + 1 + 1]? = some o5 → W.heap[n + 1 + 1 + 1 + 1 + 1 + 1]? = some o6 → c.wp P Q a W) : c.wp P Q a (((((((w.alloc o0).alloc o1).alloc o2).alloc o3).alloc o4).alloc o5).alloc o6) :=
  k _ ((((((((Below.refl n w).alloc (by rw [hn]; omega) o0).alloc (by rw [(alloc_sz o0 hn)]; omega) o1).alloc (by rw [(alloc_sz o1 (alloc_sz o0 hn))]; omega) o2).alloc (by rw [(alloc_sz o2 (alloc_sz o1 (alloc_sz o0 hn)))]; omega) o3).alloc (by rw [(alloc_sz o3 (alloc_sz o2 (alloc_sz o1 (alloc_sz o0 hn))))]; omega) o4).alloc (by rw [(alloc_sz o4 (alloc_sz o3 (alloc_sz o2 (alloc_sz o1 (alloc_sz o0 hn)))))]; omega) o5).alloc (by rw [(alloc_sz o5 (alloc_sz o4 (alloc_sz o3 (alloc_sz o2 (alloc_sz o1 (alloc_sz o0 hn))))))]; omega) o6) (alloc_sz o6 (alloc_sz o5 (alloc_sz o4 (alloc_sz o3 (alloc_sz o2 (alloc_sz o1 (alloc_sz o0 hn))))))) (alloc_old o6 (alloc_old o5 (alloc_old o4 (alloc_old o3 (alloc_old o2 (alloc_old o1 (alloc_new o0 hn))))))) (alloc_old o6 (alloc_old o5 (alloc_old o4 (alloc_old o3 (alloc_old o2 (alloc_new o1 (alloc_sz o0 hn))))))) (alloc_old o6 (alloc_old o5 (alloc_old o4 (alloc_old o3 (alloc_new o2 (alloc_sz o1 (alloc_sz o0 hn))))))) (alloc_old o6 (alloc_old o5 (alloc_old o4 (alloc_new o3 (alloc_sz o2 (alloc_sz o1 (alloc_sz o0 hn))))))) (alloc_old o6 (alloc_old o5 (alloc_new o4 (alloc_sz o3 (alloc_sz o2 (alloc_sz o1 (alloc_sz o0 hn))))))) (alloc_old o6 (alloc_new o5 (alloc_sz o4 (alloc_sz o3 (alloc_sz o2 (alloc_sz o1 (alloc_sz o0 hn))))))) (alloc_new o6 (alloc_sz o5 (alloc_sz o4 (alloc_sz o3 (alloc_sz o2 (alloc_sz o1 (alloc_sz o0 hn)))))))
end

section
variable {P : Program} {f : FuncId} {args : Array Value} {R : Ending → World → Prop} {w : World} {n : Nat}
theorem cl_boxes1 {o0 : Obj} (hn : w.heap.size = n) (k : ∀ W, Below n w W → W.heap.size = n + 1 → W.heap[n]? = some o0 → Calls P f args W R) : Calls P f args (w.alloc o0) R :=
  k _ ((Below.refl n w).alloc (by rw [hn]; omega) o0) (alloc_sz o0 hn) (alloc_new o0 hn)
theorem cl_boxes2 {o0 o1 : Obj} (hn : w.heap.size = n) (k : ∀ W, Below n w W → W.heap.size = n + 1 + 1 → W.heap[n]? = some o0 → W.heap[n + 1]? = some o1 → Calls P f args W R) : Calls P f args ((w.alloc o0).alloc o1) R :=
  k _ (((Below.refl n w).alloc (by rw [hn]; omega) o0).alloc (by rw [(alloc_sz o0 hn)]; omega) o1) (alloc_sz o1 (alloc_sz o0 hn)) (alloc_old o1 (alloc_new o0 hn)) (alloc_new o1 (alloc_sz o0 hn))
theorem cl_boxes3 {o0 o1 o2 : Obj} (hn : w.heap.size = n) (k : ∀ W, Below n w W → W.heap.size = n + 1 + 1 + 1 → W.heap[n]? = some o0 → W.heap[n + 1]? = some o1 → W.heap[n + 1 + 1]? = some o2 → Calls P f args W R) : Calls P f args (((w.alloc o0).alloc o1).alloc o2) R :=
  k _ ((((Below.refl n w).alloc (by rw [hn]; omega) o0).alloc (by rw [(alloc_sz o0 hn)]; omega) o1).alloc (by rw [(alloc_sz o1 (alloc_sz o0 hn))]; omega) o2) (alloc_sz o2 (alloc_sz o1 (alloc_sz o0 hn))) (alloc_old o2 (alloc_old o1 (alloc_new o0 hn))) (alloc_old o2 (alloc_new o1 (alloc_sz o0 hn))) (alloc_new o2 (alloc_sz o1 (alloc_sz o0 hn)))
theorem cl_boxes4 {o0 o1 o2 o3 : Obj} (hn : w.heap.size = n) (k : ∀ W, Below n w W → W.heap.size = n + 1 + 1 + 1 + 1 → W.heap[n]? = some o0 → W.heap[n + 1]? = some o1 → W.heap[n + 1 + 1]? = some o2 → W.heap[n + 1 + 1 + 1]? = some o3 → Calls P f args W R) : Calls P f args ((((w.alloc o0).alloc o1).alloc o2).alloc o3) R :=
  k _ (((((Below.refl n w).alloc (by rw [hn]; omega) o0).alloc (by rw [(alloc_sz o0 hn)]; omega) o1).alloc (by rw [(alloc_sz o1 (alloc_sz o0 hn))]; omega) o2).alloc (by rw [(alloc_sz o2 (alloc_sz o1 (alloc_sz o0 hn)))]; omega) o3) (alloc_sz o3 (alloc_sz o2 (alloc_sz o1 (alloc_sz o0 hn)))) (alloc_old o3 (alloc_old o2 (alloc_old o1 (alloc_new o0 hn)))) (alloc_old o3 (alloc_old o2 (alloc_new o1 (alloc_sz o0 hn)))) (alloc_old o3 (alloc_new o2 (alloc_sz o1 (alloc_sz o0 hn)))) (alloc_new o3 (alloc_sz o2 (alloc_sz o1 (alloc_sz o0 hn))))
theorem cl_boxes5 {o0 o1 o2 o3 o4 : Obj} (hn : w.heap.size = n) (k : ∀ W, Below n w W → W.heap.size = n + 1 + 1 + 1 + 1 + 1 → W.heap[n]? = some o0 → W.heap[n + 1]? = some o1 → W.heap[n + 1 + 1]? = some o2 → W.heap[n + 1 + 1 + 1]? = some o3 → W.heap[n + 1 + 1 + 1 + 1]? = some o4 → Calls P f args W R) : Calls P f args (((((w.alloc o0).alloc o1).alloc o2).alloc o3).alloc o4) R :=
  k _ ((((((Below.refl n w).alloc (by rw [hn]; omega) o0).alloc (by rw [(alloc_sz o0 hn)]; omega) o1).alloc (by rw [(alloc_sz o1 (alloc_sz o0 hn))]; omega) o2).alloc (by rw [(alloc_sz o2 (alloc_sz o1 (alloc_sz o0 hn)))]; omega) o3).alloc (by rw [(alloc_sz o3 (alloc_sz o2 (alloc_sz o1 (alloc_sz o0 hn))))]; omega) o4) (alloc_sz o4 (alloc_sz o3 (alloc_sz o2 (alloc_sz o1 (alloc_sz o0 hn))))) (alloc_old o4 (alloc_old o3 (alloc_old o2 (alloc_old o1 (alloc_new o0 hn))))) (alloc_old o4 (alloc_old o3 (alloc_old o2 (alloc_new o1 (alloc_sz o0 hn))))) (alloc_old o4 (alloc_old o3 (alloc_new o2 (alloc_sz o1 (alloc_sz o0 hn))))) (alloc_old o4 (alloc_new o3 (alloc_sz o2 (alloc_sz o1 (alloc_sz o0 hn))))) (alloc_new o4 (alloc_sz o3 (alloc_sz o2 (alloc_sz o1 (alloc_sz o0 hn)))))
theorem cl_boxes6 {o0 o1 o2 o3 o4 o5 : Obj} (hn : w.heap.size = n) (k : ∀ W, Below n w W → W.heap.size = n + 1 + 1 + 1 + 1 + 1 + 1 → W.heap[n]? = some o0 → W.heap[n + 1]? = some o1 → W.heap[n + 1 + 1]? = some o2 → W.heap[n + 1 + 1 + 1]? = some o3 → W.heap[n + 1 + 1 + 1 + 1]? = some o4 → W.heap[n + 1 + 1 + 1 + 1 + 1]? = some o5 → Calls P f args W R) : Calls P f args ((((((w.alloc o0).alloc o1).alloc o2).alloc o3).alloc o4).alloc o5) R :=
  k _ (((((((Below.refl n w).alloc (by rw [hn]; omega) o0).alloc (by rw [(alloc_sz o0 hn)]; omega) o1).alloc (by rw [(alloc_sz o1 (alloc_sz o0 hn))]; omega) o2).alloc (by rw [(alloc_sz o2 (alloc_sz o1 (alloc_sz o0 hn)))]; omega) o3).alloc (by rw [(alloc_sz o3 (alloc_sz o2 (alloc_sz o1 (alloc_sz o0 hn))))]; omega) o4).alloc (by rw [(alloc_sz o4 (alloc_sz o3 (alloc_sz o2 (alloc_sz o1 (alloc_sz o0 hn)))))]; omega) o5) (alloc_sz o5 (alloc_sz o4 (alloc_sz o3 (alloc_sz o2 (alloc_sz o1 (alloc_sz o0 hn)))))) (alloc_old o5 (alloc_old o4 (alloc_old o3 (alloc_old o2 (alloc_old o1 (alloc_new o0 hn)))))) (alloc_old o5 (alloc_old o4 (alloc_old o3 (alloc_old o2 (alloc_new o1 (alloc_sz o0 hn)))))) (alloc_old o5 (alloc_old o4 (alloc_old o3 (alloc_new o2 (alloc_sz o1 (alloc_sz o0 hn)))))) (alloc_old o5 (alloc_old o4 (alloc_new o3 (alloc_sz o2 (alloc_sz o1 (alloc_sz o0 hn)))))) (alloc_old o5 (alloc_new o4 (alloc_sz o3 (alloc_sz o2 (alloc_sz o1 (alloc_sz o0 hn)))))) (alloc_new o5 (alloc_sz o4 (alloc_sz o3 (alloc_sz o2 (alloc_sz o1 (alloc_sz o0 hn))))))
theorem cl_boxes7 {o0 o1 o2 o3 o4 o5 o6 : Obj} (hn : w.heap.size = n) (k : ∀ W, Below n w W → W.heap.size = n + 1 + 1 + 1 + 1 + 1 + 1 + 1 → W.heap[n]? = some o0 → W.heap[n + 1]? = some o1 → W.heap[n + 1 + 1]? = some o2 → W.heap[n + 1 + 1 + 1]? = some o3 → W.heap[n + 1 + 1 + 1 + 1]? = some o4 → W.heap[n + 1 + 1 + 1 + 1 + 1]? = some o5 → W.heap[n + 1 + 1 + 1 + 1 + 1 + 1]? = some o6 → Calls P f args W R) : Calls P f args (((((((w.alloc o0).alloc o1).alloc o2).alloc o3).alloc o4).alloc o5).alloc o6) R :=
  k _ ((((((((Below.refl n w).alloc (by rw [hn]; omega) o0).alloc (by rw [(alloc_sz o0 hn)]; omega) o1).alloc (by rw [(alloc_sz o1 (alloc_sz o0 hn))]; omega) o2).alloc (by rw [(alloc_sz o2 (alloc_sz o1 (alloc_sz o0 hn)))]; omega) o3).alloc (by rw [(alloc_sz o3 (alloc_sz o2 (alloc_sz o1 (alloc_sz o0 hn))))]; omega) o4).alloc (by rw [(alloc_sz o4 (alloc_sz o3 (alloc_sz o2 (alloc_sz o1 (alloc_sz o0 hn)))))]; omega) o5).alloc (by rw [(alloc_sz o5 (alloc_sz o4 (alloc_sz o3 (alloc_sz o2 (alloc_sz o1 (alloc_sz o0 hn))))))]; omega) o6) (alloc_sz o6 (alloc_sz o5 (alloc_sz o4 (alloc_sz o3 (alloc_sz o2 (alloc_sz o1 (alloc_sz o0 hn))))))) (alloc_old o6 (alloc_old o5 (alloc_old o4 (alloc_old o3 (alloc_old o2 (alloc_old o1 (alloc_new o0 hn))))))) (alloc_old o6 (alloc_old o5 (alloc_old o4 (alloc_old o3 (alloc_old o2 (alloc_new o1 (alloc_sz o0 hn))))))) (alloc_old o6 (alloc_old o5 (alloc_old o4 (alloc_old o3 (alloc_new o2 (alloc_sz o1 (alloc_sz o0 hn))))))) (alloc_old o6 (alloc_old o5 (alloc_old o4 (alloc_new o3 (alloc_sz o2 (alloc_sz o1 (alloc_sz o0 hn))))))) (alloc_old o6 (alloc_old o5 (alloc_new o4 (alloc_sz o3 (alloc_sz o2 (alloc_sz o1 (alloc_sz o0 hn))))))) (alloc_old o6 (alloc_new o5 (alloc_sz o4 (alloc_sz o3 (alloc_sz o2 (alloc_sz o1 (alloc_sz o0 hn))))))) (alloc_new o6 (alloc_sz o5 (alloc_sz o4 (alloc_sz o3 (alloc_sz o2 (alloc_sz o1 (alloc_sz o0 hn)))))))
end

theorem ret_int {k : IntKind} {a b : Int} (h : a = b) : Ending.returned (.int k a) = .returned (.int k b) := by rw [h]
theorem ret_bool {a b : Bool} (h : a = b) : Ending.returned (.bool a) = .returned (.bool b) := by rw [h]

end Go.Proofs.Yteebobbhhgmeiaa
