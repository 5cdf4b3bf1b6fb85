/- row.parts as an iterator: it gives each group with its cell; row.Good and row.Put, that range over it. -/
import Derived.RangeFuncNested
import Derived.RangeFuncBound
import Derived.RangeFuncCalls
import Derived.RangeFuncLeaves
import Derived.RangeFuncBox
import Derived.Shelf.Abstract
import Derived.Shelf.RegionOpen
import Derived.OwnWalkIn
import Derived.TacticsInMore
import Derived.LoopNIn
import Derived.LoopIn
import Derived.Test.YteebobbhhgmeiaaTX
namespace Go.Proofs.Yteebobbhhgmeiaa
open Go.RowKit Go.Shelf

attribute [local go_sem] Oper.semAt_some

def gV (g : TGroup) : Value := .agg #[.string g.name, .int .i64 g.policy]
def cV (c : TCell) : Value := .agg #[.int .i64 c.stamp.n, .int .i64 c.stamp.site, .int .i64 c.vec.a, .int .i64 c.vec.b, .bool c.gone, .string c.value, .int .i64 c.dead.a, .int .i64 c.dead.b]
/-- What lay below n₀ lies as it lay, but for block X. -/
structure KB (n₀ X : Nat) (W W' : World) : Prop where
  os : W'.os = W.os
  tape : W'.tape = W.tape
  output : W'.output = W.output
  size : W.heap.size ≤ W'.heap.size
  block : ∀ k, k < n₀ → k ≠ X → W'.heap[k]? = W.heap[k]?
theorem KB.refl (n₀ X : Nat) (W : World) : KB n₀ X W W := ⟨rfl, rfl, rfl, Nat.le_refl _, fun _ _ _ => rfl⟩
theorem KB.trans {n₀ X : Nat} {A B C : World} (h : KB n₀ X A B) (k : KB n₀ X B C) : KB n₀ X A C :=
  ⟨k.os.trans h.os, k.tape.trans h.tape, k.output.trans h.output, Nat.le_trans h.size k.size, fun i h1 h2 => (k.block i h1 h2).trans (h.block i h1 h2)⟩
theorem KB.of_below {n₀ X : Nat} {A B : World} (h : Below n₀ A B) : KB n₀ X A B := ⟨h.os, h.tape, h.output, h.size, fun k hk _ => h.block k hk⟩
theorem KB.cell {n₀ X : Nat} {A B : World} {p : Addr} (h : KB n₀ X A B) (hp : p.block < n₀) (hx : p.block ≠ X) : B.cell? p = A.cell? p := World.cell?_of_block (h.block _ hp hx)
theorem KB.putObj {n₀ X : Nat} {w : World} (hn : n₀ ≤ w.heap.size) (W : World) (l : Nat) (o o' : Obj) (hl : w.heap.size ≤ l) (h : W.heap[l]? = some o) (h1 : o.isCells = false) (h2 : o.isWalk = false) : KB n₀ X W (W.putObj l o') :=
  KB.of_below (belowK_b hn W l o o' hl h h1 h2)
/-- Groups in memory. -/
def GsAt (n₀ X : Nat) (W : World) (b off : Nat) (l : List TGroup) : Prop := (b < n₀ ∧ b ≠ X) ∧ ∀ j g, l[j]? = some g → W.cell? ⟨b, off + j * 2, none⟩ = some (.string g.name) ∧ W.cell? ⟨b, off + j * 2 + 1, none⟩ = some (.int .i64 g.policy)
def CsAt (n₀ X : Nat) (W : World) (b off : Nat) (l : List TCell) : Prop := (b < n₀ ∧ b ≠ X) ∧ ∀ j c, l[j]? = some c → W.cell? ⟨b, off + j * 8, none⟩ = some (.int .i64 c.stamp.n) ∧ W.cell? ⟨b, off + j * 8 + 1, none⟩ = some (.int .i64 c.stamp.site) ∧ W.cell? ⟨b, off + j * 8 + 2, none⟩ = some (.int .i64 c.vec.a) ∧ W.cell? ⟨b, off + j * 8 + 3, none⟩ = some (.int .i64 c.vec.b) ∧ W.cell? ⟨b, off + j * 8 + 4, none⟩ = some (.bool c.gone) ∧ W.cell? ⟨b, off + j * 8 + 5, none⟩ = some (.string c.value) ∧ W.cell? ⟨b, off + j * 8 + 6, none⟩ = some (.int .i64 c.dead.a) ∧ W.cell? ⟨b, off + j * 8 + 7, none⟩ = some (.int .i64 c.dead.b)
theorem GsAt.kept {n₀ X : Nat} {W W' : World} {b off : Nat} {l : List TGroup} (h : GsAt n₀ X W b off l) (hb : KB n₀ X W W') : GsAt n₀ X W' b off l :=
  ⟨h.1, fun j g hg => ⟨(hb.cell (p := ⟨b, _, none⟩) h.1.1 h.1.2).trans (h.2 j g hg).1, (hb.cell (p := ⟨b, _, none⟩) h.1.1 h.1.2).trans (h.2 j g hg).2⟩⟩
theorem CsAt.kept {n₀ X : Nat} {W W' : World} {b off : Nat} {l : List TCell} (h : CsAt n₀ X W b off l) (hb : KB n₀ X W W') : CsAt n₀ X W' b off l := by
  refine ⟨h.1, fun j c hc => ?_⟩
  obtain ⟨h0, h1, h2, h3, h4, h5, h6, h7⟩ := h.2 j c hc
  have k : ∀ o, W'.cell? ⟨b, o, none⟩ = W.cell? ⟨b, o, none⟩ := fun o => hb.cell (p := ⟨b, o, none⟩) h.1.1 h.1.2
  exact ⟨(k _).trans h0, (k _).trans h1, (k _).trans h2, (k _).trans h3, (k _).trans h4, (k _).trans h5, (k _).trans h6, (k _).trans h7⟩

theorem grown_none {W W' : World} (h : Below W.heap.size W W') : W.grownBy W' none := ⟨h.os, h.tape, h.output, h.size, fun k hk _ => h.block k hk⟩
def encP (x : TGroup × TCell) : Array Value := #[gV x.1, cV x.2]
theorem zip_take {α β : Type} (l : List α) (r : List β) (k : Nat) (x : α) (y : β) (hx : l[k]? = some x) (hy : r[k]? = some y) : (l.zip r).take (k + 1) = (l.zip r).take k ++ [(x, y)] := by
  rw [List.take_add_one, (List.getElem?_zip_eq_some (z := (x, y))).2 ⟨hx, hy⟩]
  rfl

set_option maxRecDepth 100000 in
set_option maxHeartbeats 4000000 in
theorem parts1_in (n : Nat) (hn : 1 ≤ n) (l B2 B3 n₀ b off cap b' off' cap' X : Nat) (gs : List TGroup) (cs : List TCell) (hlen : cs.length = gs.length) (hl4 : gs.length ≤ 4)
    (J Jx : List (TGroup × TCell) → World → Prop) (n1 : Nat) (hn1 : n₀ ≤ n1)
    (hJa : AbidesFrom n1 J)
    (hY : ∀ pre x W, J pre W → pre.length < gs.length → YieldAt Fence.wide (n - 1) Try.prog l (encP x) W fun e W' =>
      (e = .returned (.bool true) ∧ J (pre ++ [x]) W' ∧ KB n₀ X W W') ∨ (e = .returned (.bool false) ∧ Jx (pre ++ [x]) W'))
    (W : World) (hW1 : n1 = W.heap.size) (h2 : W.cell? ⟨B2, 0, none⟩ = some (.slice (some ⟨b, off, none⟩) gs.length cap)) (h3 : W.cell? ⟨B3, 1, none⟩ = some (.slice (some ⟨b', off', none⟩) cs.length cap')) (hB2 : B2 < n₀ ∧ B2 ≠ X) (hB3 : B3 < n₀ ∧ B3 ≠ X)
    (hg : GsAt n₀ X W b off gs) (hc : CsAt n₀ X W b' off' cs) (h0 : J [] W) :
    CallsIn Fence.wide n Try.prog 165 #[.func (.yield l) #[] #[], .pointer (some ⟨B2, 0, none⟩), .pointer (some ⟨B3, 0, none⟩)] W fun e W' => (∃ v, e = .returned v) ∧
      ((∃ ys, ys = gs.zip cs ∧ J ys W') ∨ (∃ pre, (∃ k, k ≤ gs.length ∧ pre = (gs.zip cs).take k) ∧ Jx pre W')) := by
  refine callsIn_of_wp Try.func165 rfl trivial ?_ rfl
  simp only [Try.ntmps165, List.size_toArray, List.length_cons, List.length_nil, Nat.reduceAdd, Nat.reduceSub, Array.replicate_succ, Array.replicate_zero, List.push_toArray, List.append_toArray, List.nil_append, List.cons_append]
  gi_wp2
  gi_loopw [8] (fun i wr => ∃ k : Nat, k ≤ gs.length ∧ i = .int .i64 k ∧ J ((gs.zip cs).take k) wr ∧ KB n₀ X W wr ∧ W.heap.size ≤ wr.heap.size) (fun i _ => gs.length - (intOf i).toNat)
  case atStart => exact ⟨0, Nat.zero_le _, rfl, h0, KB.refl _ _ _, Nat.le_refl _⟩
  case round =>
    obtain ⟨k, hk, rfl, hJs, hnx, hsz⟩ := hrel
    by_cases hlt : k < gs.length
    · have hlt' : k < cs.length := by omega
      obtain ⟨hg1, hg2⟩ := (hg.kept hnx).2 k gs[k] (List.getElem?_eq_getElem hlt)
      have h2' := (hnx.cell (p := ⟨B2, 0, none⟩) hB2.1 hB2.2).trans h2
      gi_wp2
      have hb3 : Below wr.heap.size wr (wr.alloc (.cells #[.string gs[k].name, .int .i64 gs[k].policy] 79)) := (Below.refl _ wr).alloc (Nat.le_refl _) _
      have hv : wr.heap.size = wr.heap.size := rfl
      have hn := World.alloc_heap_new wr (.cells #[.string gs[k].name, .int .i64 gs[k].policy] 79)
      generalize wr.alloc (.cells #[.string gs[k].name, .int .i64 gs[k].policy] 79) = W3 at hb3 hn ⊢
      have hb4 : KB n₀ X wr W3 := KB.of_below (hb3.mono (Nat.le_trans hn1 (by rw [hW1]; exact hsz)))
      have hb5 : KB n₀ X W3 W3.drew := KB.of_below ((Below.refl _ W3).drew)
      obtain ⟨hc0, hc1, hc2, hc3, hc4, hc5, hc6, hc7⟩ := ((hc.kept hnx).kept hb4).2 k cs[k] (List.getElem?_eq_getElem hlt')
      have h3' := ((hnx.trans hb4).cell (p := ⟨B3, 1, none⟩) hB3.1 hB3.2).trans h3
      have hz : ((gs.zip cs).take k).length < gs.length := by rw [List.length_take, List.length_zip]; omega
      have hJ3 : J ((gs.zip cs).take k) W3.drew := hJa _ wr _ none hJs (grown_none hb3.drew) (fun r e => by cases e)
      obtain ⟨fn, tmps, assign, body, hy, hR⟩ := hY _ (gs[k], cs[k]) _ hJ3 hz
      have hR2 : RoundIn Fence.wide (n - 1) Try.prog l fn tmps assign body W3.drew fun e W' => ∃ q : Bool, e = .returned (.bool q) ∧ (q = true → J ((gs.zip cs).take (k + 1)) W' ∧ KB n₀ X wr W') ∧ (q = false → Jx ((gs.zip cs).take (k + 1)) W') := by
        refine hR.mono ?_
        rw [← zip_take gs cs k gs[k] cs[k] (List.getElem?_eq_getElem hlt) (List.getElem?_eq_getElem hlt')]
        rintro e W' (⟨rfl, h1, h2⟩ | ⟨rfl, h1⟩)
        · exact ⟨true, rfl, ⟨fun _ => ⟨h1, (hb4.trans hb5).trans h2⟩, fun h => by cases h⟩⟩
        · exact ⟨false, rfl, ⟨fun h => (by cases h), fun _ => h1⟩⟩
      clear hR
      have hm : Try.prog.follows .mixedOrders = true := by kernel_rfl
      dsimp only [encP, gV, cV] at hy
      obtain ⟨hn0, hn1'⟩ := cb2 hn
      gi_region_with_o (refine hR2.mono ?_; rintro e W4 ⟨q, rfl, hq1, hq2⟩)
      all_goals (cases q)
      all_goals gi_wp2
      all_goals first
        | (refine bodyPost_ret (results_none rfl _ _ _) rfl ?_; exact ⟨⟨_, rfl⟩, .inr ⟨_, ⟨k + 1, by omega, rfl⟩, hq2 (by trivial)⟩⟩)
        | (obtain ⟨q1, q2⟩ := hq1 (by trivial)
           exact ⟨⟨k + 1, by omega, rfl, q1, hnx.trans q2, Nat.le_trans hsz q2.size⟩, by simp [intOf]; omega⟩)
    · obtain rfl : k = gs.length := by omega
      gi_wp2
      go_end0
      exact ⟨⟨_, rfl⟩, .inl ⟨_, rfl, by rw [List.take_of_length_le (by rw [List.length_zip]; omega)] at hJs; exact hJs⟩⟩

set_option maxHeartbeats 1000000 in
theorem parts_in (n : Nat) (a : Option Addr) (len cap : Nat) (v1 : Value) (key : ByteArray) (w : World) :
    CallsIn Fence.wide n Try.prog 132 #[.slice a len cap, .agg #[.string key, v1]] w fun e w' => e = .returned (.func (.func 165) #[] #[.pointer (some ⟨w.heap.size, 0, none⟩), .pointer (some ⟨w.heap.size + 1, 0, none⟩)]) ∧ w' = (w.alloc (.cells #[.slice a len cap] 66)).alloc (.cells #[.string key, v1] 71) := by
  refine callsIn_of_wp Try.func132 rfl trivial ?_ rfl
  simp only [Try.ntmps132, List.size_toArray, List.length_cons, List.length_nil, Nat.reduceAdd, Nat.reduceSub, Array.replicate_succ, Array.replicate_zero, List.push_toArray, List.append_toArray, List.nil_append, List.cons_append]
  gi_wp2
  go_ret
  exact ⟨rfl, rfl⟩

theorem parts_stops (n : Nat) (hn : 1 ≤ n) (B2 B3 n₀ X b off cap b' off' cap' : Nat) (gs : List TGroup) (cs : List TCell) (hlen : cs.length = gs.length) (hl4 : gs.length ≤ 4) (w : World) (hn₀ : n₀ ≤ w.heap.size)
    (h2 : w.cell? ⟨B2, 0, none⟩ = some (.slice (some ⟨b, off, none⟩) gs.length cap)) (h3 : w.cell? ⟨B3, 1, none⟩ = some (.slice (some ⟨b', off', none⟩) cs.length cap')) (hB2 : B2 < n₀ ∧ B2 ≠ X) (hB3 : B3 < n₀ ∧ B3 ≠ X)
    (hg : GsAt n₀ X w b off gs) (hc : CsAt n₀ X w b' off' cs) :
    SeqStopsK Fence.wide n Try.prog 165 #[.pointer (some ⟨B2, 0, none⟩), .pointer (some ⟨B3, 0, none⟩)] encP (KB n₀ X) (fun ys => ys = gs.zip cs) (fun pre => ∃ k, k ≤ gs.length ∧ pre = (gs.zip cs).take k) gs.length w := fun l J Jx W hW hJ _ hY h0 => by
  have hk : KB n₀ X w W := KB.of_below (hW.mono hn₀)
  exact parts1_in n hn l B2 B3 n₀ b off cap b' off' cap' X gs cs hlen hl4 J Jx W.heap.size (Nat.le_trans hn₀ hW.size) hJ hY W rfl ((hk.cell (p := ⟨B2, 0, none⟩) hB2.1 hB2.2).trans h2) ((hk.cell (p := ⟨B3, 1, none⟩) hB3.1 hB3.2).trans h3) hB2 hB3 (hg.kept hk) (hc.kept hk) h0

/-- What row.Good comes to. -/
def goodR (p : Int) (G : Int → TCell → Bool) (gs : List TGroup) (key : ByteArray) (cs : List TCell) : Int :=
  if (p != 0) = true then p else if key.toList.isEmpty = true then 2 else if 32 < (key.size : Int) then 3 else if ((cs.length : Int) != (gs.length : Int)) = true then 100 else bif (gs.zip cs).all (fun x => G x.1.policy x.2) then 0 else 80

theorem blk_own {β : Type} (B : Nat) (cs : Array Value) (t : TypeId) : Own (fun (_ : β) W => W.heap[B]? = some (.cells cs t (0, 0))) := fun s W W' row hs hg hr => by
  refine (hg.block B (blk_lt hs) fun e => ?_).trans hs
  obtain ⟨o, h1, h2⟩ := hr B e.symm
  rw [hs] at h1
  cases h1
  cases h2
theorem keepsFrom_below (B : Nat) {W W' : World} (h : Below W.heap.size W W') : KeepsFrom B W W' := ⟨h.size, fun k _ _ hk _ => (h.block k (blk_lt hk)).trans hk⟩
theorem ownFrom_size {β : Type} (B n : Nat) : OwnFrom B (fun (_ : β) W => n ≤ W.heap.size) := fun _ _ _ _ hs hg _ => Nat.le_trans hs hg.size
theorem ownFrom_const {B : Nat} {I : World → Prop} (h : OwnFrom B (fun (_ : Unit) W => I W)) {β : Type} : OwnFrom B (fun (_ : β) W => I W) := fun _ W W' row hs hg hr => h () W W' row hs hg hr

set_option maxRecDepth 100000 in
set_option maxHeartbeats 4000000 in
theorem rgood_calls (w : World) (a0 a1 : Option Addr) (gs : List TGroup) (cs : List TCell) (key : ByteArray) (cap0 cap1 : Nat) (p : Int) (G : Int → TCell → Bool)
    (hP : ∀ W, Below w.heap.size w W → Calls Try.prog 131 #[.slice a0 gs.length cap0] W fun e W' => e = .returned (.int .i64 p) ∧ Below W.heap.size W W')
    (hp0 : p = 0 → 1 ≤ gs.length ∧ gs.length ≤ 4)
    (hC : ∀ (q : Int) (c : TCell) W, Calls Try.prog 38 #[.int .i64 q, cV c] W fun e W' => e = .returned (.bool (G q c)) ∧ Below W.heap.size W W')
    (hG : 0 < gs.length → ∃ b off, a0 = some ⟨b, off, none⟩ ∧ GsAt w.heap.size w.heap.size w b off gs)
    (hS : 0 < cs.length → ∃ b off, a1 = some ⟨b, off, none⟩ ∧ CsAt w.heap.size w.heap.size w b off cs) :
    Calls Try.prog 65 #[.slice a0 gs.length cap0, .agg #[.string key, .slice a1 cs.length cap1]] w fun e W' => e = .returned (.int .i64 (goodR p G gs key cs)) ∧ Below w.heap.size w W' := by
  refine (callsIn_wide (n := 5)).1 ?_
  refine callsIn_of_wp_marks Try.func65 rfl trivial ?_ rfl
  simp only [Try.ntmps65, List.size_toArray, List.length_cons, List.length_nil, Nat.reduceAdd, Nat.reduceSub, Array.replicate_succ, Array.replicate_zero, List.push_toArray, List.append_toArray, List.nil_append, List.cons_append]
  have hw2 : Below w.heap.size w ((w.alloc (.cells #[.string key, .slice a1 cs.length cap1] 71)).alloc (.cells #[.int .i64 0] 26)) := ((Below.refl _ w).alloc (Nat.le_refl _) _).alloc (by simp) _
  have hr1 := alloc_old (.cells #[.int .i64 0] 26) (alloc_new (w := w) (.cells #[.string key, .slice a1 cs.length cap1] 71) rfl)
  have hr2 := alloc_new (w := w.alloc (.cells #[.string key, .slice a1 cs.length cap1] 71)) (.cells #[.int .i64 0] 26) (n := w.heap.size + 1) (by simp)
  gi_wp2_with (first
    | (refine ⟨trivial, ?_⟩; gi_at_call 131; refine (callsIn_wide.2 (hP _ hw2)).mono ?_; rintro e W1 ⟨rfl, hb1⟩; have hx1 := blk_next hr1 hb1; have hx2 := blk_next hr2 hb1; obtain ⟨c0, c1⟩ := cb2 hx1; have d0 := cb1 hx2; have f0 := fb1 hx2; have hB1 : Below w.heap.size w W1 := hw2.trans (hb1.mono (by simp; omega)); clear hr1 hr2 hb1)
    | (refine ⟨trivial, ?_⟩; gi_at_call 132; refine (parts_in _ _ _ _ _ _ _).mono ?_; rintro e W2 ⟨rfl, rfl⟩))
  · have h1 : (p != 0) = true := by assumption
    have e : goodR p G gs key cs = p := by unfold goodR; rw [if_pos h1]
    have hc := cb1 (set_same (i := 0) hx2 (.int .i64 p))
    exact ⟨.int .i64 p, by simp [results, Try.f65, go_sem, hc], by rw [e], hB1.setCell (p := ⟨w.heap.size + 1, 0, none⟩) (by simp) _⟩
  · have h1 : (p != 0) = false := by assumption
    have h2 : key.toList.isEmpty = true := by assumption
    have e : goodR p G gs key cs = 2 := by unfold goodR; rw [if_neg (by rw [h1]; simp), if_pos h2]
    have hc := cb1 (set_same (i := 0) hx2 (.int .i64 2))
    exact ⟨.int .i64 2, by simp [results, Try.f65, go_sem, hc], by rw [e], hB1.setCell (p := ⟨w.heap.size + 1, 0, none⟩) (by simp) _⟩
  · have h1 : (p != 0) = false := by assumption
    have h2 : key.toList.isEmpty = false := by assumption
    have h3 : 32 < (key.size : Int) := by assumption
    have e : goodR p G gs key cs = 3 := by unfold goodR; rw [if_neg (by rw [h1]; simp), if_neg (by rw [h2]; simp), if_pos h3]
    have hc := cb1 (set_same (i := 0) hx2 (.int .i64 3))
    exact ⟨.int .i64 3, by simp [results, Try.f65, go_sem, hc], by rw [e], hB1.setCell (p := ⟨w.heap.size + 1, 0, none⟩) (by simp) _⟩
  · have h1 : (p != 0) = false := by assumption
    have h2 : key.toList.isEmpty = false := by assumption
    have h3 : (key.size : Int) ≤ 32 := by assumption
    have h4 : ((cs.length : Int) != (gs.length : Int)) = true := by assumption
    have e : goodR p G gs key cs = 100 := by unfold goodR; rw [if_neg (by rw [h1]; simp), if_neg (by rw [h2]; simp), if_neg (by omega), if_pos h4]
    have hc := cb1 (set_same (i := 0) hx2 (.int .i64 100))
    exact ⟨.int .i64 100, by simp [results, Try.f65, go_sem, hc], by rw [e], hB1.setCell (p := ⟨w.heap.size + 1, 0, none⟩) (by simp) _⟩
  have h1 : (p != 0) = false := by assumption
  have h2 : key.toList.isEmpty = false := by assumption
  have h3 : (key.size : Int) ≤ 32 := by assumption
  have h4 : ((cs.length : Int) != (gs.length : Int)) = false := by assumption
  have e : goodR p G gs key cs = bif (gs.zip cs).all (fun x => G x.1.policy x.2) then 0 else 80 := by unfold goodR; rw [if_neg (by rw [h1]; simp), if_neg (by rw [h2]; simp), if_neg (by omega), if_neg (by rw [h4]; simp)]
  have hp : p = 0 := by simpa using h1
  clear h1
  subst hp
  have hlen : cs.length = gs.length := by have : (cs.length : Int) = gs.length := by simpa using h4
                                          omega
  obtain ⟨hl1, hl4⟩ := hp0 rfl
  obtain ⟨b, off, rfl, hg⟩ := hG (by omega)
  obtain ⟨b', off', rfl, hc⟩ := hS (by omega)
  have hW2 : Below W1.heap.size W1 ((W1.alloc (.cells #[.slice (some ⟨b, off, none⟩) gs.length cap0] 66)).alloc (.cells #[.string key, .slice (some ⟨b', off', none⟩) cs.length cap1] 71)) := ((Below.refl _ W1).alloc (Nat.le_refl _) _).alloc (by simp) _
  have hy2 := alloc_old (.cells #[.string key, .slice (some ⟨b', off', none⟩) cs.length cap1] 71) (alloc_new (w := W1) (.cells #[.slice (some ⟨b, off, none⟩) gs.length cap0] 66) rfl)
  have hy3 := alloc_new (w := W1.alloc (.cells #[.slice (some ⟨b, off, none⟩) gs.length cap0] 66)) (.cells #[.string key, .slice (some ⟨b', off', none⟩) cs.length cap1] 71) (n := W1.heap.size + 1) (by simp)
  have hz2 := blk_next hx2 hW2
  have hs1 := blk_lt hx2
  have hs2 := blk_lt hy3
  have hB2 := hB1.trans (hW2.mono hB1.size)
  generalize (W1.alloc (.cells #[.slice (some ⟨b, off, none⟩) gs.length cap0] 66)).alloc (.cells #[.string key, .slice (some ⟨b', off', none⟩) cs.length cap1] 71) = W2 at hW2 hy2 hy3 hz2 hs2 hB2 ⊢
  have hg2 : GsAt W2.heap.size W2.heap.size W2 b off gs := ⟨⟨by have := hg.1.1; omega, by have := hg.1.1; omega⟩, fun j g hj => ⟨(hB2.cell (p := ⟨b, _, none⟩) hg.1.1).trans (hg.2 j g hj).1, (hB2.cell (p := ⟨b, _, none⟩) hg.1.1).trans (hg.2 j g hj).2⟩⟩
  have hc2 : CsAt W2.heap.size W2.heap.size W2 b' off' cs := by
    refine ⟨⟨by have := hc.1.1; omega, by have := hc.1.1; omega⟩, fun j c hj => ?_⟩
    have k : ∀ o, W2.cell? ⟨b', o, none⟩ = w.cell? ⟨b', o, none⟩ := fun o => hB2.cell (p := ⟨b', o, none⟩) hc.1.1
    simp only [k]
    exact hc.2 j c hj
  refine wpIn_rangeFunc_ownH (F := Fence.wide) rfl (by omega) (gf := 165) (lb := #[.pointer (some ⟨W1.heap.size, 0, none⟩), .pointer (some ⟨W1.heap.size + 1, 0, none⟩)]) rfl trivial (enters_of Try.func165 (by kernel_rfl) rfl)
    (parts_stops _ (by omega) W1.heap.size (W1.heap.size + 1) W2.heap.size W2.heap.size b off cap0 b' off' cap1 gs cs hlen hl4 W2 (Nat.le_refl _) (cb1 hy2) (cb2 hy3).2 ⟨by omega, by omega⟩ ⟨by omega, by omega⟩ hg2 hc2)
    KB.trans (KB.putObj (Nat.le_refl _)) (Below.refl _ _) (fun _ => rfl)
    (fun pre W => ((∀ x ∈ pre, G x.1.policy x.2 = true) ∧ W.heap[w.heap.size + 1]? = some (.cells #[.int .i64 0] 26 (0, 0))) ∧ Below w.heap.size w W ∧ W2.heap.size ≤ W.heap.size)
    (fun c pre W => ((c = .ret ∧ ∃ x ∈ pre, G x.1.policy x.2 = false) ∧ W.heap[w.heap.size + 1]? = some (.cells #[.int .i64 80] 26 (0, 0))) ∧ Below w.heap.size w W ∧ W2.heap.size ≤ W.heap.size)
    (OwnFrom.and (OwnFrom.and (ownFrom_pure _ _) (Own.from (blk_own _ _ _) _)) (OwnFrom.and (ownFrom_below (Nat.le_refl _) hB2.size) (ownFrom_size _ _)))
    (fun c => OwnFrom.and (OwnFrom.and (ownFrom_pure _ _) (Own.from (blk_own _ _ _) _)) (OwnFrom.and (ownFrom_below (Nat.le_refl _) hB2.size) (ownFrom_size _ _)))
    ⟨⟨by simp, hz2⟩, hB2, Nat.le_refl _⟩
    (fun x a' W => (∃ B6 B7, a' = { tmps := #[Value.slice (some ⟨b, off, none⟩) gs.length cap0, Value.agg #[Value.string key, Value.slice (some ⟨b', off', none⟩) cs.length cap1], undef,
          Value.pointer (some { block := w.heap.size, off := 0 }),
          Value.pointer (some { block := w.heap.size + 1, off := 0 }), Value.int IntKind.i64 0, Value.pointer (some ⟨B6, 0, none⟩), Value.pointer (some ⟨B7, 0, none⟩),
          Value.slice (some ⟨b, off, none⟩) gs.length cap0, Value.int IntKind.i64 0, Value.int IntKind.i64 0, Value.bool false, undef,
          Value.bool false, Value.pointer (some { block := w.heap.size, off := 0 }), Value.string key, Value.bool false,
          Value.bool (decide (32 < (key.size : Int))), Value.pointer (some { block := w.heap.size, off := 0 }),
          Value.string key, Value.int IntKind.i64 key.size, Value.bool (decide (32 < (key.size : Int))), Value.bool false,
          Value.pointer (some { block := w.heap.size, off := 1 }), Value.slice (some ⟨b', off', none⟩) cs.length cap1,
          Value.int IntKind.i64 cs.length, Value.slice (some ⟨b, off, none⟩) gs.length cap0, Value.int IntKind.i64 gs.length,
          Value.bool false, Value.slice (some ⟨b, off, none⟩) gs.length cap0, Value.agg #[Value.string key, Value.slice (some ⟨b', off', none⟩) cs.length cap1],
          Value.func (Fn.func 165) #[] #[Value.pointer (some { block := W1.heap.size, off := 0 }), Value.pointer (some { block := W1.heap.size + 1, off := 0 })],
          gV x.1, cV x.2, undef, undef, undef, undef, undef], defers := [] } ∧
        (W.heap[B6]? = some (.cells #[.string x.1.name, .int .i64 x.1.policy] 79 (0, 0)) ∧ W.heap[B7]? = some (.cells #[.int .i64 x.2.stamp.n, .int .i64 x.2.stamp.site, .int .i64 x.2.vec.a, .int .i64 x.2.vec.b, .bool x.2.gone, .string x.2.value, .int .i64 x.2.dead.a, .int .i64 x.2.dead.b] 55 (0, 0)))))
    (fun x a' => Own.from (fun s X Y row hs hgr hr => by
      obtain ⟨B6, B7, e1, e2, e3⟩ := hs
      exact ⟨B6, B7, e1, blk_own B6 _ _ s X Y row e2 hgr hr, blk_own B7 _ _ s X Y row e3 hgr hr⟩) _) ?assign ?body ?done ?stop
  case assign =>
    rintro l pre x W K ⟨⟨i1, i2⟩, i3, i4⟩ hK
    clear hlen h4
    dsimp only [encP, gV, cV] at hK ⊢
    gi_wp2
    have hb : Below W.heap.size W ((W.alloc (.cells #[.string x.1.name, .int .i64 x.1.policy] 79)).alloc (.cells #[.int .i64 x.2.stamp.n, .int .i64 x.2.stamp.site, .int .i64 x.2.vec.a, .int .i64 x.2.vec.b, .bool x.2.gone, .string x.2.value, .int .i64 x.2.dead.a, .int .i64 x.2.dead.b] 55)) := ((Below.refl _ W).alloc (Nat.le_refl _) _).alloc (by simp) _
    exact hK _ _ (keepsFrom_below _ hb) (KB.of_below (hb.mono i4)) ⟨⟨i1, blk_next i2 hb⟩, i3.trans (hb.mono i3.size), Nat.le_trans i4 hb.size⟩ ⟨W.heap.size, W.heap.size + 1, rfl, alloc_old _ (alloc_new _ rfl), alloc_new _ (by simp)⟩
  case body =>
    rintro l pre x a' W hl hr ⟨⟨i1, i2⟩, i3, i5⟩ ⟨B6, B7, rfl, e6, e7⟩ hlt
    obtain ⟨k0, k1⟩ := cb2 e6
    obtain ⟨m0, m1, m2, m3, m4, m5, m6, m7⟩ := cb8 e7
    have d0 := cb1 i2
    have f0 := fb1 i2
    cases hGx : G x.1.policy x.2 with
    | true =>
      gi_wp2_with (refine ⟨trivial, ?_⟩; gi_at_call 38; refine (CallsIn.inRound l (callsIn_wide.2 (hC x.1.policy x.2 _))).mono ?_; rw [hGx]; rintro e W' ⟨rfl, hb⟩)
      exact ⟨keepsFrom_below _ hb, KB.of_below (hb.mono i5), ⟨fun y hy => (List.mem_append.1 hy).elim (i1 y) (fun e => by simp at e; subst e; exact hGx), blk_next i2 hb⟩, i3.trans (hb.mono i3.size), Nat.le_trans i5 hb.size⟩
    | false =>
      gi_wp2_with (refine ⟨trivial, ?_⟩; gi_at_call 38; refine (CallsIn.inRound l (callsIn_wide.2 (hC x.1.policy x.2 _))).mono ?_; rw [hGx]; rintro e W' ⟨rfl, hb⟩; have i4 := blk_next i2 hb; have d4 := cb1 i4; have f4 := fb1 i4)
      exact ⟨(keepsFrom_below _ hb).trans ((KeepsOthers.setCell _ _ _).from _), ⟨⟨rfl, x, by simp, hGx⟩, set_same (i := 0) i4 (.int .i64 80)⟩, (i3.trans (hb.mono i3.size)).setCell (p := ⟨w.heap.size + 1, 0, none⟩) (by simp) _, Nat.le_trans i5 (by rw [set_size]; exact hb.size)⟩
  case done =>
    rintro D ys W hD rfl ⟨⟨i1, i2⟩, i3, i5⟩ hK
    have d0 := cb1 i2
    have f0 := fb1 i2
    gi_wp2
    have hK' := (KeepsOthers.setCell W ⟨w.heap.size + 1, 0, none⟩ (.int .i64 0)).same D _ hK rfl
    refine ⟨by simp, .inl ⟨_, _, rfl, run_takeDeferred hK', ?_⟩⟩
    have hc5 := cell_kept (World.cell?_setCell_same' W ⟨w.heap.size + 1, 0, none⟩ (.int .i64 0) (by rw [d0]; rfl)) (grownBy_putObj' _ D (.deferred none)) (fun r e => by cases e; exact ⟨_, hK', rfl⟩)
    refine ⟨.int .i64 0, ?_, ?_, (i3.setCell (p := ⟨w.heap.size + 1, 0, none⟩) (by simp) _).trans (belowK_b (w := w) (Nat.le_refl _) _ D _ _ (by have := hB2.size; omega) hK' rfl rfl)⟩
    · simp [results, Try.f65, go_sem, hc5]
    · rw [List.all_eq_true.2 (fun x hx => i1 x hx)]; rfl
  case stop =>
    rintro D c pre W hD ⟨k, hk, rfl⟩ ⟨⟨⟨rfl, x, hx, hGx⟩, i2⟩, i3, i5⟩ hK
    gi_wp2
    refine ⟨by simp, .inl ⟨_, _, rfl, run_takeDeferred hK, ?_⟩⟩
    have hc5 := cell_kept (cb1 i2) (grownBy_putObj' _ D (.deferred none)) (fun r e => by cases e; exact ⟨_, hK, rfl⟩)
    refine ⟨.int .i64 80, ?_, ?_, i3.trans (belowK_b (w := w) (Nat.le_refl _) W D _ _ (by have := hB2.size; omega) hK rfl rfl)⟩
    · simp [results, Try.f65, go_sem, hc5]
    · have : (gs.zip cs).all (fun x => G x.1.policy x.2) = false := by
        cases ha : (gs.zip cs).all (fun x => G x.1.policy x.2) with
        | false => rfl
        | true => have := (List.all_eq_true.1 ha) x (List.mem_of_mem_take hx); rw [hGx] at this; cases this
      rw [this]; rfl
end Go.Proofs.Yteebobbhhgmeiaa
