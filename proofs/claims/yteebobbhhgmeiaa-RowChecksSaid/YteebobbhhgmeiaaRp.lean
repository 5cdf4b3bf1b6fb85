/- row.Put of a row that may be, by the iterator's law. -/
import Derived.Test.YteebobbhhgmeiaaRg
namespace Go.Proofs.Yteebobbhhgmeiaa
open Go.RowKit Go.Shelf

attribute [local go_sem] Oper.semAt_some

/-- Bytes of one's own, in a block at or beyond 'base'. -/
def OwnB (base : Nat) (W : World) (y : Value) (bs : List UInt8) : Prop := OwnR W 5 1 y bs.length (bs.map byteV) ∧ ∀ g, blkOf y = some g → base ≤ g
theorem OwnB.keep {base : Nat} {W W' : World} {y : Value} {bs : List UInt8} (h : OwnB base W y bs) (hk : ∀ g, base ≤ g → blkOf y = some g → W'.heap[g]? = W.heap[g]?) : OwnB base W' y bs := ⟨h.1.keep fun g hg => hk g (h.2 g hg) hg, h.2⟩
theorem OwnB.mono {b b' : Nat} {W : World} {y : Value} {bs : List UInt8} (h : OwnB b W y bs) (hb : b' ≤ b) : OwnB b' W y bs := ⟨h.1, fun g hg => Nat.le_trans hb (h.2 g hg)⟩
theorem ownB_own (b0 b : Nat) (t : TypeId) (f : List (TGroup × TCell) → List UInt8) : Own (fun s W => ∃ y, W.heap[b0]? = some (.cells #[y] t (0, 0)) ∧ OwnB b W y (f s)) := fun s W W' row ⟨y, h1, h2⟩ hg hr => by
  have key : ∀ (g : Nat) (o : Obj), W.heap[g]? = some o → o.isCells = true → W'.heap[g]? = W.heap[g]? := fun g o ho hc => by
    refine hg.block g (blk_lt ho) fun e => ?_
    obtain ⟨o', h3, h4⟩ := hr g e.symm
    rw [ho] at h3
    cases h3
    rw [hc] at h4
    cases h4
  refine ⟨y, (key b0 _ h1 rfl).trans h1, h2.keep fun g _ hgy => ?_⟩
  rcases h2.1.2 with ⟨a, e1, _⟩ | ⟨g', cap, cur, e1, e3, _⟩
  · rw [e1] at hgy; cases a <;> cases hgy
  · rw [e1] at hgy
    cases hgy
    exact key _ _ e3 rfl

theorem OwnB.form {base : Nat} {W : World} {y : Value} {bs : List UInt8} (h : OwnB base W y bs) : ∃ a n c, y = .slice a n c := by
  obtain ⟨a, c, e, _⟩ := h.1.form
  exact ⟨a, _, c, e⟩
theorem KB.setCell {n₀ X : Nat} (W : World) (v : Value) : KB n₀ X W (W.setCell ⟨X, 0, none⟩ v) :=
  ⟨rfl, rfl, rfl, by rw [set_size]; exact Nat.le_refl _, fun k _ hk => Below.heap_setCell W ⟨X, 0, none⟩ v k hk⟩
theorem flat_len {α : Type} (F : α → List UInt8) (n : Nat) (h : ∀ x, (F x).length ≤ n) : ∀ l : List α, (l.flatMap F).length ≤ l.length * n
  | [] => by simp
  | x :: r => by
    have := flat_len F n h r
    have := h x
    rw [List.flatMap_cons, List.length_append, List.length_cons, Nat.succ_mul]
    omega

set_option maxRecDepth 100000 in
set_option maxHeartbeats 1000000 in
theorem rput_calls (w : World) (a0 a1 : Option Addr) (gs : List TGroup) (cs : List TCell) (key : ByteArray) (cap0 cap1 : Nat) (na ncap : Nat) (ab : Option Addr) (b0 : List UInt8) (pc : Int → TCell → List UInt8) (Nx : Nat)
    (hpc : ∀ q c, (pc q c).length ≤ Nx)
    (hGd : ∀ W, Below w.heap.size w W → Calls Try.prog 65 #[.slice a0 gs.length cap0, .agg #[.string key, .slice a1 cs.length cap1]] W fun e W' => e = .returned (.int .i64 0) ∧ Below W.heap.size W W')
    (hl1 : 1 ≤ gs.length) (hl4 : gs.length ≤ 4) (hlen0 : Nat.beq cs.length gs.length = true)
    (hPT : ∀ W, Below w.heap.size w W → Calls Try.prog 122 #[.slice ab na ncap, .string key] W fun e W' => ∃ y, e = .returned y ∧ Below W.heap.size W W' ∧ OwnB W.heap.size W' y b0)
    (hCP : ∀ W v bs q c base, OwnB base W v bs → bs.length ≤ b0.length + 4 * Nx → Calls Try.prog 56 #[v, .int .i64 q, cV c] W fun e W' => ∃ y, e = .returned y ∧ Below W.heap.size W W' ∧ OwnB W.heap.size W' y (bs ++ pc q c))
    (hG : 0 < gs.length → ∃ b off, a0 = some ⟨b, off, none⟩ ∧ GsAt w.heap.size w.heap.size w b off gs)
    (hS : 0 < cs.length → ∃ b off, a1 = some ⟨b, off, none⟩ ∧ CsAt w.heap.size w.heap.size w b off cs) :
    Calls Try.prog 79 #[.slice ab na ncap, .slice a0 gs.length cap0, .agg #[.string key, .slice a1 cs.length cap1]] w fun e W' => ∃ y, e = .returned y ∧ Below w.heap.size w W' ∧ OwnB w.heap.size W' y (b0 ++ (gs.zip cs).flatMap (fun x => pc x.1.policy x.2)) := by
  refine (callsIn_wide (n := 5)).1 ?_
  refine callsIn_of_wp_marks Try.func79 rfl trivial ?_ rfl
  simp only [Try.ntmps79, List.size_toArray, List.length_cons, List.length_nil, Nat.reduceAdd, Nat.reduceSub, Array.replicate_succ, Array.replicate_zero, List.push_toArray, List.append_toArray, List.nil_append, List.cons_append]
  have hw2 : Below w.heap.size w ((w.alloc (.cells #[.slice ab na ncap] 84)).alloc (.cells #[.string key, .slice a1 cs.length cap1] 71)) := ((Below.refl _ w).alloc (Nat.le_refl _) _).alloc (by simp) _
  have hr1 := alloc_old (.cells #[.string key, .slice a1 cs.length cap1] 71) (alloc_new (w := w) (.cells #[.slice ab na ncap] 84) rfl)
  have hr2 := alloc_new (w := w.alloc (.cells #[.slice ab na ncap] 84)) (.cells #[.string key, .slice a1 cs.length cap1] 71) (n := w.heap.size + 1) (by simp)
  obtain ⟨k0, k1⟩ := cb2 hr2
  have k2 := cb1 hr1
  gi_wp2_with (first
    | (refine ⟨trivial, ?_⟩; gi_at_call 65; refine (callsIn_wide.2 (hGd _ hw2)).mono ?_; rintro e W1 ⟨rfl, hb1⟩; have hx1 := blk_next hr1 hb1; have hx2 := blk_next hr2 hb1; have d0 := cb1 hx1; have f0 := fb1 hx1; obtain ⟨c0, c1⟩ := cb2 hx2; have hB1 : Below w.heap.size w W1 := hw2.trans (hb1.mono (by simp; omega)); clear hr1 hr2 hb1 k0 k1 k2)
    | (refine ⟨trivial, ?_⟩; gi_at_call 122; refine (callsIn_wide.2 (hPT _ hB1)).mono ?_; rintro e W2 ⟨y0, rfl, hb2, hy0⟩; obtain ⟨ya, yc, rfl, hyc⟩ := hy0.1.form; have hz1 := blk_next hx1 hb2; have hz2 := blk_next hx2 hb2; have d2 := cb1 hz1; have f2 := fb1 hz1; obtain ⟨c2, c3⟩ := cb2 hz2; have hB2 : Below w.heap.size w W2 := hB1.trans (hb2.mono hB1.size); clear d0 f0 c0 c1)
    | (refine ⟨trivial, ?_⟩; gi_at_call 132; refine (parts_in _ _ _ _ _ _ _).mono ?_; rintro e W3 ⟨rfl, rfl⟩))
  have hlen : cs.length = gs.length := Nat.eq_of_beq_eq_true hlen0
  have hy1 := set_same (i := 0) hz1 (.slice ya b0.length yc)
  have hy2 := set_far hz2 (p := ⟨w.heap.size, 0, none⟩) (by simp) (.slice ya b0.length yc)
  have hB3 : Below w.heap.size w (W2.setCell ⟨w.heap.size, 0, none⟩ (.slice ya b0.length yc)) := hB2.setCell (p := ⟨w.heap.size, 0, none⟩) (Nat.le_refl _) _
  have hs1 := blk_lt hx2
  have hs2 := blk_lt hy2
  have hyo : OwnB (w.heap.size + 1) (W2.setCell ⟨w.heap.size, 0, none⟩ (.slice ya b0.length yc)) (.slice ya b0.length yc) b0 := (hy0.mono (Nat.le_of_lt hs1)).keep fun g hg _ => Below.heap_setCell W2 ⟨w.heap.size, 0, none⟩ _ g (by simp; omega)
  have hVs : (W2.setCell ⟨w.heap.size, 0, none⟩ (.slice ya b0.length yc)).heap.size = W2.heap.size := set_size _ _ _
  rw [← hVs]
  generalize W2.setCell ⟨w.heap.size, 0, none⟩ (.slice ya b0.length yc) = V at hy1 hy2 hB3 hs2 hyo ⊢
  clear hVs
  clear hz1 hz2 d2 f2 c2 c3 hx1 hx2 hb2 hy0
  obtain ⟨b, off, rfl, hg⟩ := hG (by omega)
  obtain ⟨b', off', rfl, hc⟩ := hS (by omega)
  have hW2 : Below V.heap.size V ((V.alloc (.cells #[.slice (some ⟨b, off, none⟩) gs.length cap0] 66)).alloc (.cells #[.string key, .slice (some ⟨b', off', none⟩) cs.length cap1] 71)) := ((Below.refl _ V).alloc (Nat.le_refl _) _).alloc (by simp) _
  have hv2 := alloc_old (.cells #[.string key, .slice (some ⟨b', off', none⟩) cs.length cap1] 71) (alloc_new (w := V) (.cells #[.slice (some ⟨b, off, none⟩) gs.length cap0] 66) rfl)
  have hv3 := alloc_new (w := V.alloc (.cells #[.slice (some ⟨b, off, none⟩) gs.length cap0] 66)) (.cells #[.string key, .slice (some ⟨b', off', none⟩) cs.length cap1] 71) (n := V.heap.size + 1) (by simp)
  have hz1 := blk_next hy1 hW2
  have hz3 := blk_lt hv3
  have hB4 := hB3.trans (hW2.mono hB3.size)
  have hyo2 : OwnB (w.heap.size + 1) ((V.alloc (.cells #[.slice (some ⟨b, off, none⟩) gs.length cap0] 66)).alloc (.cells #[.string key, .slice (some ⟨b', off', none⟩) cs.length cap1] 71)) (.slice ya b0.length yc) b0 := hyo.keep fun g _ hgy => hW2.block g (hyo.1.lt hgy)
  clear hyo hs1
  rw [show V.heap.size = V.heap.size from rfl] at hv2
  generalize hVW : (V.alloc (.cells #[.slice (some ⟨b, off, none⟩) gs.length cap0] 66)).alloc (.cells #[.string key, .slice (some ⟨b', off', none⟩) cs.length cap1] 71) = W2 at hW2 hv2 hv3 hz1 hz3 hB4 hyo2 ⊢
  have hlt0 := blk_lt hy1
  have hg2 : GsAt W2.heap.size w.heap.size W2 b off gs := ⟨⟨by have := hg.1.1; omega, by have := hg.1.1; omega⟩, fun j g hj => ⟨(hB4.cell (p := ⟨b, _, none⟩) hg.1.1).trans (hg.2 j g hj).1, (hB4.cell (p := ⟨b, _, none⟩) hg.1.1).trans (hg.2 j g hj).2⟩⟩
  have hc2 : CsAt W2.heap.size w.heap.size W2 b' off' cs := by
    refine ⟨⟨by have := hc.1.1; omega, by have := hc.1.1; omega⟩, fun j c hj => ?_⟩
    have k : ∀ o, W2.cell? ⟨b', o, none⟩ = w.cell? ⟨b', o, none⟩ := fun o => hB4.cell (p := ⟨b', o, none⟩) hc.1.1
    simp only [k]
    exact hc.2 j c hj
  refine wpIn_rangeFunc_ownH (F := Fence.wide) rfl (by omega) (gf := 165) (lb := #[.pointer (some ⟨V.heap.size, 0, none⟩), .pointer (some ⟨V.heap.size + 1, 0, none⟩)]) rfl trivial (enters_of Try.func165 (by kernel_rfl) rfl)
    (parts_stops _ (by omega) V.heap.size (V.heap.size + 1) W2.heap.size w.heap.size b off cap0 b' off' cap1 gs cs hlen hl4 W2 (Nat.le_refl _) (cb1 hv2) (cb2 hv3).2 ⟨by omega, by omega⟩ ⟨by omega, by omega⟩ hg2 hc2)
    KB.trans (KB.putObj (Nat.le_refl _)) (Below.refl _ _) (fun _ => rfl)
    (fun pre W => (∃ y, W.heap[w.heap.size]? = some (.cells #[y] 84 (0, 0)) ∧ OwnB (w.heap.size + 1) W y (b0 ++ pre.flatMap (fun x => pc x.1.policy x.2))) ∧ Below w.heap.size w W ∧ W2.heap.size ≤ W.heap.size)
    (fun _ _ _ => False)
    (OwnFrom.and (Own.from (ownB_own w.heap.size (w.heap.size + 1) 84 (fun pre => b0 ++ pre.flatMap (fun x => pc x.1.policy x.2))) _) (OwnFrom.and (ownFrom_below (Nat.le_refl _) hB4.size) (ownFrom_size _ _)))
    (fun _ _ _ _ _ hs _ _ => hs)
    ⟨⟨_, hz1, by simpa using hyo2⟩, hB4, Nat.le_refl _⟩
    (fun x a' W => (∃ B6 B7, a' = { tmps := #[Value.slice ab na ncap, Value.slice (some ⟨b, off, none⟩) gs.length cap0,
          Value.agg #[Value.string key, Value.slice (some ⟨b', off', none⟩) cs.length cap1],
          Value.pointer (some { block := w.heap.size, off := 0 }), undef,
          Value.pointer (some { block := w.heap.size + 1, off := 0 }), Value.slice none 0 0, Value.pointer (some ⟨B6, 0, none⟩), Value.pointer (some ⟨B7, 0, none⟩),
          Value.slice (some ⟨b, off, none⟩) gs.length cap0, Value.agg #[Value.string key, Value.slice (some ⟨b', off', none⟩) cs.length cap1],
          Value.int IntKind.i64 0, Value.bool false, undef, undef, undef, Value.slice ab na ncap,
          Value.pointer (some { block := w.heap.size + 1, off := 0 }), Value.string key, Value.slice ya b0.length yc,
          Value.slice (some ⟨b, off, none⟩) gs.length cap0, Value.agg #[Value.string key, Value.slice (some ⟨b', off', none⟩) cs.length cap1],
          Value.func (Fn.func 165) #[] #[Value.pointer (some { block := V.heap.size, off := 0 }), Value.pointer (some { block := V.heap.size + 1, off := 0 })],
          gV x.1, cV x.2, undef, undef, undef, undef, undef, undef], defers := [] } ∧
        (W.heap[B6]? = some (.cells #[.string x.1.name, .int .i64 x.1.policy] 79 (0, 0)) ∧ W.heap[B7]? = some (.cells #[.int .i64 x.2.stamp.n, .int .i64 x.2.stamp.site, .int .i64 x.2.vec.a, .int .i64 x.2.vec.b, .bool x.2.gone, .string x.2.value, .int .i64 x.2.dead.a, .int .i64 x.2.dead.b] 55 (0, 0)))))
    (fun x a' => Own.from (fun s X Y row hs hgr hr => by
      obtain ⟨B6, B7, e1, e2, e3⟩ := hs
      exact ⟨B6, B7, e1, blk_own B6 _ _ s X Y row e2 hgr hr, blk_own B7 _ _ s X Y row e3 hgr hr⟩) _) ?assign ?body ?done ?stop
  case assign =>
    rintro l pre x W K ⟨⟨y, i1, i2⟩, i3, i4⟩ hK
    clear hlen hlen0
    dsimp only [encP, gV, cV] at hK ⊢
    gi_wp2
    have hb : Below W.heap.size W ((W.alloc (.cells #[.string x.1.name, .int .i64 x.1.policy] 79)).alloc (.cells #[.int .i64 x.2.stamp.n, .int .i64 x.2.stamp.site, .int .i64 x.2.vec.a, .int .i64 x.2.vec.b, .bool x.2.gone, .string x.2.value, .int .i64 x.2.dead.a, .int .i64 x.2.dead.b] 55)) := ((Below.refl _ W).alloc (Nat.le_refl _) _).alloc (by simp) _
    exact hK _ _ (keepsFrom_below _ hb) (KB.of_below (hb.mono i4)) ⟨⟨y, blk_next i1 hb, i2.keep fun g _ hgy => hb.block g (i2.1.lt hgy)⟩, i3.trans (hb.mono i3.size), Nat.le_trans i4 hb.size⟩ ⟨W.heap.size, W.heap.size + 1, rfl, alloc_old _ (alloc_new _ rfl), alloc_new _ (by simp)⟩
  case body =>
    rintro l pre x a' W hl hr ⟨⟨y, i1, i2⟩, i3, i4⟩ ⟨B6, B7, rfl, e6, e7⟩ hlt
    obtain ⟨yb, ym, yd, rfl⟩ := i2.form
    obtain ⟨k0, k1⟩ := cb2 e6
    obtain ⟨m0, m1, m2, m3, m4, m5, m6, m7⟩ := cb8 e7
    have d0 := cb1 i1
    have hbl : (b0 ++ pre.flatMap (fun x => pc x.1.policy x.2)).length ≤ b0.length + 4 * Nx := by
      have := flat_len (fun x : TGroup × TCell => pc x.1.policy x.2) Nx (fun x => hpc _ _) pre
      have h2 : pre.length * Nx ≤ 4 * Nx := Nat.mul_le_mul_right _ (by omega)
      rw [List.length_append]
      omega
    clear hlen hlen0
    generalize hbe : b0 ++ pre.flatMap (fun x => pc x.1.policy x.2) = bs at *
    gi_wp2_with (refine ⟨trivial, ?_⟩; gi_at_call 56; refine (CallsIn.inRound l (callsIn_wide.2 (hCP _ _ bs x.1.policy x.2 _ i2 hbl))).mono ?_; rintro e W' ⟨y', rfl, hb, hy'⟩; obtain ⟨ye, yn, yf, rfl⟩ := hy'.form; have q1 := blk_next i1 hb; have d4 := cb1 q1; have f4 := fb1 q1)
    have hw := blk_lt i1
    refine ⟨(keepsFrom_below _ hb).trans ((KeepsOthers.setCell _ _ _).from _), (KB.of_below (hb.mono i4)).trans (KB.setCell _ _), ⟨_, set_same (i := 0) q1 _, ?_⟩, (i3.trans (hb.mono i3.size)).setCell (p := ⟨w.heap.size, 0, none⟩) (Nat.le_refl _) _, Nat.le_trans i4 (by rw [set_size]; exact hb.size)⟩
    rw [List.flatMap_append, ← List.append_assoc, hbe]
    simp only [List.flatMap_cons, List.flatMap_nil, List.append_nil]
    exact (hy'.mono (b' := w.heap.size + 1) (by omega)).keep fun g hg _ => Below.heap_setCell W' ⟨w.heap.size, 0, none⟩ _ g (by simp; omega)
  case done =>
    rintro D ys W hD rfl ⟨⟨y, i1, i2⟩, i3, i4⟩ hK
    obtain ⟨yb, ym, yd, rfl⟩ := i2.form
    have d0 := cb1 i1
    clear hlen hlen0
    gi_wp2
    refine ⟨by simp, .inl ⟨_, _, rfl, run_takeDeferred hK, ?_⟩⟩
    refine ⟨_, results_tmp rfl _ _ _, _, rfl, i3.trans (belowK_b (w := w) (Nat.le_refl _) W D _ _ (by have := hB4.size; omega) hK rfl rfl), (i2.mono (Nat.le_succ _)).keep fun g _ hgy => ?_⟩
    refine World.putObj_heap_other fun e => ?_
    subst e
    rcases i2.1.2 with ⟨a, e1, _⟩ | ⟨g', cap, cur, e1, e3, _⟩
    · rw [e1] at hgy; cases a <;> cases hgy
    · rw [e1] at hgy
      cases hgy
      rw [hK] at e3
      cases e3
  case stop =>
    rintro D c pre W hD _ h _
    exact h.elim
end Go.Proofs.Yteebobbhhgmeiaa
