/- made by a program (rowgen.py): SortedApart: for every input the law returns true, and each argument reads behind the call as it read before. -/
import Derived.Test.YtnfmceffbnaanaaKSrd

set_option maxRecDepth 100000
namespace Go.Proofs.Ytnfmceffbnaanaa
open Go.RowKit Go.BigFrame
def SetPost (W : World) (B L lo i m n lc : Nat) (nn : Int) (curL : Array Value) (eL : TypeId) (nk nv : List Value) (W' : World) : Prop :=
  Chg (fun k => k = B ∨ k = L) W W' ∧ ∃ g1 c1 cur1 g2 c2 cur2, W.heap.size ≤ g1 ∧ W.heap.size ≤ g2 ∧ g1 ≠ g2 ∧ m + 1 ≤ c1 ∧ m + 1 ≤ c2 ∧ m + 1 ≤ cur1.size ∧ m + 1 ≤ cur2.size ∧
    W'.heap[g1]? = some (.cells cur1 9 (0, 0)) ∧ cur1.toList.take (m + 1) = nk ∧ W'.heap[g2]? = some (.cells cur2 27 (0, 0)) ∧ cur2.toList.take (m + 1) = nv ∧
    ((m + 1 ≤ 16 ∧ W'.heap[B]? = some (.cells #[.slice (some ⟨L, lo, none⟩) n lc, .int .i64 (nn + 1)] 67 (0, 0)) ∧
      W'.heap[L]? = some (.cells ((curL.setIfInBounds (lo + i * 2) (.slice (some ⟨g1, 0, none⟩) (m + 1) c1)).setIfInBounds (lo + i * 2 + 1) (.slice (some ⟨g2, 0, none⟩) (m + 1) c2)) eL (0, 0))) ∨
     (16 < m + 1 ∧ ∃ g3 c3 cur3, W.heap.size ≤ g3 ∧ g3 ≠ g1 ∧ g3 ≠ g2 ∧ n + 1 ≤ c3 ∧ W'.heap[B]? = some (.cells #[.slice (some ⟨g3, 0, none⟩) (n + 1) c3, .int .i64 (nn + 1)] 67 (0, 0)) ∧ W'.heap[g3]? = some (.cells cur3 75 (0, 0)) ∧
      ∃ xs : List Value, xs = ((((curL.setIfInBounds (lo + i * 2) (.slice (some ⟨g1, 0, none⟩) ((m + 1) / 2) ((m + 1) / 2))).setIfInBounds (lo + i * 2 + 1) (.slice (some ⟨g2, 0, none⟩) ((m + 1) / 2) ((m + 1) / 2))).toList.drop lo).take (n * 2)) ∧
        cur3.toList.take ((n + 1) * 2) = xs.take ((i + 1) * 2) ++ [.slice (some ⟨g1, (m + 1) / 2, none⟩) (m + 1 - (m + 1) / 2) (m + 1 - (m + 1) / 2), .slice (some ⟨g2, (m + 1) / 2, none⟩) (m + 1 - (m + 1) / 2) (m + 1 - (m + 1) / 2)] ++ xs.drop ((i + 1) * 2)))
theorem al2 (W : World) (x8 x9 x10 : Xt) (z1 z2 v u : Value) (T : TypeId) : Below W.heap.size W (ext (((ext ((ext W x8).alloc (.cells #[z1, z2] T)) x9).setCell ⟨(ext W x8).heap.size, 0, none⟩ v).setCell ⟨(ext W x8).heap.size, 0 + 1, none⟩ u) x10) ∧ W.heap.size ≤ (ext W x8).heap.size ∧
  (ext (((ext ((ext W x8).alloc (.cells #[z1, z2] T)) x9).setCell ⟨(ext W x8).heap.size, 0, none⟩ v).setCell ⟨(ext W x8).heap.size, 0 + 1, none⟩ u) x10).heap[(ext W x8).heap.size]? = some (.cells #[v, u] T (0, 0)) := by
 have h0 := below_ext W x8
 have k1 := alloc_new (w := ext W x8) (.cells #[z1, z2] T) rfl
 have h1 : Below W.heap.size W ((ext W x8).alloc (.cells #[z1, z2] T)) := h0.alloc h0.size _
 have h2 : Below W.heap.size W (ext ((ext W x8).alloc (.cells #[z1, z2] T)) x9) := h1.trans ((below_ext _ x9).mono h1.size)
 have h3 := (h2.setCell (p := ⟨(ext W x8).heap.size, 0, none⟩) h0.size v).setCell (p := ⟨(ext W x8).heap.size, 0 + 1, none⟩) h0.size u
 exact ⟨h3.trans ((below_ext _ x10).mono h3.size), h0.size, ext_blk (set_same (i := 0 + 1) (set_same (i := 0) (ext_blk k1 x9) v) u) x10⟩
theorem set4 (c : Array Value) (a b : Nat) (x y x' y' : Value) : (((c.setIfInBounds a x).setIfInBounds b y).setIfInBounds a x').setIfInBounds b y' = (c.setIfInBounds a x').setIfInBounds b y' := by
 apply Array.ext_getElem?
 intro i
 simp only [Array.getElem?_setIfInBounds, Array.size_setIfInBounds]
 by_cases h1 : b = i <;> by_cases h2 : a = i <;> simp [h1, h2]
theorem row_one {c : Array Value} {lo n a b : Nat} {x y : Value} (h1 : ∀ v ∈ (c.toList.drop lo).take n, v.oneCell' = true) (hx : x.oneCell' = true) (hy : y.oneCell' = true) : ∀ v ∈ (((c.setIfInBounds a x).setIfInBounds b y).toList.drop lo).take n, v.oneCell' = true := fun v hv => by
 obtain ⟨j, hj⟩ := List.mem_iff_getElem?.1 hv
 rw [List.getElem?_take] at hj
 split at hj <;> first | (cases hj; done) | skip
 rename_i hjn
 rw [List.getElem?_drop, Array.getElem?_toList, Array.getElem?_setIfInBounds] at hj
 split at hj
 ·split at hj <;> first | (cases hj; done) | skip
  cases hj; exact hy
 ·rw [Array.getElem?_setIfInBounds] at hj
  split at hj
  ·split at hj <;> first | (cases hj; done) | skip
   cases hj; exact hx
  ·refine h1 v (List.mem_iff_getElem?.2 ⟨j, ?_⟩)
   rw [List.getElem?_take, if_pos hjn, List.getElem?_drop, Array.getElem?_toList]
   exact hj
theorem row_cells {W : World} {c : Array Value} {L lo n : Nat} {e : TypeId} (h : W.heap[L]? = some (.cells c e (0, 0))) : ∀ j v, ((c.toList.drop lo).take n)[j]? = some v → W.cell? ((⟨L, lo, none⟩ : Addr).add j) = some v := fun j v hj => by
 have := take_get? hj
 rw [List.getElem?_drop, Array.getElem?_toList] at this
 rw [add_mk, blk_cell h]
 exact this
theorem own_some {W : World} {b : Nat} {e : TypeId} {s n : Nat} {v : Value} {xs : List Value} (h : W.ownsRow b e s v n xs) (hn : 0 < n) : ∃ g cap cur, v = .slice (some ⟨g, 0, none⟩) n cap ∧ b ≤ g ∧ W.heap[g]? = some (.cells cur e (0, 0)) ∧ n ≤ cap ∧ cap ≤ maxLen ∧ cur.size = cap * s ∧ cur.toList.take (n * s) = xs := by
 rcases h.2 with ⟨_, h1⟩ | h1
 ·omega
 ·exact h1
set_option maxHeartbeats 4000000 in
theorem set_ins (W : World) (B L lo i j m lc K ko kc V vo vc n : Nat) (nn : Int) (key : ByteArray) (va : Option Addr) (vn vcp : Nat) (curL : Array Value) (eL : TypeId) (xk xv nk nv : List Value) (HNK : Hid (xk.take j ++ [.string key] ++ xk.drop j = nk)) (HNV : Hid (xv.take j ++ [.slice va vn vcp] ++ xv.drop j = nv))
  (hAT : Calls Try.prog 30 #[.pointer (some ⟨B, 0, none⟩), .string key] W fun e W1 => e = .returned (.tuple #[.int .i64 (i : Int), .int .i64 (j : Int), .bool false]) ∧ Below W.heap.size W W1)
  (hB : W.heap[B]? = some (.cells #[.slice (some ⟨L, lo, none⟩) n lc, .int .i64 nn] 67 (0, 0))) (hn0 : 0 ≤ nn) (hn1 : nn ≤ 1099511627776) (hLB : L ≠ B) (hKB : K ≠ B) (hVB : V ≠ B)
  (hL : W.heap[L]? = some (.cells curL eL (0, 0))) (hnb : n ≤ 1099511627776) (hnlc : n ≤ lc) (h1L : ∀ v ∈ (curL.toList.drop lo).take (n * 2), v.oneCell' = true) (_hsL : lo + n * 2 ≤ curL.size) (_hi : i < n) (hiL : lo + i * 2 + 1 < curL.size)
  (hK : W.cell? ⟨L, lo + i * 2, none⟩ = some (.slice (some ⟨K, ko, none⟩) m kc)) (hV : W.cell? ⟨L, lo + i * 2 + 1, none⟩ = some (.slice (some ⟨V, vo, none⟩) m vc)) (hj : j ≤ m)(hkc : m ≤ kc) (hvc : m ≤ vc) (hm : m ≤ 1099511627776)
  (hKlt : K < W.heap.size) (hVlt : V < W.heap.size) (hkl : xk.length = m * 1) (hvl : xv.length = m * 1)
  (hxk : ∀ j v, xk[j]? = some v → W.cell? ((⟨K, ko, none⟩ : Addr).add j) = some v) (hxv : ∀ j v, xv[j]? = some v → W.cell? ((⟨V, vo, none⟩ : Addr).add j) = some v) (h1k : ∀ v ∈ xk, v.oneCell' = true) (h1v : ∀ v ∈ xv, v.oneCell' = true) :
  Calls Try.prog 27 #[.pointer (some ⟨B, 0, none⟩), .string key, .slice va vn vcp] W fun e W' => e = .returned (.tuple #[]) ∧ SetPost W B L lo i m n lc nn curL eL nk nv W' := by
 have hi0 : (0 : Int) ≤ (i : Int) := by omega
 have hi1 : (i : Int) < (n : Int) := by omega
 (have hine : i ≠ n := by omega)
 have HL := Lib.hid hL
 have HXK := Lib.hid hxk
 have HXV := Lib.hid hxv
 have H1K := Lib.hid h1k
 have H1V := Lib.hid h1v
 have HKL := Lib.hid hkl
 have HVL := Lib.hid hvl
 have H1L := Lib.hid h1L
 have hw1 : IntKind.i64.wrap ((i : Int) + 1) = (i : Int) + 1 := IntWalk.i64_in _ (by omega)
 have HW1 := Lib.hid hw1
 clear hL hxk hxv h1k h1v hkl hvl h1L hw1
 go_enter Try.func27, Try.ntmps27
 go_wp2_with (go_at_call 30; refine hAT.mono ?_; rintro e W1 ⟨rfl, hb1⟩; have e1 := blk_next hB hb1; obtain ⟨c0, c1⟩ := cb2 e1; obtain ⟨f0, f1⟩ := fb2 e1; have c2 := cell_next hb1 hK; have c3 := cell_next hb1 hV; have E1 := Lib.hid e1; have d2 : (W1.setCell ⟨B, 1, none⟩ (.int .i64 (nn + 1))).cell? ⟨L, lo + i * 2, none⟩ = some (.slice (some ⟨K, ko, none⟩) m kc) := (World.cell?_setCell_far _ _ _ _ (Ne.symm hLB)).trans c2; have d3 : (W1.setCell ⟨B, 1, none⟩ (.int .i64 (nn + 1))).cell? ⟨L, lo + i * 2 + 1, none⟩ = some (.slice (some ⟨V, vo, none⟩) m vc) := (World.cell?_setCell_far _ _ _ _ (Ne.symm hLB)).trans c3; have e2 := set_same (i := 1) e1 (.int .i64 (nn + 1));  have E2 := Lib.hid e2; clear hB hK hV e1 e2)
 have hC2 : Chg (fun k => k = B) W (W1.setCell ⟨B, 1, none⟩ (.int .i64 (nn + 1))) := (Chg.below (Chg.refl (fun k => k = B) W) hb1).set (.inl rfl) _
 clear c0 c1 f0 f1 c2 c3 E1 hb1
 generalize W1.setCell ⟨B, 1, none⟩ (.int .i64 (nn + 1)) = W2 at *
 have hx2 : ∀ {b o : Nat} {l : List Value}, b < W.heap.size → b ≠ B → (∀ j v, l[j]? = some v → W.cell? ((⟨b, o, none⟩ : Addr).add j) = some v) → ∀ j v, l[j]? = some v → W2.cell? ((⟨b, o, none⟩ : Addr).add j) = some v := fun hb hn h j v hj => by
  have := h j v hj
  rw [add_mk] at this ⊢
  unfold World.cell? at this ⊢
  rw [hC2.keep _ hb hn]
  exact this
 have HXK2 := Lib.hid (hx2 hKlt hKB HXK.out)
 have HXV2 := Lib.hid (hx2 hVlt hVB HXV.out)
 have hK2 : K < W2.heap.size := Nat.lt_of_lt_of_le hKlt hC2.size
 have hV2 : V < W2.heap.size := Nat.lt_of_lt_of_le hVlt hC2.size
 have HL2 : Hid (W2.heap[L]? = some (.cells curL eL (0, 0))) := (hC2.keep L (blk_lt HL.out) hLB).trans HL.out
 have HC2 := Lib.hid hC2
 clear hx2 hC2 HXK HXV
 have u2 : ∀ x, (ext W2 x).cell? ⟨L, lo + i * 2, none⟩ = some (.slice (some ⟨K, ko, none⟩) m kc) := ext_cell d2
 have u3 : ∀ x, (ext W2 x).cell? ⟨L, lo + i * 2 + 1, none⟩ = some (.slice (some ⟨V, vo, none⟩) m vc) := ext_cell d3
 clear d2 d3
 refine wp_chain [(0, 0), (0, 1), (0, 2), (0, 3), (0, 4), (0, 5), (0, 6), (0, 7), (0, 9), (0, 10), (0, 11), (0, 12), (0, 13), (0, 14), (1, 8), (1, 15), (0, 16), (0, 17), (2, 18), (0, 19), (0, 20), (2, 21)] (by kernel_rfl) (by kernel_rfl) ?_
 repeat (refine wx_q rfl rfl rfl ?_; intro K hK; go_big_quiet_op; go_big_quiet_on)
 refine wx_call (f := 33) (vs := [.slice (some ⟨K, ko, none⟩) m kc, .int .i64 (j : Int), .string key]) rfl rfl rfl (by kernel_rfl) rfl (fun x3 => ?_)
 have hb3' := below_ext W2 x3
 refine (insS_calls (ext W2 x3) K ko m kc j xk key hj hkc (Nat.lt_of_lt_of_le hK2 hb3'.size) HKL.out (cells_below hb3' hK2 HXK2.out) H1K.out hm).mono ?_
 rintro e W3 ⟨y1, rfl, hb3, ho3⟩
 refine ⟨_, rfl, hb3, ?_⟩
 have hB3 : Below W2.heap.size W2 W3 := hb3'.trans (hb3.mono hb3'.size)
 obtain ⟨g1, cp1, cur1, rfl, hg1, hh1, hn1', hm1, hs1, ht1⟩ := own_some ho3 (Nat.succ_pos m)
 simp only [Act.put, List.setIfInBounds_toArray, List.set_cons_succ, List.set_cons_zero]
 refine wx_call (f := 34) (vs := [.slice (some ⟨V, vo, none⟩) m vc, .int .i64 (j : Int), .slice va vn vcp]) rfl rfl rfl (by kernel_rfl) rfl (fun x4 => ?_)
 have hb4' := below_ext W3 x4
 have hB4' : Below W2.heap.size W2 (ext W3 x4) := hB3.trans (hb4'.mono hB3.size)
 refine (insV_calls (ext W3 x4) V vo m vc j xv va vn vcp hj hvc (Nat.lt_of_lt_of_le hV2 hB4'.size) HVL.out (cells_below hB4' hV2 HXV2.out) H1V.out hm).mono ?_
 rintro e W4 ⟨y2, rfl, hb4, ho4⟩
 refine ⟨_, rfl, hb4, ?_⟩
 have hB4 : Below W2.heap.size W2 W4 := hB4'.trans (hb4.mono hB4'.size)
 obtain ⟨g2, cp2, cur2, rfl, hg2, hh2, hn2', hm2, hs2, ht2⟩ := own_some ho4 (Nat.succ_pos m)
 simp only [Act.put, List.setIfInBounds_toArray, List.set_cons_succ, List.set_cons_zero]
 have hL4 := blk_next HL2.out hB4
 repeat (refine wx_q rfl rfl rfl ?_; intro K hK; go_big_quiet_op; go_big_quiet_on)
 refine wx_store (d := .tmp 92) (y := .tmp 83) (v1 := .pointer (some ⟨L, lo + i * 2, none⟩)) (v2 := .slice (some ⟨g1, 0, none⟩) (m + 1) cp1) rfl rfl rfl rfl rfl (fun x5 => ⟨_, run_store1 (ext_blk hL4 x5) (by omega) (by kernel_rfl) rfl rfl, ?_⟩)
 simp only [Act.put]
 have hL5 := set_same (i := lo + i * 2) (ext_blk hL4 x5) (.slice (some ⟨g1, 0, none⟩) (m + 1) cp1)
 repeat (refine wx_q rfl rfl rfl ?_; intro K hK; go_big_quiet_op; go_big_quiet_on)
 refine wx_store (d := .tmp 94) (y := .tmp 90) (v1 := .pointer (some ⟨L, lo + i * 2 + 1, none⟩)) (v2 := .slice (some ⟨g2, 0, none⟩) (m + 1) cp2) rfl rfl rfl rfl rfl (fun x6 => ⟨_, run_store1 (ext_blk hL5 x6) (by simp; omega) (by kernel_rfl) rfl rfl, ?_⟩)
 simp only [Act.put]
 refine wx_nil fun x7 => ?_
 have hL6 := ext_blk (set_same (i := lo + i * 2 + 1) (ext_blk hL5 x6) (.slice (some ⟨g2, 0, none⟩) (m + 1) cp2)) x7
 have hB4'' : Chg (fun k => k = B ∨ k = L) W W4 := (HC2.out.mono fun k h => .inl h).below hB4
 have hC6 : Chg (fun k => k = B ∨ k = L) W (ext (((ext ((ext W4 x5).setCell ⟨L, lo + i * 2, none⟩ (.slice (some ⟨g1, 0, none⟩) (m + 1) cp1)) x6)).setCell ⟨L, lo + i * 2 + 1, none⟩ (.slice (some ⟨g2, 0, none⟩) (m + 1) cp2)) x7) :=
  (((((hB4''.below (below_ext _ x5)).set (.inl (.inr rfl)) _).below (below_ext _ x6)).set (.inl (.inr rfl)) _).below (below_ext _ x7))
 have carry : ∀ {g : Nat} {o : Obj}, W4.heap[g]? = some o → g ≠ L → (ext (((ext ((ext W4 x5).setCell ⟨L, lo + i * 2, none⟩ (.slice (some ⟨g1, 0, none⟩) (m + 1) cp1)) x6)).setCell ⟨L, lo + i * 2 + 1, none⟩ (.slice (some ⟨g2, 0, none⟩) (m + 1) cp2)) x7).heap[g]? = some o := fun h hne =>
  ext_blk (set_far (ext_blk (set_far (ext_blk h x5) hne _) x6) hne _) x7
 have hLs := blk_lt HL2.out
 have z1 : W2.heap.size ≤ g1 := Nat.le_trans (below_ext W2 x3).size hg1
 have z2 : W3.heap.size ≤ g2 := Nat.le_trans (below_ext W3 x4).size hg2
 have z3 : g1 < W3.heap.size := blk_lt hh1
 have hW2 := HC2.out.size
 have hB6 := carry (blk_next E2.out hB4) (Ne.symm hLB)
 have hG1 := carry (blk_next (ext_blk hh1 x4) hb4) (by omega)
 have hG2 := carry hh2 (by omega)
 generalize hWe : ext (((ext ((ext W4 x5).setCell ⟨L, lo + i * 2, none⟩ (.slice (some ⟨g1, 0, none⟩) (m + 1) cp1)) x6)).setCell ⟨L, lo + i * 2 + 1, none⟩ (.slice (some ⟨g2, 0, none⟩) (m + 1) cp2)) x7 = W6 at *
 clear hWe carry hL4 hL5 hB4'' hh1 hh2 hb4 hb3 hB3 hB4 hb4' hB4' hb3' u2 u3 ho3 ho4
 have c6 : W6.cell? ⟨L, lo + i * 2, none⟩ = some (.slice (some ⟨g1, 0, none⟩) (m + 1) cp1) := by
  rw [blk_cell hL6, Array.getElem?_setIfInBounds_ne (by omega), Array.getElem?_setIfInBounds_self_of_lt (by omega)]
 have c7 : W6.cell? ⟨L, lo + i * 2 + 1, none⟩ = some (.slice (some ⟨g2, 0, none⟩) (m + 1) cp2) := by
  rw [blk_cell hL6, Array.getElem?_setIfInBounds_self_of_lt (by rw [Array.size_setIfInBounds]; omega)]
 have HL6 := Lib.hid hL6
 have HB6 := Lib.hid hB6
 have HG1 := Lib.hid hG1
 have HG2 := Lib.hid hG2
 have HC6 := Lib.hid hC6
 have HT1 := Lib.hid ht1
 have HT2 := Lib.hid ht2
 have HS1 := Lib.hid hs1
 have HS2 := Lib.hid hs2
 clear hL6 hB6 hG1 hG2 hC6 ht1 ht2 hs1 hs2
 by_cases hfew : 16 < m + 1
 ·obtain ⟨h, hh, hh2⟩ : ∃ h : Nat, ((m : Int) + 1) / 2 = (h : Int) ∧ h = (m + 1) / 2 := ⟨(m + 1) / 2, by omega, rfl⟩
  have hh0 : (0 : Int) ≤ (h : Int) := by omega
  have hh3 : (h : Int) ≤ (m : Int) + 1 := by omega
  have hh4 : (h : Int) ≤ (cp1 : Int) := by omega
  have hh5 : (h : Int) ≤ (cp2 : Int) := by omega
  have hh6 : (m : Int) + 1 ≤ (cp1 : Int) := by omega
  have hh7 : (m : Int) + 1 ≤ (cp2 : Int) := by omega
  have hh8 : ¬ m + 1 = h := by omega
  have hm0 : (0 : Int) ≤ (m : Int) + 1 := by omega
  have HH := Lib.hid hh2
  clear hh2
  go_wp2_with (fail)
  have u6 : ∀ x, (ext W6 x).cell? ⟨L, lo + i * 2, none⟩ = some (.slice (some ⟨g1, 0, none⟩) (m + 1) cp1) := ext_cell c6
  have u7 : ∀ x, (ext W6 x).cell? ⟨L, lo + i * 2 + 1, none⟩ = some (.slice (some ⟨g2, 0, none⟩) (m + 1) cp2) := ext_cell c7
  refine wp_chain [(0, 0), (0, 1), (0, 2), (0, 3), (0, 4), (0, 5), (0, 6), (0, 7), (0, 8), (0, 9), (0, 10), (0, 11), (0, 12), (0, 13), (0, 14), (1, 15), (2, 16)] (by kernel_rfl) (by kernel_rfl) ?_
  repeat (refine wx_q rfl rfl rfl ?_; intro K hK; go_big_quiet_op; go_big_quiet_on)
  refine wx_alloc (T := 75) (zs := #[.slice none 0 0, .slice none 0 0]) rfl rfl (by intro ρ w'; simp [go_sem, ptrTo]) (fun x8 => ?_)
  simp only [Act.put, ptrTo, List.setIfInBounds_toArray, List.set_cons_succ, List.set_cons_zero]
  have k1 := alloc_new (w := ext W6 x8) (.cells #[.slice none 0 0, .slice none 0 0] 75) rfl
  refine wx_store (d := .tmp 12) (y := .tmp 118) (v1 := .pointer (some ⟨(ext W6 x8).heap.size, 0, none⟩)) (v2 := .agg #[.slice (some ⟨g1, 0, none⟩) h h, .slice (some ⟨g2, 0, none⟩) h h]) rfl rfl rfl rfl rfl (fun x9 => ⟨_, run_store2 (ext_blk k1 x9) (by decide) (by kernel_rfl) rfl rfl, ?_⟩)
  simp only [Act.put]
  refine wx_nil fun x10 => ?_
  obtain ⟨HB7, HA7a, HA7⟩ := al2 W6 x8 x9 x10 (.slice none 0 0) (.slice none 0 0) (.slice (some ⟨g1, 0, none⟩) h h) (.slice (some ⟨g2, 0, none⟩) h h) 75
  have c8 := cell_next HB7 c6
  have c9 := cell_next HB7 c7
  generalize ext (((ext ((ext W6 x8).alloc (.cells #[.slice none 0 0, .slice none 0 0] 75)) x9).setCell ⟨(ext W6 x8).heap.size, 0, none⟩ (.slice (some ⟨g1, 0, none⟩) h h)).setCell ⟨(ext W6 x8).heap.size, 0 + 1, none⟩ (.slice (some ⟨g2, 0, none⟩) h h)) x10 = W7 at *
  generalize (ext W6 x8).heap.size = a1 at *
  have HB7 := Lib.hid HB7
  have HA7 := Lib.hid HA7
  clear u6 u7 k1
  go_wp2_with (fail)
  have u6 : ∀ x, (ext W7 x).cell? ⟨L, lo + i * 2, none⟩ = some (.slice (some ⟨g1, 0, none⟩) (m + 1) cp1) := ext_cell c8
  have u7 : ∀ x, (ext W7 x).cell? ⟨L, lo + i * 2 + 1, none⟩ = some (.slice (some ⟨g2, 0, none⟩) (m + 1) cp2) := ext_cell c9
  refine wp_chain [(0, 0), (0, 1), (0, 2), (0, 3), (0, 4), (0, 5), (0, 6), (0, 7), (0, 8), (0, 9), (0, 10), (0, 11), (0, 12), (0, 13), (0, 14), (0, 15), (0, 16), (1, 17), (2, 18)] (by kernel_rfl) (by kernel_rfl) ?_
  repeat (refine wx_q rfl rfl rfl ?_; intro K hK; go_big_quiet_op; go_big_quiet_on)
  refine wx_alloc (T := 75) (zs := #[.slice none 0 0, .slice none 0 0]) rfl rfl (by intro ρ w'; simp [go_sem, ptrTo]) (fun x8 => ?_)
  simp only [Act.put, ptrTo, List.setIfInBounds_toArray, List.set_cons_succ, List.set_cons_zero]
  have k1 := alloc_new (w := ext W7 x8) (.cells #[.slice none 0 0, .slice none 0 0] 75) rfl
  refine wx_store (d := .tmp 13) (y := .tmp 135) (v1 := .pointer (some ⟨(ext W7 x8).heap.size, 0, none⟩)) (v2 := .agg #[.slice (some ⟨g1, h, none⟩) (m + 1 - h) (m + 1 - h), .slice (some ⟨g2, h, none⟩) (m + 1 - h) (m + 1 - h)]) rfl rfl rfl rfl rfl (fun x9 => ⟨_, run_store2 (ext_blk k1 x9) (by decide) (by kernel_rfl) rfl rfl, ?_⟩)
  simp only [Act.put]
  refine wx_nil fun x10 => ?_
  obtain ⟨HB8, HA8a, HA8⟩ := al2 W7 x8 x9 x10 (.slice none 0 0) (.slice none 0 0) (.slice (some ⟨g1, h, none⟩) (m + 1 - h) (m + 1 - h)) (.slice (some ⟨g2, h, none⟩) (m + 1 - h) (m + 1 - h)) 75
  generalize ext (((ext ((ext W7 x8).alloc (.cells #[.slice none 0 0, .slice none 0 0] 75)) x9).setCell ⟨(ext W7 x8).heap.size, 0, none⟩ (.slice (some ⟨g1, h, none⟩) (m + 1 - h) (m + 1 - h))).setCell ⟨(ext W7 x8).heap.size, 0 + 1, none⟩ (.slice (some ⟨g2, h, none⟩) (m + 1 - h) (m + 1 - h))) x10 = W8 at *
  generalize (ext W7 x8).heap.size = a2 at *
  have HB68 : Below W6.heap.size W6 W8 := HB7.out.trans (HB8.mono HB7.out.size)
  have ea1 := blk_next HA7.out HB8
  have HA2 := Lib.hid HA8
  have HA1 := Lib.hid ea1
  have HLW8 := Lib.hid (blk_next HL6.out HB68)
  have HBW8 := Lib.hid (blk_next HB6.out HB68)
  obtain ⟨c10, c11⟩ := cb2 ea1
  obtain ⟨c12, c13⟩ := cb2 HBW8.out
  have HB68' := Lib.hid HB68
  clear u6 u7 k1 HB8 HA8 HB68 ea1 c6 c7 c8 c9
  go_wp2_with (fail)
  have u10 : ∀ x, (ext W8 x).cell? ⟨a1, 0, none⟩ = some (.slice (some ⟨g1, 0, none⟩) h h) := ext_cell c10
  have u11 : ∀ x, (ext W8 x).cell? ⟨a1, 1, none⟩ = some (.slice (some ⟨g2, 0, none⟩) h h) := ext_cell c11
  have u12 : ∀ x, (ext W8 x).cell? ⟨B, 0, none⟩ = some (.slice (some ⟨L, lo, none⟩) n lc) := ext_cell c12
  refine wp_chain [(0, 0), (0, 1), (0, 2), (0, 3), (0, 4), (0, 5), (0, 6), (2, 7)] (by kernel_rfl) (by kernel_rfl) ?_
  repeat (refine wx_q rfl rfl rfl ?_; intro K hK; go_big_quiet_op; go_big_quiet_on)
  refine wx_store (d := .tmp 142) (y := .tmp 141) (v1 := .pointer (some ⟨L, lo + i * 2, none⟩)) (v2 := .agg #[.slice (some ⟨g1, 0, none⟩) h h, .slice (some ⟨g2, 0, none⟩) h h]) rfl rfl rfl rfl rfl (fun x9 => ⟨_, run_store2 (ext_blk HLW8.out x9) (by simp; omega) (by kernel_rfl) rfl rfl, ?_⟩)
  simp only [Act.put]
  refine wx_nil fun x10 => ?_
  have HL9 : Hid ((ext (((ext W8 x9).setCell ⟨L, lo + i * 2, none⟩ (.slice (some ⟨g1, 0, none⟩) h h)).setCell ⟨L, lo + i * 2 + 1, none⟩ (.slice (some ⟨g2, 0, none⟩) h h)) x10).heap[L]? = some (.cells ((curL.setIfInBounds (lo + i * 2) (.slice (some ⟨g1, 0, none⟩) h h)).setIfInBounds (lo + i * 2 + 1) (.slice (some ⟨g2, 0, none⟩) h h)) eL (0, 0))) := by
   have := ext_blk (set_same (i := lo + i * 2 + 1) (set_same (i := lo + i * 2) (ext_blk HLW8.out x9) (.slice (some ⟨g1, 0, none⟩) h h)) (.slice (some ⟨g2, 0, none⟩) h h)) x10
   rwa [set4] at this
  have HC9 : Hid (Chg (fun k => k = B ∨ k = L) W (ext (((ext W8 x9).setCell ⟨L, lo + i * 2, none⟩ (.slice (some ⟨g1, 0, none⟩) h h)).setCell ⟨L, lo + i * 2 + 1, none⟩ (.slice (some ⟨g2, 0, none⟩) h h)) x10)) :=
   ((((HC6.out.below HB68'.out).below (below_ext _ x9)).set (.inl (.inr rfl)) _).set (.inl (.inr rfl)) _).below (below_ext _ x10)
  have carry : ∀ {g : Nat} {o : Obj}, W8.heap[g]? = some o → g ≠ L → (ext (((ext W8 x9).setCell ⟨L, lo + i * 2, none⟩ (.slice (some ⟨g1, 0, none⟩) h h)).setCell ⟨L, lo + i * 2 + 1, none⟩ (.slice (some ⟨g2, 0, none⟩) h h)) x10).heap[g]? = some o := fun hq hne =>
   ext_blk (set_far (set_far (ext_blk hq x9) hne _) hne _) x10
  have hL6s := blk_lt HL6.out
  have hB6s := blk_lt HB6.out
  have hg1s := blk_lt HG1.out
  have hg2s := blk_lt HG2.out
  have h67 := HB7.out.size
  have HA9 := Lib.hid (carry HA2.out (by omega))
  have HB9 := Lib.hid (carry HBW8.out (Ne.symm hLB))
  have HG19 := Lib.hid (carry (blk_next HG1.out HB68'.out) (by omega))
  have HG29 := Lib.hid (carry (blk_next HG2.out HB68'.out) (by omega))
  have hz9 : W8.heap.size ≤ (ext (((ext W8 x9).setCell ⟨L, lo + i * 2, none⟩ (.slice (some ⟨g1, 0, none⟩) h h)).setCell ⟨L, lo + i * 2 + 1, none⟩ (.slice (some ⟨g2, 0, none⟩) h h)) x10).heap.size := by
   rw [ext_size, set_size, set_size, ext_size]
   omega
  generalize ext (((ext W8 x9).setCell ⟨L, lo + i * 2, none⟩ (.slice (some ⟨g1, 0, none⟩) h h)).setCell ⟨L, lo + i * 2 + 1, none⟩ (.slice (some ⟨g2, 0, none⟩) h h)) x10 = W9 at *
  obtain ⟨c14, c15⟩ := cb2 HA9.out
  obtain ⟨c16, c17⟩ := cb2 HB9.out
  clear u10 u11 u12 c10 c11 c12 c13 carry
  have hw1 := HW1.out
  go_wp2_with (fail)
  have u14 : ∀ x, (ext W9 x).cell? ⟨a2, 0, none⟩ = some (.slice (some ⟨g1, h, none⟩) (m + 1 - h) (m + 1 - h)) := ext_cell c14
  have u15 : ∀ x, (ext W9 x).cell? ⟨a2, 1, none⟩ = some (.slice (some ⟨g2, h, none⟩) (m + 1 - h) (m + 1 - h)) := ext_cell c15
  have u16 : ∀ x, (ext W9 x).cell? ⟨B, 0, none⟩ = some (.slice (some ⟨L, lo, none⟩) n lc) := ext_cell c16
  refine wp_chain [(0, 0), (0, 1), (0, 2), (0, 3), (0, 4), (0, 5), (0, 6), (0, 7), (1, 8), (0, 9), (0, 10), (2, 11)] (by kernel_rfl) (by kernel_rfl) ?_
  repeat (refine wx_q rfl rfl rfl ?_; intro K hK; go_big_quiet_op; go_big_quiet_on)
  refine wx_call (f := 35) (vs := [.slice (some ⟨L, lo, none⟩) n lc, .int .i64 ((i + 1 : Nat) : Int), .agg #[.slice (some ⟨g1, h, none⟩) (m + 1 - h) (m + 1 - h), .slice (some ⟨g2, h, none⟩) (m + 1 - h) (m + 1 - h)]]) rfl rfl rfl (by kernel_rfl) rfl (fun x11 => ?_)
  have hL11 := ext_blk HL9.out x11
  refine (insB_calls (ext W9 x11) L lo n lc (i + 1) ((((curL.setIfInBounds (lo + i * 2) (.slice (some ⟨g1, 0, none⟩) h h)).setIfInBounds (lo + i * 2 + 1) (.slice (some ⟨g2, 0, none⟩) h h)).toList.drop lo).take (n * 2)) _ _ _ _ _ _ (by omega) hnlc (blk_lt hL11) (by rw [List.length_take, List.length_drop, Array.length_toList, Array.size_setIfInBounds, Array.size_setIfInBounds]; omega) (row_cells hL11) (row_one H1L.out rfl rfl) hnb).mono ?_
  rintro e W11 ⟨y3, rfl, hb11, ho11⟩
  refine ⟨_, rfl, hb11, ?_⟩
  have hB911 : Below W9.heap.size W9 W11 := (below_ext W9 x11).trans (hb11.mono (below_ext W9 x11).size)
  obtain ⟨g3, cp3, cur3, rfl, hg3, hh3, hn3, hm3, hs3, ht3⟩ := own_some ho11 (Nat.succ_pos n)
  simp only [Act.put, List.setIfInBounds_toArray, List.set_cons_succ, List.set_cons_zero]
  repeat (refine wx_q rfl rfl rfl ?_; intro K hK; go_big_quiet_op; go_big_quiet_on)
  have hB11 := blk_next HB9.out hB911
  refine wx_store (d := .tmp 153) (y := .tmp 151) (v1 := .pointer (some ⟨B, 0, none⟩)) (v2 := .slice (some ⟨g3, 0, none⟩) (n + 1) cp3) rfl rfl rfl rfl rfl (fun x12 => ⟨_, run_store1 (ext_blk hB11 x12) (by simp) (by kernel_rfl) rfl rfl, ?_⟩)
  simp only [Act.put]
  refine wx_nil fun x13 => ?_
  have hg3' : W9.heap.size ≤ g3 := Nat.le_trans (below_ext W9 x11).size hg3
  have hG1s := blk_lt HG19.out
  have hG2s := blk_lt HG29.out
  have hB9s := blk_lt HB9.out
  have h1 := HS1.out
  have h2 := HS2.out
  have hC9s := HC9.out.size
  have hBs := blk_lt E2.out
  have fin : ∀ {g : Nat} {o : Obj}, W11.heap[g]? = some o → g ≠ B → (ext ((ext W11 x12).setCell ⟨B, 0, none⟩ (.slice (some ⟨g3, 0, none⟩) (n + 1) cp3)) x13).heap[g]? = some o := fun hq hne => ext_blk (set_far (ext_blk hq x12) hne _) x13
  have HPOST : SetPost W B L lo i m n lc nn curL eL nk nv (ext ((ext W11 x12).setCell ⟨B, 0, none⟩ (.slice (some ⟨g3, 0, none⟩) (n + 1) cp3)) x13) := by
   refine ⟨(((HC9.out.below hB911).below (below_ext _ x12)).set (.inl (.inl rfl)) _).below (below_ext _ x13), g1, cp1, cur1, g2, cp2, cur2, by omega, by omega, by omega, hn1', hn2', by omega, by omega, fin (blk_next HG19.out hB911) (by omega), by have := HT1.out; rw [Nat.mul_one] at this; exact this.trans HNK.out, fin (blk_next HG29.out hB911) (by omega), by have := HT2.out; rw [Nat.mul_one] at this; exact this.trans HNV.out, .inr ⟨hfew, g3, cp3, cur3, by omega, by omega, by omega, hn3, ext_blk (set_same (i := 0) (ext_blk hB11 x12) _) x13, fin hh3 (by omega), _, rfl, ?_⟩⟩
   have := HH.out
   rw [← this]
   exact ht3
  exact bodyPost_end (v := .tuple #[]) (results_none rfl _ _ _) rfl ⟨rfl, HPOST⟩
 ·have hm16 : ¬ (16 : Int) < (m : Int) + 1 := by omega
  go_wp2_with (fail)
  have HPOST : SetPost W B L lo i m n lc nn curL eL nk nv W6 := by
   have h1 := HS1.out
   have h2 := HS2.out
   exact ⟨HC6.out, g1, cp1, cur1, g2, cp2, cur2, by omega, by omega, by omega, hn1', hn2', by omega, by omega, HG1.out, by have := HT1.out; rw [Nat.mul_one] at this; exact this.trans HNK.out, HG2.out, by have := HT2.out; rw [Nat.mul_one] at this; exact this.trans HNV.out, .inl ⟨by omega, HB6.out, HL6.out⟩⟩
  exact bodyPost_end (v := .tuple #[]) (results_none rfl _ _ _) rfl ⟨rfl, HPOST⟩
set_option maxHeartbeats 4000000 in
theorem set_end (W : World) (B L lo i  m lc K ko kc V vo vc n : Nat) (nn : Int) (key : ByteArray) (va : Option Addr) (vn vcp : Nat) (curL : Array Value) (eL : TypeId) (xk xv nk nv : List Value) (HNK : Hid (xk.take m ++ [.string key] ++ xk.drop m = nk)) (HNV : Hid (xv.take m ++ [.slice va vn vcp] ++ xv.drop m = nv))
  (hAT : Calls Try.prog 30 #[.pointer (some ⟨B, 0, none⟩), .string key] W fun e W1 => e = .returned (.tuple #[.int .i64 (n : Int), .int .i64 (0 : Int), .bool false]) ∧ Below W.heap.size W W1)
  (hB : W.heap[B]? = some (.cells #[.slice (some ⟨L, lo, none⟩) n lc, .int .i64 nn] 67 (0, 0))) (hn0 : 0 ≤ nn) (hn1 : nn ≤ 1099511627776) (hLB : L ≠ B) (hKB : K ≠ B) (hVB : V ≠ B)
  (hL : W.heap[L]? = some (.cells curL eL (0, 0))) (hnb : n ≤ 1099511627776) (hnlc : n ≤ lc) (h1L : ∀ v ∈ (curL.toList.drop lo).take (n * 2), v.oneCell' = true) (_hsL : lo + n * 2 ≤ curL.size) (_hi : i < n) (hiL : lo + i * 2 + 1 < curL.size)
  (hK : W.cell? ⟨L, lo + i * 2, none⟩ = some (.slice (some ⟨K, ko, none⟩) m kc)) (hV : W.cell? ⟨L, lo + i * 2 + 1, none⟩ = some (.slice (some ⟨V, vo, none⟩) m vc)) (hie : n = i + 1)(hkc : m ≤ kc) (hvc : m ≤ vc) (hm : m ≤ 1099511627776)
  (hKlt : K < W.heap.size) (hVlt : V < W.heap.size) (hkl : xk.length = m * 1) (hvl : xv.length = m * 1)
  (hxk : ∀ j v, xk[j]? = some v → W.cell? ((⟨K, ko, none⟩ : Addr).add j) = some v) (hxv : ∀ j v, xv[j]? = some v → W.cell? ((⟨V, vo, none⟩ : Addr).add j) = some v) (h1k : ∀ v ∈ xk, v.oneCell' = true) (h1v : ∀ v ∈ xv, v.oneCell' = true) :
  Calls Try.prog 27 #[.pointer (some ⟨B, 0, none⟩), .string key, .slice va vn vcp] W fun e W' => e = .returned (.tuple #[]) ∧ SetPost W B L lo i m n lc nn curL eL nk nv W' := by
 have hi0 : (0 : Int) ≤ (i : Int) := by omega
 have hi1 : (i : Int) < (n : Int) := by omega
 (have hn00 : ¬ ((n : Int) = 0) := (by omega); have hn01 : (n : Int) - 1 = (i : Int) := (by omega); have HIE := Lib.hid hie; clear hie)
 have HL := Lib.hid hL
 have HXK := Lib.hid hxk
 have HXV := Lib.hid hxv
 have H1K := Lib.hid h1k
 have H1V := Lib.hid h1v
 have HKL := Lib.hid hkl
 have HVL := Lib.hid hvl
 have H1L := Lib.hid h1L
 have hw1 : IntKind.i64.wrap ((i : Int) + 1) = (i : Int) + 1 := IntWalk.i64_in _ (by omega)
 have HW1 := Lib.hid hw1
 clear hL hxk hxv h1k h1v hkl hvl h1L hw1
 go_enter Try.func27, Try.ntmps27
 go_wp2_with (go_at_call 30; refine hAT.mono ?_; rintro e W1 ⟨rfl, hb1⟩; have e1 := blk_next hB hb1; obtain ⟨c0, c1⟩ := cb2 e1; obtain ⟨f0, f1⟩ := fb2 e1; have c2 := cell_next hb1 hK; have c3 := cell_next hb1 hV; have E1 := Lib.hid e1; have d2 : (W1.setCell ⟨B, 1, none⟩ (.int .i64 (nn + 1))).cell? ⟨L, lo + i * 2, none⟩ = some (.slice (some ⟨K, ko, none⟩) m kc) := (World.cell?_setCell_far _ _ _ _ (Ne.symm hLB)).trans c2; have d3 : (W1.setCell ⟨B, 1, none⟩ (.int .i64 (nn + 1))).cell? ⟨L, lo + i * 2 + 1, none⟩ = some (.slice (some ⟨V, vo, none⟩) m vc) := (World.cell?_setCell_far _ _ _ _ (Ne.symm hLB)).trans c3; have e2 := set_same (i := 1) e1 (.int .i64 (nn + 1));  have E2 := Lib.hid e2; clear hB hK hV e1 e2)
 have hC2 : Chg (fun k => k = B) W (W1.setCell ⟨B, 1, none⟩ (.int .i64 (nn + 1))) := (Chg.below (Chg.refl (fun k => k = B) W) hb1).set (.inl rfl) _
 clear c0 c1 f0 f1 c2 c3 E1 hb1
 generalize W1.setCell ⟨B, 1, none⟩ (.int .i64 (nn + 1)) = W2 at *
 have hx2 : ∀ {b o : Nat} {l : List Value}, b < W.heap.size → b ≠ B → (∀ j v, l[j]? = some v → W.cell? ((⟨b, o, none⟩ : Addr).add j) = some v) → ∀ j v, l[j]? = some v → W2.cell? ((⟨b, o, none⟩ : Addr).add j) = some v := fun hb hn h j v hj => by
  have := h j v hj
  rw [add_mk] at this ⊢
  unfold World.cell? at this ⊢
  rw [hC2.keep _ hb hn]
  exact this
 have HXK2 := Lib.hid (hx2 hKlt hKB HXK.out)
 have HXV2 := Lib.hid (hx2 hVlt hVB HXV.out)
 have hK2 : K < W2.heap.size := Nat.lt_of_lt_of_le hKlt hC2.size
 have hV2 : V < W2.heap.size := Nat.lt_of_lt_of_le hVlt hC2.size
 have HL2 : Hid (W2.heap[L]? = some (.cells curL eL (0, 0))) := (hC2.keep L (blk_lt HL.out) hLB).trans HL.out
 have HC2 := Lib.hid hC2
 clear hx2 hC2 HXK HXV
 have u2 : ∀ x, (ext W2 x).cell? ⟨L, lo + i * 2, none⟩ = some (.slice (some ⟨K, ko, none⟩) m kc) := ext_cell d2
 have u3 : ∀ x, (ext W2 x).cell? ⟨L, lo + i * 2 + 1, none⟩ = some (.slice (some ⟨V, vo, none⟩) m vc) := ext_cell d3
 clear d2 d3
 refine wp_chain [(0, 0), (0, 1), (0, 2), (0, 3), (0, 4), (0, 5), (0, 6), (0, 7), (0, 9), (0, 10), (0, 11), (0, 12), (0, 13), (0, 14), (1, 8), (1, 15), (0, 16), (0, 17), (2, 18), (0, 19), (0, 20), (2, 21)] (by kernel_rfl) (by kernel_rfl) ?_
 repeat (refine wx_q rfl rfl rfl ?_; intro K hK; go_big_quiet_op; go_big_quiet_on)
 refine wx_call (f := 33) (vs := [.slice (some ⟨K, ko, none⟩) m kc, .int .i64 (m : Int), .string key]) rfl rfl rfl (by kernel_rfl) rfl (fun x3 => ?_)
 have hb3' := below_ext W2 x3
 refine (insS_calls (ext W2 x3) K ko m kc m xk key (Nat.le_refl m) hkc (Nat.lt_of_lt_of_le hK2 hb3'.size) HKL.out (cells_below hb3' hK2 HXK2.out) H1K.out hm).mono ?_
 rintro e W3 ⟨y1, rfl, hb3, ho3⟩
 refine ⟨_, rfl, hb3, ?_⟩
 have hB3 : Below W2.heap.size W2 W3 := hb3'.trans (hb3.mono hb3'.size)
 obtain ⟨g1, cp1, cur1, rfl, hg1, hh1, hn1', hm1, hs1, ht1⟩ := own_some ho3 (Nat.succ_pos m)
 simp only [Act.put, List.setIfInBounds_toArray, List.set_cons_succ, List.set_cons_zero]
 refine wx_call (f := 34) (vs := [.slice (some ⟨V, vo, none⟩) m vc, .int .i64 (m : Int), .slice va vn vcp]) rfl rfl rfl (by kernel_rfl) rfl (fun x4 => ?_)
 have hb4' := below_ext W3 x4
 have hB4' : Below W2.heap.size W2 (ext W3 x4) := hB3.trans (hb4'.mono hB3.size)
 refine (insV_calls (ext W3 x4) V vo m vc m xv va vn vcp (Nat.le_refl m) hvc (Nat.lt_of_lt_of_le hV2 hB4'.size) HVL.out (cells_below hB4' hV2 HXV2.out) H1V.out hm).mono ?_
 rintro e W4 ⟨y2, rfl, hb4, ho4⟩
 refine ⟨_, rfl, hb4, ?_⟩
 have hB4 : Below W2.heap.size W2 W4 := hB4'.trans (hb4.mono hB4'.size)
 obtain ⟨g2, cp2, cur2, rfl, hg2, hh2, hn2', hm2, hs2, ht2⟩ := own_some ho4 (Nat.succ_pos m)
 simp only [Act.put, List.setIfInBounds_toArray, List.set_cons_succ, List.set_cons_zero]
 have hL4 := blk_next HL2.out hB4
 repeat (refine wx_q rfl rfl rfl ?_; intro K hK; go_big_quiet_op; go_big_quiet_on)
 refine wx_store (d := .tmp 92) (y := .tmp 83) (v1 := .pointer (some ⟨L, lo + i * 2, none⟩)) (v2 := .slice (some ⟨g1, 0, none⟩) (m + 1) cp1) rfl rfl rfl rfl rfl (fun x5 => ⟨_, run_store1 (ext_blk hL4 x5) (by omega) (by kernel_rfl) rfl rfl, ?_⟩)
 simp only [Act.put]
 have hL5 := set_same (i := lo + i * 2) (ext_blk hL4 x5) (.slice (some ⟨g1, 0, none⟩) (m + 1) cp1)
 repeat (refine wx_q rfl rfl rfl ?_; intro K hK; go_big_quiet_op; go_big_quiet_on)
 refine wx_store (d := .tmp 94) (y := .tmp 90) (v1 := .pointer (some ⟨L, lo + i * 2 + 1, none⟩)) (v2 := .slice (some ⟨g2, 0, none⟩) (m + 1) cp2) rfl rfl rfl rfl rfl (fun x6 => ⟨_, run_store1 (ext_blk hL5 x6) (by simp; omega) (by kernel_rfl) rfl rfl, ?_⟩)
 simp only [Act.put]
 refine wx_nil fun x7 => ?_
 have hL6 := ext_blk (set_same (i := lo + i * 2 + 1) (ext_blk hL5 x6) (.slice (some ⟨g2, 0, none⟩) (m + 1) cp2)) x7
 have hB4'' : Chg (fun k => k = B ∨ k = L) W W4 := (HC2.out.mono fun k h => .inl h).below hB4
 have hC6 : Chg (fun k => k = B ∨ k = L) W (ext (((ext ((ext W4 x5).setCell ⟨L, lo + i * 2, none⟩ (.slice (some ⟨g1, 0, none⟩) (m + 1) cp1)) x6)).setCell ⟨L, lo + i * 2 + 1, none⟩ (.slice (some ⟨g2, 0, none⟩) (m + 1) cp2)) x7) :=
  (((((hB4''.below (below_ext _ x5)).set (.inl (.inr rfl)) _).below (below_ext _ x6)).set (.inl (.inr rfl)) _).below (below_ext _ x7))
 have carry : ∀ {g : Nat} {o : Obj}, W4.heap[g]? = some o → g ≠ L → (ext (((ext ((ext W4 x5).setCell ⟨L, lo + i * 2, none⟩ (.slice (some ⟨g1, 0, none⟩) (m + 1) cp1)) x6)).setCell ⟨L, lo + i * 2 + 1, none⟩ (.slice (some ⟨g2, 0, none⟩) (m + 1) cp2)) x7).heap[g]? = some o := fun h hne =>
  ext_blk (set_far (ext_blk (set_far (ext_blk h x5) hne _) x6) hne _) x7
 have hLs := blk_lt HL2.out
 have z1 : W2.heap.size ≤ g1 := Nat.le_trans (below_ext W2 x3).size hg1
 have z2 : W3.heap.size ≤ g2 := Nat.le_trans (below_ext W3 x4).size hg2
 have z3 : g1 < W3.heap.size := blk_lt hh1
 have hW2 := HC2.out.size
 have hB6 := carry (blk_next E2.out hB4) (Ne.symm hLB)
 have hG1 := carry (blk_next (ext_blk hh1 x4) hb4) (by omega)
 have hG2 := carry hh2 (by omega)
 generalize hWe : ext (((ext ((ext W4 x5).setCell ⟨L, lo + i * 2, none⟩ (.slice (some ⟨g1, 0, none⟩) (m + 1) cp1)) x6)).setCell ⟨L, lo + i * 2 + 1, none⟩ (.slice (some ⟨g2, 0, none⟩) (m + 1) cp2)) x7 = W6 at *
 clear hWe carry hL4 hL5 hB4'' hh1 hh2 hb4 hb3 hB3 hB4 hb4' hB4' hb3' u2 u3 ho3 ho4
 have c6 : W6.cell? ⟨L, lo + i * 2, none⟩ = some (.slice (some ⟨g1, 0, none⟩) (m + 1) cp1) := by
  rw [blk_cell hL6, Array.getElem?_setIfInBounds_ne (by omega), Array.getElem?_setIfInBounds_self_of_lt (by omega)]
 have c7 : W6.cell? ⟨L, lo + i * 2 + 1, none⟩ = some (.slice (some ⟨g2, 0, none⟩) (m + 1) cp2) := by
  rw [blk_cell hL6, Array.getElem?_setIfInBounds_self_of_lt (by rw [Array.size_setIfInBounds]; omega)]
 have HL6 := Lib.hid hL6
 have HB6 := Lib.hid hB6
 have HG1 := Lib.hid hG1
 have HG2 := Lib.hid hG2
 have HC6 := Lib.hid hC6
 have HT1 := Lib.hid ht1
 have HT2 := Lib.hid ht2
 have HS1 := Lib.hid hs1
 have HS2 := Lib.hid hs2
 clear hL6 hB6 hG1 hG2 hC6 ht1 ht2 hs1 hs2
 by_cases hfew : 16 < m + 1
 ·obtain ⟨h, hh, hh2⟩ : ∃ h : Nat, ((m : Int) + 1) / 2 = (h : Int) ∧ h = (m + 1) / 2 := ⟨(m + 1) / 2, by omega, rfl⟩
  have hh0 : (0 : Int) ≤ (h : Int) := by omega
  have hh3 : (h : Int) ≤ (m : Int) + 1 := by omega
  have hh4 : (h : Int) ≤ (cp1 : Int) := by omega
  have hh5 : (h : Int) ≤ (cp2 : Int) := by omega
  have hh6 : (m : Int) + 1 ≤ (cp1 : Int) := by omega
  have hh7 : (m : Int) + 1 ≤ (cp2 : Int) := by omega
  have hh8 : ¬ m + 1 = h := by omega
  have hm0 : (0 : Int) ≤ (m : Int) + 1 := by omega
  have HH := Lib.hid hh2
  clear hh2
  go_wp2_with (fail)
  have u6 : ∀ x, (ext W6 x).cell? ⟨L, lo + i * 2, none⟩ = some (.slice (some ⟨g1, 0, none⟩) (m + 1) cp1) := ext_cell c6
  have u7 : ∀ x, (ext W6 x).cell? ⟨L, lo + i * 2 + 1, none⟩ = some (.slice (some ⟨g2, 0, none⟩) (m + 1) cp2) := ext_cell c7
  refine wp_chain [(0, 0), (0, 1), (0, 2), (0, 3), (0, 4), (0, 5), (0, 6), (0, 7), (0, 8), (0, 9), (0, 10), (0, 11), (0, 12), (0, 13), (0, 14), (1, 15), (2, 16)] (by kernel_rfl) (by kernel_rfl) ?_
  repeat (refine wx_q rfl rfl rfl ?_; intro K hK; go_big_quiet_op; go_big_quiet_on)
  refine wx_alloc (T := 75) (zs := #[.slice none 0 0, .slice none 0 0]) rfl rfl (by intro ρ w'; simp [go_sem, ptrTo]) (fun x8 => ?_)
  simp only [Act.put, ptrTo, List.setIfInBounds_toArray, List.set_cons_succ, List.set_cons_zero]
  have k1 := alloc_new (w := ext W6 x8) (.cells #[.slice none 0 0, .slice none 0 0] 75) rfl
  refine wx_store (d := .tmp 12) (y := .tmp 118) (v1 := .pointer (some ⟨(ext W6 x8).heap.size, 0, none⟩)) (v2 := .agg #[.slice (some ⟨g1, 0, none⟩) h h, .slice (some ⟨g2, 0, none⟩) h h]) rfl rfl rfl rfl rfl (fun x9 => ⟨_, run_store2 (ext_blk k1 x9) (by decide) (by kernel_rfl) rfl rfl, ?_⟩)
  simp only [Act.put]
  refine wx_nil fun x10 => ?_
  obtain ⟨HB7, HA7a, HA7⟩ := al2 W6 x8 x9 x10 (.slice none 0 0) (.slice none 0 0) (.slice (some ⟨g1, 0, none⟩) h h) (.slice (some ⟨g2, 0, none⟩) h h) 75
  have c8 := cell_next HB7 c6
  have c9 := cell_next HB7 c7
  generalize ext (((ext ((ext W6 x8).alloc (.cells #[.slice none 0 0, .slice none 0 0] 75)) x9).setCell ⟨(ext W6 x8).heap.size, 0, none⟩ (.slice (some ⟨g1, 0, none⟩) h h)).setCell ⟨(ext W6 x8).heap.size, 0 + 1, none⟩ (.slice (some ⟨g2, 0, none⟩) h h)) x10 = W7 at *
  generalize (ext W6 x8).heap.size = a1 at *
  have HB7 := Lib.hid HB7
  have HA7 := Lib.hid HA7
  clear u6 u7 k1
  go_wp2_with (fail)
  have u6 : ∀ x, (ext W7 x).cell? ⟨L, lo + i * 2, none⟩ = some (.slice (some ⟨g1, 0, none⟩) (m + 1) cp1) := ext_cell c8
  have u7 : ∀ x, (ext W7 x).cell? ⟨L, lo + i * 2 + 1, none⟩ = some (.slice (some ⟨g2, 0, none⟩) (m + 1) cp2) := ext_cell c9
  refine wp_chain [(0, 0), (0, 1), (0, 2), (0, 3), (0, 4), (0, 5), (0, 6), (0, 7), (0, 8), (0, 9), (0, 10), (0, 11), (0, 12), (0, 13), (0, 14), (0, 15), (0, 16), (1, 17), (2, 18)] (by kernel_rfl) (by kernel_rfl) ?_
  repeat (refine wx_q rfl rfl rfl ?_; intro K hK; go_big_quiet_op; go_big_quiet_on)
  refine wx_alloc (T := 75) (zs := #[.slice none 0 0, .slice none 0 0]) rfl rfl (by intro ρ w'; simp [go_sem, ptrTo]) (fun x8 => ?_)
  simp only [Act.put, ptrTo, List.setIfInBounds_toArray, List.set_cons_succ, List.set_cons_zero]
  have k1 := alloc_new (w := ext W7 x8) (.cells #[.slice none 0 0, .slice none 0 0] 75) rfl
  refine wx_store (d := .tmp 13) (y := .tmp 135) (v1 := .pointer (some ⟨(ext W7 x8).heap.size, 0, none⟩)) (v2 := .agg #[.slice (some ⟨g1, h, none⟩) (m + 1 - h) (m + 1 - h), .slice (some ⟨g2, h, none⟩) (m + 1 - h) (m + 1 - h)]) rfl rfl rfl rfl rfl (fun x9 => ⟨_, run_store2 (ext_blk k1 x9) (by decide) (by kernel_rfl) rfl rfl, ?_⟩)
  simp only [Act.put]
  refine wx_nil fun x10 => ?_
  obtain ⟨HB8, HA8a, HA8⟩ := al2 W7 x8 x9 x10 (.slice none 0 0) (.slice none 0 0) (.slice (some ⟨g1, h, none⟩) (m + 1 - h) (m + 1 - h)) (.slice (some ⟨g2, h, none⟩) (m + 1 - h) (m + 1 - h)) 75
  generalize ext (((ext ((ext W7 x8).alloc (.cells #[.slice none 0 0, .slice none 0 0] 75)) x9).setCell ⟨(ext W7 x8).heap.size, 0, none⟩ (.slice (some ⟨g1, h, none⟩) (m + 1 - h) (m + 1 - h))).setCell ⟨(ext W7 x8).heap.size, 0 + 1, none⟩ (.slice (some ⟨g2, h, none⟩) (m + 1 - h) (m + 1 - h))) x10 = W8 at *
  generalize (ext W7 x8).heap.size = a2 at *
  have HB68 : Below W6.heap.size W6 W8 := HB7.out.trans (HB8.mono HB7.out.size)
  have ea1 := blk_next HA7.out HB8
  have HA2 := Lib.hid HA8
  have HA1 := Lib.hid ea1
  have HLW8 := Lib.hid (blk_next HL6.out HB68)
  have HBW8 := Lib.hid (blk_next HB6.out HB68)
  obtain ⟨c10, c11⟩ := cb2 ea1
  obtain ⟨c12, c13⟩ := cb2 HBW8.out
  have HB68' := Lib.hid HB68
  clear u6 u7 k1 HB8 HA8 HB68 ea1 c6 c7 c8 c9
  go_wp2_with (fail)
  have u10 : ∀ x, (ext W8 x).cell? ⟨a1, 0, none⟩ = some (.slice (some ⟨g1, 0, none⟩) h h) := ext_cell c10
  have u11 : ∀ x, (ext W8 x).cell? ⟨a1, 1, none⟩ = some (.slice (some ⟨g2, 0, none⟩) h h) := ext_cell c11
  have u12 : ∀ x, (ext W8 x).cell? ⟨B, 0, none⟩ = some (.slice (some ⟨L, lo, none⟩) n lc) := ext_cell c12
  refine wp_chain [(0, 0), (0, 1), (0, 2), (0, 3), (0, 4), (0, 5), (0, 6), (2, 7)] (by kernel_rfl) (by kernel_rfl) ?_
  repeat (refine wx_q rfl rfl rfl ?_; intro K hK; go_big_quiet_op; go_big_quiet_on)
  refine wx_store (d := .tmp 142) (y := .tmp 141) (v1 := .pointer (some ⟨L, lo + i * 2, none⟩)) (v2 := .agg #[.slice (some ⟨g1, 0, none⟩) h h, .slice (some ⟨g2, 0, none⟩) h h]) rfl rfl rfl rfl rfl (fun x9 => ⟨_, run_store2 (ext_blk HLW8.out x9) (by simp; omega) (by kernel_rfl) rfl rfl, ?_⟩)
  simp only [Act.put]
  refine wx_nil fun x10 => ?_
  have HL9 : Hid ((ext (((ext W8 x9).setCell ⟨L, lo + i * 2, none⟩ (.slice (some ⟨g1, 0, none⟩) h h)).setCell ⟨L, lo + i * 2 + 1, none⟩ (.slice (some ⟨g2, 0, none⟩) h h)) x10).heap[L]? = some (.cells ((curL.setIfInBounds (lo + i * 2) (.slice (some ⟨g1, 0, none⟩) h h)).setIfInBounds (lo + i * 2 + 1) (.slice (some ⟨g2, 0, none⟩) h h)) eL (0, 0))) := by
   have := ext_blk (set_same (i := lo + i * 2 + 1) (set_same (i := lo + i * 2) (ext_blk HLW8.out x9) (.slice (some ⟨g1, 0, none⟩) h h)) (.slice (some ⟨g2, 0, none⟩) h h)) x10
   rwa [set4] at this
  have HC9 : Hid (Chg (fun k => k = B ∨ k = L) W (ext (((ext W8 x9).setCell ⟨L, lo + i * 2, none⟩ (.slice (some ⟨g1, 0, none⟩) h h)).setCell ⟨L, lo + i * 2 + 1, none⟩ (.slice (some ⟨g2, 0, none⟩) h h)) x10)) :=
   ((((HC6.out.below HB68'.out).below (below_ext _ x9)).set (.inl (.inr rfl)) _).set (.inl (.inr rfl)) _).below (below_ext _ x10)
  have carry : ∀ {g : Nat} {o : Obj}, W8.heap[g]? = some o → g ≠ L → (ext (((ext W8 x9).setCell ⟨L, lo + i * 2, none⟩ (.slice (some ⟨g1, 0, none⟩) h h)).setCell ⟨L, lo + i * 2 + 1, none⟩ (.slice (some ⟨g2, 0, none⟩) h h)) x10).heap[g]? = some o := fun hq hne =>
   ext_blk (set_far (set_far (ext_blk hq x9) hne _) hne _) x10
  have hL6s := blk_lt HL6.out
  have hB6s := blk_lt HB6.out
  have hg1s := blk_lt HG1.out
  have hg2s := blk_lt HG2.out
  have h67 := HB7.out.size
  have HA9 := Lib.hid (carry HA2.out (by omega))
  have HB9 := Lib.hid (carry HBW8.out (Ne.symm hLB))
  have HG19 := Lib.hid (carry (blk_next HG1.out HB68'.out) (by omega))
  have HG29 := Lib.hid (carry (blk_next HG2.out HB68'.out) (by omega))
  have hz9 : W8.heap.size ≤ (ext (((ext W8 x9).setCell ⟨L, lo + i * 2, none⟩ (.slice (some ⟨g1, 0, none⟩) h h)).setCell ⟨L, lo + i * 2 + 1, none⟩ (.slice (some ⟨g2, 0, none⟩) h h)) x10).heap.size := by
   rw [ext_size, set_size, set_size, ext_size]
   omega
  generalize ext (((ext W8 x9).setCell ⟨L, lo + i * 2, none⟩ (.slice (some ⟨g1, 0, none⟩) h h)).setCell ⟨L, lo + i * 2 + 1, none⟩ (.slice (some ⟨g2, 0, none⟩) h h)) x10 = W9 at *
  obtain ⟨c14, c15⟩ := cb2 HA9.out
  obtain ⟨c16, c17⟩ := cb2 HB9.out
  clear u10 u11 u12 c10 c11 c12 c13 carry
  have hw1 := HW1.out
  go_wp2_with (fail)
  have u14 : ∀ x, (ext W9 x).cell? ⟨a2, 0, none⟩ = some (.slice (some ⟨g1, h, none⟩) (m + 1 - h) (m + 1 - h)) := ext_cell c14
  have u15 : ∀ x, (ext W9 x).cell? ⟨a2, 1, none⟩ = some (.slice (some ⟨g2, h, none⟩) (m + 1 - h) (m + 1 - h)) := ext_cell c15
  have u16 : ∀ x, (ext W9 x).cell? ⟨B, 0, none⟩ = some (.slice (some ⟨L, lo, none⟩) n lc) := ext_cell c16
  refine wp_chain [(0, 0), (0, 1), (0, 2), (0, 3), (0, 4), (0, 5), (0, 6), (0, 7), (1, 8), (0, 9), (0, 10), (2, 11)] (by kernel_rfl) (by kernel_rfl) ?_
  repeat (refine wx_q rfl rfl rfl ?_; intro K hK; go_big_quiet_op; go_big_quiet_on)
  refine wx_call (f := 35) (vs := [.slice (some ⟨L, lo, none⟩) n lc, .int .i64 ((i + 1 : Nat) : Int), .agg #[.slice (some ⟨g1, h, none⟩) (m + 1 - h) (m + 1 - h), .slice (some ⟨g2, h, none⟩) (m + 1 - h) (m + 1 - h)]]) rfl rfl rfl (by kernel_rfl) rfl (fun x11 => ?_)
  have hL11 := ext_blk HL9.out x11
  refine (insB_calls (ext W9 x11) L lo n lc (i + 1) ((((curL.setIfInBounds (lo + i * 2) (.slice (some ⟨g1, 0, none⟩) h h)).setIfInBounds (lo + i * 2 + 1) (.slice (some ⟨g2, 0, none⟩) h h)).toList.drop lo).take (n * 2)) _ _ _ _ _ _ (by omega) hnlc (blk_lt hL11) (by rw [List.length_take, List.length_drop, Array.length_toList, Array.size_setIfInBounds, Array.size_setIfInBounds]; omega) (row_cells hL11) (row_one H1L.out rfl rfl) hnb).mono ?_
  rintro e W11 ⟨y3, rfl, hb11, ho11⟩
  refine ⟨_, rfl, hb11, ?_⟩
  have hB911 : Below W9.heap.size W9 W11 := (below_ext W9 x11).trans (hb11.mono (below_ext W9 x11).size)
  obtain ⟨g3, cp3, cur3, rfl, hg3, hh3, hn3, hm3, hs3, ht3⟩ := own_some ho11 (Nat.succ_pos n)
  simp only [Act.put, List.setIfInBounds_toArray, List.set_cons_succ, List.set_cons_zero]
  repeat (refine wx_q rfl rfl rfl ?_; intro K hK; go_big_quiet_op; go_big_quiet_on)
  have hB11 := blk_next HB9.out hB911
  refine wx_store (d := .tmp 153) (y := .tmp 151) (v1 := .pointer (some ⟨B, 0, none⟩)) (v2 := .slice (some ⟨g3, 0, none⟩) (n + 1) cp3) rfl rfl rfl rfl rfl (fun x12 => ⟨_, run_store1 (ext_blk hB11 x12) (by simp) (by kernel_rfl) rfl rfl, ?_⟩)
  simp only [Act.put]
  refine wx_nil fun x13 => ?_
  have hg3' : W9.heap.size ≤ g3 := Nat.le_trans (below_ext W9 x11).size hg3
  have hG1s := blk_lt HG19.out
  have hG2s := blk_lt HG29.out
  have hB9s := blk_lt HB9.out
  have h1 := HS1.out
  have h2 := HS2.out
  have hC9s := HC9.out.size
  have hBs := blk_lt E2.out
  have fin : ∀ {g : Nat} {o : Obj}, W11.heap[g]? = some o → g ≠ B → (ext ((ext W11 x12).setCell ⟨B, 0, none⟩ (.slice (some ⟨g3, 0, none⟩) (n + 1) cp3)) x13).heap[g]? = some o := fun hq hne => ext_blk (set_far (ext_blk hq x12) hne _) x13
  have HPOST : SetPost W B L lo i m n lc nn curL eL nk nv (ext ((ext W11 x12).setCell ⟨B, 0, none⟩ (.slice (some ⟨g3, 0, none⟩) (n + 1) cp3)) x13) := by
   refine ⟨(((HC9.out.below hB911).below (below_ext _ x12)).set (.inl (.inl rfl)) _).below (below_ext _ x13), g1, cp1, cur1, g2, cp2, cur2, by omega, by omega, by omega, hn1', hn2', by omega, by omega, fin (blk_next HG19.out hB911) (by omega), by have := HT1.out; rw [Nat.mul_one] at this; exact this.trans HNK.out, fin (blk_next HG29.out hB911) (by omega), by have := HT2.out; rw [Nat.mul_one] at this; exact this.trans HNV.out, .inr ⟨hfew, g3, cp3, cur3, by omega, by omega, by omega, hn3, ext_blk (set_same (i := 0) (ext_blk hB11 x12) _) x13, fin hh3 (by omega), _, rfl, ?_⟩⟩
   have := HH.out
   rw [← this]
   exact ht3
  exact bodyPost_end (v := .tuple #[]) (results_none rfl _ _ _) rfl ⟨rfl, HPOST⟩
 ·have hm16 : ¬ (16 : Int) < (m : Int) + 1 := by omega
  go_wp2_with (fail)
  have HPOST : SetPost W B L lo i m n lc nn curL eL nk nv W6 := by
   have h1 := HS1.out
   have h2 := HS2.out
   exact ⟨HC6.out, g1, cp1, cur1, g2, cp2, cur2, by omega, by omega, by omega, hn1', hn2', by omega, by omega, HG1.out, by have := HT1.out; rw [Nat.mul_one] at this; exact this.trans HNK.out, HG2.out, by have := HT2.out; rw [Nat.mul_one] at this; exact this.trans HNV.out, .inl ⟨by omega, HB6.out, HL6.out⟩⟩
  exact bodyPost_end (v := .tuple #[]) (results_none rfl _ _ _) rfl ⟨rfl, HPOST⟩
end Go.Proofs.Ytnfmceffbnaanaa
namespace Go.Proofs.Ytnfmceffbnaanaa
open Go.RowKit Go.BigFrame
theorem app_cut {P : Program} (w : World) (t ty e : TypeId) (z : Value) (size bytes : Nat) (ht : P.underlying t = some (.slice e)) (hI : (P.info? e).map (fun i => (i.zero, i.size, i.bytes)) = some (some z, size, bytes)) (hzs : z.cells.size = size)
  (b : Addr) (j : Nat) (olds : List Value) (hlo : olds.length = j * size) (holds : ∀ k v, olds[k]? = some v → w.cell? (b.add k) = some v)
  (ao : Option Addr) (m c : Nat) (news : List Value) (hl : news.length = m * size) (hn : 0 < m → ∃ a, ao = some a ∧ ∀ k v, news[k]? = some v → w.cell? (a.add k) = some v)
  (h63 : j + m ≤ maxLen) (hbytes : (j + m) * bytes ≤ 140737488355328) :
  ∃ v w', (Builtin.append_ #[t, t] ty #[.slice (some b) j j, .slice ao m c]).run P w = .ok v w' ∧ Below w.heap.size w w' ∧
   ((m = 0 ∧ v = .slice (some b) j j ∧ w' = w) ∨ (0 < m ∧ w'.ownsRow w.heap.size e size v (j + m) (olds ++ news))) := by
 obtain ⟨i, hi, q1, q2, q3⟩ := info_of hI
 rcases Nat.eq_zero_or_pos m with rfl | hm
 ·exact ⟨_, w, run_append_none w t ty e i ht hi (some b) j j ao c (Nat.le_refl _), Below.refl _ _, .inl ⟨rfl, rfl, rfl⟩⟩
 ·obtain ⟨a, rfl, hc⟩ := hn hm
  obtain ⟨v', w', hr, h2, h3, h4, h5⟩ := run_append_new (P := P) w t ty e i z size bytes ht hi q1 q2 q3 hzs b j j olds hlo holds a m c news hl hc (by omega) h63 hbytes
  exact ⟨v', w', hr, h3, .inr ⟨hm, h2⟩⟩
theorem app_rem {P : Program} (w : World) (t ty e : TypeId) (z : Value) (size bytes : Nat) (ht : P.underlying t = some (.slice e)) (hI : (P.info? e).map (fun i => (i.zero, i.size, i.bytes)) = some (some z, size, bytes)) (hzs : z.cells.size = size)
  (g o j m c : Nat) (xs : List Value) (hl : xs.length = m * size) (hx : ∀ k v, xs[k]? = some v → w.cell? ((⟨g, o, none⟩ : Addr).add k) = some v) (hj : j < m) (hc : m ≤ c) (hm : m ≤ 1099511627776) (hby : bytes ≤ 100) :
  ∃ g1 o1 c1 w', (Builtin.append_ #[t, t] ty #[.slice (some ⟨g, o, none⟩) j j, .slice (if c = j + 1 then some ⟨g, o, none⟩ else some ⟨g, o + (j + 1) * size, none⟩) (m - (j + 1)) (c - (j + 1))]).run P w = .ok (.slice (some ⟨g1, o1, none⟩) (m - 1) c1) w' ∧ Below w.heap.size w w' ∧ m - 1 ≤ c1 ∧
   ((j + 1 = m ∧ g1 = g ∧ o1 = o) ∨ (w.heap.size ≤ g1 ∧ o1 = 0 ∧ ∃ cur, w'.heap[g1]? = some (.cells cur e (0, 0)) ∧ cur.toList.take ((m - 1) * size) = xs.take (j * size) ++ xs.drop ((j + 1) * size))) := by
 have hjm : j * size ≤ m * size := Nat.mul_le_mul_right _ (by omega)
 have hb : (j + (m - (j + 1))) * bytes ≤ 1099511627776 * 100 := Nat.mul_le_mul (by omega) hby
 obtain ⟨v, w', hr, hb5, hv⟩ := app_cut (P := P) w t ty e z size bytes ht hI hzs ⟨g, o, none⟩ j (xs.take (j * size)) (by rw [List.length_take, hl]; omega) (fun k v h => hx k v (take_get? h)) (if c = j + 1 then some ⟨g, o, none⟩ else some ⟨g, o + (j + 1) * size, none⟩) (m - (j + 1)) (c - (j + 1)) (xs.drop ((j + 1) * size)) (by rw [List.length_drop, hl, Nat.sub_mul]) (fun hm => ⟨⟨g, o + (j + 1) * size, none⟩, if_neg (by omega), drop_cells hx⟩) (by unfold maxLen; omega) (by omega)
 rcases hv with ⟨h1, h2, _⟩ | ⟨h1, h2⟩
 ·subst h2
  rw [show j = m - 1 from by omega] at hr ⊢
  exact ⟨g, o, m - 1, w', hr, hb5, by omega, .inl ⟨by omega, rfl, rfl⟩⟩
 ·obtain ⟨g3, cp3, cur3, rfl, q1, q2, q3, _, _, q6⟩ := own_some h2 (by omega)
  rw [show j + (m - (j + 1)) = m - 1 from by omega] at hr q6
  exact ⟨g3, 0, cp3, w', hr, hb5, by omega, .inr ⟨q1, rfl, cur3, q2, q6⟩⟩
def DropL (W : World) (B L lo i n : Nat) (nn : Int) (curL : Array Value) (W' : World) : Prop :=
 Chg (fun k => k = B) W W' ∧ ∃ g' o' c', n - 1 ≤ c' ∧ W'.heap[B]? = some (.cells #[.slice (some ⟨g', o', none⟩) (n - 1) c', .int .i64 (nn - 1)] 67 (0, 0)) ∧
  ((i + 1 = n ∧ g' = L ∧ o' = lo) ∨ (W.heap.size ≤ g' ∧ o' = 0 ∧ ∃ cur, W'.heap[g']? = some (.cells cur 75 (0, 0)) ∧
   ∃ xs : List Value, xs = (curL.toList.drop lo).take (n * 2) ∧ cur.toList.take ((n - 1) * 2) = xs.take (i * 2) ++ xs.drop ((i + 1) * 2)))
def DropO (W : World) (B L lo i j m n lc K ko V vo : Nat) (nn : Int) (curL : Array Value) (eL : TypeId) (xk xv : List Value) (W' : World) : Prop :=
 Chg (fun k => k = B ∨ k = L) W W' ∧ W'.heap[B]? = some (.cells #[.slice (some ⟨L, lo, none⟩) n lc, .int .i64 (nn - 1)] 67 (0, 0)) ∧ ∃ g1 o1 c1 g2 o2 c2, m - 1 ≤ c1 ∧ m - 1 ≤ c2 ∧
  W'.heap[L]? = some (.cells ((curL.setIfInBounds (lo + i * 2) (.slice (some ⟨g1, o1, none⟩) (m - 1) c1)).setIfInBounds (lo + i * 2 + 1) (.slice (some ⟨g2, o2, none⟩) (m - 1) c2)) eL (0, 0)) ∧
  ((j + 1 = m ∧ g1 = K ∧ o1 = ko) ∨ (W.heap.size ≤ g1 ∧ o1 = 0 ∧ ∃ cur, W'.heap[g1]? = some (.cells cur 9 (0, 0)) ∧ cur.toList.take (m - 1) = xk.take j ++ xk.drop (j + 1))) ∧
  ((j + 1 = m ∧ g2 = V ∧ o2 = vo) ∨ (W.heap.size ≤ g2 ∧ o2 = 0 ∧ ∃ cur, W'.heap[g2]? = some (.cells cur 27 (0, 0)) ∧ cur.toList.take (m - 1) = xv.take j ++ xv.drop (j + 1)))
theorem drop_none (W : World) (B i j : Nat) (key : ByteArray)
  (hAT : Calls Try.prog 30 #[.pointer (some ⟨B, 0, none⟩), .string key] W fun e W1 => e = .returned (.tuple #[.int .i64 (i : Int), .int .i64 (j : Int), .bool false]) ∧ Below W.heap.size W W1) :
  Calls Try.prog 31 #[.pointer (some ⟨B, 0, none⟩), .string key] W fun e W' => e = .returned (.bool false) ∧ Below W.heap.size W W' := by
 go_enter Try.func31, Try.ntmps31
 go_wp2_with (go_at_call 30; refine hAT.mono ?_; rintro e W1 ⟨rfl, hb1⟩; have HB1 := Lib.hid hb1; clear hb1)
 go_ret
 exact ⟨rfl, HB1.out⟩
set_option maxHeartbeats 4000000 in
theorem drop_last (W : World) (B L lo i j lc K ko kc V vo vc n : Nat) (nn : Int) (key : ByteArray) (curL : Array Value) (eL : TypeId)
  (hAT : Calls Try.prog 30 #[.pointer (some ⟨B, 0, none⟩), .string key] W fun e W1 => e = .returned (.tuple #[.int .i64 (i : Int), .int .i64 (j : Int), .bool true]) ∧ Below W.heap.size W W1)
  (hB : W.heap[B]? = some (.cells #[.slice (some ⟨L, lo, none⟩) n lc, .int .i64 nn] 67 (0, 0))) (hn0 : 1 ≤ nn) (hn1 : nn ≤ 1099511627776) (hLB : L ≠ B)
  (hL : W.heap[L]? = some (.cells curL eL (0, 0))) (hi : i < n) (hnb : n ≤ 1099511627776) (hnlc : n ≤ lc) (h1L : ∀ v ∈ (curL.toList.drop lo).take (n * 2), v.oneCell' = true) (hsL : lo + n * 2 ≤ curL.size)
  (hK : W.cell? ⟨L, lo + i * 2, none⟩ = some (.slice (some ⟨K, ko, none⟩) 1 kc)) (hV : W.cell? ⟨L, lo + i * 2 + 1, none⟩ = some (.slice (some ⟨V, vo, none⟩) 1 vc)) :
  Calls Try.prog 31 #[.pointer (some ⟨B, 0, none⟩), .string key] W fun e W' => e = .returned (.bool true) ∧ DropL W B L lo i n nn curL W' := by
 have hi0 : (0 : Int) ≤ (i : Int) := by omega
 have hi1 : (i : Int) < (n : Int) := by omega
 have hi2 : (i : Int) ≤ (lc : Int) := by omega
 have hi3 : (i : Int) + 1 ≤ (n : Int) := by omega
 have HL := Lib.hid hL
 have H1L := Lib.hid h1L
 have hw1 : IntKind.i64.wrap ((i : Int) + 1) = (i : Int) + 1 := IntWalk.i64_in _ (by omega)
 have HW1 := Lib.hid hw1
 clear hL h1L hw1
 go_enter Try.func31, Try.ntmps31
 go_wp2_with (go_at_call 30; refine hAT.mono ?_; rintro e W1 ⟨rfl, hb1⟩; have e1 := blk_next hB hb1; obtain ⟨c0, c1⟩ := cb2 e1; obtain ⟨f0, f1⟩ := fb2 e1; have c2 := cell_next hb1 hK; have c3 := cell_next hb1 hV; have E1 := Lib.hid e1; have d2 : (W1.setCell ⟨B, 1, none⟩ (.int .i64 (nn - 1))).cell? ⟨L, lo + i * 2, none⟩ = some (.slice (some ⟨K, ko, none⟩) 1 kc) := (World.cell?_setCell_far _ _ _ _ (Ne.symm hLB)).trans c2; have d3 : (W1.setCell ⟨B, 1, none⟩ (.int .i64 (nn - 1))).cell? ⟨L, lo + i * 2 + 1, none⟩ = some (.slice (some ⟨V, vo, none⟩) 1 vc) := (World.cell?_setCell_far _ _ _ _ (Ne.symm hLB)).trans c3; have e2 := set_same (i := 1) e1 (.int .i64 (nn - 1)); obtain ⟨p0, p1⟩ := cb2 e2; have E2 := Lib.hid e2; have HB1 := Lib.hid hb1; clear hB hK hV e1 e2 hb1)
 have HC3 : Hid (Chg (fun k => k = B) W ((W1.setCell ⟨B, 1, none⟩ (.int .i64 (nn - 1))).alloc (.cells #[.slice (some ⟨K, ko, none⟩) 1 kc, .slice (some ⟨V, vo, none⟩) 1 vc] 75))) := ((Chg.below (Chg.refl (fun k => k = B) W) HB1.out).set (.inl rfl) _).alloc _
 have HB3 := Lib.hid (alloc_old (.cells #[.slice (some ⟨K, ko, none⟩) 1 kc, .slice (some ⟨V, vo, none⟩) 1 vc] 75) E2.out)
 generalize (W1.setCell ⟨B, 1, none⟩ (.int .i64 (nn - 1))).alloc (.cells #[.slice (some ⟨K, ko, none⟩) 1 kc, .slice (some ⟨V, vo, none⟩) 1 vc] 75) = W3 at *
 have HL3 : Hid (W3.heap[L]? = some (.cells curL eL (0, 0))) := (HC3.out.keep L (blk_lt HL.out) hLB).trans HL.out
 obtain ⟨c4, c5⟩ := cb2 HB3.out
 have u4 : ∀ x, (ext W3 x).cell? ⟨B, 0, none⟩ = some (.slice (some ⟨L, lo, none⟩) n lc) := ext_cell c4
 clear c0 c1 f0 f1 c2 c3 d2 d3 p0 p1 c4 c5 hAT
 have hw1 := HW1.out
 refine wp_chain [(0, 0), (0, 1), (0, 2), (0, 3), (0, 4), (0, 5), (0, 6), (0, 7), (0, 8), (0, 9), (0, 10), (0, 11), (0, 12), (0, 13), (0, 14), (1, 15), (0, 16), (0, 17), (2, 18)] (by kernel_rfl) (by kernel_rfl) ?_
 repeat (refine wx_q rfl rfl rfl ?_; intro K hK; go_big_quiet_op; go_big_quiet_on)
 refine wx_append (s := .tmp 43) (y := .tmp 50) (v1 := .slice (some ⟨L, lo, none⟩) i i) (v2 := .slice (if lc = i + 1 then some ⟨L, lo, none⟩ else some ⟨L, lo + (i + 1) * 2, none⟩) (n - (i + 1)) (lc - (i + 1))) rfl rfl rfl rfl rfl (fun x4 => ?_)
 have hL4 := ext_blk HL3.out x4
 have hlen : ((curL.toList.drop lo).take (n * 2)).length = n * 2 := by rw [List.length_take, List.length_drop, Array.length_toList]; omega
 obtain ⟨v, W5, hr, hb5, hv⟩ := app_cut (P := Try.prog) (ext W3 x4) 65 _ 75 (.agg #[.slice none 0 0, .slice none 0 0]) 2 48 Try.underlying65 (by kernel_rfl) rfl ⟨L, lo, none⟩ i (((curL.toList.drop lo).take (n * 2)).take (i * 2)) (by rw [List.length_take, hlen]; omega) (fun k v h => row_cells hL4 k v (take_get? h)) (if lc = i + 1 then some ⟨L, lo, none⟩ else some ⟨L, lo + (i + 1) * 2, none⟩) (n - (i + 1)) (lc - (i + 1)) (((curL.toList.drop lo).take (n * 2)).drop ((i + 1) * 2)) (by rw [List.length_drop, hlen]; omega) (fun hm => ⟨⟨L, lo + (i + 1) * 2, none⟩, if_neg (by omega), drop_cells (row_cells hL4)⟩) (by unfold maxLen; omega) (by omega)
 refine ⟨v, W5, hr, hb5, ?_⟩
 have hB35 : Below W3.heap.size W3 W5 := (below_ext W3 x4).trans (hb5.mono (below_ext W3 x4).size)
 obtain ⟨g', o', vc', hv0, hvc', hv'⟩ : ∃ g' o' vc', v = .slice (some ⟨g', o', none⟩) (n - 1) vc' ∧ n - 1 ≤ vc' ∧ ((i + 1 = n ∧ g' = L ∧ o' = lo) ∨ (W3.heap.size ≤ g' ∧ o' = 0 ∧ ∃ cur, W5.heap[g']? = some (.cells cur 75 (0, 0)) ∧
   ∃ xs : List Value, xs = (curL.toList.drop lo).take (n * 2) ∧ cur.toList.take ((n - 1) * 2) = xs.take (i * 2) ++ xs.drop ((i + 1) * 2))) := by
  rcases hv with ⟨h1, h2, _⟩ | ⟨h1, h2⟩
  ·exact ⟨L, lo, i, by rw [h2, show i = n - 1 from by omega], by omega, .inl ⟨by omega, rfl, rfl⟩⟩
  ·obtain ⟨g3, cp3, cur3, rfl, q1, q2, q3, _, _, q6⟩ := own_some h2 (by omega)
   exact ⟨g3, 0, cp3, by rw [show i + (n - (i + 1)) = n - 1 from by omega], by omega, .inr ⟨Nat.le_trans (below_ext W3 x4).size q1, rfl, cur3, q2, _, rfl, by rw [show n - 1 = i + (n - (i + 1)) from by omega]; exact q6⟩⟩
 subst hv0
 simp only [Act.put, List.setIfInBounds_toArray, List.set_cons_succ, List.set_cons_zero]
 repeat (refine wx_q rfl rfl rfl ?_; intro K hK; go_big_quiet_op; go_big_quiet_on)
 have hB5 := blk_next HB3.out hB35
 refine wx_store (d := .tmp 53) (y := .tmp 51) (v1 := .pointer (some ⟨B, 0, none⟩)) (v2 := .slice (some ⟨g', o', none⟩) (n - 1) vc') rfl rfl rfl rfl rfl (fun x6 => ⟨_, run_store1 (ext_blk hB5 x6) (by simp) (by kernel_rfl) rfl rfl, ?_⟩)
 simp only [Act.put]
 refine wx_nil fun x7 => ?_
 have hW3 := HC3.out.size
 have hB3s := blk_lt HB3.out
 have HPOST : Hid (DropL W B L lo i n nn curL (ext ((ext W5 x6).setCell ⟨B, 0, none⟩ (.slice (some ⟨g', o', none⟩) (n - 1) vc')) x7)) := by
  refine ⟨(((HC3.out.below hB35).below (below_ext _ x6)).set (.inl rfl) _).below (below_ext _ x7), g', o', vc', hvc', ext_blk (set_same (i := 0) (ext_blk hB5 x6) _) x7, ?_⟩
  rcases hv' with h1 | ⟨h1, h2, cur, h3, h4⟩
  ·exact .inl h1
  ·exact .inr ⟨by omega, h2, cur, ext_blk (set_far (ext_blk h3 x6) (by show g' ≠ B; omega) _) x7, h4⟩
 clear hv hv' hr
 generalize (if lc = i + 1 then some (⟨L, lo, none⟩ : Addr) else some ⟨L, lo + (i + 1) * 2, none⟩) = q1
 go_wp2_with (fail)
 go_ret
 exact ⟨rfl, HPOST.out⟩
set_option maxHeartbeats 4000000 in
theorem drop_one (W : World) (B L lo i j m lc K ko kc V vo vc n : Nat) (nn : Int) (key : ByteArray) (curL : Array Value) (eL : TypeId) (xk xv : List Value)
  (hAT : Calls Try.prog 30 #[.pointer (some ⟨B, 0, none⟩), .string key] W fun e W1 => e = .returned (.tuple #[.int .i64 (i : Int), .int .i64 (j : Int), .bool true]) ∧ Below W.heap.size W W1)
  (hB : W.heap[B]? = some (.cells #[.slice (some ⟨L, lo, none⟩) n lc, .int .i64 nn] 67 (0, 0))) (hn0 : 1 ≤ nn) (hn1 : nn ≤ 1099511627776) (hLB : L ≠ B) (hKB : K ≠ B) (hVB : V ≠ B)
  (hL : W.heap[L]? = some (.cells curL eL (0, 0))) (hi : i < n) (hiL : lo + i * 2 + 1 < curL.size)
  (hK : W.cell? ⟨L, lo + i * 2, none⟩ = some (.slice (some ⟨K, ko, none⟩) m kc)) (hV : W.cell? ⟨L, lo + i * 2 + 1, none⟩ = some (.slice (some ⟨V, vo, none⟩) m vc)) (hj : j < m) (hm2 : 2 ≤ m) (hkc : m ≤ kc) (hvc : m ≤ vc) (hm : m ≤ 1099511627776)
  (hKlt : K < W.heap.size) (hVlt : V < W.heap.size) (hkl : xk.length = m * 1) (hvl : xv.length = m * 1)
  (hxk : ∀ j v, xk[j]? = some v → W.cell? ((⟨K, ko, none⟩ : Addr).add j) = some v) (hxv : ∀ j v, xv[j]? = some v → W.cell? ((⟨V, vo, none⟩ : Addr).add j) = some v) :
  Calls Try.prog 31 #[.pointer (some ⟨B, 0, none⟩), .string key] W fun e W' => e = .returned (.bool true) ∧ DropO W B L lo i j m n lc K ko V vo nn curL eL xk xv W' := by
 have hi0 : (0 : Int) ≤ (i : Int) := by omega
 have hi1 : (i : Int) < (n : Int) := by omega
 have hj0 : (0 : Int) ≤ (j : Int) := by omega
 have hj1 : (j : Int) ≤ (kc : Int) := by omega
 have hj2 : (j : Int) ≤ (vc : Int) := by omega
 have hj3 : (j : Int) + 1 ≤ (m : Int) := by omega
 have hmne : ¬ m = 1 := by omega
 have hmni : ¬ (m : Int) = 1 := by omega
 have HL := Lib.hid hL
 have HXK := Lib.hid hxk
 have HXV := Lib.hid hxv
 have HKL := Lib.hid hkl
 have HVL := Lib.hid hvl
 have hw1 : IntKind.i64.wrap ((j : Int) + 1) = (j : Int) + 1 := IntWalk.i64_in _ (by omega)
 have HW1 := Lib.hid hw1
 clear hL hxk hxv hkl hvl hw1
 go_enter Try.func31, Try.ntmps31
 go_wp2_with (go_at_call 30; refine hAT.mono ?_; rintro e W1 ⟨rfl, hb1⟩; have e1 := blk_next hB hb1; obtain ⟨c0, c1⟩ := cb2 e1; obtain ⟨f0, f1⟩ := fb2 e1; have c2 := cell_next hb1 hK; have c3 := cell_next hb1 hV; have E1 := Lib.hid e1; have d2 : (W1.setCell ⟨B, 1, none⟩ (.int .i64 (nn - 1))).cell? ⟨L, lo + i * 2, none⟩ = some (.slice (some ⟨K, ko, none⟩) m kc) := (World.cell?_setCell_far _ _ _ _ (Ne.symm hLB)).trans c2; have d3 : (W1.setCell ⟨B, 1, none⟩ (.int .i64 (nn - 1))).cell? ⟨L, lo + i * 2 + 1, none⟩ = some (.slice (some ⟨V, vo, none⟩) m vc) := (World.cell?_setCell_far _ _ _ _ (Ne.symm hLB)).trans c3; have e2 := set_same (i := 1) e1 (.int .i64 (nn - 1)); obtain ⟨p0, p1⟩ := cb2 e2; have E2 := Lib.hid e2; have HB1 := Lib.hid hb1; clear hB hK hV e1 e2 hb1)
 have HC3 : Hid (Chg (fun k => k = B) W ((W1.setCell ⟨B, 1, none⟩ (.int .i64 (nn - 1))).alloc (.cells #[.slice (some ⟨K, ko, none⟩) m kc, .slice (some ⟨V, vo, none⟩) m vc] 75))) := ((Chg.below (Chg.refl (fun k => k = B) W) HB1.out).set (.inl rfl) _).alloc _
 have HB3 := Lib.hid (alloc_old (.cells #[.slice (some ⟨K, ko, none⟩) m kc, .slice (some ⟨V, vo, none⟩) m vc] 75) E2.out)
 have HA3 := Lib.hid (alloc_new (w := W1.setCell ⟨B, 1, none⟩ (.int .i64 (nn - 1))) (.cells #[.slice (some ⟨K, ko, none⟩) m kc, .slice (some ⟨V, vo, none⟩) m vc] 75) (set_size _ _ _))
 generalize (W1.setCell ⟨B, 1, none⟩ (.int .i64 (nn - 1))).alloc (.cells #[.slice (some ⟨K, ko, none⟩) m kc, .slice (some ⟨V, vo, none⟩) m vc] 75) = W3 at *
 generalize W1.heap.size = a1 at *
 have HL3 : Hid (W3.heap[L]? = some (.cells curL eL (0, 0))) := (HC3.out.keep L (blk_lt HL.out) hLB).trans HL.out
 have hx3 : ∀ {b o : Nat} {l : List Value}, b < W.heap.size → b ≠ B → (∀ j v, l[j]? = some v → W.cell? ((⟨b, o, none⟩ : Addr).add j) = some v) → ∀ j v, l[j]? = some v → W3.cell? ((⟨b, o, none⟩ : Addr).add j) = some v := fun hb hn h j v hj => by
  have := h j v hj
  rw [add_mk] at this ⊢
  unfold World.cell? at this ⊢
  rw [HC3.out.keep _ hb hn]
  exact this
 have HXK3 := Lib.hid (hx3 hKlt hKB HXK.out)
 have HXV3 := Lib.hid (hx3 hVlt hVB HXV.out)
 have hK3 : K < W3.heap.size := Nat.lt_of_lt_of_le hKlt HC3.out.size
 have hV3 : V < W3.heap.size := Nat.lt_of_lt_of_le hVlt HC3.out.size
 obtain ⟨c4, c5⟩ := cb2 HB3.out
 obtain ⟨c6, c7⟩ := cb2 HA3.out
 have u4 : ∀ x, (ext W3 x).cell? ⟨B, 0, none⟩ = some (.slice (some ⟨L, lo, none⟩) n lc) := ext_cell c4
 have u6 : ∀ x, (ext W3 x).cell? ⟨a1, 0, none⟩ = some (.slice (some ⟨K, ko, none⟩) m kc) := ext_cell c6
 have u7 : ∀ x, (ext W3 x).cell? ⟨a1, 1, none⟩ = some (.slice (some ⟨V, vo, none⟩) m vc) := ext_cell c7
 clear c0 c1 f0 f1 c2 c3 d2 d3 p0 p1 c4 c5 c6 c7 hAT hx3
 have hw1 := HW1.out
 refine wp_chain [(0, 0), (0, 1), (0, 2), (0, 3), (0, 4), (0, 5), (0, 6), (0, 7), (0, 8), (0, 9), (0, 10), (0, 11), (0, 12), (0, 13), (0, 14), (0, 16), (0, 17), (0, 18), (0, 19), (0, 20), (0, 21), (0, 22), (0, 23), (0, 24), (0, 25), (1, 15), (1, 26), (0, 27), (0, 28), (2, 29)] (by kernel_rfl) (by kernel_rfl) ?_
 repeat (refine wx_q rfl rfl rfl ?_; intro K hK; go_big_quiet_op; go_big_quiet_on)
 refine wx_append (s := .tmp 63) (y := .tmp 68) (v1 := .slice (some ⟨K, ko, none⟩) j j) (v2 := .slice (if kc = j + 1 then some ⟨K, ko, none⟩ else some ⟨K, ko + (j + 1), none⟩) (m - (j + 1)) (kc - (j + 1))) rfl rfl rfl rfl rfl (fun x4 => ?_)
 have hb4 := below_ext W3 x4
 obtain ⟨g1, o1, c1, W5, hr5, hb5, hc1, hv1⟩ := app_rem (P := Try.prog) (ext W3 x4) 40 40 9 (.string ⟨#[]⟩) 1 16 Try.underlying40 (by kernel_rfl) rfl K ko j m kc xk HKL.out (cells_below hb4 hK3 HXK3.out) hj hkc hm (by decide)
 rw [Nat.mul_one] at hr5
 refine ⟨_, W5, hr5, hb5, ?_⟩
 have hB35 : Below W3.heap.size W3 W5 := hb4.trans (hb5.mono hb4.size)
 simp only [Act.put, List.setIfInBounds_toArray, List.set_cons_succ, List.set_cons_zero]
 refine wx_append (s := .tmp 74) (y := .tmp 79) (v1 := .slice (some ⟨V, vo, none⟩) j j) (v2 := .slice (if vc = j + 1 then some ⟨V, vo, none⟩ else some ⟨V, vo + (j + 1), none⟩) (m - (j + 1)) (vc - (j + 1))) rfl rfl rfl rfl rfl (fun x6 => ?_)
 have hB36 : Below W3.heap.size W3 (ext W5 x6) := hB35.trans ((below_ext W5 x6).mono hB35.size)
 obtain ⟨g2, o2, c2, W7, hr7, hb7, hc2, hv2⟩ := app_rem (P := Try.prog) (ext W5 x6) 73 73 27 (.slice none 0 0) 1 24 Try.underlying73 (by kernel_rfl) rfl V vo j m vc xv HVL.out (cells_below hB36 hV3 HXV3.out) hj hvc hm (by decide)
 rw [Nat.mul_one] at hr7
 refine ⟨_, W7, hr7, hb7, ?_⟩
 have hB37 : Below W3.heap.size W3 W7 := hB36.trans (hb7.mono hB36.size)
 simp only [Act.put, List.setIfInBounds_toArray, List.set_cons_succ, List.set_cons_zero]
 repeat (refine wx_q rfl rfl rfl ?_; intro K hK; go_big_quiet_op; go_big_quiet_on)
 have hL7 := blk_next HL3.out hB37
 refine wx_store (d := .tmp 82) (y := .tmp 81) (v1 := .pointer (some ⟨L, lo + i * 2, none⟩)) (v2 := .agg #[.slice (some ⟨g1, o1, none⟩) (m - 1) c1, .slice (some ⟨g2, o2, none⟩) (m - 1) c2]) rfl rfl rfl rfl rfl (fun x8 => ⟨_, run_store2 (ext_blk hL7 x8) hiL (by kernel_rfl) rfl rfl, ?_⟩)
 simp only [Act.put]
 refine wx_nil fun x9 => ?_
 have hW3 := HC3.out.size
 have hL3s := blk_lt HL3.out
 have HPOST : Hid (DropO W B L lo i j m n lc K ko V vo nn curL eL xk xv (ext (((ext W7 x8).setCell ⟨L, lo + i * 2, none⟩ (.slice (some ⟨g1, o1, none⟩) (m - 1) c1)).setCell ⟨L, lo + i * 2 + 1, none⟩ (.slice (some ⟨g2, o2, none⟩) (m - 1) c2)) x9)) := by
  have carry : ∀ {g : Nat} {ob : Obj}, W7.heap[g]? = some ob → g ≠ L → (ext (((ext W7 x8).setCell ⟨L, lo + i * 2, none⟩ (.slice (some ⟨g1, o1, none⟩) (m - 1) c1)).setCell ⟨L, lo + i * 2 + 1, none⟩ (.slice (some ⟨g2, o2, none⟩) (m - 1) c2)) x9).heap[g]? = some ob := fun hq hne => ext_blk (set_far (set_far (ext_blk hq x8) hne _) hne _) x9
  have hCh : Chg (fun k => k = B ∨ k = L) W (ext W7 x8) := ((HC3.out.mono (S' := fun k => k = B ∨ k = L) (fun k h => Or.inl h)).below hB37).below (below_ext _ x8)
  refine ⟨((hCh.set (.inl (.inr rfl)) _).set (.inl (.inr rfl)) _).below (below_ext _ x9), carry (blk_next HB3.out hB37) (Ne.symm hLB), g1, o1, c1, g2, o2, c2, hc1, hc2, ext_blk (set_same (i := lo + i * 2 + 1) (set_same (i := lo + i * 2) (ext_blk hL7 x8) _) _) x9, ?_, ?_⟩
  ·rcases hv1 with h1 | ⟨h1, h2, cur, h3, h4⟩
   ·exact .inl h1
   ·have := hb4.size
    rw [Nat.mul_one, Nat.mul_one, Nat.mul_one] at h4
    exact .inr ⟨by omega, h2, cur, carry (blk_next (ext_blk h3 x6) hb7) (by omega), h4⟩
  ·rcases hv2 with h1 | ⟨h1, h2, cur, h3, h4⟩
   ·exact .inl h1
   ·have := hB36.size
    rw [Nat.mul_one, Nat.mul_one, Nat.mul_one] at h4
    exact .inr ⟨by omega, h2, cur, carry h3 (by omega), h4⟩
 clear hv1 hv2 hr5 hr7
 generalize (if kc = j + 1 then some (⟨K, ko, none⟩ : Addr) else some ⟨K, ko + (j + 1), none⟩) = q1
 generalize (if vc = j + 1 then some (⟨V, vo, none⟩ : Addr) else some ⟨V, vo + (j + 1), none⟩) = q2
 go_wp2_with (fail)
 go_ret
 exact ⟨rfl, HPOST.out⟩
end Go.Proofs.Ytnfmceffbnaanaa
namespace Go.Proofs.Ytnfmceffbnaanaa
open Go.RowKit
theorem raw2_app (a b : List BRaw) : raw2 (a ++ b) = raw2 a ++ raw2 b := by unfold raw2; exact List.flatMap_append
theorem raw2_cons (r : BRaw) (l : List BRaw) : raw2 (r :: l) = r.kv :: r.vv :: raw2 l := rfl
theorem raw2_len : ∀ l : List BRaw, (raw2 l).length = l.length * 2
 | [] => rfl
 | r :: l => by rw [raw2_cons, List.length_cons, List.length_cons, List.length_cons, raw2_len l]; omega
theorem raw2_set (A C : List BRaw) (r r' : BRaw) : ((raw2 (A ++ r :: C)).set (A.length * 2) r'.kv).set (A.length * 2 + 1) r'.vv = raw2 (A ++ r' :: C) := by
 rw [raw2_app, raw2_app, raw2_cons, raw2_cons]
 rw [List.set_append_right _ _ (by rw [raw2_len]; omega), raw2_len, Nat.sub_self]
 rw [List.set_append_right _ _ (by rw [raw2_len]; omega), raw2_len, show A.length * 2 + 1 - A.length * 2 = 1 from by omega]
 rfl
theorem raw2_take (A C : List BRaw) : (raw2 (A ++ C)).take (A.length * 2) = raw2 A := by
 rw [raw2_app, ← raw2_len, List.take_left]
theorem raw2_drop (A C : List BRaw) : (raw2 (A ++ C)).drop (A.length * 2) = raw2 C := by
 rw [raw2_app, ← raw2_len, List.drop_left]
theorem row_set (c : Array Value) (lo n a : Nat) (x : Value) : ((c.setIfInBounds (lo + a) x).toList.drop lo).take n = ((c.toList.drop lo).take n).set a x := by
 rw [Array.toList_setIfInBounds, List.drop_set, if_neg (by omega), Nat.add_sub_cancel_left, List.take_set]
theorem OkB.keep {h h' : Nat → Option Obj} {Q Q' : Nat → Prop} {r : BRaw} (ok : OkB h Q r) (hq : ∀ g, Q g → Q' g) (hk : ∀ g, Q g → h' g = h g) : OkB h' Q' r := by
 have hc : ∀ a, Q a.block → ∀ y, celH h a = some y → celH h' a = some y := fun a ha y hy => by
  unfold celH at hy ⊢
  rw [hk _ ha]
  exact hy
 obtain ⟨cur, e, h4⟩ := ok.own
 exact ⟨rv_mono hq hc ok.k, rv_mono hq hc ok.v, hq _ ok.q, cur, e, (hk _ ok.q).trans h4⟩
theorem apart_symm {r r' : BRaw} (h : apart r r') : apart r' r := fun e => (h e.symm).symm
theorem lay_put {h h' : Nat → Option Obj} {Q Q' : Nat → Prop} {B L lo L' lo' : Nat} {lv lv' : Value} {A C old new : List BRaw} (hl : Lay h Q B L lo lv (A ++ old ++ C)) (nB : ¬ Q' B) (ex : ∀ g, Q' g → ∃ o, h' g = some o)
  (hA : ∀ r ∈ A ++ C, OkB h' Q' r) (hlv : ∃ a cap, lv' = .slice a (A ++ new ++ C).length cap ∧ (A ++ new ++ C).length ≤ cap ∧ (0 < (A ++ new ++ C).length → a = some ⟨L', lo', none⟩))
  (hrow : 0 < (A ++ new ++ C).length → ¬ Q' L' ∧ L' ≠ B ∧ ∃ cur e, h' L' = some (.cells cur e (0, 0)) ∧ lo' + (A ++ new ++ C).length * 2 ≤ cur.size ∧ (cur.toList.drop lo').take ((A ++ new ++ C).length * 2) = raw2 (A ++ new ++ C))
  (hok : ∀ r ∈ new, OkB h' Q' r) (hap : ∀ r' ∈ new, (∀ r ∈ A ++ C, r.vg ≠ r'.vg) ∨ ∃ r ∈ old, r'.vg = r.vg ∧ r.vo ≤ r'.vo ∧ r'.vo + r'.b.vals.length ≤ r.vo + r.b.vals.length) (hnew : new.Pairwise apart) : Lay h' Q' B L' lo' lv' (A ++ new ++ C) where
 nB := nB
 ex := ex
 lv := hlv
 row := hrow
 ok r hr := by
  rcases List.mem_append.1 hr with hr | hr
  ·rcases List.mem_append.1 hr with hr | hr
   ·exact hA r (List.mem_append.2 (.inl hr))
   ·exact hok r hr
  ·exact hA r (List.mem_append.2 (.inr hr))
 sep := by
  obtain ⟨s1, s2, s3⟩ := List.pairwise_append.1 hl.sep
  obtain ⟨s4, s5, s6⟩ := List.pairwise_append.1 s1
  have one : ∀ r ∈ A ++ C, ∀ r' ∈ new, apart r r' := fun r hr r' hr' e => by
   rcases hap r' hr' with h1 | ⟨q, hq, e1, e2, e3⟩
   ·exact absurd e (h1 r hr)
   ·have h5 : apart r q := by
     rcases List.mem_append.1 hr with hr | hr
     ·exact s6 r hr q hq
     ·exact apart_symm (s3 q (List.mem_append.2 (.inr hq)) r hr)
    rcases h5 (e.trans e1) with h6 | h6
    ·left; omega
    ·right; omega
  refine List.pairwise_append.2 ⟨List.pairwise_append.2 ⟨s4, hnew, fun r hr r' hr' => one r (List.mem_append.2 (.inl hr)) r' hr'⟩, s2, fun r hr c hc => ?_⟩
  rcases List.mem_append.1 hr with hr | hr
  ·exact s3 r (List.mem_append.2 (.inl hr)) c hc
  ·exact apart_symm (one c (List.mem_append.2 (.inr hc)) r hr)
theorem rv_strs {h : Nat → Option Obj} {Q : Nat → Prop} {g o cap : Nat} {l : List ByteArray} {cur : Array Value} {e : TypeId} {fz : Nat × Nat} (hg : h g = some (.cells cur e fz)) (hq : Q g) (hc : l.length ≤ cap) (hr : ((cur.toList.drop o).take l.length) = l.map .string) :
  Rv h Q (.sl .str l) (.slice (some ⟨g, o, none⟩) l.length cap) := by
 refine rv1_mk rfl hc hq fun i d hd => ⟨.string d, ?_, .v _⟩
 have hi := (List.getElem?_eq_some_iff.1 hd).1
 have := congrArg (·[i]?) hr
 simp only [List.getElem?_take, if_pos hi, List.getElem?_drop, List.getElem?_map, hd, Option.map_some, Array.getElem?_toList] at this
 unfold celH
 rw [hg]
 exact this
theorem rv_vals {h : Nat → Option Obj} {Q : Nat → Prop} {g o cap : Nat} {l : List (List TCell)} {ys : List Value} {cur : Array Value} {e : TypeId} {fz : Nat × Nat} (hg : h g = some (.cells cur e fz)) (hq : Q g) (hc : l.length ≤ cap) (hr : (cur.toList.drop o).take l.length = ys)
  (hy : ∀ (i : Nat) (d : List TCell), l[i]? = some d → ∃ y, ys[i]? = some y ∧ Rv h Q (.sl .cell d) y) : Rv h Q (.sl .cells l) (.slice (some ⟨g, o, none⟩) l.length cap) := by
 refine rv1_mk rfl hc hq fun i d hd => ?_
 obtain ⟨y, h1, h2⟩ := hy i d hd
 have hi := (List.getElem?_eq_some_iff.1 hd).1
 have := congrArg (·[i]?) hr
 simp only [List.getElem?_take, if_pos hi, List.getElem?_drop, h1, Array.getElem?_toList] at this
 refine ⟨y, ?_, h2⟩
 unfold celH
 rw [hg]
 exact this
theorem vals_raw {h : Nat → Option Obj} {Q : Nat → Prop} : ∀ (l : List (List TCell)) (g o : Nat), (∀ (i : Nat) (d : List TCell), l[i]? = some d → ∃ v, celH h ⟨g, o + i, none⟩ = some v ∧ Rv h Q (.sl .cell d) v) →
  ∃ ys : List Value, ys.length = l.length ∧ (∀ i y, ys[i]? = some y → celH h ⟨g, o + i, none⟩ = some y) ∧ ∀ (i : Nat) (d : List TCell), l[i]? = some d → ∃ y, ys[i]? = some y ∧ Rv h Q (.sl .cell d) y
 | [], _, _, _ => ⟨[], rfl, (fun i y h => by cases h), (fun i d h => by cases h)⟩
 | d :: l, g, o, hl => by
  obtain ⟨v, h1, h2⟩ := hl 0 d rfl
  obtain ⟨ys, h3, h4, h5⟩ := vals_raw l g (o + 1) fun i d hd => by
   have := hl (i + 1) d hd
   rwa [show o + (i + 1) = o + 1 + i from by omega] at this
  refine ⟨v :: ys, by simp [h3], fun i y hy => ?_, fun i d' hd => ?_⟩
  ·cases i with
   | zero => cases hy; exact h1
   | succ i => have := h4 i y hy; rwa [show o + 1 + i = o + (i + 1) from by omega] at this
  ·cases i with
   | zero => cases hd; exact ⟨v, rfl, h2⟩
   | succ i => exact h5 i d' hd
end Go.Proofs.Ytnfmceffbnaanaa
namespace Go.Proofs.Ytnfmceffbnaanaa
open Go.RowKit
abbrev hp (W : World) : Nat → Option Obj := fun g => W.heap[g]?
theorem raw2_get : ∀ {rs : List BRaw} {i : Nat} {r : BRaw}, rs[i]? = some r → (raw2 rs)[i * 2]? = some r.kv ∧ (raw2 rs)[i * 2 + 1]? = some r.vv
 | [], i, r, h => by cases h
 | q :: rs, 0, r, h => by cases h; exact ⟨rfl, rfl⟩
 | q :: rs, i + 1, r, h => by
  obtain ⟨h1, h2⟩ := raw2_get (rs := rs) (i := i) (r := r) h
  rw [raw2_cons]
  exact ⟨by rw [show (i + 1) * 2 = i * 2 + 1 + 1 from by omega]; exact h1, by rw [show (i + 1) * 2 + 1 = i * 2 + 1 + 1 + 1 from by omega]; exact h2⟩
section
variable {W : World} {Q : Nat → Prop} {B L lo : Nat} {lv : Value} {rs : List BRaw}
theorem Lay.cells (hl : Lay (hp W) Q B L lo lv rs) {i : Nat} {r : BRaw} (h : rs[i]? = some r) : W.cell? ⟨L, lo + i * 2, none⟩ = some r.kv ∧ W.cell? ⟨L, lo + i * 2 + 1, none⟩ = some r.vv := by
 have hlt := (List.getElem?_eq_some_iff.1 h).1
 obtain ⟨_, _, cur, e, h1, _, h3⟩ := hl.row (by omega)
 obtain ⟨h4, h5⟩ := raw2_get h
 rw [← h3, List.getElem?_take, if_pos (by omega), List.getElem?_drop, Array.getElem?_toList] at h4 h5
 exact ⟨by rw [blk_cell h1]; exact h4, by rw [blk_cell h1]; exact h5⟩
theorem Lay.lt (hl : Lay (hp W) Q B L lo lv rs) {g : Nat} (h : Q g) : g < W.heap.size := by
 obtain ⟨o, ho⟩ := hl.ex g h
 exact blk_lt ho
theorem Lay.slice (hl : Lay (hp W) Q B L lo lv rs) (h : 0 < rs.length) : ∃ cap, lv = .slice (some ⟨L, lo, none⟩) rs.length cap ∧ rs.length ≤ cap := by
 obtain ⟨a, cap, e, h1, h2⟩ := hl.lv
 rw [h2 h] at e
 exact ⟨cap, e, h1⟩
theorem rowsB_len {b : TBlock} (h : b.keys.length = b.vals.length) : (rowsB b).length = b.keys.length := by
 rw [← rowsB_keys h, List.length_map]
theorem rowsOf_len : ∀ {bs : List TBlock}, (∀ b ∈ bs, b.keys.length = b.vals.length ∧ 0 < b.keys.length) → bs.length ≤ (rowsOf bs).length ∧ ∀ b ∈ bs, b.keys.length ≤ (rowsOf bs).length
 | [], _ => ⟨Nat.le_refl _, fun b hb => by cases hb⟩
 | b :: bs, h => by
  obtain ⟨h1, h2⟩ := rowsOf_len (bs := bs) fun c hc => h c (List.mem_cons_of_mem _ hc)
  obtain ⟨h3, h4⟩ := h b (List.mem_cons_self ..)
  rw [rowsOf_cons, List.length_append, rowsB_len h3]
  refine ⟨by rw [List.length_cons]; omega, fun c hc => ?_⟩
  rcases List.mem_cons.1 hc with rfl | hc
  ·omega
  ·have := h2 c hc; omega
theorem fair_of {bs : List TBlock} (hg : GoodB bs) (h : (rowsOf bs).length ≤ 1099511627775) : fairB bs := by
 obtain ⟨h1, h2⟩ := rowsOf_len hg.len
 exact ⟨by omega, fun b hb => by have := h2 b hb; omega⟩
theorem at_calls (hl : Lay (hp W) Q B L lo lv rs) {n : Int} (hB : W.heap[B]? = some (.cells #[lv, .int .i64 n] 67 (0, 0))) (hg : GoodB (rs.map (·.b))) (hf : fairB (rs.map (·.b))) (key : ByteArray) :
  Calls Try.prog 30 #[.pointer (some ⟨B, 0, none⟩), .string key] W fun e W1 => e = .returned (.tuple #[.int .i64 ((atI (rs.map (·.b)) key).1 : Int), .int .i64 ((atI (rs.map (·.b)) key).2.1 : Int), .bool (atI (rs.map (·.b)) key).2.2]) ∧ Below W.heap.size W W1 := by
 let F : Nat → Prop := fun g => Q g ∨ g = B ∨ (0 < rs.length ∧ g = L)
 let N : Nm := ⟨fun _ => 0, fun _ => undef⟩
 have hh : HRel F N 0 [] W := ⟨fun g hgF => by
   rcases hgF with h | rfl | ⟨h, rfl⟩
   ·exact hl.lt h
   ·exact blk_lt hB
   ·obtain ⟨_, _, cur, e, h1, _⟩ := hl.row h
    exact blk_lt h1, fun i ob hi => (by cases hi), fun i ob g hi => (by cases hi), fun i j x y g hi => (by cases hi), fun x hx => by cases hx⟩
 obtain ⟨a, cap, e, h1, h2⟩ := hl.lv
 have hv : Hv F N 0 W (.sl .block (rs.map (·.b))) lv := by
  rw [e, show rs.length = (rs.map (·.b)).length from (List.length_map ..).symm]
  refine Hv.of_sl (by rw [List.length_map]; exact h1) fun hpos => ?_
  rw [List.length_map] at hpos
  refine ⟨⟨L, lo, none⟩, h2 hpos, .inr (.inr ⟨hpos, rfl⟩), fun i d hd j x hx => ?_⟩
  rw [List.getElem?_map] at hd
  cases hr : rs[i]? with
  | none => rw [hr] at hd; cases hd
  | some r =>
   rw [hr] at hd
   cases hd
   obtain ⟨c1, c2⟩ := hl.cells hr
   have ok := hl.ok r (List.mem_of_getElem? hr)
   have hc : ∀ a, Q a.block → ∀ y, celH (hp W) a = some y → W.cell? a = some y := fun a _ y hy => hy
   rw [add_mk, add_mk]
   match j, hx with
   | 0, hx => cases hx; exact ⟨_, c1, rv_hv (fun g hq => .inl hq) hc ok.k⟩
   | 1, hx => cases hx; exact ⟨_, c2, rv_hv (fun g hq => .inl hq) hc ok.v⟩
 obtain ⟨b0, b1⟩ := cb2 hB
 refine (at_ok hg hf n key F N W [.pointer (some ⟨B, 0, none⟩), .string key] hh (HL.cons (Hv.of_ref (.inr (.inl rfl)) fun j x hx => ?_) (HL.cons (Hv.v _) HL.nil))).mono fun e' W1 ⟨y, F', N', e1, _, _, e4, e5⟩ => ⟨by rw [e1, e4.v_inv], e5 (Nat.le_refl _)⟩
 rw [add_mk]
 match j, hx with
 | 0, hx => cases hx; exact ⟨lv, b0, hv⟩
 | 1, hx => cases hx; exact ⟨_, b1, Hv.v _⟩
end
end Go.Proofs.Ytnfmceffbnaanaa
namespace Go.Proofs.Ytnfmceffbnaanaa
open Go.RowKit
theorem map_split {rs : List BRaw} {A C : List TBlock} {b : TBlock} (h : rs.map (·.b) = A ++ b :: C) : ∃ ra r rc, rs = ra ++ r :: rc ∧ ra.map (·.b) = A ∧ r.b = b ∧ rc.map (·.b) = C := by
 obtain ⟨ra, l, rfl, h1, h2⟩ := List.map_eq_append_iff.1 h
 obtain ⟨r, rc, rfl, h3, h4⟩ := List.map_eq_cons_iff.1 h2
 exact ⟨ra, r, rc, rfl, h1, h3, h4⟩
theorem vals_ins {h h' : Nat → Option Obj} {Q Qv Q' : Nat → Prop} {v1 v2 : List (List TCell)} {cells : List TCell} {xv : List Value} {newv : Value} (hlen : xv.length = (v1 ++ v2).length) (hx : ∀ (i : Nat) (d : List TCell), (v1 ++ v2)[i]? = some d → ∃ y, xv[i]? = some y ∧ Rv h Q (.sl .cell d) y)
  (hv : Rv h Qv (.sl .cell cells) newv) (hq : ∀ {d : List TCell} {y}, Rv h Q (.sl .cell d) y → Rv h' Q' (.sl .cell d) y) (hq' : ∀ {d : List TCell} {y}, Rv h Qv (.sl .cell d) y → Rv h' Q' (.sl .cell d) y) :
  ∀ (i : Nat) (d : List TCell), (v1 ++ cells :: v2)[i]? = some d → ∃ y, (xv.take v1.length ++ [newv] ++ xv.drop v1.length)[i]? = some y ∧ Rv h' Q' (.sl .cell d) y := fun i d hd => by
 have ht : (xv.take v1.length).length = v1.length := by rw [List.length_take, hlen, List.length_append]; omega
 rcases Nat.lt_trichotomy i v1.length with h1 | h1 | h1
 ·rw [List.getElem?_append_left h1] at hd
  obtain ⟨y, h2, h3⟩ := hx i d (by rw [List.getElem?_append_left h1]; exact hd)
  refine ⟨y, ?_, hq h3⟩
  rw [List.append_assoc, List.getElem?_append_left (by rw [ht]; exact h1), List.getElem?_take, if_pos h1]
  exact h2
 ·subst h1
  rw [List.getElem?_append_right (Nat.le_refl _), Nat.sub_self] at hd
  cases hd
  refine ⟨newv, ?_, hq' hv⟩
  rw [List.append_assoc, List.getElem?_append_right (by rw [ht]; exact Nat.le_refl _), ht, Nat.sub_self]
  rfl
 ·rw [List.getElem?_append_right (by omega), show i - v1.length = (i - v1.length - 1) + 1 from by omega] at hd
  have hd' : v2[i - v1.length - 1]? = some d := hd
  obtain ⟨y, h2, h3⟩ := hx (i - 1) d (by rw [List.getElem?_append_right (by omega), show i - 1 - v1.length = i - v1.length - 1 from by omega]; exact hd')
  refine ⟨y, ?_, hq h3⟩
  rw [List.getElem?_append_right (by rw [List.length_append, ht, List.length_singleton]; omega), List.length_append, ht, List.length_singleton, List.getElem?_drop, show v1.length + (i - (v1.length + 1)) = i - 1 from by omega]
  exact h2
set_option maxHeartbeats 1000000 in
theorem post_lay {W W' : World} {Q Qv : Nat → Prop} {B L lo n lc m : Nat} {lv : Value} {ra rc : List BRaw} {r : BRaw} {nn : Int} {curL : Array Value} {eL : TypeId} {key : ByteArray} {k1 k2 : List ByteArray} {v1 v2 : List (List TCell)} {cells : List TCell} {xv nk nv : List Value} {newv : Value}
  (hl : Lay (hp W) Q B L lo lv (ra ++ [r] ++ rc)) (l1 : k1.length = v1.length) (l2 : k2.length = v2.length) (hm : m = k1.length + k2.length) (hBlt : B < W.heap.size)
  (hL : W.heap[L]? = some (.cells curL eL (0, 0))) (hlen : xv.length = (v1 ++ v2).length) (hx : ∀ (i : Nat) (d : List TCell), (v1 ++ v2)[i]? = some d → ∃ y, xv[i]? = some y ∧ Rv (hp W) Q (.sl .cell d) y)
  (hv : Rv (hp W) Qv (.sl .cell cells) newv) (hQv : ∀ g, Qv g → g < W.heap.size) (hvB : ¬ Qv B) (hvL : ¬ Qv L) (hnk : nk = (k1 ++ key :: k2).map .string) (hnv : nv = xv.take v1.length ++ [newv] ++ xv.drop v1.length)
  (hn : n = (ra ++ [r] ++ rc).length) (hlv : lv = .slice (some ⟨L, lo, none⟩) n lc) (hlc : n ≤ lc) (hpost : SetPost W B L lo ra.length m n lc nn curL eL nk nv W') :
  ∃ (Q' : Nat → Prop) (L' lo' : Nat) (lv' : Value) (new : List BRaw), Lay (hp W') Q' B L' lo' lv' (ra ++ new ++ rc) ∧ W'.heap[B]? = some (.cells #[lv', .int .i64 (nn + 1)] 67 (0, 0)) ∧ Chg (fun k => k = B ∨ k = L) W W' ∧ (∀ g, Q' g → Q g ∨ Qv g ∨ W.heap.size ≤ g) ∧ (L' = L ∨ W.heap.size ≤ L') ∧
   (∀ b ∈ new.map (·.b), b.keys.length = b.vals.length ∧ 0 < b.keys.length) ∧ (new.map (·.b)).flatMap TBlock.keys = k1 ++ key :: k2 ∧ rowsOf (new.map (·.b)) = rowsB ⟨k1 ++ key :: k2, v1 ++ cells :: v2⟩ := by
 obtain ⟨hc, g1, c1, cur1, g2, c2, cur2, z1, z2, z3, y1, y2, s1, s2, e1, t1, e2, t2, hcase⟩ := hpost
 have hpos : 0 < (ra ++ [r] ++ rc).length := by simp; omega
 obtain ⟨nqL, hLB, cL, eL', q1, q2, q3⟩ := hl.row hpos
 have q1' : W.heap[L]? = some (.cells cL eL' (0, 0)) := q1
 rw [hL] at q1'
 cases q1'
 have hLlt := blk_lt hL
 have hkl : (k1 ++ key :: k2).length = m + 1 := by rw [List.length_append, List.length_cons]; omega
 have hvl : (v1 ++ cells :: v2).length = m + 1 := by rw [List.length_append, List.length_cons]; omega
 have keepQ : ∀ g, Q g → W'.heap[g]? = W.heap[g]? := fun g hg => hc.keep g (hl.lt hg) fun h => by
  rcases h with rfl | rfl
  ·exact hl.nB hg
  ·exact nqL hg
 have keepV : ∀ g, Qv g → W'.heap[g]? = W.heap[g]? := fun g hg => hc.keep g (hQv g hg) fun h => by
  rcases h with rfl | rfl
  ·exact hvB hg
  ·exact hvL hg
 have cellsOf : ∀ {P : Nat → Prop}, (∀ g, P g → W'.heap[g]? = W.heap[g]?) → ∀ a, P a.block → ∀ y, celH (hp W) a = some y → celH (hp W') a = some y := fun hP a ha y hy => by
  unfold celH at hy ⊢
  show (match W'.heap[a.block]? with | some (.cells c _ _) => _ | _ => _) = _
  rw [hP _ ha]
  exact hy
 have hrk := hl.ok r (by simp)
 rcases hcase with ⟨hfew, b1, b2⟩ | ⟨hmany, g3, c3, cur3, w1, w2, w3, w4, b1, b2, xs, hxs, b3⟩
 ·-- one block more full
  let Q' : Nat → Prop := fun g => Q g ∨ Qv g ∨ (W.heap.size ≤ g ∧ ∃ o, W'.heap[g]? = some o)
  have hQ : ∀ g, Q g → Q' g := fun g hg => .inl hg
  have toQ : ∀ {d : List TCell} {y}, Rv (hp W) Q (.sl .cell d) y → Rv (hp W') Q' (.sl .cell d) y := fun h => rv_mono hQ (cellsOf keepQ) h
  have toQv : ∀ {d : List TCell} {y}, Rv (hp W) Qv (.sl .cell d) y → Rv (hp W') Q' (.sl .cell d) y := fun h => rv_mono (fun g hg => .inr (.inl hg)) (cellsOf keepV) h
  let r' : BRaw := ⟨⟨k1 ++ key :: k2, v1 ++ cells :: v2⟩, .slice (some ⟨g1, 0, none⟩) (m + 1) c1, g2, 0, c2⟩
  have hvv : r'.vv = .slice (some ⟨g2, 0, none⟩) (m + 1) c2 := by show Value.slice _ (v1 ++ cells :: v2).length _ = _; rw [hvl]
  have okr : OkB (hp W') Q' r' := by
   refine ⟨?_, ?_, .inr (.inr ⟨z2, _, e2⟩), cur2, 27, e2⟩
   ·show Rv _ _ (.sl .str (k1 ++ key :: k2)) (.slice _ (m + 1) c1)
    rw [← hkl]
    exact rv_strs (h := hp W') e1 (.inr (.inr ⟨z1, _, e1⟩)) (by omega) (by rw [List.drop_zero, hkl, t1, hnk])
   ·exact rv_vals (h := hp W') e2 (.inr (.inr ⟨z2, _, e2⟩)) (by rw [hvl]; exact y2) (by rw [List.drop_zero, hvl, t2, hnv]) (vals_ins hlen hx hv toQ toQv)
  have hlenn : (ra ++ [r'] ++ rc).length = n := by rw [hn]; simp
  refine ⟨Q', L, lo, lv, [r'], lay_put (old := [r]) hl ?_ ?_ (fun q hq => (hl.ok q (by simp at hq ⊢; rcases hq with h | h; exact .inl h; exact .inr (.inr h))).keep hQ keepQ) ⟨_, lc, by rw [hlenn]; exact hlv, by rw [hlenn]; exact hlc, fun _ => rfl⟩ (fun _ => ⟨?_, hLB, _, _, b2, ?_, ?_⟩) (fun q hq => by rw [List.mem_singleton.1 hq]; exact okr) (fun q hq => .inl fun s hs e => ?_) (List.pairwise_singleton _ _), by rw [hlv]; exact b1, hc, fun g hg => ?_, .inl rfl, fun b hb => ?_, ?_, ?_⟩
  ·rintro (h | h | ⟨h, _⟩)
   ·exact hl.nB h
   ·exact hvB h
   ·omega
  ·rintro g (h | h | ⟨_, h⟩)
   ·obtain ⟨o, ho⟩ := hl.ex g h
    exact ⟨o, (keepQ g h).trans ho⟩
   ·exact ⟨_, (keepV g h).trans (Array.getElem?_eq_getElem (hQv g h))⟩
   ·exact h
  ·rintro (h | h | ⟨h, _⟩)
   ·exact nqL h
   ·exact hvL h
   ·omega
  ·rw [hlenn, Array.size_setIfInBounds, Array.size_setIfInBounds, hn]; exact q2
  ·rw [hlenn, Nat.add_assoc, row_set, row_set, hn, q3, ← hvv]
   have := raw2_set ra rc r r'
   rw [List.append_assoc, List.append_assoc]
   exact this
  ·rw [List.mem_singleton.1 hq] at e
   have := (hl.ok s (by simp at hs ⊢; rcases hs with h | h; exact .inl h; exact .inr (.inr h))).q
   have h2 := hl.lt this
   rw [e] at h2
   have : r'.vg = g2 := rfl
   omega
  ·rcases hg with h | h | ⟨h, _⟩
   ·exact .inl h
   ·exact .inr (.inl h)
   ·exact .inr (.inr h)
  ·simp at hb
   subst hb
   exact ⟨by show (k1 ++ key :: k2).length = (v1 ++ cells :: v2).length; omega, by show 0 < (k1 ++ key :: k2).length; omega⟩
  ·show (k1 ++ key :: k2) ++ [] = _
   rw [List.append_nil]
  ·show rowsB _ ++ [] = _
   rw [List.append_nil]
 ·-- parted
  obtain ⟨h, hh⟩ : ∃ h, (m + 1) / 2 = h := ⟨_, rfl⟩
  rw [hh] at hxs b3
  let Q' : Nat → Prop := fun g => (Q g ∨ Qv g ∨ (W.heap.size ≤ g ∧ ∃ o, W'.heap[g]? = some o)) ∧ g ≠ g3
  have hQ : ∀ g, Q g → Q' g := fun g hg => ⟨.inl hg, fun e => by have := hl.lt hg; omega⟩
  have toQ : ∀ {d : List TCell} {y}, Rv (hp W) Q (.sl .cell d) y → Rv (hp W') Q' (.sl .cell d) y := fun h => rv_mono hQ (cellsOf keepQ) h
  have toQv : ∀ {d : List TCell} {y}, Rv (hp W) Qv (.sl .cell d) y → Rv (hp W') Q' (.sl .cell d) y := fun h => rv_mono (fun g hg => ⟨.inr (.inl hg), fun e => by have := hQv g hg; omega⟩) (cellsOf keepV) h
  obtain ⟨K, hK⟩ : ∃ K, k1 ++ key :: k2 = K := ⟨_, rfl⟩
  obtain ⟨V, hV⟩ : ∃ V, v1 ++ cells :: v2 = V := ⟨_, rfl⟩
  have rk : Rv (hp W') Q' (.sl .str K) (.slice (some ⟨g1, 0, none⟩) K.length c1) := by
   rw [← hK]
   exact rv_strs (h := hp W') e1 ⟨.inr (.inr ⟨z1, _, e1⟩), by omega⟩ (by omega) (by rw [List.drop_zero, hkl, t1, hnk])
  have rv : Rv (hp W') Q' (.sl .cells V) (.slice (some ⟨g2, 0, none⟩) V.length c2) := by
   rw [← hV]
   exact rv_vals (h := hp W') e2 ⟨.inr (.inr ⟨z2, _, e2⟩), by omega⟩ (by rw [hvl]; exact y2) (by rw [List.drop_zero, hvl, t2, hnv]) (vals_ins hlen hx hv toQ toQv)
  rw [hK] at hkl
  rw [hV] at hvl
  have hle : h ≤ m + 1 := by omega
  have ek1 : (K.take h).length = h := by rw [List.length_take]; omega
  have ek2 : (K.drop h).length = m + 1 - h := by rw [List.length_drop, hkl]
  have ev1 : (V.take h).length = h := by rw [List.length_take]; omega
  have ev2 : (V.drop h).length = m + 1 - h := by rw [List.length_drop, hvl]
  let rl : BRaw := ⟨⟨K.take h, V.take h⟩, .slice (some ⟨g1, 0, none⟩) h h, g2, 0, h⟩
  let rh : BRaw := ⟨⟨K.drop h, V.drop h⟩, .slice (some ⟨g1, h, none⟩) (m + 1 - h) (m + 1 - h), g2, h, m + 1 - h⟩
  have vl : rl.vv = .slice (some ⟨g2, 0, none⟩) h h := by show Value.slice _ (V.take h).length _ = _; rw [ev1]
  have vh : rh.vv = .slice (some ⟨g2, h, none⟩) (m + 1 - h) (m + 1 - h) := by show Value.slice _ (V.drop h).length _ = _; rw [ev2]
  have tk : ∀ {α : Type} (l : List α) (i : Nat) (d : α), (l.take h)[i]? = some d → l[0 + i]? = some d := fun l i d hd => by
   rw [List.getElem?_take] at hd
   split at hd
   ·rw [Nat.zero_add]; exact hd
   ·cases hd
  have dk : ∀ {α : Type} (l : List α) (i : Nat) (d : α), (l.drop h)[i]? = some d → l[h + i]? = some d := fun l i d hd => by
   rw [List.getElem?_drop] at hd
   exact hd
  have q2' : Q' g2 := ⟨.inr (.inr ⟨z2, _, e2⟩), by omega⟩
  have okl : OkB (hp W') Q' rl := by
   refine ⟨?_, ?_, q2', cur2, 27, e2⟩
   ·have := rv1_part (c := .str) (l' := K.take h) (k := 0) (cap' := h) rfl rk (by omega) (tk K) (by omega)
    rw [ek1] at this
    exact this
   ·exact rv1_part (c := .cells) (l' := V.take h) (k := 0) (cap' := h) rfl rv (by omega) (tk V) (by omega)
  have okh : OkB (hp W') Q' rh := by
   refine ⟨?_, ?_, q2', cur2, 27, e2⟩
   ·have := rv1_part (c := .str) (l' := K.drop h) (k := h) (cap' := m + 1 - h) rfl rk (by omega) (dk K) (by omega)
    rw [ek2, Nat.zero_add] at this
    exact this
   ·have := rv1_part (c := .cells) (l' := V.drop h) (k := h) (cap' := m + 1 - h) rfl rv (by omega) (dk V) (by omega)
    rw [Nat.zero_add] at this
    exact this
  have hxs2 : xs = raw2 (ra ++ rl :: rc) := by
   rw [hxs, Nat.add_assoc, row_set, row_set, hn, q3, ← vl]
   have := raw2_set ra rc r rl
   rw [List.append_assoc]
   exact this
  have hraw : cur3.toList.take ((n + 1) * 2) = raw2 (ra ++ [rl, rh] ++ rc) := by
   have a1 := raw2_take (ra ++ [rl]) rc
   have a2 := raw2_drop (ra ++ [rl]) rc
   rw [List.length_append, List.length_singleton, List.append_assoc] at a1 a2
   rw [b3, hxs2]
   have a1' : (raw2 (ra ++ rl :: rc)).take ((ra.length + 1) * 2) = raw2 (ra ++ [rl]) := a1
   have a2' : (raw2 (ra ++ rl :: rc)).drop ((ra.length + 1) * 2) = raw2 rc := a2
   rw [a1', a2', ← vh, show ra ++ [rl, rh] ++ rc = (ra ++ [rl]) ++ rh :: rc from by simp, raw2_app (ra ++ [rl]), raw2_cons]
   simp [rh]
  have hlenn : (ra ++ [rl, rh] ++ rc).length = n + 1 := by rw [hn]; simp; omega
  refine ⟨Q', g3, 0, .slice (some ⟨g3, 0, none⟩) (n + 1) c3, [rl, rh], lay_put (old := [r]) hl ?_ ?_ (fun q hq => (hl.ok q (by simp at hq ⊢; rcases hq with h | h; exact .inl h; exact .inr (.inr h))).keep hQ keepQ) ⟨_, c3, by rw [hlenn], by rw [hlenn]; exact w4, fun _ => rfl⟩ (fun _ => ⟨fun hq => hq.2 rfl, by omega, _, _, b2, ?_, ?_⟩) (fun q hq => ?_) (fun q hq => .inl fun s hs e => ?_) ?_, b1, hc, fun g hg => ?_, .inr w1, fun b hb => ?_, ?_, ?_⟩
  ·rintro ⟨h | h | ⟨h, _⟩, _⟩
   ·exact hl.nB h
   ·exact hvB h
   ·omega
  ·rintro g ⟨h | h | ⟨_, h⟩, _⟩
   ·obtain ⟨o, ho⟩ := hl.ex g h
    exact ⟨o, (keepQ g h).trans ho⟩
   ·exact ⟨_, (keepV g h).trans (Array.getElem?_eq_getElem (hQv g h))⟩
   ·exact h
  ·have := congrArg List.length hraw
   rw [raw2_len, hlenn, List.length_take, Array.length_toList] at this
   rw [hlenn]
   omega
  ·rw [hlenn, List.drop_zero]
   exact hraw
  ·rcases List.mem_cons.1 hq with rfl | hq
   ·exact okl
   ·rw [List.mem_singleton.1 hq]; exact okh
  ·have h2 := hl.lt (hl.ok s (by simp at hs ⊢; rcases hs with h | h; exact .inl h; exact .inr (.inr h))).q
   have : q.vg = g2 := by
    rcases List.mem_cons.1 hq with rfl | hq
    ·rfl
    ·rw [List.mem_singleton.1 hq]
   rw [e, this] at h2
   omega
  ·refine List.pairwise_cons.2 ⟨fun q hq => ?_, List.pairwise_singleton _ _⟩
   rw [List.mem_singleton.1 hq]
   intro _
   left
   show 0 + (V.take h).length ≤ h
   omega
  ·rcases hg with ⟨h | h | ⟨h, _⟩, _⟩
   ·exact .inl h
   ·exact .inr (.inl h)
   ·exact .inr (.inr h)
  ·have : b = ⟨K.take h, V.take h⟩ ∨ b = ⟨K.drop h, V.drop h⟩ := by simpa [rl, rh] using hb
   rcases this with rfl | rfl
   ·exact ⟨by show (K.take h).length = (V.take h).length; omega, by show 0 < (K.take h).length; omega⟩
   ·exact ⟨by show (K.drop h).length = (V.drop h).length; omega, by show 0 < (K.drop h).length; omega⟩
  ·show K.take h ++ (K.drop h ++ []) = _
   rw [List.append_nil, List.take_append_drop, hK]
  ·show rowsB ⟨K.take h, V.take h⟩ ++ (rowsB ⟨K.drop h, V.drop h⟩ ++ []) = _
   rw [List.append_nil, ← rowsB_app (by omega), List.take_append_drop, List.take_append_drop, hK, hV]
end Go.Proofs.Ytnfmceffbnaanaa
namespace Go.Proofs.Ytnfmceffbnaanaa
open Go.RowKit
theorem cut_of {key : ByteArray} {A C : List TBlock} {k1 k2 : List ByteArray} {v1 v2 : List (List TCell)} (lo : ∀ x ∈ A.flatMap TBlock.keys ++ k1, kLt x key = true) (hi : ∀ x ∈ k2 ++ C.flatMap TBlock.keys, kLt key x = true) :
  Cut key (rowsOf A ++ rowsB ⟨k1, v1⟩) (rowsB ⟨k2, v2⟩ ++ rowsOf C) :=
 ⟨fun x hx => lo _ (by
  rcases List.mem_append.1 hx with h | h
  ·exact List.mem_append.2 (.inl (rowsOf_mem h))
  ·exact List.mem_append.2 (.inr (rowsB_mem h))), fun x hx => hi _ (by
  rcases List.mem_append.1 hx with h | h
  ·exact List.mem_append.2 (.inl (rowsB_mem h))
  ·exact List.mem_append.2 (.inr (rowsOf_mem h)))⟩
theorem ins_rows {A C new : List TBlock} {k1 k2 : List ByteArray} {v1 v2 : List (List TCell)} {key : ByteArray} {cells : List TCell} (hg : GoodB (A ++ [⟨k1 ++ k2, v1 ++ v2⟩] ++ C)) (l1 : k1.length = v1.length)
  (lo : ∀ x ∈ A.flatMap TBlock.keys ++ k1, kLt x key = true) (hi : ∀ x ∈ k2 ++ C.flatMap TBlock.keys, kLt key x = true) (hn : ∀ b ∈ new, b.keys.length = b.vals.length ∧ 0 < b.keys.length) (hk : new.flatMap TBlock.keys = k1 ++ key :: k2)
  (hr : rowsOf new = rowsB ⟨k1 ++ key :: k2, v1 ++ cells :: v2⟩) : GoodB (A ++ new ++ C) ∧ rowsOf (A ++ new ++ C) = setR (rowsOf (A ++ [⟨k1 ++ k2, v1 ++ v2⟩] ++ C)) ⟨key, cells⟩ ∧ (rowsOf (A ++ new ++ C)).length = (rowsOf (A ++ [⟨k1 ++ k2, v1 ++ v2⟩] ++ C)).length + 1 := by
 have e1 : rowsOf (A ++ [⟨k1 ++ k2, v1 ++ v2⟩] ++ C) = (rowsOf A ++ rowsB ⟨k1, v1⟩) ++ [] ++ (rowsB ⟨k2, v2⟩ ++ rowsOf C) := by
  rw [rowsOf_app, rowsOf_app, rowsOf_cons, rowsB_app l1]
  simp [rowsOf]
 have e2 : rowsOf (A ++ new ++ C) = (rowsOf A ++ rowsB ⟨k1, v1⟩) ++ ⟨key, cells⟩ :: (rowsB ⟨k2, v2⟩ ++ rowsOf C) := by
  rw [rowsOf_app, rowsOf_app, hr, rowsB_app l1, rowsB_cons]
  simp
 refine ⟨good_put hg hn hk ?_, ?_, ?_⟩
 ·have := hg.ord
  rw [List.flatMap_append, List.flatMap_append] at this
  have h2 : ((A.flatMap TBlock.keys ++ k1) ++ (k2 ++ C.flatMap TBlock.keys)).Pairwise fun a b => kLt a b = true := by
   have e3 : A.flatMap TBlock.keys ++ [(⟨k1 ++ k2, v1 ++ v2⟩ : TBlock)].flatMap TBlock.keys ++ C.flatMap TBlock.keys = (A.flatMap TBlock.keys ++ k1) ++ (k2 ++ C.flatMap TBlock.keys) := by simp
   rw [e3] at this
   exact this
  have h3 := pw_mid h2 lo hi
  have e4 : A.flatMap TBlock.keys ++ (k1 ++ key :: k2) ++ C.flatMap TBlock.keys = (A.flatMap TBlock.keys ++ k1) ++ key :: (k2 ++ C.flatMap TBlock.keys) := by simp
  rw [e4]
  exact h3
 ·rw [e1, setR_cut (r := ⟨key, cells⟩) (cut_of lo hi) (fun x hx => by cases hx), e2]
 ·rw [e1, e2]
  simp only [List.length_append, List.length_cons, List.length_nil]
  omega
theorem rv_slice {h : Nat → Option Obj} {Q : Nat → Prop} {c : TC} {l : List (U c)} {y : Value} (hr : Rv h Q (.sl c l) y) : ∃ a n cap, y = .slice a n cap := by
 cases hr with
 | sl ad h1 h2 h3 h4 => exact ⟨_, _, _, rfl⟩
theorem OkB.open {W : World} {Q : Nat → Prop} {r : BRaw} (ok : OkB (hp W) Q r) (hlen : r.b.keys.length = r.b.vals.length) (hpos : 0 < r.b.keys.length) :
  ∃ (K ko kc : Nat) (ys : List Value), r.kv = .slice (some ⟨K, ko, none⟩) r.b.keys.length kc ∧ r.b.keys.length ≤ kc ∧ Q K ∧ (∀ j v, (r.b.keys.map Value.string)[j]? = some v → W.cell? ((⟨K, ko, none⟩ : Addr).add j) = some v) ∧
   r.b.vals.length ≤ r.vc ∧ ys.length = r.b.vals.length ∧ (∀ j v, ys[j]? = some v → W.cell? ((⟨r.vg, r.vo, none⟩ : Addr).add j) = some v) ∧ (∀ (i : Nat) (d : List TCell), r.b.vals[i]? = some d → ∃ y, ys[i]? = some y ∧ Rv (hp W) Q (.sl .cell d) y) ∧ ∀ v ∈ ys, v.oneCell' = true := by
 obtain ⟨K, ko, kc, e1, h1, h2, h3⟩ := rv1_inv (c := .str) rfl ok.k hpos
 obtain ⟨g, o, cap, e2, h4, h5, h6⟩ := rv1_inv (c := .cells) rfl ok.v (by omega)
 have e2' : Value.slice (some ⟨r.vg, r.vo, none⟩) r.b.vals.length r.vc = .slice (some ⟨g, o, none⟩) r.b.vals.length cap := e2
 injection e2' with e3 _ e4
 injection e3 with e3
 injection e3 with e5 e6 _
 subst e4 e5 e6
 obtain ⟨ys, h7, h8, h9⟩ := vals_raw r.b.vals r.vg r.vo h6
 refine ⟨K, ko, kc, ys, e1, h1, h2, fun j v hv => ?_, h4, h7, fun j v hv => ?_, h9, fun v hv => ?_⟩
 ·rw [List.getElem?_map] at hv
  cases hk : r.b.keys[j]? with
  | none => rw [hk] at hv; cases hv
  | some d =>
   rw [hk] at hv
   cases hv
   obtain ⟨v, q1, q2⟩ := h3 j d hk
   have q3 : v = .string d := by
    cases (q2 : Rv (hp W) Q (.v (.string d)) v)
    rfl
   rw [add_mk, ← q3]
   exact q1
 ·rw [add_mk]
  exact h8 j v hv
 ·obtain ⟨i, hi⟩ := List.mem_iff_getElem?.1 hv
  have hlt := (List.getElem?_eq_some_iff.1 hi).1
  obtain ⟨y, q1, q2⟩ := h9 i (r.b.vals[i]'(by omega)) (List.getElem?_eq_getElem (by omega))
  rw [hi] at q1
  cases q1
  obtain ⟨a, n, cap, rfl⟩ := rv_slice q2
  rfl
theorem raw_one {h : Nat → Option Obj} {Q : Nat → Prop} {rs : List BRaw} (ok : ∀ r ∈ rs, OkB h Q r) : ∀ v ∈ raw2 rs, v.oneCell' = true := fun v hv => by
 unfold raw2 at hv
 obtain ⟨r, hr, hv⟩ := List.mem_flatMap.1 hv
 have h1 := ok r hr
 simp only [List.mem_cons, List.not_mem_nil, or_false] at hv
 rcases hv with rfl | rfl
 ·obtain ⟨a, n, cap, e⟩ := rv_slice h1.k
  rw [e]; rfl
 ·rfl
def SetOk (W : World) (Q Qv : Nat → Prop) (B L : Nat) (rs : List BRaw) (rows' : List TRow) (W' : World) : Prop :=
 ∃ (Q' : Nat → Prop) (L' lo' : Nat) (lv' : Value) (rs' : List BRaw), Chg (fun k => k = B ∨ Q k ∨ (0 < rs.length ∧ k = L)) W W' ∧ Lay (hp W') Q' B L' lo' lv' rs' ∧ W'.heap[B]? = some (.cells #[lv', .int .i64 (rows'.length : Int)] 67 (0, 0)) ∧ GoodB (rs'.map (·.b)) ∧
  rowsOf (rs'.map (·.b)) = rows' ∧ (∀ g, Q' g → Q g ∨ Qv g ∨ W.heap.size ≤ g) ∧ (0 < rs'.length → (0 < rs.length ∧ L' = L) ∨ W.heap.size ≤ L')
section
variable {W : World} {Q Qv : Nat → Prop} {B L lo : Nat} {lv : Value} {rs : List BRaw} {key : ByteArray} {cells : List TCell} {va : Option Addr} {vn vcp : Nat}
set_option maxHeartbeats 1000000 in
/-- The key does not stand there, and there are blocks. -/
theorem set_in (hl : Lay (hp W) Q B L lo lv rs) (hg : GoodB (rs.map (·.b))) (hB : W.heap[B]? = some (.cells #[lv, .int .i64 ((rowsOf (rs.map (·.b))).length : Int)] 67 (0, 0))) (hsz : (rowsOf (rs.map (·.b))).length ≤ 1099511627775)
  (hv : Rv (hp W) Qv (.sl .cell cells) (.slice va vn vcp)) (hQv : ∀ g, Qv g → g < W.heap.size) (hvB : ¬ Qv B) (hvL : 0 < rs.length → ¬ Qv L)
  {ra rc : List BRaw} {r : BRaw} (hrs : rs = ra ++ [r] ++ rc) {k1 k2 : List ByteArray} {v1 v2 : List (List TCell)} (hrb : r.b = ⟨k1 ++ k2, v1 ++ v2⟩) (l1 : k1.length = v1.length) (l2 : k2.length = v2.length)
  (ea : atI (rs.map (·.b)) key = (ra.length, k1.length, false) ∨ (atI (rs.map (·.b)) key = (rs.length, 0, false) ∧ rc = [] ∧ k2 = []))
  (lo' : ∀ x ∈ (ra.map (·.b)).flatMap TBlock.keys ++ k1, kLt x key = true) (hi : ∀ x ∈ k2 ++ (rc.map (·.b)).flatMap TBlock.keys, kLt key x = true) :
  Calls Try.prog 27 #[.pointer (some ⟨B, 0, none⟩), .string key, .slice va vn vcp] W fun e W' => e = .returned (.tuple #[]) ∧ SetOk W Q Qv B L rs (setR (rowsOf (rs.map (·.b))) ⟨key, cells⟩) W' := by
 have hpos : 0 < rs.length := by rw [hrs]; simp; omega
 have hat := at_calls hl hB hg (fair_of hg hsz) key
 obtain ⟨lc, hlv, hlc⟩ := hl.slice hpos
 obtain ⟨nqL, hLB, curL, eL, h1, h2, h3⟩ := hl.row hpos
 have hri : rs[ra.length]? = some r := by rw [hrs, List.append_assoc, List.getElem?_append_right (Nat.le_refl _), Nat.sub_self]; rfl
 obtain ⟨cK, cV⟩ := hl.cells hri
 have hilt : ra.length < rs.length := (List.getElem?_eq_some_iff.1 hri).1
 have okr := hl.ok r (List.mem_of_getElem? hri)
 have hgr := hg.len r.b (List.mem_map.2 ⟨r, List.mem_of_getElem? hri, rfl⟩)
 have hkl : r.b.keys.length = k1.length + k2.length := by rw [hrb]; exact List.length_append
 obtain ⟨K, ko, kc, ys, e1, q1, q2, q3, q4, q5, q6, q7, q8⟩ := okr.open hgr.1 hgr.2
 have hfair := rowsOf_len hg.len
 have hkm := hfair.2 r.b (List.mem_map.2 ⟨r, List.mem_of_getElem? hri, rfl⟩)
 have hbs := hfair.1
 rw [List.length_map] at hbs
 have hvm : r.b.vals.length = k1.length + k2.length := by omega
 have hK' : W.cell? ⟨L, lo + ra.length * 2, none⟩ = some (.slice (some ⟨K, ko, none⟩) (k1.length + k2.length) kc) := by rw [cK, e1, hkl]
 have hV' : W.cell? ⟨L, lo + ra.length * 2 + 1, none⟩ = some (.slice (some ⟨r.vg, r.vo, none⟩) (k1.length + k2.length) r.vc) := by rw [cV]; show some (Value.slice _ _ _) = _; rw [hvm]
 have hB' := hB
 rw [hlv] at hB'
 have one1 : ∀ v ∈ (curL.toList.drop lo).take (rs.length * 2), v.oneCell' = true := by rw [h3]; exact raw_one hl.ok
 have onek : ∀ v ∈ r.b.keys.map Value.string, v.oneCell' = true := fun v hv => by
  obtain ⟨d, _, rfl⟩ := List.mem_map.1 hv
  rfl
 have fin : ∀ W', SetPost W B L lo ra.length (k1.length + k2.length) rs.length lc ((rowsOf (rs.map (·.b))).length : Int) curL eL ((k1 ++ key :: k2).map .string) (ys.take v1.length ++ [.slice va vn vcp] ++ ys.drop v1.length) W' → SetOk W Q Qv B L rs (setR (rowsOf (rs.map (·.b))) ⟨key, cells⟩) W' := fun W' hpost => by
  obtain ⟨Q', L', lo2, lv', new, z1, z2, z3, z4, z5, z6, z7, z8⟩ := post_lay (hrs ▸ hl) l1 l2 rfl (blk_lt hB) h1 (by rw [q5, hrb]) (by rw [hrb] at q7; exact q7) hv hQv hvB (hvL hpos) rfl rfl (by rw [hrs]) hlv hlc hpost
  have hgm : GoodB (ra.map (·.b) ++ [⟨k1 ++ k2, v1 ++ v2⟩] ++ rc.map (·.b)) := by
   have := hg
   rw [hrs, List.map_append, List.map_append] at this
   rw [← hrb]
   exact this
  obtain ⟨y1, y2, y3⟩ := ins_rows hgm l1 lo' hi z6 z7 z8
  have em : rs.map (·.b) = ra.map (·.b) ++ [⟨k1 ++ k2, v1 ++ v2⟩] ++ rc.map (·.b) := by rw [hrs, List.map_append, List.map_append, ← hrb]; rfl
  have em' : (ra ++ new ++ rc).map (·.b) = ra.map (·.b) ++ new.map (·.b) ++ rc.map (·.b) := by rw [List.map_append, List.map_append]
  refine ⟨Q', L', lo2, lv', ra ++ new ++ rc, z3.mono (fun k hk => ?_), z1, ?_, by rw [em']; exact y1, by rw [em', y2, em], z4, fun _ => ?_⟩
  ·rcases hk with rfl | rfl
   ·exact .inl rfl
   ·exact .inr (.inr ⟨hpos, rfl⟩)
  ·rw [z2, em, ← y2, y3]
   rfl
  ·rcases z5 with rfl | h
   ·exact .inl ⟨hpos, rfl⟩
   ·exact .inr h
 rcases ea with ea | ⟨ea, hrc, hk2⟩
 ·rw [ea] at hat
  refine (set_ins W B L lo ra.length k1.length (k1.length + k2.length) lc K ko kc r.vg r.vo r.vc rs.length _ key va vn vcp curL eL (r.b.keys.map .string) ys ((k1 ++ key :: k2).map .string) (ys.take v1.length ++ [.slice va vn vcp] ++ ys.drop v1.length) ?_ (by rw [l1]; exact rfl) hat hB' (by omega) (by omega) hLB (fun e => hl.nB (e ▸ q2)) (fun e => hl.nB (e ▸ okr.q)) h1 (by omega) hlc one1 h2 hilt (by omega) hK' hV' (by omega) (by omega) (by omega) (by omega) (hl.lt q2) (hl.lt okr.q) (by rw [List.length_map]; omega) (by omega) q3 q6 onek q8).mono fun e W' ⟨h5, h6⟩ => ⟨h5, fin W' h6⟩
  rw [hrb]
  show (List.map Value.string (k1 ++ k2)).take k1.length ++ [.string key] ++ (List.map Value.string (k1 ++ k2)).drop k1.length = _
  rw [← List.map_take, ← List.map_drop, List.take_left, List.drop_left]
  simp
 ·subst hrc hk2
  have hv2 : v2 = [] := List.eq_nil_of_length_eq_zero (by rw [← l2]; rfl)
  subst hv2
  rw [ea] at hat
  have hn1 : rs.length = ra.length + 1 := by rw [hrs]; simp
  simp only [List.append_nil, List.length_nil, Nat.add_zero] at *
  refine (set_end W B L lo ra.length k1.length lc K ko kc r.vg r.vo r.vc rs.length _ key va vn vcp curL eL (r.b.keys.map .string) ys ((k1 ++ [key]).map .string) (ys.take v1.length ++ [.slice va vn vcp] ++ ys.drop v1.length) ?_ (by rw [l1]; exact rfl) hat hB' (by omega) (by omega) hLB (fun e => hl.nB (e ▸ q2)) (fun e => hl.nB (e ▸ okr.q)) h1 (by omega) hlc one1 h2 hilt (by omega) hK' hV' hn1 (by omega) (by omega) (by omega) (hl.lt q2) (hl.lt okr.q) (by rw [List.length_map]; omega) (by omega) q3 q6 onek q8).mono fun e W' ⟨h5, h6⟩ => ⟨h5, fin W' h6⟩
  rw [hrb]
  show (List.map Value.string k1).take k1.length ++ [.string key] ++ (List.map Value.string k1).drop k1.length = _
  rw [← List.map_take, ← List.map_drop, List.take_of_length_le (Nat.le_refl _), List.drop_eq_nil_of_le (Nat.le_refl _)]
  simp
end
end Go.Proofs.Ytnfmceffbnaanaa
namespace Go.Proofs.Ytnfmceffbnaanaa
open Go.RowKit
theorem hit_rows {A C : List TBlock} {k1 k2 : List ByteArray} {v1 v2 : List (List TCell)} {key : ByteArray} {v cells : List TCell} (hg : GoodB (A ++ [⟨k1 ++ key :: k2, v1 ++ v :: v2⟩] ++ C)) (l1 : k1.length = v1.length)
  (lo : ∀ x ∈ A.flatMap TBlock.keys ++ k1, kLt x key = true) (hi : ∀ x ∈ k2 ++ C.flatMap TBlock.keys, kLt key x = true) :
  GoodB (A ++ [⟨k1 ++ key :: k2, v1 ++ cells :: v2⟩] ++ C) ∧ rowsOf (A ++ [⟨k1 ++ key :: k2, v1 ++ cells :: v2⟩] ++ C) = setR (rowsOf (A ++ [⟨k1 ++ key :: k2, v1 ++ v :: v2⟩] ++ C)) ⟨key, cells⟩ ∧
   (rowsOf (A ++ [⟨k1 ++ key :: k2, v1 ++ cells :: v2⟩] ++ C)).length = (rowsOf (A ++ [⟨k1 ++ key :: k2, v1 ++ v :: v2⟩] ++ C)).length := by
 have e1 : ∀ u : List TCell, rowsOf (A ++ [⟨k1 ++ key :: k2, v1 ++ u :: v2⟩] ++ C) = (rowsOf A ++ rowsB ⟨k1, v1⟩) ++ [⟨key, u⟩] ++ (rowsB ⟨k2, v2⟩ ++ rowsOf C) := fun u => by
  rw [rowsOf_app, rowsOf_app, rowsOf_cons, rowsB_app l1, rowsB_cons]
  simp [rowsOf]
 refine ⟨good_put hg (fun b hb => ?_) rfl ?_, ?_, ?_⟩
 ·rw [List.mem_singleton.1 hb]
  have := hg.len ⟨k1 ++ key :: k2, v1 ++ v :: v2⟩ (by simp)
  simpa using this
 ·have := hg.ord
  rw [List.flatMap_append, List.flatMap_append] at this
  exact this
 ·rw [e1, e1, setR_cut (r := ⟨key, cells⟩) (cut_of lo hi) (fun x hx => by rw [List.mem_singleton.1 hx])]
  simp
 ·rw [e1, e1]
  simp
section
variable {W : World} {Q Qv : Nat → Prop} {B L lo : Nat} {lv : Value} {rs : List BRaw} {key : ByteArray} {cells : List TCell} {va : Option Addr} {vn vcp : Nat}
set_option maxHeartbeats 1000000 in
theorem set_at (hl : Lay (hp W) Q B L lo lv rs) (hg : GoodB (rs.map (·.b))) (hB : W.heap[B]? = some (.cells #[lv, .int .i64 ((rowsOf (rs.map (·.b))).length : Int)] 67 (0, 0))) (hsz : (rowsOf (rs.map (·.b))).length ≤ 1099511627775)
  (hv : Rv (hp W) Qv (.sl .cell cells) (.slice va vn vcp)) (hQv : ∀ g, Qv g → g < W.heap.size) (hvB : ¬ Qv B) (hvL : 0 < rs.length → ¬ Qv L)
  {ra rc : List BRaw} {r : BRaw} (hrs : rs = ra ++ [r] ++ rc) {k1 k2 : List ByteArray} {v1 v2 : List (List TCell)} {v : List TCell} (hrb : r.b = ⟨k1 ++ key :: k2, v1 ++ v :: v2⟩) (l1 : k1.length = v1.length)
  (ea : atI (rs.map (·.b)) key = (ra.length, k1.length, true))
  (lo' : ∀ x ∈ (ra.map (·.b)).flatMap TBlock.keys ++ k1, kLt x key = true) (hi : ∀ x ∈ k2 ++ (rc.map (·.b)).flatMap TBlock.keys, kLt key x = true) :
  Calls Try.prog 27 #[.pointer (some ⟨B, 0, none⟩), .string key, .slice va vn vcp] W fun e W' => e = .returned (.tuple #[]) ∧ SetOk W Q Qv B L rs (setR (rowsOf (rs.map (·.b))) ⟨key, cells⟩) W' := by
 have hpos : 0 < rs.length := by rw [hrs]; simp; omega
 have hat := at_calls hl hB hg (fair_of hg hsz) key
 rw [ea] at hat
 obtain ⟨lc, hlv, hlc⟩ := hl.slice hpos
 obtain ⟨nqL, hLB, curL, eL, h1, h2, h3⟩ := hl.row hpos
 have hri : rs[ra.length]? = some r := by rw [hrs, List.append_assoc, List.getElem?_append_right (Nat.le_refl _), Nat.sub_self]; rfl
 obtain ⟨cK, cV⟩ := hl.cells hri
 have hilt : ra.length < rs.length := (List.getElem?_eq_some_iff.1 hri).1
 have okr := hl.ok r (List.mem_of_getElem? hri)
 have hgr := hg.len r.b (List.mem_map.2 ⟨r, List.mem_of_getElem? hri, rfl⟩)
 obtain ⟨K, ko, kc, ys, e1, q1, q2, q3, q4, q5, q6, q7, q8⟩ := okr.open hgr.1 hgr.2
 have hjv : r.b.vals[k1.length]? = some v := by rw [hrb, l1]; show (v1 ++ v :: v2)[v1.length]? = _; rw [List.getElem?_append_right (Nat.le_refl _), Nat.sub_self]; rfl
 have hjlt := (List.getElem?_eq_some_iff.1 hjv).1
 obtain ⟨y0, hy0, hry0⟩ := q7 _ v hjv
 have hc0 := q6 _ y0 hy0
 rw [add_mk] at hc0
 obtain ⟨a0, n0, c0, rfl⟩ := rv_slice hry0
 obtain ⟨curV, eV, hown⟩ := okr.own
 have hB' := hB
 rw [hlv] at hB'
 refine (set_hit W B L lo ra.length k1.length r.b.vals.length lc r.vc r.vg r.vo rs.length _ key va vn vcp _ hat hB' hilt cV hjlt hc0 (blk_frozen hown _) (hl.lt okr.q)).mono fun e W' ⟨h5, W1, hb1, hW'⟩ => ⟨h5, ?_⟩
 subst hW'
 have hne : ∀ {a : Addr} {y : Value}, celH (hp W) a = some y → nosl y = true → a ≠ ⟨r.vg, r.vo + k1.length, none⟩ := fun {a y} hy hn e => by
  subst e
  have hy' : W.cell? _ = some y := hy
  rw [hc0] at hy'
  cases hy'
  cases hn
 have keep : ∀ {a : Addr} {y : Value}, a.block < W.heap.size → celH (hp W) a = some y → a ≠ ⟨r.vg, r.vo + k1.length, none⟩ → celH (hp (W1.setCell ⟨r.vg, r.vo + k1.length, none⟩ (.slice va vn vcp))) a = some y := fun {a y} hlt hy hne => by
  show World.cell? _ a = some y
  have hs := celH_spot hy
  rw [World.cell?_setCell_other _ _ _ _ (fun e => hne e.symm)]
  rw [addr_eq hs] at hlt ⊢
  rw [hb1.cell (p := ⟨a.block, a.off, none⟩) hlt, ← addr_eq hs]
  exact hy
 let Q' : Nat → Prop := fun g => Q g ∨ Qv g
 have lt' : ∀ g, Q' g → g < W.heap.size := fun g hg => hg.elim (fun h => hl.lt h) (hQv g)
 have flatQ : ∀ {P : Nat → Prop} {c : TC} {l : List (U c)} {y : Value}, (∀ g, P g → Q' g) → (∀ d x, x ∈ enc c d → ∃ v, x = .v v ∧ nosl v = true) → Rv (hp W) P (.sl c l) y → Rv (hp (W1.setCell ⟨r.vg, r.vo + k1.length, none⟩ (.slice va vn vcp))) Q' (.sl c l) y := fun hP hf h =>
  rv_flat hP hf (fun a ha y hy hn => keep (lt' _ (hP _ ha)) hy (hne hy hn)) h
 have blkQ : ∀ g, g < W.heap.size → g ≠ r.vg → (W1.setCell ⟨r.vg, r.vo + k1.length, none⟩ (.slice va vn vcp)).heap[g]? = W.heap[g]? := fun g hg hn => (Below.heap_setCell _ _ _ g hn).trans (hb1.block g hg)
 have blkV : (W1.setCell ⟨r.vg, r.vo + k1.length, none⟩ (.slice va vn vcp)).heap[r.vg]? = some (.cells (curV.setIfInBounds (r.vo + k1.length) (.slice va vn vcp)) eV (0, 0)) := set_same (blk_next hown hb1) _
 have okQ : ∀ q ∈ ra ++ rc, OkB (hp (W1.setCell ⟨r.vg, r.vo + k1.length, none⟩ (.slice va vn vcp))) Q' q := fun q hq => by
  have hqrs : q ∈ rs := by rw [hrs]; simp at hq ⊢; rcases hq with h | h; exact .inl h; exact .inr (.inr h)
  have okq := hl.ok q hqrs
  have hgq := hg.len q.b (List.mem_map.2 ⟨q, hqrs, rfl⟩)
  have hap : apart q r := by
   have := hl.sep
   rw [hrs] at this
   obtain ⟨s1, s2, s3⟩ := List.pairwise_append.1 this
   obtain ⟨s4, s5, s6⟩ := List.pairwise_append.1 s1
   rcases List.mem_append.1 hq with h | h
   ·exact s6 q h r (List.mem_singleton.2 rfl)
   ·exact apart_symm (s3 r (by simp) q h)
  obtain ⟨g, o, cap, e2, h4, h5, h6⟩ := rv1_inv (c := .cells) rfl okq.v (by omega)
  have e2' : Value.slice (some ⟨q.vg, q.vo, none⟩) q.b.vals.length q.vc = .slice (some ⟨g, o, none⟩) q.b.vals.length cap := e2
  injection e2' with e3 _ e4
  injection e3 with e3
  injection e3 with e5 e6 _
  subst e4 e5 e6
  refine ⟨flatQ (fun g h => .inl h) flat_str okq.k, rv1_mk rfl h4 (.inl h5) fun i d hd => ?_, .inl okq.q, ?_⟩
  ·obtain ⟨w, w1, w2⟩ := h6 i d hd
   have hi := (List.getElem?_eq_some_iff.1 hd).1
   refine ⟨w, keep (hl.lt h5) w1 (fun e => ?_), flatQ (fun g h => .inl h) flat_cell w2⟩
   injection e with e7 e8 _
   rcases hap e7 with h9 | h9 <;> omega
  ·by_cases e : q.vg = r.vg
   ·exact ⟨_, _, by rw [e]; exact blkV⟩
   ·obtain ⟨cq, eq, h7⟩ := okq.own
    exact ⟨cq, eq, (blkQ _ (hl.lt okq.q) e).trans h7⟩
 have hkr : r.b.keys = k1 ++ key :: k2 := by rw [hrb]
 have hvr : r.b.vals = v1 ++ v :: v2 := by rw [hrb]
 have hvl : (v1 ++ cells :: v2).length = r.b.vals.length := by rw [hvr]; simp
 let r' : BRaw := ⟨⟨k1 ++ key :: k2, v1 ++ cells :: v2⟩, r.kv, r.vg, r.vo, r.vc⟩
 have hvv : r'.vv = r.vv := by show Value.slice _ (v1 ++ cells :: v2).length _ = Value.slice _ _ _; rw [hvl]
 have okr' : OkB (hp (W1.setCell ⟨r.vg, r.vo + k1.length, none⟩ (.slice va vn vcp))) Q' r' := by
  refine ⟨?_, rv1_mk rfl (by rw [hvl]; exact q4) (.inl okr.q) fun i d hd => ?_, .inl okr.q, _, _, blkV⟩
  ·show Rv _ _ (.sl .str (k1 ++ key :: k2)) r.kv
   rw [← hkr]
   exact flatQ (fun g h => .inl h) flat_str okr.k
  ·by_cases hij : i = k1.length
   ·subst hij
    have hd' : (v1 ++ cells :: v2)[k1.length]? = some d := hd
    rw [l1, List.getElem?_append_right (Nat.le_refl _), Nat.sub_self] at hd'
    cases hd'
    refine ⟨.slice va vn vcp, ?_, flatQ (fun g h => .inr h) flat_cell hv⟩
    show World.cell? _ _ = _
    have hc1 := cell_next hb1 hc0
    exact World.cell?_setCell_same _ _ _ hc1
   ·have hd' : (v1 ++ cells :: v2)[i]? = some d := hd
    have hd2 : r.b.vals[i]? = some d := by
     rw [hvr]
     rcases Nat.lt_or_ge i v1.length with h | h
     ·rw [List.getElem?_append_left h] at hd' ⊢; exact hd'
     ·rw [List.getElem?_append_right h, show i - v1.length = (i - v1.length - 1) + 1 from by omega] at hd' ⊢
      exact hd'
    obtain ⟨w, w1, w2⟩ := q7 i d hd2
    have w3 := q6 i w w1
    rw [add_mk] at w3
    exact ⟨w, keep (hl.lt okr.q) w3 (fun e => by have e8 : r.vo + i = r.vo + k1.length := congrArg Addr.off e; omega), flatQ (fun g h => .inl h) flat_cell w2⟩
 have hgm : GoodB (ra.map (·.b) ++ [⟨k1 ++ key :: k2, v1 ++ v :: v2⟩] ++ rc.map (·.b)) := by
  have := hg
  rw [hrs, List.map_append, List.map_append] at this
  rw [← hrb]
  exact this
 obtain ⟨y1, y2, y3⟩ := hit_rows (cells := cells) hgm l1 lo' hi
 have em : rs.map (·.b) = ra.map (·.b) ++ [⟨k1 ++ key :: k2, v1 ++ v :: v2⟩] ++ rc.map (·.b) := by rw [hrs, List.map_append, List.map_append, ← hrb]; rfl
 have em' : (ra ++ [r'] ++ rc).map (·.b) = ra.map (·.b) ++ [⟨k1 ++ key :: k2, v1 ++ cells :: v2⟩] ++ rc.map (·.b) := by rw [List.map_append, List.map_append]; rfl
 have hlen : (ra ++ [r'] ++ rc).length = rs.length := by rw [hrs]; simp
 have hVB : B ≠ r.vg := fun e => hl.nB (e ▸ okr.q)
 have hVL : L ≠ r.vg := fun e => nqL (e ▸ okr.q)
 refine ⟨Q', L, lo, lv, ra ++ [r'] ++ rc, ?_, lay_put (old := [r]) (hrs ▸ hl) ?_ (fun g hg => ?_) okQ ⟨_, lc, by rw [hlen]; exact hlv, by rw [hlen]; exact hlc, fun _ => rfl⟩ (fun _ => ⟨?_, hLB, curL, eL, (blkQ L (blk_lt h1) hVL).trans h1, by rw [hlen]; exact h2, ?_⟩) (fun q hq => by rw [List.mem_singleton.1 hq]; exact okr') (fun q hq => .inr ⟨r, List.mem_singleton.2 rfl, ?_⟩) (List.pairwise_singleton _ _), ?_, by rw [em']; exact y1, by rw [em', y2, em], fun g hg => ?_, fun _ => .inl ⟨hpos, rfl⟩⟩
 ·exact (Chg.below (Chg.refl (fun k => k = B ∨ Q k ∨ (0 < rs.length ∧ k = L)) W) hb1).set (.inl (.inr (.inl okr.q))) _
 ·rintro (h | h)
  ·exact hl.nB h
  ·exact hvB h
 ·by_cases e : g = r.vg
  ·exact ⟨_, by rw [e]; exact blkV⟩
  ·exact ⟨_, (blkQ g (lt' g hg) e).trans (Array.getElem?_eq_getElem (lt' g hg))⟩
 ·rintro (h | h)
  ·exact nqL h
  ·exact hvL hpos h
 ·rw [hlen, h3, hrs, raw2_app, raw2_app, raw2_app, raw2_app]
  show _ ++ [r.kv, r.vv] ++ _ = _ ++ [r'.kv, r'.vv] ++ _
  rw [hvv]
 ·rw [List.mem_singleton.1 hq]
  exact ⟨rfl, Nat.le_refl _, by show r.vo + (v1 ++ cells :: v2).length ≤ _; omega⟩
 ·rw [blkQ B (blk_lt hB) hVB, hB, em, ← y2, y3]
 ·rcases hg with h | h
  ·exact .inl h
  ·exact .inr (.inl h)
end
end Go.Proofs.Ytnfmceffbnaanaa
namespace Go.Proofs.Ytnfmceffbnaanaa
open Go.RowKit
section
variable {W : World} {Q Qv : Nat → Prop} {B L lo : Nat} {lv : Value} {rs : List BRaw} {key : ByteArray} {cells : List TCell} {va : Option Addr} {vn vcp : Nat}
theorem set_new (hl : Lay (hp W) Q B L lo lv []) (hB : W.heap[B]? = some (.cells #[lv, .int .i64 0] 67 (0, 0)))
  (hv : Rv (hp W) Qv (.sl .cell cells) (.slice va vn vcp)) (hQv : ∀ g, Qv g → g < W.heap.size) (hvB : ¬ Qv B) :
  Calls Try.prog 27 #[.pointer (some ⟨B, 0, none⟩), .string key, .slice va vn vcp] W fun e W' => e = .returned (.tuple #[]) ∧ SetOk W Q Qv B L [] (setR [] ⟨key, cells⟩) W' := by
 have hg0 : GoodB (([] : List BRaw).map (·.b)) := ⟨(fun b hb => by cases hb), List.Pairwise.nil⟩
 have hat := at_calls hl hB hg0 ⟨Nat.zero_le _, (fun b hb => by cases hb)⟩ key
 obtain ⟨a, lc, hlv, _, _⟩ := hl.lv
 have hB' := hB
 rw [hlv] at hB'
 refine (set_first W B lc a 0 key va vn vcp hat hB' (by omega) (by omega)).mono fun e W' ⟨h5, hc, g, z1, z2, z3, z4, z5⟩ => ⟨h5, ?_⟩
 have hBlt := blk_lt hB
 let Q' : Nat → Prop := fun x => Qv x ∨ x = g ∨ x = g + 1
 have keepV : ∀ x, Qv x → W'.heap[x]? = W.heap[x]? := fun x hx => hc.keep x (hQv x hx) fun e => hvB (e ▸ hx)
 let r' : BRaw := ⟨⟨[key], [cells]⟩, .slice (some ⟨g, 0, none⟩) 1 1, g + 1, 0, 1⟩
 have okr : OkB (hp W') Q' r' := by
  refine ⟨rv_strs (h := hp W') (l := [key]) z2 (.inr (.inl rfl)) (Nat.le_refl _) rfl, rv_vals (h := hp W') (l := [cells]) (ys := [.slice va vn vcp]) z3 (.inr (.inr rfl)) (Nat.le_refl _) rfl (fun i d hd => ?_), .inr (.inr rfl), _, _, z3⟩
  cases i with
  | zero =>
   cases hd
   refine ⟨_, rfl, rv_mono (fun x hx => .inl hx) (fun a ha y hy => ?_) hv⟩
   unfold celH at hy ⊢
   show (match W'.heap[a.block]? with | some (.cells c _ _) => _ | _ => _) = _
   rw [keepV _ ha]
   exact hy
  | succ i => cases hd
 refine ⟨Q', g + 2, 0, _, [r'], hc.mono fun k h => .inl h, ⟨?_, fun x hx => ?_, ⟨_, 1, rfl, Nat.le_refl _, fun _ => rfl⟩, fun _ => ⟨?_, by omega, _, _, z4, Nat.le_refl _, rfl⟩, fun q hq => by rw [List.mem_singleton.1 hq]; exact okr, List.pairwise_singleton _ _⟩, z5, ⟨fun b hb => ?_, List.pairwise_singleton _ _⟩, rfl, fun x hx => ?_, fun _ => .inr (by omega)⟩
 ·rintro (h | h | h)
  ·exact hvB h
  ·omega
  ·omega
 ·rcases hx with h | rfl | rfl
  ·exact ⟨_, (keepV x h).trans (Array.getElem?_eq_getElem (hQv x h))⟩
  ·exact ⟨_, z2⟩
  ·exact ⟨_, z3⟩
 ·rintro (h | h | h)
  ·have := hQv _ h; omega
  ·omega
  ·omega
 ·have : b = ⟨[key], [cells]⟩ := by simpa using hb
  rw [this]
  exact ⟨rfl, Nat.zero_lt_one⟩
 ·rcases hx with h | rfl | rfl
  ·exact .inr (.inl h)
  ·exact .inr (.inr z1)
  ·exact .inr (.inr (by omega))
theorem bset_ok (hl : Lay (hp W) Q B L lo lv rs) (hg : GoodB (rs.map (·.b))) (hB : W.heap[B]? = some (.cells #[lv, .int .i64 ((rowsOf (rs.map (·.b))).length : Int)] 67 (0, 0))) (hsz : (rowsOf (rs.map (·.b))).length ≤ 1099511627775)
  (hv : Rv (hp W) Qv (.sl .cell cells) (.slice va vn vcp)) (hQv : ∀ g, Qv g → g < W.heap.size) (hvB : ¬ Qv B) (hvL : 0 < rs.length → ¬ Qv L) :
  Calls Try.prog 27 #[.pointer (some ⟨B, 0, none⟩), .string key, .slice va vn vcp] W fun e W' => e = .returned (.tuple #[]) ∧ SetOk W Q Qv B L rs (setR (rowsOf (rs.map (·.b))) ⟨key, cells⟩) W' := by
 cases at_case hg key with
 | hit A C k1 k2 v1 v2 v e l1 l2 ea lo' hi =>
  obtain ⟨ra, r, rc, e1, e2, e3, e4⟩ := map_split e
  subst e2 e4
  rw [List.length_map] at ea
  exact set_at hl hg hB hsz hv hQv hvB hvL (ra := ra) (r := r) (rc := rc) (by rw [e1]; simp) e3 l1 ea lo' hi
 | mid A C k1 k2 v1 v2 e l1 l2 l3 ea lo' hi =>
  obtain ⟨ra, r, rc, e1, e2, e3, e4⟩ := map_split e
  subst e2 e4
  rw [List.length_map] at ea
  exact set_in hl hg hB hsz hv hQv hvB hvL (ra := ra) (r := r) (rc := rc) (by rw [e1]; simp) e3 l1 l2 (.inl ea) lo' hi
 | all ea lo' =>
  rcases List.eq_nil_or_concat rs with rfl | ⟨ra, r, rfl⟩
  ·exact set_new hl hB hv hQv hvB
  ·rw [List.length_map] at ea
   have hgr := hg.len r.b (by simp)
   refine set_in hl hg hB hsz hv hQv hvB hvL (ra := ra) (r := r) (rc := []) (k1 := r.b.keys) (k2 := []) (v1 := r.b.vals) (v2 := []) (by simp) (by rw [List.append_nil, List.append_nil]) hgr.1 rfl (.inr ⟨ea, rfl, rfl⟩) (fun x hx => lo' x ?_) (fun x hx => by cases hx)
   simpa using hx
end
end Go.Proofs.Ytnfmceffbnaanaa
namespace Go.Proofs.Ytnfmceffbnaanaa
open Go.RowKit
theorem celH_keep {W W' : World} {P : Nat → Prop} (hP : ∀ g, P g → W'.heap[g]? = W.heap[g]?) : ∀ a, P a.block → ∀ y, celH (hp W) a = some y → celH (hp W') a = some y := fun a ha y hy => by
 unfold celH at hy ⊢
 show (match W'.heap[a.block]? with | some (.cells c _ _) => _ | _ => _) = _
 rw [hP _ ha]
 exact hy
theorem lay_below {W W' : World} {Q : Nat → Prop} {B L lo : Nat} {lv : Value} {rs : List BRaw} (hl : Lay (hp W) Q B L lo lv rs) (hb : Below W.heap.size W W') : Lay (hp W') Q B L lo lv rs where
 nB := hl.nB
 ex g hg := by
  obtain ⟨o, ho⟩ := hl.ex g hg
  exact ⟨o, (hb.block g (hl.lt hg)).trans ho⟩
 lv := hl.lv
 row h := by
  obtain ⟨h1, h2, cur, e, h3, h4⟩ := hl.row h
  exact ⟨h1, h2, cur, e, (hb.block L (blk_lt h3)).trans h3, h4⟩
 ok r hr := (hl.ok r hr).keep (fun _ h => h) fun g hg => hb.block g (hl.lt hg)
 sep := hl.sep
theorem rem_rows {A C new : List TBlock} {k1 k2 : List ByteArray} {v1 v2 : List (List TCell)} {key : ByteArray} {v : List TCell} (hg : GoodB (A ++ [⟨k1 ++ key :: k2, v1 ++ v :: v2⟩] ++ C)) (l1 : k1.length = v1.length)
  (lo : ∀ x ∈ A.flatMap TBlock.keys ++ k1, kLt x key = true) (hi : ∀ x ∈ k2 ++ C.flatMap TBlock.keys, kLt key x = true) (hn : ∀ b ∈ new, b.keys.length = b.vals.length ∧ 0 < b.keys.length) (hk : new.flatMap TBlock.keys = k1 ++ k2)
  (hr : rowsOf new = rowsB ⟨k1, v1⟩ ++ rowsB ⟨k2, v2⟩) : GoodB (A ++ new ++ C) ∧ rowsOf (A ++ new ++ C) = dropR (rowsOf (A ++ [⟨k1 ++ key :: k2, v1 ++ v :: v2⟩] ++ C)) key ∧ (rowsOf (A ++ [⟨k1 ++ key :: k2, v1 ++ v :: v2⟩] ++ C)).length = (rowsOf (A ++ new ++ C)).length + 1 ∧
   hasR (rowsOf (A ++ [⟨k1 ++ key :: k2, v1 ++ v :: v2⟩] ++ C)) key = true := by
 have e1 : rowsOf (A ++ [⟨k1 ++ key :: k2, v1 ++ v :: v2⟩] ++ C) = (rowsOf A ++ rowsB ⟨k1, v1⟩) ++ [⟨key, v⟩] ++ (rowsB ⟨k2, v2⟩ ++ rowsOf C) := by
  rw [rowsOf_app, rowsOf_app, rowsOf_cons, rowsB_app l1, rowsB_cons]
  simp [rowsOf]
 have e2 : rowsOf (A ++ new ++ C) = (rowsOf A ++ rowsB ⟨k1, v1⟩) ++ (rowsB ⟨k2, v2⟩ ++ rowsOf C) := by
  rw [rowsOf_app, rowsOf_app, hr]
  simp
 refine ⟨good_put hg hn hk ?_, ?_, ?_, ?_⟩
 ·have := hg.ord
  rw [List.flatMap_append, List.flatMap_append] at this
  have e3 : A.flatMap TBlock.keys ++ [(⟨k1 ++ key :: k2, v1 ++ v :: v2⟩ : TBlock)].flatMap TBlock.keys ++ C.flatMap TBlock.keys = (A.flatMap TBlock.keys ++ k1) ++ key :: (k2 ++ C.flatMap TBlock.keys) := by simp
  rw [e3] at this
  obtain ⟨s1, s2, s3⟩ := List.pairwise_append.1 this
  have e4 : A.flatMap TBlock.keys ++ (k1 ++ k2) ++ C.flatMap TBlock.keys = (A.flatMap TBlock.keys ++ k1) ++ (k2 ++ C.flatMap TBlock.keys) := by simp
  rw [e4]
  exact List.pairwise_append.2 ⟨s1, (List.pairwise_cons.1 s2).2, fun a ha b hb => s3 a ha b (List.mem_cons_of_mem _ hb)⟩
 ·rw [e1, dropR_cut (cut_of lo hi) (fun x hx => by rw [List.mem_singleton.1 hx]), e2]
 ·rw [e1, e2]
  simp only [List.length_append, List.length_cons, List.length_nil]
  omega
 ·rw [e1]
  unfold hasR
  refine List.any_eq_true.2 ⟨⟨key, v⟩, by simp, beq_self_eq_true key⟩
theorem none_rows {rows : List TRow} {key : ByteArray} {P S : List TRow} (e : rows = P ++ S) (h : Cut key P S) : dropR rows key = rows ∧ hasR rows key = false := by
 refine ⟨?_, ?_⟩
 ·have := dropR_cut (M := []) h (fun x hx => by cases hx)
  rw [List.append_nil] at this
  rw [e]; exact this
 ·unfold hasR
  rw [e, List.any_append, Bool.or_eq_false_iff]
  exact ⟨List.any_eq_false.2 fun x hx => by simpa using kLt_ne (h.lo x hx), List.any_eq_false.2 fun x hx => by simpa using (kLt_ne (h.hi x hx)).symm⟩
theorem map_rem {α β : Type} (f : α → β) (k1 k2 : List α) (x : α) : ((k1 ++ x :: k2).map f).take k1.length ++ ((k1 ++ x :: k2).map f).drop (k1.length + 1) = (k1 ++ k2).map f := by
 rw [← List.map_take, ← List.map_drop, List.take_left, show k1.length + 1 = (k1 ++ [x]).length from by simp, show k1 ++ x :: k2 = (k1 ++ [x]) ++ k2 from by simp, List.drop_left, List.map_append]
theorem vals_rem {h h' : Nat → Option Obj} {Q Q' : Nat → Prop} {v1 v2 : List (List TCell)} {v : List TCell} {xv : List Value} (hlen : xv.length = (v1 ++ v :: v2).length) (hx : ∀ (i : Nat) (d : List TCell), (v1 ++ v :: v2)[i]? = some d → ∃ y, xv[i]? = some y ∧ Rv h Q (.sl .cell d) y)
  (hq : ∀ {d : List TCell} {y}, Rv h Q (.sl .cell d) y → Rv h' Q' (.sl .cell d) y) : ∀ (i : Nat) (d : List TCell), (v1 ++ v2)[i]? = some d → ∃ y, (xv.take v1.length ++ xv.drop (v1.length + 1))[i]? = some y ∧ Rv h' Q' (.sl .cell d) y := fun i d hd => by
 have ht : (xv.take v1.length).length = v1.length := by rw [List.length_take, hlen, List.length_append]; omega
 rcases Nat.lt_or_ge i v1.length with h1 | h1
 ·rw [List.getElem?_append_left h1] at hd
  obtain ⟨y, h2, h3⟩ := hx i d (by rw [List.getElem?_append_left h1]; exact hd)
  exact ⟨y, by rw [List.getElem?_append_left (by rw [ht]; exact h1), List.getElem?_take, if_pos h1]; exact h2, hq h3⟩
 ·rw [List.getElem?_append_right h1] at hd
  obtain ⟨y, h2, h3⟩ := hx (i + 1) d (by rw [List.getElem?_append_right (by omega), show i + 1 - v1.length = (i - v1.length) + 1 from by omega]; exact hd)
  exact ⟨y, by rw [List.getElem?_append_right (by rw [ht]; exact h1), ht, List.getElem?_drop, show v1.length + 1 + (i - v1.length) = i + 1 from by omega]; exact h2, hq h3⟩
section
variable {W : World} {Q : Nat → Prop} {B L lo : Nat} {lv : Value} {rs : List BRaw} {key : ByteArray}
set_option maxHeartbeats 1000000 in
theorem drop_at (hl : Lay (hp W) Q B L lo lv rs) (hg : GoodB (rs.map (·.b))) (hB : W.heap[B]? = some (.cells #[lv, .int .i64 ((rowsOf (rs.map (·.b))).length : Int)] 67 (0, 0))) (hsz : (rowsOf (rs.map (·.b))).length ≤ 1099511627775)
  {ra rc : List BRaw} {r : BRaw} (hrs : rs = ra ++ [r] ++ rc) {k1 k2 : List ByteArray} {v1 v2 : List (List TCell)} {v : List TCell} (hrb : r.b = ⟨k1 ++ key :: k2, v1 ++ v :: v2⟩) (l1 : k1.length = v1.length) (l2 : k2.length = v2.length)
  (ea : atI (rs.map (·.b)) key = (ra.length, k1.length, true))
  (lo' : ∀ x ∈ (ra.map (·.b)).flatMap TBlock.keys ++ k1, kLt x key = true) (hi : ∀ x ∈ k2 ++ (rc.map (·.b)).flatMap TBlock.keys, kLt key x = true) :
  Calls Try.prog 31 #[.pointer (some ⟨B, 0, none⟩), .string key] W fun e W' => e = .returned (.bool true) ∧ SetOk W Q (fun _ => False) B L rs (dropR (rowsOf (rs.map (·.b))) key) W' := by
 have hpos : 0 < rs.length := by rw [hrs]; simp; omega
 have hat := at_calls hl hB hg (fair_of hg hsz) key
 rw [ea] at hat
 obtain ⟨lc, hlv, hlc⟩ := hl.slice hpos
 obtain ⟨nqL, hLB, curL, eL, h1, h2, h3⟩ := hl.row hpos
 have hri : rs[ra.length]? = some r := by rw [hrs, List.append_assoc, List.getElem?_append_right (Nat.le_refl _), Nat.sub_self]; rfl
 obtain ⟨cK, cV⟩ := hl.cells hri
 have hilt : ra.length < rs.length := (List.getElem?_eq_some_iff.1 hri).1
 have okr := hl.ok r (List.mem_of_getElem? hri)
 have hgr := hg.len r.b (List.mem_map.2 ⟨r, List.mem_of_getElem? hri, rfl⟩)
 obtain ⟨K, ko, kc, ys, e1, q1, q2, q3, q4, q5, q6, q7, q8⟩ := okr.open hgr.1 hgr.2
 have hkr : r.b.keys = k1 ++ key :: k2 := by rw [hrb]
 have hvr : r.b.vals = v1 ++ v :: v2 := by rw [hrb]
 have hkl : r.b.keys.length = k1.length + k2.length + 1 := by rw [hkr]; simp; omega
 have hvl : r.b.vals.length = k1.length + k2.length + 1 := by omega
 have hfair := rowsOf_len hg.len
 have hkm := hfair.2 r.b (List.mem_map.2 ⟨r, List.mem_of_getElem? hri, rfl⟩)
 have hbs := hfair.1
 rw [List.length_map] at hbs
 have hB' := hB
 rw [hlv] at hB'
 have hnn : rs.length = (ra ++ rc).length + 1 := by rw [hrs]; simp; omega
 have hgm : GoodB (ra.map (·.b) ++ [⟨k1 ++ key :: k2, v1 ++ v :: v2⟩] ++ rc.map (·.b)) := by
  have := hg
  rw [hrs, List.map_append, List.map_append] at this
  rw [← hrb]
  exact this
 have em : rs.map (·.b) = ra.map (·.b) ++ [⟨k1 ++ key :: k2, v1 ++ v :: v2⟩] ++ rc.map (·.b) := by rw [hrs, List.map_append, List.map_append, ← hrb]; rfl
 have mem_of : ∀ q ∈ ra ++ rc, q ∈ rs := fun q hq => by rw [hrs]; simp at hq ⊢; rcases hq with h | h; exact .inl h; exact .inr (.inr h)
 by_cases hone : r.b.keys.length = 1
 ·-- the block goes
  have hk1 : k1 = [] := List.eq_nil_of_length_eq_zero (by omega)
  have hk2 : k2 = [] := List.eq_nil_of_length_eq_zero (by omega)
  have hv1 : v1 = [] := List.eq_nil_of_length_eq_zero (by rw [← l1, hk1]; rfl)
  have hv2 : v2 = [] := List.eq_nil_of_length_eq_zero (by rw [← l2, hk2]; rfl)
  subst hk1 hk2 hv1 hv2
  have hK' : W.cell? ⟨L, lo + ra.length * 2, none⟩ = some (.slice (some ⟨K, ko, none⟩) 1 kc) := by rw [cK, e1, hone]
  have hV' : W.cell? ⟨L, lo + ra.length * 2 + 1, none⟩ = some (.slice (some ⟨r.vg, r.vo, none⟩) 1 r.vc) := by rw [cV]; show some (Value.slice _ _ _) = _; rw [hvl]; rfl
  have one1 : ∀ v ∈ (curL.toList.drop lo).take (rs.length * 2), v.oneCell' = true := by rw [h3]; exact raw_one hl.ok
  refine (drop_last W B L lo ra.length 0 lc K ko kc r.vg r.vo r.vc rs.length _ key curL eL hat hB' (by omega) (by omega) hLB h1 hilt (by omega) hlc one1 h2 hK' hV').mono fun e W' ⟨h5, hc, g', o', c', z1, z2, z3⟩ => ⟨h5, ?_⟩
  obtain ⟨y1, y2, y3, _⟩ := rem_rows (new := []) hgm rfl lo' hi (fun b hb => (nomatch hb)) rfl rfl
  have em' : (ra ++ ([] : List BRaw) ++ rc).map (·.b) = ra.map (·.b) ++ ([] : List TBlock) ++ rc.map (·.b) := by rw [List.map_append, List.map_append]; rfl
  have keepQ : ∀ g, Q g → W'.heap[g]? = W.heap[g]? := fun g hg => hc.keep g (hl.lt hg) fun e => hl.nB (e ▸ hg)
  have hlenn : (ra ++ ([] : List BRaw) ++ rc).length = rs.length - 1 := by rw [hnn, List.append_nil]; omega
  refine ⟨Q, g', o', _, ra ++ [] ++ rc, hc.mono (fun k h => .inl h), lay_put (old := [r]) (hrs ▸ hl) hl.nB (fun g hg => ?_) (fun q hq => (hl.ok q (mem_of q hq)).keep (fun _ h => h) keepQ) ⟨_, c', by rw [hlenn], by rw [hlenn]; exact z1, fun _ => rfl⟩ (fun hp0 => ?_) (fun q hq => by cases hq) (fun q hq => by cases hq) List.Pairwise.nil, ?_, by rw [em']; exact y1, by rw [em', y2, em], fun g hg => .inl hg, fun _ => ?_⟩
  ·obtain ⟨o, ho⟩ := hl.ex g hg
   exact ⟨o, (keepQ g hg).trans ho⟩
  ·rcases z3 with ⟨w1, rfl, rfl⟩ | ⟨w1, rfl, cur, w2, xs, w3, w4⟩
   ·have hrc : rc = [] := List.eq_nil_of_length_eq_zero (by have := hnn; rw [List.length_append] at this; omega)
    subst hrc
    refine ⟨nqL, hLB, curL, eL, (hc.keep _ (blk_lt h1) hLB).trans h1, by rw [hlenn]; omega, ?_⟩
    rw [hlenn, show (rs.length - 1) * 2 = min ((rs.length - 1) * 2) (rs.length * 2) from by omega, ← List.take_take, h3, hrs, List.append_nil, List.append_nil, List.append_nil]
    rw [show ((ra ++ [r]).length - 1) * 2 = ra.length * 2 from by simp]
    exact raw2_take ra [r]
   ·refine ⟨fun hq => by have := hl.lt hq; omega, fun e => by have := blk_lt hB; omega, cur, _, w2, ?_, ?_⟩
    ·have := congrArg List.length w4
     rw [List.length_take, List.length_append, List.length_take, List.length_drop, w3, h3, raw2_len] at this
     have hcs : cur.toList.length = cur.size := Array.length_toList
     rw [hlenn]
     omega
    ·rw [hlenn, List.drop_zero, w4, w3, h3, hrs]
     rw [show ra ++ [r] ++ rc = ra ++ (r :: rc) from by simp, raw2_take]
     have := raw2_drop (ra ++ [r]) rc
     rw [List.length_append, List.length_singleton, List.append_assoc] at this
     have this' : (raw2 (ra ++ r :: rc)).drop ((ra.length + 1) * 2) = raw2 rc := this
     rw [this', List.append_nil, raw2_app]
  ·rw [z2, em, ← y2, y3]
   simp
  ·rcases z3 with ⟨w1, rfl, rfl⟩ | ⟨w1, _⟩
   ·exact .inl ⟨hpos, rfl⟩
   ·exact .inr w1
 ·-- one fewer
  obtain ⟨m, hm⟩ : ∃ m, r.b.keys.length = m := ⟨_, rfl⟩
  have hK' : W.cell? ⟨L, lo + ra.length * 2, none⟩ = some (.slice (some ⟨K, ko, none⟩) m kc) := by rw [cK, e1, hm]
  have hV' : W.cell? ⟨L, lo + ra.length * 2 + 1, none⟩ = some (.slice (some ⟨r.vg, r.vo, none⟩) m r.vc) := by rw [cV, ← hm, hgr.1]; rfl
  refine (drop_one W B L lo ra.length k1.length m lc K ko kc r.vg r.vo r.vc rs.length _ key curL eL (r.b.keys.map .string) ys hat hB' (by omega) (by omega) hLB (fun e => hl.nB (e ▸ q2)) (fun e => hl.nB (e ▸ okr.q)) h1 hilt (by omega) hK' hV' (by omega) (by omega) (by omega) (by omega) (by omega) (hl.lt q2) (hl.lt okr.q) (by rw [List.length_map]; omega) (by omega) q3 q6).mono fun e W' ⟨h5, hc, b1, g1, o1, c1, g2, o2, c2, z1, z2, b2, z3, z4⟩ => ⟨h5, ?_⟩
  let Q' : Nat → Prop := fun g => Q g ∨ (W.heap.size ≤ g ∧ ∃ o, W'.heap[g]? = some o)
  have hQ : ∀ g, Q g → Q' g := fun g hg => .inl hg
  have keepQ : ∀ g, Q g → W'.heap[g]? = W.heap[g]? := fun g hg => hc.keep g (hl.lt hg) fun h => by
   rcases h with rfl | rfl
   ·exact hl.nB hg
   ·exact nqL hg
  have hLlt := blk_lt h1
  have hBlt := blk_lt hB
  have rk0 : Rv (hp W') Q' (.sl .str r.b.keys) r.kv := rv_mono hQ (celH_keep keepQ) okr.k
  have rv0 : Rv (hp W') Q' (.sl .cells r.b.vals) r.vv := rv_mono hQ (celH_keep keepQ) okr.v
  have hnk : (k1 ++ k2).length = m - 1 := by rw [List.length_append]; omega
  have hnv : (v1 ++ v2).length = m - 1 := by rw [List.length_append]; omega
  let r' : BRaw := ⟨⟨k1 ++ k2, v1 ++ v2⟩, .slice (some ⟨g1, o1, none⟩) (m - 1) c1, g2, o2, c2⟩
  have hvv : r'.vv = .slice (some ⟨g2, o2, none⟩) (m - 1) c2 := by show Value.slice _ (v1 ++ v2).length _ = _; rw [hnv]
  have okr' : OkB (hp W') Q' r' ∧ ((∀ q ∈ ra ++ rc, q.vg ≠ g2) ∨ (g2 = r.vg ∧ o2 = r.vo)) := by
   have k_ok : Rv (hp W') Q' (.sl .str (k1 ++ k2)) (.slice (some ⟨g1, o1, none⟩) (m - 1) c1) := by
    rw [← hnk]
    rcases z3 with ⟨w1, rfl, rfl⟩ | ⟨w1, rfl, cur, w2, w3⟩
    ·have hk2 : k2 = [] := List.eq_nil_of_length_eq_zero (by omega)
     rw [e1] at rk0
     have := rv1_part (c := .str) (l' := k1 ++ k2) (k := 0) (cap' := c1) rfl rk0 hgr.2 (fun i d hd => by
      rw [hk2, List.append_nil] at hd
      rw [Nat.zero_add, hkr, List.getElem?_append_left (List.getElem?_eq_some_iff.1 hd).1]
      exact hd) (by rw [hnk]; exact z1)
     exact this
    ·exact rv_strs (h := hp W') w2 (.inr ⟨w1, _, w2⟩) (by rw [hnk]; exact z1) (by rw [List.drop_zero, hnk, w3, hkr, map_rem])
   rcases z4 with ⟨w1, rfl, rfl⟩ | ⟨w1, rfl, cur, w2, w3⟩
   ·have hv2 : v2 = [] := List.eq_nil_of_length_eq_zero (by omega)
    obtain ⟨cq, eq, hown⟩ := okr.own
    refine ⟨⟨k_ok, ?_, hQ _ okr.q, cq, eq, (keepQ _ okr.q).trans hown⟩, .inr ⟨rfl, rfl⟩⟩
    have := rv1_part (c := .cells) (l' := v1 ++ v2) (k := 0) (cap' := c2) rfl rv0 (by omega) (fun i d hd => by
     rw [hv2, List.append_nil] at hd
     rw [Nat.zero_add, hvr, List.getElem?_append_left (List.getElem?_eq_some_iff.1 hd).1]
     exact hd) (by rw [hnv]; exact z2)
    exact this
   ·refine ⟨⟨k_ok, rv_vals (h := hp W') w2 (.inr ⟨w1, _, w2⟩) (by rw [hnv]; exact z2) (by rw [List.drop_zero, hnv, w3, l1]) (vals_rem (by rw [q5, hvr]) (by rw [hvr] at q7; exact q7) fun h => rv_mono hQ (celH_keep keepQ) h), .inr ⟨w1, _, w2⟩, _, _, w2⟩, .inl fun q hq e => ?_⟩
    have := hl.lt (hl.ok q (mem_of q hq)).q
    omega
  obtain ⟨y1, y2, y3, _⟩ := rem_rows (new := [⟨k1 ++ k2, v1 ++ v2⟩]) hgm l1 lo' hi (fun b hb => by rw [List.mem_singleton.1 hb]; exact ⟨by show (k1 ++ k2).length = (v1 ++ v2).length; omega, by show 0 < (k1 ++ k2).length; omega⟩) (by simp) (by rw [rowsOf_cons, rowsB_app l1]; simp [rowsOf])
  have em' : (ra ++ [r'] ++ rc).map (·.b) = ra.map (·.b) ++ [⟨k1 ++ k2, v1 ++ v2⟩] ++ rc.map (·.b) := by rw [List.map_append, List.map_append]; rfl
  have hlenn : (ra ++ [r'] ++ rc).length = rs.length := by rw [hrs]; simp
  refine ⟨Q', L, lo, lv, ra ++ [r'] ++ rc, hc.mono (fun k h => ?_), lay_put (old := [r]) (hrs ▸ hl) ?_ (fun g hg => ?_) (fun q hq => (hl.ok q (mem_of q hq)).keep hQ keepQ) ⟨_, lc, by rw [hlenn]; exact hlv, by rw [hlenn]; exact hlc, fun _ => rfl⟩ (fun _ => ⟨?_, hLB, _, _, b2, ?_, ?_⟩) (fun q hq => by rw [List.mem_singleton.1 hq]; exact okr'.1) (fun q hq => ?_) (List.pairwise_singleton _ _), ?_, by rw [em']; exact y1, by rw [em', y2, em], fun g hg => ?_, fun _ => .inl ⟨hpos, rfl⟩⟩
  ·rcases h with rfl | rfl
   ·exact .inl rfl
   ·exact .inr (.inr ⟨hpos, rfl⟩)
  ·rintro (h | ⟨h, _⟩)
   ·exact hl.nB h
   ·omega
  ·rcases hg with h | ⟨_, h⟩
   ·obtain ⟨o, ho⟩ := hl.ex g h
    exact ⟨o, (keepQ g h).trans ho⟩
   ·exact h
  ·rintro (h | ⟨h, _⟩)
   ·exact nqL h
   ·omega
  ·rw [hlenn, Array.size_setIfInBounds, Array.size_setIfInBounds]; exact h2
  ·rw [hlenn, Nat.add_assoc, row_set, row_set, h3, ← hvv, hrs]
   have := raw2_set ra rc r r'
   rw [List.append_assoc, List.append_assoc]
   exact this
  ·rw [List.mem_singleton.1 hq]
   rcases okr'.2 with h | ⟨h, h'⟩
   ·exact .inl h
   ·exact .inr ⟨r, List.mem_singleton.2 rfl, h, by show r.vo ≤ o2; omega, by show o2 + (v1 ++ v2).length ≤ _; omega⟩
  ·rw [hlv, b1, em, ← y2, y3]
   simp
  ·rcases hg with h | ⟨h, _⟩
   ·exact .inl h
   ·exact .inr (.inr h)
theorem bdrop_ok (hl : Lay (hp W) Q B L lo lv rs) (hg : GoodB (rs.map (·.b))) (hB : W.heap[B]? = some (.cells #[lv, .int .i64 ((rowsOf (rs.map (·.b))).length : Int)] 67 (0, 0))) (hsz : (rowsOf (rs.map (·.b))).length ≤ 1099511627775) :
  Calls Try.prog 31 #[.pointer (some ⟨B, 0, none⟩), .string key] W fun e W' => e = .returned (.bool (hasR (rowsOf (rs.map (·.b))) key)) ∧ SetOk W Q (fun _ => False) B L rs (dropR (rowsOf (rs.map (·.b))) key) W' := by
 have no : ∀ (i j : Nat) (P S : List TRow), atI (rs.map (·.b)) key = (i, j, false) → rowsOf (rs.map (·.b)) = P ++ S → Cut key P S → Calls Try.prog 31 #[.pointer (some ⟨B, 0, none⟩), .string key] W fun e W' => e = .returned (.bool (hasR (rowsOf (rs.map (·.b))) key)) ∧ SetOk W Q (fun _ => False) B L rs (dropR (rowsOf (rs.map (·.b))) key) W' := fun i j P S ea he hc => by
  have hat := at_calls hl hB hg (fair_of hg hsz) key
  rw [ea] at hat
  obtain ⟨h1, h2⟩ := none_rows he hc
  refine (drop_none W B i j key hat).mono fun e W' ⟨h5, hb⟩ => ⟨by rw [h5, h2], ?_⟩
  rw [h1]
  exact ⟨Q, L, lo, lv, rs, Chg.below (Chg.refl _ W) hb, lay_below hl hb, blk_next hB hb, hg, rfl, fun g hg => .inl hg, fun h => .inl ⟨h, rfl⟩⟩
 cases at_case hg key with
 | hit A C k1 k2 v1 v2 v e l1 l2 ea lo' hi =>
  obtain ⟨ra, r, rc, e1, e2, e3, e4⟩ := map_split e
  subst e2 e4
  rw [List.length_map] at ea
  have hgm := hg
  rw [e, show ra.map (·.b) ++ ⟨k1 ++ key :: k2, v1 ++ v :: v2⟩ :: rc.map (·.b) = ra.map (·.b) ++ [⟨k1 ++ key :: k2, v1 ++ v :: v2⟩] ++ rc.map (·.b) from by simp] at hgm
  have hh : hasR (rowsOf (rs.map (·.b))) key = true := by
   rw [e]
   unfold hasR
   refine List.any_eq_true.2 ⟨⟨key, v⟩, ?_, beq_self_eq_true key⟩
   rw [rowsOf_app, rowsOf_cons, rowsB_app l1, rowsB_cons]
   simp
  rw [hh]
  exact drop_at hl hg hB hsz (ra := ra) (r := r) (rc := rc) (by rw [e1]; simp) e3 l1 l2 ea lo' hi
 | mid A C k1 k2 v1 v2 e l1 l2 l3 ea lo' hi =>
  exact no _ _ (rowsOf A ++ rowsB ⟨k1, v1⟩) (rowsB ⟨k2, v2⟩ ++ rowsOf C) ea (by rw [e, rowsOf_app, rowsOf_cons, rowsB_app l1, List.append_assoc, List.append_assoc]) (cut_of lo' hi)
 | all ea lo' =>
  exact no _ _ (rowsOf (rs.map (·.b))) [] ea (by simp) ⟨fun x hx => lo' _ (rowsOf_mem hx), (fun x hx => by cases hx)⟩
end
end Go.Proofs.Ytnfmceffbnaanaa
namespace Go.Proofs.Ytnfmceffbnaanaa
open Go.RowKit
theorem abs_open {F : Nat → Prop} {N : Nm} {nx : Nat} {R : World} {j : Nat} {rows : List TRow} (h : ObR F N nx R j (.abs 0 .row rows)) :
  ∃ (B L lo : Nat) (lv : Value) (rs : List BRaw) (Q : Nat → Prop), fam (N.q j) 0 = .pointer (some ⟨B, 0, none⟩) ∧ hp R B = some (.cells #[lv, .int .i64 rows.length] 67 (0, 0)) ∧
  Lay (hp R) Q B L lo lv rs ∧ GoodB (rs.map (·.b)) ∧ rows = rowsOf (rs.map (·.b)) ∧ (∀ g, Q g → foot N j (.abs 0 .row rows) g) ∧ (0 < rs.length → foot N j (.abs 0 .row rows) L) ∧ foot N j (.abs 0 .row rows) B := by
 obtain ⟨h, h1, B, L, lo, lv, rs, Q, e1, e2, hl, hg, hr, hq, hL⟩ := h
 have e1' : fam (N.q j) 0 = .pointer (some ⟨B, 0, none⟩) := e1
 have at1 : ∀ {g o}, (∃ k, blkP (fam (N.q j) k) = some g) → h g = some o → hp R g = some o := fun {g o} ⟨k, hk⟩ ho => by
  obtain ⟨o', q1, q2⟩ := h1 k g hk
  rw [ho] at q1
  cases q1
  exact q2
 have fB : ∃ k, blkP (fam (N.q j) k) = some B := ⟨0, by rw [e1']; rfl⟩
 have fQ : ∀ g, Q g → ∃ k, blkP (fam (N.q j) k) = some g := hq
 refine ⟨B, L, lo, lv, rs, Q, e1', at1 fB e2, ⟨hl.nB, fun g hg => ?_, hl.lv, fun hpos => ?_, fun r hr => (hl.ok r hr).keep (fun _ h => h) fun g hg => ?_, hl.sep⟩, hg, hr, fQ, hL, fB⟩
 ·obtain ⟨o, ho⟩ := hl.ex g hg
  exact ⟨o, at1 (fQ g hg) ho⟩
 ·obtain ⟨q1, q2, cur, e, q3, q4⟩ := hl.row hpos
  exact ⟨q1, q2, cur, e, at1 (hL hpos) q3, q4⟩
 ·obtain ⟨o, ho⟩ := hl.ex g hg
  exact (at1 (fQ g hg) ho).trans ho.symm
def rootOf (B : Nat) (S : List Nat) : Value := .agg ((B :: S).map fun g => Value.pointer (some ⟨g, 0, none⟩)).toArray
theorem rootOf_get (B : Nat) (S : List Nat) (k : Nat) : fam (rootOf B S) k = match (B :: S)[k]? with
  | some g => .pointer (some ⟨g, 0, none⟩)
  | none => undef := by
 show (((B :: S).map fun g => Value.pointer (some ⟨g, 0, none⟩)).toArray).getD k undef = _
 rw [Array.getD_eq_getD_getElem?, List.getElem?_toArray, List.getElem?_map]
 cases (B :: S)[k]? <;> rfl
theorem rootOf_blk (B : Nat) (S : List Nat) (g : Nat) : (∃ k, blkP (fam (rootOf B S) k) = some g) ↔ g = B ∨ g ∈ S := by
 rw [← List.mem_cons]
 constructor
 ·rintro ⟨k, hk⟩
  rw [rootOf_get] at hk
  cases h : (B :: S)[k]? with
  | none => rw [h] at hk; cases hk
  | some x =>
   rw [h] at hk
   cases hk
   exact List.mem_of_getElem? h
 ·intro h
  obtain ⟨k, hk⟩ := List.getElem?_of_mem h
  exact ⟨k, by rw [rootOf_get, hk]; rfl⟩
theorem listOf (p : Nat → Prop) : ∀ n, ∃ S : List Nat, ∀ g, g ∈ S ↔ g < n ∧ p g
 | 0 => ⟨[], fun g => ⟨fun h => (nomatch h), fun h => absurd h.1 (Nat.not_lt_zero _)⟩⟩
 | n + 1 => by
  obtain ⟨S, hS⟩ := listOf p n
  by_cases hp : p n
  ·refine ⟨n :: S, fun g => ?_⟩
   rw [List.mem_cons, hS]
   constructor
   ·rintro (rfl | ⟨h, h'⟩)
    ·exact ⟨Nat.lt_succ_self _, hp⟩
    ·exact ⟨Nat.lt_succ_of_lt h, h'⟩
   ·rintro ⟨h, h'⟩
    rcases Nat.lt_succ_iff_lt_or_eq.1 h with h | rfl
    ·exact .inr ⟨h, h'⟩
    ·exact .inl rfl
  ·refine ⟨S, fun g => ?_⟩
   rw [hS]
   constructor
   ·rintro ⟨h, h'⟩
    exact ⟨Nat.lt_succ_of_lt h, h'⟩
   ·rintro ⟨h, h'⟩
    rcases Nat.lt_succ_iff_lt_or_eq.1 h with h | rfl
    ·exact ⟨h, h'⟩
    ·exact (hp h').elim
theorem abs_shut {R : World} {B L lo : Nat} {lv : Value} {rs : List BRaw} {Q : Nat → Prop} {rows : List TRow} (hl : Lay (hp R) Q B L lo lv rs) (hB : R.heap[B]? = some (.cells #[lv, .int .i64 (rows.length : Int)] 67 (0, 0))) (hg : GoodB (rs.map (·.b))) (hr : rowsOf (rs.map (·.b)) = rows) :
  ∃ root : Value, fam root 0 = .pointer (some ⟨B, 0, none⟩) ∧ (∀ g, (∃ k, blkP (fam root k) = some g) → g = B ∨ Q g ∨ (0 < rs.length ∧ g = L)) ∧ ∀ (F : Nat → Prop) (N : Nm) (nx i : Nat), N.q i = root → ObR F N nx R i (.abs 0 .row rows) := by
 obtain ⟨S, hS⟩ := listOf (fun g => Q g ∨ (0 < rs.length ∧ g = L)) R.heap.size
 have hlt : ∀ {g}, Q g ∨ (0 < rs.length ∧ g = L) → g < R.heap.size := fun {g} h => by
  rcases h with h | ⟨h, rfl⟩
  ·exact hl.lt h
  ·obtain ⟨_, _, cur, e, h1, _⟩ := hl.row h
   exact blk_lt h1
 refine ⟨rootOf B S, by rw [rootOf_get]; rfl, fun g hk => ?_, fun F N nx i hq => ⟨hp R, fun k g hk => ?_, B, L, lo, lv, rs, Q, ?_, hB, hl, hg, hr.symm, fun g hQ => ?_, fun hpos => ?_⟩⟩
 ·rcases (rootOf_blk B S g).1 hk with h | h
  ·exact .inl h
  ·exact .inr ((hS g).1 h).2
 ·rw [hq] at hk
  have : g < R.heap.size := by
   rcases (rootOf_blk B S g).1 ⟨k, hk⟩ with rfl | h
   ·exact blk_lt hB
   ·exact ((hS g).1 h).1
  exact ⟨_, (Array.getElem?_eq_getElem this), (Array.getElem?_eq_getElem this)⟩
 ·show fam (N.q i) 0 = _
  rw [hq, rootOf_get]; rfl
 ·show ∃ k, blkP (fam (N.q i) k) = some g
  rw [hq]
  exact (rootOf_blk B S g).2 (.inr ((hS g).2 ⟨hlt (.inl hQ), .inl hQ⟩))
 ·show ∃ k, blkP (fam (N.q i) k) = some L
  rw [hq]
  exact (rootOf_blk B S L).2 (.inr ((hS L).2 ⟨hlt (.inr ⟨hpos, rfl⟩), .inr ⟨hpos, rfl⟩⟩))
mutual
def nof : A → Bool
 | .sl _ _ => false
 | .ref _ => false
 | .fn _ a b => nofL a && nofL b
 | .agg l => nofL l
 | .tup l => nofL l
 | .opt _ _ _ => false
 | .rv _ => false
 | _ => true
def nofL : List A → Bool
 | [] => true
 | x :: r => nof x && nofL r
end
theorem nofL_get : ∀ {l : List A} {j : Nat} {x : A}, nofL l = true → l[j]? = some x → nof x = true
 | [], _, _, _, h => by cases h
 | y :: r, 0, x, hf, h => by cases h; unfold nofL at hf; rw [Bool.and_eq_true] at hf; exact hf.1
 | y :: r, j + 1, x, hf, h => by unfold nofL at hf; rw [Bool.and_eq_true] at hf; exact nofL_get hf.2 h
section
variable {F F' : Nat → Prop} {N : Nm} {nx : Nat} {R : World}
theorem Hv.nof {x : A} {y : Value} (h : Hv F N nx R x y) : nof x = true → Hv F' N nx R x y := by
 induction h with
 | v x => intro _; exact .v x
 | sl => intro hf; unfold Proofs.Ytnfmceffbnaanaa.nof at hf; cases hf
 | ref => intro hf; unfold Proofs.Ytnfmceffbnaanaa.nof at hf; cases hf
 | own h => intro _; exact .own h
 | ownx h => intro _; exact .ownx h
 | sq h => intro _; exact .sq h
 | dq h => intro _; exact .dq h
 | iv h => intro _; exact .iv h
 | de h => intro _; exact .de h
 | ie h => intro _; exact .ie h
 | vw h h1 h2 h3 => intro _; exact .vw h h1 h2 h3
 | el h => intro _; exact .el h
 | mp h => intro _; exact .mp h
 | nl a => intro _; exact .nl a
 | it q vs y h => intro _; exact .it q vs y h
 | fn vs us h1 _ h3 _ ih2 ih4 => intro hf; unfold Proofs.Ytnfmceffbnaanaa.nof at hf; rw [Bool.and_eq_true] at hf; exact .fn vs us h1 (fun j x v hx hv => ih2 j x v hx hv (nofL_get hf.1 hx)) h3 fun j x v hx hv => ih4 j x v hx hv (nofL_get hf.2 hx)
 | agg vs h1 _ ih => intro hf; unfold Proofs.Ytnfmceffbnaanaa.nof at hf; exact .agg vs h1 fun j x v hx hv => ih j x v hx hv (nofL_get hf hx)
 | tup vs h1 _ ih => intro hf; unfold Proofs.Ytnfmceffbnaanaa.nof at hf; exact .tup vs h1 fun j x v hx hv => ih j x v hx hv (nofL_get hf hx)
 | dead y => intro _; exact .dead y
 | av h1 h2 => intro _; exact .av h1 h2
 | rv => intro hf; unfold Proofs.Ytnfmceffbnaanaa.nof at hf; cases hf
 | vr ad h h1 => intro _; exact .vr ad h h1
theorem HL.nof : ∀ {xs : List A} {vs : List Value}, nofL xs = true → HL F N nx R xs vs → HL F' N nx R xs vs
 | [], _, _, h => h
 | x :: r, _, hf, ⟨v, vs, h1, h2, h3⟩ => by unfold nofL at hf; rw [Bool.and_eq_true] at hf; exact ⟨v, vs, h1, h2.nof hf.1, HL.nof hf.2 h3⟩
def TC.flatC : TC → Bool
 | .u8 | .i64 | .u32 | .bool | .str | .vec | .stamp | .cell => true
 | _ => false
theorem flatC_nof {c : TC} (h : c.flatC = true) (d : U c) : nofL (enc c d) = true := by cases c <;> first | (cases h; done) | rfl
def nofO : Ob → Bool
 | .box _ cs => nofL cs
 | .arr _ _ (.lst cs) => cs.all nofL
 | .arr _ _ (.ty c _) => c.flatC
 | .deep _ .row _ => true
 | .abs _ _ _ => true
 | _ => false
theorem nthL_nof : ∀ {cs : List (List A)} (k : Nat), cs.all nofL = true → nofL (nthL cs k) = true
 | [], _, _ => rfl
 | x :: r, 0, h => by rw [List.all_cons, Bool.and_eq_true] at h; exact h.1
 | x :: r, k + 1, h => by rw [List.all_cons, Bool.and_eq_true] at h; exact nthL_nof k h.2
theorem ObR.nof {i : Nat} {ob : Ob} (h : ObR F N nx R i ob) (hf : nofO ob = true) : ObR F' N nx R i ob := by
 cases ob with
 | box e cs =>
  obtain ⟨vs, h1, h2⟩ := h
  exact ⟨vs, h1.nof hf, h2⟩
 | arr e size els =>
  obtain ⟨zs, h1, h2⟩ := h
  refine ⟨zs, h1, fun k hk => (h2 k hk).nof ?_⟩
  cases els with
  | lst cs => exact nthL_nof k hf
  | ty c l => exact flatC_nof hf _
 | abs m c l => exact h
 | deep e c l =>
  cases c <;> first | (cases hf; done) | skip
  obtain ⟨col, c', zs, h1, h2, h3, h4, h5⟩ := h
  cases h1
  refine ⟨_, _, zs, rfl, h2, fun k d hd => (h3 k d hd).nof rfl, fun k d hd => ?_, h5⟩
  obtain ⟨l', e', us, k1, k2, k3⟩ := h4 k d hd
  exact ⟨l', e', us, k1, k2, fun j hj => (k3 j hj).nof rfl⟩
 | map k v l => cases hf
 | sit s p => cases hf
 | rcd e xs => cases hf
end
def nofOs : Objs → Bool
 | [] => true
 | (_, some ob) :: r => nofO ob && nofOs r
 | (_, none) :: r => nofOs r
theorem nofOs_get : ∀ {o : Objs} {i : Nat} {ob : Ob}, nofOs o = true → lookO i o = some ob → nofO ob = true
 | [], _, _, _, h => by cases h
 | (k, some x) :: r, i, ob, hf, h => by
  unfold nofOs at hf
  rw [Bool.and_eq_true] at hf
  rw [lookO_cons] at h
  by_cases e : i = k
  ·rw [if_pos e] at h; cases h; exact hf.1
  ·rw [if_neg e] at h; exact nofOs_get hf.2 h
 | (k, none) :: r, i, ob, hf, h => by
  unfold nofOs at hf
  rw [lookO_cons] at h
  by_cases e : i = k
  ·rw [if_pos e] at h; cases h
  ·rw [if_neg e] at h; exact nofOs_get hf h
theorem callOk_abs {P : Program} {f : FuncId} {args : List A} {k m : Nat} {x : A} {os : Objs} {t : TypeId} {rows : List TRow} (h : ∀ bs, GoodB bs → rowsOf bs = rows → CallOk P f (.ref [.ref [.sl .block bs, .v (.int .i64 (rows.length : Int))]] :: args) 0 [] k x m os) (hk : k ≤ 1) (hf : freeL args = true)
  {nx : Nat} (hx : nof (x.pk (shiftR nx)) = true) (ho : nofOs (shiftO nx os) = true) {i j : Nat} {o : Objs} (hi : lookO i o = some (.box t [.dq j])) (hj : lookO j o = some (.abs 0 .row rows)) :
  CallOk P f (.own i 0 :: args) nx o 1 (x.pk (shiftR nx)) (nx + m) (shiftO nx os ++ o) := fun F N R vs hh ha => by
 obtain ⟨v, ws, rfl, g1, g2⟩ := ha.inv
 obtain ⟨hin, us, u1, u2⟩ := hh.ob i _ hi
 obtain ⟨hjn, hob⟩ := hh.ob j _ hj
 obtain ⟨B, L, lo, lv, rs, Q, e1, e2, hl, hg, hr, hq, hL, hfB⟩ := abs_open hob
 let F1 : Nat → Prop := fun g => F g ∨ g = N.b i ∨ foot N j (.abs 0 .row rows) g
 have hh1 : HRel F1 N nx [] R := ⟨fun g hgF => by
   rcases hgF with h | rfl | h
   ·exact hh.flt g h
   ·exact blk_lt u2
   ·exact hob.lt h, fun i ob hi => (by cases hi), fun i ob g hi => (by cases hi), fun i j x y g hi => (by cases hi), fun x hx => ⟨.inl (hh.gl x hx).1, (hh.gl x hx).2⟩⟩
 have hv : Hv F1 N nx R (.sl .block (rs.map (·.b))) lv := by
  obtain ⟨a, cap, e, h1, h2⟩ := hl.lv
  rw [e, show rs.length = (rs.map (·.b)).length from (List.length_map ..).symm]
  refine Hv.of_sl (by rw [List.length_map]; exact h1) fun hpos => ?_
  rw [List.length_map] at hpos
  refine ⟨⟨L, lo, none⟩, h2 hpos, .inr (.inr (hL hpos)), fun i d hd j x hx => ?_⟩
  rw [List.getElem?_map] at hd
  cases hr : rs[i]? with
  | none => rw [hr] at hd; cases hd
  | some r =>
   rw [hr] at hd
   cases hd
   obtain ⟨c1, c2⟩ := hl.cells hr
   have ok := hl.ok r (List.mem_of_getElem? hr)
   have hc : ∀ a, Q a.block → ∀ y, celH (hp R) a = some y → R.cell? a = some y := fun a _ y hy => hy
   rw [add_mk, add_mk]
   match j, hx with
   | 0, hx => cases hx; exact ⟨_, c1, rv_hv (fun g h => .inr (.inr (hq g h))) hc ok.k⟩
   | 1, hx => cases hx; exact ⟨_, c2, rv_hv (fun g h => .inr (.inr (hq g h))) hc ok.v⟩
 have hB : Hv F1 N nx R (.ref [.sl .block (rs.map (·.b)), .v (.int .i64 (rows.length : Int))]) (.pointer (some ⟨B, 0, none⟩)) := by
  refine .ref ⟨B, 0, none⟩ (.inr (.inr hfB)) (fun j x hx => ?_) fun j x y hx hy => ?_
  ·rw [add_mk, blk_cell e2]
   match j, hx with
   | 0, _ => exact ⟨_, rfl⟩
   | 1, _ => exact ⟨_, rfl⟩
  ·rw [add_mk, blk_cell e2] at hy
   match j, hx, hy with
   | 0, hx, hy => cases hx; cases hy; exact hv
   | 1, hx, hy => cases hx; cases hy; exact .v _
 have hM : Hv F1 N nx R (.ref [.ref [.sl .block (rs.map (·.b)), .v (.int .i64 (rows.length : Int))]]) v := by
  cases g1 with
  | own _ =>
   obtain ⟨w, us', rfl, w1, w2⟩ := u1.inv
   obtain rfl := w2.inv0
   cases w1 with
   | dq _ =>
    refine .ref ⟨N.b i, 0, none⟩ (.inr (.inl rfl)) (fun j x hx => ?_) fun j x y hx hy => ?_
    ·rw [add_mk, blk_cell u2]
     match j, hx with
     | 0, _ => exact ⟨_, rfl⟩
    ·rw [add_mk, blk_cell u2] at hy
     match j, hx, hy with
     | 0, hx, hy => cases hx; cases hy; rw [e1]; exact hB
 refine (callOk_shift (h _ hg hr.symm) hk (by show (_ && _) = true; rw [hf]; rfl) nx [] F1 N R (v :: ws) hh1 (HL.cons hM (g2.step (Ext.wide fun g hg => .inl hg)))).mono fun e R' ⟨y, F', N', q1, q2, q3, q4, q5⟩ => ?_
 have hb := q5 (Nat.le_refl _)
 rw [List.append_nil] at q2 q3
 have ex : Ext F N nx R F N' (nx + m) R' := ⟨q3.le, q3.b, q3.q, fun _ h => h, fun g hg => hb.block g (hh.flt g hg)⟩
 have new : ∀ {g}, Foot N' (shiftO nx os) g → R.heap.size ≤ g := fun {g} hg => by
  rcases q3.foot g hg with ⟨i, ob, hi, _⟩ | h
  ·cases hi
  ·exact h
 have old : ∀ {i ob}, lookO i o = some ob → i < nx ∧ ObR F N' (nx + m) R' i ob ∧ ∀ g, foot N' i ob g → foot N i ob g ∧ g < R.heap.size := fun {i ob} hi => by
  obtain ⟨w1, w2⟩ := hh.ob i ob hi
  refine ⟨w1, w2.step ex w1 fun g hg => hb.block g (w2.lt hg), fun g hg => ?_⟩
  have := (foot_step ex w1).1 hg
  exact ⟨this, w2.lt this⟩
 refine ⟨y, F, N', q1, ⟨fun g hg => Nat.lt_of_lt_of_le (hh.flt g hg) hb.size, fun i ob hi => ?_, fun i ob g hi hg hF => ?_, fun i j x y g hi hj hx hy => ?_, fun x hx => ⟨(hh.gl x hx).1, by rw [hb.block _ (hh.flt _ (hh.gl x hx).1)]; exact (hh.gl x hx).2⟩⟩, ⟨q3.le, q3.b, q3.q, fun _ h => h, fun g h => .inl h, fun g hg => ?_, hb.os, hb.tape, hb.output, hb.size, fun g hg _ => hb.block g hg⟩, q4.nof hx, fun _ => hb⟩
 ·rcases lookO_split hi with ⟨_, w⟩ | ⟨_, w⟩
  ·obtain ⟨w1, w2⟩ := q2.ob i ob w
   exact ⟨w1, w2.nof (nofOs_get ho w)⟩
  ·obtain ⟨w1, w2, _⟩ := old w
   exact ⟨Nat.lt_of_lt_of_le w1 q3.le, w2⟩
 ·rcases lookO_split hi with ⟨_, w⟩ | ⟨_, w⟩
  ·have := new ⟨i, ob, w, hg⟩
   have := hh.flt g hF
   omega
  ·exact hh.ff i ob g w ((old w).2.2 g hg).1 hF
 ·rcases lookO_split hi with ⟨_, w⟩ | ⟨_, w⟩ <;> rcases lookO_split hj with ⟨_, w'⟩ | ⟨_, w'⟩
  ·exact q2.sep i j x y g w w' hx hy
  ·have h1 := new ⟨i, x, w, hx⟩
   have h2 := ((old w').2.2 g hy).2
   omega
  ·have h1 := new ⟨j, y, w', hy⟩
   have h2 := ((old w).2.2 g hx).2
   omega
  ·exact hh.sep i j x y g w w' ((old w).2.2 g hx).1 ((old w').2.2 g hy).1
 ·obtain ⟨i, ob, hi, hg⟩ := hg
  rcases lookO_split hi with ⟨_, w⟩ | ⟨_, w⟩
  ·exact .inr (new ⟨i, ob, w, hg⟩)
  ·exact .inl ⟨i, ob, w, ((old w).2.2 g hg).1⟩
end Go.Proofs.Ytnfmceffbnaanaa
namespace Go.Proofs.Ytnfmceffbnaanaa
open Go.RowKit
def GoodAt (bs : List TBlock) : Prop := GoodB bs ∧ fairB bs
def at_t : List A → Nat → Objs → Option CRes
 | [.ref [.sl .block bs, .v (.int .i64 _)], .v (.string key)], nx, o => some (1, .tup [.v (.int .i64 ((atI bs key).1 : Int)), .v (.int .i64 ((atI bs key).2.1 : Int)), .v (.bool (atI bs key).2.2)], nx, o, [GoodAt bs])
 | _, _, _ => none
theorem at_tok : TOk Try.prog 30 at_t := fun args nx o k x nx' o' ps h => by
 unfold at_t at h
 split at h <;> first | (cases h; done) | skip
 rename_i bs n key
 cases h
 refine ⟨fun hp => ?_, [], rfl⟩
 obtain ⟨h1, h2⟩ := N0 hp
 have h3 := callOk_frame (o := o) (callOk_shift (at_ok h1 h2 n key) (Nat.le_refl _) (by rfl) nx []) (Nat.le_refl _)
 exact fun F N R vs hh ha => (h3 F N R vs hh ha).mono fun e R' ⟨y, F', N', e1, e2, e3, e4, e5⟩ => by
  obtain rfl := e4.v_inv
  refine ⟨_, F', N', e1, e2, e3, ?_, e5⟩
  exact .tup [_, _, _] rfl fun j x v hx hv => by
   match j, hx, hv with
   | 0, hx, hv => cases hx; cases hv; exact .v _
   | 1, hx, hv => cases hx; cases hv; exact .v _
   | 2, hx, hv => cases hx; cases hv; exact .v _
def isBox (j : Nat) : Option Ob → Bool
 | some (.box _ [.dq j']) => Nat.beq j' j
 | _ => false
def boxOf (j : Nat) (o : Objs) : Objs → Option Nat
 | [] => none
 | (k, _) :: r => bif isBox j (lookO k o) then some k else boxOf j o r
theorem boxOf_ok {j : Nat} {o : Objs} : ∀ {l : Objs} {i : Nat}, boxOf j o l = some i → ∃ t, lookO i o = some (.box t [.dq j])
 | [], _, h => by cases h
 | (k, _) :: r, i, h => by
  unfold boxOf at h
  cases hb : isBox j (lookO k o) with
  | true =>
   rw [hb] at h
   cases h
   unfold isBox at hb
   split at hb <;> first | (cases hb; done) | skip
   rename_i e
   obtain rfl := Nat.eq_of_beq_eq_true hb
   exact ⟨_, e⟩
  | false => rw [hb] at h; exact boxOf_ok h
def tyBox (i : Nat) (o : Objs) : TypeId := match lookO i o with
 | some (.box t _) => t
 | _ => 0
def nextM (i j nx : Nat) (t : TypeId) (rows : List TRow) (d o : Objs) : Objs := (i, some (.box t [.dq nx])) :: (nx, some (.abs 0 .row rows)) :: (j, none) :: (d ++ o)
def absR : Option Ob → Option (List TRow)
 | some (.abs 0 .row rows) => some rows
 | _ => none
theorem absR_ok {x : Option Ob} {rows : List TRow} (h : absR x = some rows) : x = some (.abs 0 .row rows) := by
 unfold absR at h
 split at h <;> first | (cases h; done) | skip
 cases h; rfl
def arrR : Option Ob → Option (List TCell × List Prop)
 | some (.arr _ 8 els) => elsTy .cell els
 | _ => none
theorem arrR_ok {x : Option Ob} {l : List TCell} {ps : List Prop} (h : arrR x = some (l, ps)) : ∃ e els, x = some (.arr e 8 els) ∧ elsTy .cell els = some (l, ps) := by
 unfold arrR at h
 split at h <;> first | (cases h; done) | skip
 exact ⟨_, _, rfl, h⟩
def FewR (rows : List TRow) : Prop := rows.length ≤ 1099511627775
def set_t : List A → Nat → Objs → Option CRes
 | [.dq j, .v (.string key), .sq q], nx, o => match absR (lookO j o), arrR (lookO q o), boxOf j o o with
  | some rows, some (cells, ps), some i => some (2, .v (.tuple #[]), nx + 1, nextM i j nx (tyBox i o) (setR rows ⟨key, cells⟩) [(q, none)] o, FewR rows :: ps)
  | _, _, _ => none
 | _, _, _ => none
def drop_t : List A → Nat → Objs → Option CRes
 | [.dq j, .v (.string key)], nx, o => match absR (lookO j o), boxOf j o o with
  | some rows, some i => some (2, .v (.bool (hasR rows key)), nx + 1, nextM i j nx (tyBox i o) (dropR rows key) [] o, [FewR rows])
  | _, _ => none
 | _, _, _ => none
theorem turn_abs {F : Nat → Prop} {N : Nm} {nx i j : Nat} {o d : Objs} {R R' : World} {t : TypeId} {rows rows' : List TRow} {Qv : Nat → Prop} (hh : HRel F N nx o R) (hi : lookO i o = some (.box t [.dq j])) (hj : lookO j o = some (.abs 0 .row rows))
  (hd : ∀ k ob, lookO k (d ++ o) = some ob → lookO k o = some ob ∧ ∀ g, foot N k ob g → ¬ Qv g) (hQ : ∀ g, Qv g → (∃ q ob, lookO q o = some ob ∧ foot N q ob g ∧ q ≠ i))
  {B L : Nat} {rs : List BRaw} {Q : Nat → Prop} (e1 : fam (N.q j) 0 = .pointer (some ⟨B, 0, none⟩)) (fQ : ∀ g, Q g → foot N j (.abs 0 .row rows) g) (fL : 0 < rs.length → foot N j (.abs 0 .row rows) L) (fB : foot N j (.abs 0 .row rows) B)
  (hs : SetOk R Q Qv B L rs rows' R') : ∃ N', HRel F N' (nx + 1) (nextM i j nx t rows' d o) R' ∧ Step F N nx o R F N' (nx + 1) (nextM i j nx t rows' d o) R' := by
 obtain ⟨Q', L', lo', lv', rs', hc, hl, hB, hg, hr, hQ', hL'⟩ := hs
 obtain ⟨root, w1, w2, w3⟩ := abs_shut hl hB hg hr
 obtain ⟨hin, hoi⟩ := hh.ob i _ hi
 obtain ⟨hjn, hoj⟩ := hh.ob j _ hj
 have hij : i ≠ j := fun e => by subst e; rw [hi] at hj; cases hj
 let N' : Nm := ⟨N.b, fun k => if k = nx then root else N.q k⟩
 have hS : ∀ {g}, (g = B ∨ Q g ∨ (0 < rs.length ∧ g = L)) → foot N j (.abs 0 .row rows) g := fun {g} h => by
  rcases h with rfl | h | ⟨h, rfl⟩
  ·exact fB
  ·exact fQ g h
  ·exact fL h
 have keep : ∀ g, g < R.heap.size → ¬ foot N j (.abs 0 .row rows) g → R'.heap[g]? = R.heap[g]? := fun g h1 h2 => hc.keep g h1 fun h => h2 (hS h)
 have far : ∀ {k ob g}, lookO k o = some ob → k ≠ j → foot N k ob g → ¬ foot N j (.abs 0 .row rows) g := fun {k ob g} hk hkj h1 h2 => hkj (hh.sep k j ob _ g hk hj h1 h2)
 -- what the new one is made of
 have feet : ∀ {g}, (∃ k, blkP (fam root k) = some g) → foot N j (.abs 0 .row rows) g ∨ Qv g ∨ R.heap.size ≤ g := fun {g} h => by
  rcases w2 g h with rfl | h | ⟨h, rfl⟩
  ·exact .inl fB
  ·rcases hQ' g h with h | h | h
   ·exact .inl (fQ g h)
   ·exact .inr (.inl h)
   ·exact .inr (.inr h)
  ·rcases hL' h with ⟨h, rfl⟩ | h
   ·exact .inl (fL h)
   ·exact .inr (.inr h)
 have st : Ext F N nx R F N' (nx + 1) R' := ⟨Nat.le_succ _, fun _ _ => rfl, fun k hk => by show (if k = nx then root else N.q k) = _; rw [if_neg (by omega)], fun _ h => h, fun g hg => keep g (hh.flt g hg) fun h => hh.ff j _ g hj h hg⟩
 -- where objects come from
 have from_ : ∀ {k ob}, lookO k (nextM i j nx t rows' d o) = some ob → (k = i ∧ ob = .box t [.dq nx]) ∨ (k = nx ∧ ob = .abs 0 .row rows') ∨ (k ≠ i ∧ k ≠ j ∧ k ≠ nx ∧ lookO k o = some ob ∧ ∀ g, foot N k ob g → ¬ Qv g) := fun {k ob} h => by
  unfold nextM at h
  rw [lookO_cons, lookO_cons, lookO_cons] at h
  by_cases e1 : k = i
  ·rw [if_pos e1] at h; cases h; exact .inl ⟨e1, rfl⟩
  ·rw [if_neg e1] at h
   by_cases e2 : k = nx
   ·rw [if_pos e2] at h; cases h; exact .inr (.inl ⟨e2, rfl⟩)
   ·rw [if_neg e2] at h
    by_cases e3 : k = j
    ·rw [if_pos e3] at h; cases h
    ·rw [if_neg e3] at h; exact .inr (.inr ⟨e1, e3, e2, hd k ob h⟩)
 have hq : N'.q nx = root := if_pos rfl
 have footN : ∀ {k ob g}, k < nx → (foot N' k ob g ↔ foot N k ob g) := fun hk => foot_step st hk
 -- feet of the three kinds
 have fi : ∀ {g}, foot N' i (.box t [.dq nx]) g → g = N.b i := fun h => h
 have fn : ∀ {g}, foot N' nx (.abs 0 .row rows') g → foot N j (.abs 0 .row rows) g ∨ Qv g ∨ R.heap.size ≤ g := fun {g} ⟨k, hk⟩ => feet ⟨k, by rw [hq] at hk; exact hk⟩
 have hilt : N.b i < R.heap.size := by obtain ⟨us, _, h⟩ := hoi; exact blk_lt h
 have no : ∀ {k ob g}, lookO k o = some ob → k ≠ j → (∀ g, foot N k ob g → ¬ Qv g) → foot N k ob g → foot N' nx (.abs 0 .row rows') g → False := fun {k ob g} hk hkj hkQ h1 h2 => by
  rcases fn h2 with h | h | h
  ·exact far hk hkj h1 h
  ·exact hkQ g h1 h
  ·have := (hh.ob k ob hk).2.lt h1; omega
 have iQ : ∀ g, foot N i (.box t [.dq j]) g → ¬ Qv g := fun g h1 h2 => by
  obtain ⟨q, ob, h3, h4, h5⟩ := hQ g h2
  exact h5 (hh.sep q i ob _ g h3 hi h4 h1)
 refine ⟨N', ⟨fun g hg => Nat.lt_of_lt_of_le (hh.flt g hg) hc.size, fun k ob hk => ?_, fun k ob g hk hf hF => ?_, fun k k' x y g hk hk' hx hy => ?_, fun x hx => ⟨(hh.gl x hx).1, by rw [st.heap _ (hh.gl x hx).1]; exact (hh.gl x hx).2⟩⟩, ⟨Nat.le_succ _, st.b, st.q, fun _ h => h, fun g h => .inl h, fun g ⟨k, ob, hk, hf⟩ => ?_, hc.os, hc.tape, hc.output, hc.size, fun g hg hn => keep g hg fun h => hn ⟨j, _, hj, h⟩⟩⟩
 ·rcases from_ hk with ⟨rfl, rfl⟩ | ⟨rfl, rfl⟩ | ⟨n1, n2, n3, n4, n5⟩
  ·obtain ⟨us, u1, u2⟩ := hoi
   obtain ⟨w, us', rfl, v1, v2⟩ := u1.inv
   obtain rfl := v2.inv0
   cases v1 with
   | dq _ =>
    refine ⟨Nat.lt_succ_of_lt hin, [fam (N.q j) 0], ?_, (keep _ hilt (far hi hij rfl)).trans u2⟩
    refine HL.cons ?_ HL.nil
    have : fam (N'.q nx) 0 = fam (N.q j) 0 := by rw [hq, w1, e1]
    rw [← this]
    exact .dq (Nat.lt_succ_self _)
  ·exact ⟨Nat.lt_succ_self _, w3 F N' _ _ hq⟩
  ·obtain ⟨h1, h2⟩ := hh.ob k ob n4
   exact ⟨Nat.lt_succ_of_lt h1, h2.step st h1 fun g hg => keep g (h2.lt hg) (far n4 n2 hg)⟩
 ·rcases from_ hk with ⟨rfl, rfl⟩ | ⟨rfl, rfl⟩ | ⟨n1, n2, n3, n4, n5⟩
  ·exact hh.ff _ _ g hi (fi hf) hF
  ·rcases fn hf with h | h | h
   ·exact hh.ff _ _ g hj h hF
   ·obtain ⟨q, ob, h3, h4, _⟩ := hQ g h
    exact hh.ff _ _ g h3 h4 hF
   ·have := hh.flt g hF; omega
  ·exact hh.ff _ _ g n4 ((footN (hh.ob k ob n4).1).1 hf) hF
 ·rcases from_ hk with ⟨rfl, rfl⟩ | ⟨rfl, rfl⟩ | ⟨n1, n2, n3, n4, n5⟩ <;> rcases from_ hk' with ⟨rfl, rfl⟩ | ⟨rfl, rfl⟩ | ⟨m1, m2, m3, m4, m5⟩
  ·rfl
  ·exact (no hi hij iQ (fi hx) hy).elim
  ·exact hh.sep _ _ _ _ g hi m4 (fi hx) ((footN (hh.ob _ _ m4).1).1 hy)
  ·exact (no hi hij iQ (fi hy) hx).elim
  ·rfl
  ·exact (no m4 m2 m5 ((footN (hh.ob _ _ m4).1).1 hy) hx).elim
  ·exact hh.sep _ _ _ _ g n4 hi ((footN (hh.ob _ _ n4).1).1 hx) (fi hy)
  ·exact (no n4 n2 n5 ((footN (hh.ob _ _ n4).1).1 hx) hy).elim
  ·exact hh.sep _ _ _ _ g n4 m4 ((footN (hh.ob _ _ n4).1).1 hx) ((footN (hh.ob _ _ m4).1).1 hy)
 ·rcases from_ hk with ⟨rfl, rfl⟩ | ⟨rfl, rfl⟩ | ⟨n1, n2, n3, n4, n5⟩
  ·exact .inl ⟨_, _, hi, fi hf⟩
  ·rcases fn hf with h | h | h
   ·exact .inl ⟨_, _, hj, h⟩
   ·obtain ⟨q, ob, h3, h4, _⟩ := hQ g h
    exact .inl ⟨_, _, h3, h4⟩
   ·exact .inr h
  ·exact .inl ⟨_, _, n4, (footN (hh.ob k ob n4).1).1 hf⟩
theorem set_tok : TOk Try.prog 27 set_t := fun args nx o k x nx' o' ps h => by
 unfold set_t at h
 split at h <;> first | (cases h; done) | skip
 rename_i j key q
 split at h <;> first | (cases h; done) | skip
 rename_i rows cells qs i ha hq hi
 cases h
 refine ⟨fun hps F N R vs hh hl => ?_, (i, some (.box (tyBox i o) [.dq nx])) :: (nx, some (.abs 0 .row (setR rows ⟨key, cells⟩))) :: (j, none) :: [(q, none)], rfl⟩
 have ha := absR_ok ha
 obtain ⟨eq, els, hq, hty⟩ := arrR_ok hq
 obtain ⟨t, hi⟩ := boxOf_ok hi
 have ht : tyBox i o = t := by unfold tyBox; rw [hi]
 rw [ht]
 obtain ⟨_, hoj⟩ := hh.ob j _ ha
 obtain ⟨hqn, hoq⟩ := hh.ob q _ hq
 obtain ⟨B, L, lo, lv, rs, Q, e1, e2, hLay, hg, hr, fQ, fL, fB⟩ := abs_open hoj
 obtain ⟨v1, w1, rfl, a1, a2⟩ := hl.inv
 obtain ⟨v2, w2, rfl, a3, a4⟩ := a2.inv
 obtain ⟨v3, w3, rfl, a5, a6⟩ := a4.inv
 obtain rfl := a6.inv0
 obtain rfl := a3.v_inv
 have hqi : q ≠ i := fun e => by subst e; rw [hq] at hi; cases hi
 have hqj : q ≠ j := fun e => by subst e; rw [hq] at ha; cases ha
 let Qv : Nat → Prop := fun g => blkOf (N.q q) = some g
 have hv : ∃ va vcp, N.q q = .slice va cells.length vcp ∧ Rv (hp R) Qv (.sl .cell cells) (.slice va cells.length vcp) := by
  obtain ⟨zs, g1, g2⟩ := hoq
  obtain ⟨n1, n2⟩ := elsTy_ok (F := F) (N := N) (nx := nx) (R := R) hty (N1 hps)
  rw [← n1] at g1 g2 n2
  have hz : ∀ k, k < cells.length → HL Qv N nx R (enc .cell (cells.getD k (dflt .cell))) ((zs.drop (k * 8)).take 8) := fun k hk => (n2 k hk _ (g2 k hk)).nof (flatC_nof rfl _)
  have hs := (sl_of_own (F' := Qv) (N := N) (nx := nx) (c := .cell) g1 hz (fun g hg => hg)).1
  obtain ⟨a, c, q1, q2⟩ := g1.form
  exact ⟨a, c, q1, by rw [← q1]; exact hv_rv hs trivial⟩
 obtain ⟨va, vcp, hv1, hv2⟩ := hv
 have hvv : v3 = .slice va cells.length vcp := by rw [← hv1]; exact (a5.sq_inv).2
 have hv1' : v1 = .pointer (some ⟨B, 0, none⟩) := by
  cases a1 with
  | dq _ => exact e1
 subst hvv hv1'
 have e2' : R.heap[B]? = some (.cells #[lv, .int .i64 ((rowsOf (rs.map (·.b))).length : Int)] 67 (0, 0)) := by rw [← hr]; exact e2
 have fq : ∀ g, Qv g → foot N q (.arr eq 8 els) g := fun g h => h
 refine (bset_ok (key := key) hLay hg e2' (by rw [← hr]; exact N0 hps) hv2 (fun g h => hoq.lt (fq g h)) (fun h => hqj (hh.sep q j _ _ B hq ha (fq B h) fB)) (fun h0 h => hqj (hh.sep q j _ _ L hq ha (fq L h) (fL h0)))).mono fun e R' ⟨h1, h2⟩ => ?_
 rw [← hr] at h2
 obtain ⟨N', z1, z2⟩ := turn_abs (d := [(q, none)]) hh hi ha (fun k ob hk => by
  rw [List.cons_append, List.nil_append, lookO_cons] at hk
  by_cases e : k = q
  ·rw [if_pos e] at hk; cases hk
  ·rw [if_neg e] at hk
   exact ⟨hk, fun g h1 h2 => e (hh.sep k q ob _ g hk hq h1 (fq g h2))⟩) (fun g h => ⟨q, _, hq, fq g h, hqi⟩) e1 fQ fL fB h2
 exact ⟨_, F, N', h1, z1, z2, .v _, fun hk => by omega⟩
theorem drop_tok : TOk Try.prog 31 drop_t := fun args nx o k x nx' o' ps h => by
 unfold drop_t at h
 split at h <;> first | (cases h; done) | skip
 rename_i j key
 split at h <;> first | (cases h; done) | skip
 rename_i rows i ha hi
 cases h
 refine ⟨fun hps F N R vs hh hl => ?_, (i, some (.box (tyBox i o) [.dq nx])) :: (nx, some (.abs 0 .row (dropR rows key))) :: (j, none) :: [], rfl⟩
 have ha := absR_ok ha
 obtain ⟨t, hi⟩ := boxOf_ok hi
 have ht : tyBox i o = t := by unfold tyBox; rw [hi]
 rw [ht]
 obtain ⟨_, hoj⟩ := hh.ob j _ ha
 obtain ⟨B, L, lo, lv, rs, Q, e1, e2, hLay, hg, hr, fQ, fL, fB⟩ := abs_open hoj
 obtain ⟨v1, w1, rfl, a1, a2⟩ := hl.inv
 obtain ⟨v2, w2, rfl, a3, a4⟩ := a2.inv
 obtain rfl := a4.inv0
 obtain rfl := a3.v_inv
 have hv1' : v1 = .pointer (some ⟨B, 0, none⟩) := by
  cases a1 with
  | dq _ => exact e1
 subst hv1'
 have e2' : R.heap[B]? = some (.cells #[lv, .int .i64 ((rowsOf (rs.map (·.b))).length : Int)] 67 (0, 0)) := by rw [← hr]; exact e2
 refine (bdrop_ok (key := key) hLay hg e2' (by rw [← hr]; exact N0 hps)).mono fun e R' ⟨h1, h2⟩ => ?_
 rw [← hr] at h1 h2
 obtain ⟨N', z1, z2⟩ := turn_abs (d := []) hh hi ha (fun k ob hk => ⟨hk, fun g _ h => h⟩) (fun g h => h.elim) e1 fQ fL fB h2
 exact ⟨_, F, N', h1, z1, z2, .v _, fun hk => by omega⟩
noncomputable def Cmp : Tab := addC 30 at_t (addC 27 set_t (addC 31 drop_t C0))
theorem Cmp_ok : COk Try.prog Cmp := addC_ok at_tok (addC_ok set_tok (addC_ok drop_tok C0_ok))
end Go.Proofs.Ytnfmceffbnaanaa
namespace Go.Proofs.Ytnfmceffbnaanaa
open Go.RowKit
def mnone_r (_a0 : List TBlock) (_a1 : Int) : A := .v (.bool (false))
def mnone_o (_a0 : List TBlock) (_a1 : Int) : Objs := []
def mnone_ps (_a0 : List TBlock) (_a1 : Int) : List Prop := []
theorem mnone_ev (a0 : List TBlock) (a1 : Int) : evF (envT Cmp L0) 9 26 [.ref [.ref [.sl .block a0, .v (.int .i64 a1)]]] 0 [] = some (1, mnone_r a0 a1, 0, mnone_o a0 a1, mnone_ps a0 a1) := by kernel_rfl
theorem mnone_c (a0 : List TBlock) (a1 : Int) (hp : ∀ p ∈ mnone_ps a0 a1, p) : CallOk Try.prog 26 [.ref [.ref [.sl .block a0, .v (.int .i64 a1)]]] 0 [] 1 (mnone_r a0 a1) 0 (mnone_o a0 a1) := evF_ok (envP_ok Cmp_ok L0_ok) (mnone_ev a0 a1) hp
noncomputable def Cso3_1 := addC 26 (inl (envT Cmp L0) 20 26) Cmp
theorem Cso3_1_ok : COk Try.prog Cso3_1 := addC_ok (inl_ok (envP_ok Cmp_ok L0_ok) 20 26) Cmp_ok
noncomputable def Cso3_2 := addC 28 (inl (envT Cso3_1 L0) 20 28) Cso3_1
theorem Cso3_2_ok : COk Try.prog Cso3_2 := addC_ok (inl_ok (envP_ok Cso3_1_ok L0_ok) 20 28) Cso3_1_ok
def mlen_r (_a0 : List TBlock) (a1 : Int) : A := .v (.int .i64 a1)
def mlen_o (_a0 : List TBlock) (_a1 : Int) : Objs := []
def mlen_ps (_a0 : List TBlock) (_a1 : Int) : List Prop := []
theorem mlen_ev (a0 : List TBlock) (a1 : Int) : evF (envT Cso3_2 L0) 9 17 [.ref [.ref [.sl .block a0, .v (.int .i64 a1)]]] 0 [] = some (1, mlen_r a0 a1, 0, mlen_o a0 a1, mlen_ps a0 a1) := by kernel_rfl
theorem mlen_c (a0 : List TBlock) (a1 : Int) (hp : ∀ p ∈ mlen_ps a0 a1, p) : CallOk Try.prog 17 [.ref [.ref [.sl .block a0, .v (.int .i64 a1)]]] 0 [] 1 (mlen_r a0 a1) 0 (mlen_o a0 a1) := evF_ok (envP_ok Cso3_2_ok L0_ok) (mlen_ev a0 a1) hp
def mget_k1 (a0 : List TBlock) (_a1 : Int) (a2 : ByteArray) : Bool := !(atI a0 a2).snd.snd
def mget_k0 (a0 : List TBlock) (_a1 : Int) (a2 : ByteArray) : Int := (↑(atI a0 a2).snd.fst : Int)
def mget_0 (a0 : List TBlock) (a1 : Int) (a2 : ByteArray) : ByteArray := bif (mget_k1 a0 a1 a2) then ByteArray.mk #[] else a2
def mget_1 (a0 : List TBlock) (a1 : Int) (a2 : ByteArray) : Bool := bif (mget_k1 a0 a1 a2) then false else true
def mget_2 (a0 : List TBlock) (a1 : Int) (a2 : ByteArray) : List TCell := bif (mget_k1 a0 a1 a2) then [] else [] ++ (a0.getD (↑(atI a0 a2).fst : Int).toNat (dflt TC.block)).2.getD (mget_k0 a0 a1 a2).toNat (dflt TC.cells)
def mget_r (a0 : List TBlock) (a1 : Int) (a2 : ByteArray) : A := .tup [.agg [.v (.string (mget_0 a0 a1 a2)), .sq 0], .v (.bool (mget_1 a0 a1 a2))]
def mget_o (a0 : List TBlock) (a1 : Int) (a2 : ByteArray) : Objs := [(0, some (.arr 64 8 (.ty .cell (mget_2 a0 a1 a2))))]
def mget_ps (a0 : List TBlock) (a1 : Int) (a2 : ByteArray) : List Prop := [(true = true → GoodAt a0), (true = true → (!(mget_k1 a0 a1 a2)) = true → (0 : Int) ≤ (↑(atI a0 a2).fst : Int) ∧ (↑(atI a0 a2).fst : Int) < (↑a0.length : Int)), (true = true → (!(mget_k1 a0 a1 a2)) = true → (0 : Int) ≤ (mget_k0 a0 a1 a2) ∧ (mget_k0 a0 a1 a2) < (↑(a0.getD (↑(atI a0 a2).fst : Int).toNat (dflt TC.block)).2.length : Int)), (true = true → (!(mget_k1 a0 a1 a2)) = true → boundP ((0 : Nat) + List.length ((a0.getD (↑(atI a0 a2).fst : Int).toNat (dflt TC.block)).2.getD (mget_k0 a0 a1 a2).toNat (dflt TC.cells))))]
theorem mget_ev (a0 : List TBlock) (a1 : Int) (a2 : ByteArray) : evF (envT Cso3_2 L0) 9 16 [.ref [.ref [.sl .block a0, .v (.int .i64 a1)]], .v (.string a2)] 0 [] = some (1, mget_r a0 a1 a2, 1, mget_o a0 a1 a2, mget_ps a0 a1 a2) := by kernel_rfl
theorem mget_c (a0 : List TBlock) (a1 : Int) (a2 : ByteArray) (hp : ∀ p ∈ mget_ps a0 a1 a2, p) : CallOk Try.prog 16 [.ref [.ref [.sl .block a0, .v (.int .i64 a1)]], .v (.string a2)] 0 [] 1 (mget_r a0 a1 a2) 1 (mget_o a0 a1 a2) := evF_ok (envP_ok Cso3_2_ok L0_ok) (mget_ev a0 a1 a2) hp
abbrev mscan_l2_X : Type := ByteArray × Int × Int × TBlock × (List TRow)
def mscan_l2_T (x : mscan_l2_X) : St := ⟨88, 4, [(2, .v (.string x.1)), (3, .v (.int .i64 x.2.1)), (8, .dq 3), (10, .v (.int .i64 x.2.2.1)), (12, .own 2 0)], [(2, some (.box 75 [.sl .str x.2.2.2.1.keys, .sl .cells x.2.2.2.1.vals])), (3, some (.deep 29 .row x.2.2.2.2))]⟩
def mscan_l2_un : St → Option mscan_l2_X
 | ⟨88, 4, [(2, .v (.string z0)), (3, .v (.int .i64 z1)), (8, .dq 3), (10, .v (.int .i64 z2)), (12, .own 2 0)], [(2, some (.box 75 [.sl .str z3, .sl .cells z4])), (3, some (.deep 29 .row z5))]⟩ => some (z0, z1, z2, ⟨z3, z4⟩, z5)
 | _ => none
theorem mscan_l2_unok : ∀ s x, mscan_l2_un s = some x → s = mscan_l2_T x := fun s x h => by
 unfold mscan_l2_un at h
 split at h
 ·cases h; rfl
 ·cases h
def mscan_l2_S : Shape := ⟨3, 4, [2, 3, 8, 10, 12], [], [(2, 2), (6, 3)], [2, 6], [8], [3, 2]⟩
def mscan_l2_E : Entry := ⟨[], [(2, 2), (1, 3)], [2, 3, 8, 10, 12], [2, 1]⟩
def mscan_l2_f_k3 (a0 : ByteArray) (_a1 : Int) (_a2 : Int) (_a3 : TBlock) (_a4 : List TRow) : Bool := !a0.toList == (ByteArray.mk #[]).toList
def mscan_l2_f_k2 (_a0 : ByteArray) (a1 : Int) (_a2 : Int) (_a3 : TBlock) (a4 : List TRow) : Bool := decide ((↑a4.length : Int) ≥ a1)
def mscan_l2_f_k1 (_a0 : ByteArray) (_a1 : Int) (a2 : Int) (a3 : TBlock) (_a4 : List TRow) : Bool := !!decide (a2 < (↑a3.1.length : Int))
def mscan_l2_f_k0 (a0 : ByteArray) (a1 : Int) (a2 : Int) (a3 : TBlock) (a4 : List TRow) : Bool := (mscan_l2_f_k1 a0 a1 a2 a3 a4) && ((mscan_l2_f_k2 a0 a1 a2 a3 a4) || (mscan_l2_f_k3 a0 a1 a2 a3 a4) && !Op.bytesLess (ByteArray.toList (a3.1.getD a2.toNat (dflt TC.str))) a0.toList)
def mscan_l2_f_4 (_a0 : ByteArray) (_a1 : Int) (a2 : Int) (a3 : TBlock) (a4 : List TRow) : List TRow := a4 ++ [setI TC.row TC.cell (TRow.mk (a3.1.getD a2.toNat (dflt TC.str)) []) ([] ++ a3.2.getD a2.toNat (dflt TC.cells))]
def mscan_l2_f_5 (a0 : ByteArray) (a1 : Int) (a2 : Int) (a3 : TBlock) (a4 : List TRow) : Bool := (mscan_l2_f_k1 a0 a1 a2 a3 a4) && !(mscan_l2_f_k0 a0 a1 a2 a3 a4)
def mscan_l2_next (x : mscan_l2_X) : mscan_l2_X := (x.1, x.2.1, IntKind.i64.wrap (x.2.2.1 + (1 : Int)), x.2.2.2.1, mscan_l2_f_4 x.1 x.2.1 x.2.2.1 x.2.2.2.1 x.2.2.2.2)
def mscan_l2_goes (x : mscan_l2_X) : Cnd := some (mscan_l2_f_5 x.1 x.2.1 x.2.2.1 x.2.2.2.1 x.2.2.2.2)
def mscan_l2_psA (x : mscan_l2_X) : List Prop := [((mscan_l2_f_k1 x.1 x.2.1 x.2.2.1 x.2.2.2.1 x.2.2.2.2) = true → (mscan_l2_f_k3 x.1 x.2.1 x.2.2.1 x.2.2.2.1 x.2.2.2.2) = true → (mscan_l2_f_k2 x.1 x.2.1 x.2.2.1 x.2.2.2.1 x.2.2.2.2) = false → (0 : Int) ≤ x.2.2.1 ∧ x.2.2.1 < (↑x.2.2.2.1.1.length : Int)), ((mscan_l2_f_k1 x.1 x.2.1 x.2.2.1 x.2.2.2.1 x.2.2.2.2) = true → (!((mscan_l2_f_k2 x.1 x.2.1 x.2.2.1 x.2.2.2.1 x.2.2.2.2) || (mscan_l2_f_k3 x.1 x.2.1 x.2.2.1 x.2.2.2.1 x.2.2.2.2) && !Op.bytesLess (ByteArray.toList (x.2.2.2.1.1.getD x.2.2.1.toNat (dflt TC.str))) x.1.toList)) = true → (0 : Int) ≤ x.2.2.1 ∧ x.2.2.1 < (↑x.2.2.2.1.1.length : Int)), ((mscan_l2_f_k1 x.1 x.2.1 x.2.2.1 x.2.2.2.1 x.2.2.2.2) = true → (!((mscan_l2_f_k2 x.1 x.2.1 x.2.2.1 x.2.2.2.1 x.2.2.2.2) || (mscan_l2_f_k3 x.1 x.2.1 x.2.2.1 x.2.2.2.1 x.2.2.2.2) && !Op.bytesLess (ByteArray.toList (x.2.2.2.1.1.getD x.2.2.1.toNat (dflt TC.str))) x.1.toList)) = true → (0 : Int) ≤ x.2.2.1 ∧ x.2.2.1 < (↑x.2.2.2.1.2.length : Int)), ((mscan_l2_f_k1 x.1 x.2.1 x.2.2.1 x.2.2.2.1 x.2.2.2.2) = true → (!((mscan_l2_f_k2 x.1 x.2.1 x.2.2.1 x.2.2.2.1 x.2.2.2.2) || (mscan_l2_f_k3 x.1 x.2.1 x.2.2.1 x.2.2.2.1 x.2.2.2.2) && !Op.bytesLess (ByteArray.toList (x.2.2.2.1.1.getD x.2.2.1.toNat (dflt TC.str))) x.1.toList)) = true → boundP ((0 : Nat) + List.length (x.2.2.2.1.2.getD x.2.2.1.toNat (dflt TC.cells)))), ((mscan_l2_f_k1 x.1 x.2.1 x.2.2.1 x.2.2.2.1 x.2.2.2.2) = true → (!((mscan_l2_f_k2 x.1 x.2.1 x.2.2.1 x.2.2.2.1 x.2.2.2.2) || (mscan_l2_f_k3 x.1 x.2.1 x.2.2.1 x.2.2.2.1 x.2.2.2.2) && !Op.bytesLess (ByteArray.toList (x.2.2.2.1.1.getD x.2.2.1.toNat (dflt TC.str))) x.1.toList)) = true → boundP (x.2.2.2.2.length + (1 : Nat)))]
abbrev mscan_l2_ps : mscan_l2_X → List Prop := mscan_l2_psA
def mscan_l2_outs (x : mscan_l2_X) : Outs := [(some 2, some (!decide (x.2.2.1 < (↑x.2.2.2.1.1.length : Int))), ⟨88, 4, [(8, .dq 3)], [(3, some (.deep 29 .row x.2.2.2.2)), (2, some (.box 75 [.sl .str x.2.2.2.1.1, .sl .cells x.2.2.2.1.2]))]⟩), (none, some ((mscan_l2_f_k0 x.1 x.2.1 x.2.2.1 x.2.2.2.1 x.2.2.2.2)), ⟨88, 4, [(8, .dq 3)], [(3, some (.deep 29 .row x.2.2.2.2)), (2, some (.box 75 [.sl .str x.2.2.2.1.1, .sl .cells x.2.2.2.1.2]))]⟩)]
def mscan_l2_fuel (x : mscan_l2_X) : Nat := ((↑x.2.2.2.1.1.length : Int) - x.2.2.1).toNat
def mscan_l2_run (x : mscan_l2_X) : mscan_l2_X := iterX mscan_l2_next mscan_l2_goes (mscan_l2_fuel x) x
theorem mscan_l2_ev (a0 : ByteArray) (a1 : Int) (a2 : Int) (a3 : TBlock) (a4 : List TRow) : roundE (envT Cso3_2 L0) 9 (loopAt Try.prog 13 2) mscan_l2_S (mscan_l2_T (a0, a1, a2, a3, a4)) = some (mscan_l2_psA (a0, a1, a2, a3, a4), mscan_l2_outs (a0, a1, a2, a3, a4), mscan_l2_goes (a0, a1, a2, a3, a4), mscan_l2_T (mscan_l2_next (a0, a1, a2, a3, a4))) := by kernel_rfl
theorem mscan_l2_hA (a0 : ByteArray) (a1 : Int) (a2 : Int) (a3 : TBlock) (a4 : List TRow) (hp : ∀ p ∈ mscan_l2_ps (a0, a1, a2, a3, a4), p) : ∀ p ∈ mscan_l2_psA (a0, a1, a2, a3, a4), p := hp
noncomputable def mscan_l2_row := rowL (envT Cso3_2 L0) (loopAt Try.prog 13 2) mscan_l2_S mscan_l2_E mscan_l2_un mscan_l2_fuel mscan_l2_next mscan_l2_goes mscan_l2_ps mscan_l2_outs
theorem mscan_l2_rok : ∀ s b ps outs, mscan_l2_row s = some (b, ps, outs) → Wf s ⟨ps, outs, none⟩ ∧ LoopOk (envT C0 L0) b s ps outs :=
 rowP_ok (T := mscan_l2_T) Cso3_2_ok L0_ok (u := 9) (by kernel_rfl) (by decide) (fun ⟨a0, a1, a2, a3, a4⟩ => mscan_l2_ev a0 a1 a2 a3 a4) (fun ⟨a0, a1, a2, a3, a4⟩ => mscan_l2_hA a0 a1 a2 a3 a4) mscan_l2_unok (fun _ => okOuts_ok (n := 88) rfl) fun _ _ => rfl
noncomputable def mscan_l2_L := addLp 2 mscan_l2_row L0
theorem mscan_l2_Lok : LpOk mscan_l2_L := addLp_ok mscan_l2_rok L0_ok
abbrev mscan_l0_X : Type := (List TBlock) × Int × ByteArray × Int × Int × Int × (List TRow)
def mscan_l0_T (x : mscan_l0_X) : St := ⟨88, 2, [(0, .ref [.ref [.sl .block x.1, .v (.int .i64 x.2.1)]]), (2, .v (.string x.2.2.1)), (3, .v (.int .i64 x.2.2.2.1)), (8, .dq 1), (9, .v (.int .i64 x.2.2.2.2.1)), (10, .v (.int .i64 x.2.2.2.2.2.1))], [(1, some (.deep 29 .row x.2.2.2.2.2.2))]⟩
def mscan_l0_un : St → Option mscan_l0_X
 | ⟨88, 2, [(0, .ref [.ref [.sl .block z0, .v (.int .i64 z1)]]), (2, .v (.string z2)), (3, .v (.int .i64 z3)), (8, .dq 1), (9, .v (.int .i64 z4)), (10, .v (.int .i64 z5))], [(1, some (.deep 29 .row z6))]⟩ => some (z0, z1, z2, z3, z4, z5, z6)
 | _ => none
theorem mscan_l0_unok : ∀ s x, mscan_l0_un s = some x → s = mscan_l0_T x := fun s x h => by
 unfold mscan_l0_un at h
 split at h
 ·cases h; rfl
 ·cases h
def mscan_l0_S : Shape := ⟨1, 2, [0, 2, 3, 8, 9, 10], [], [(3, 1)], [3], [8], [1, 3]⟩
def mscan_l0_E : Entry := ⟨[.nilD 8 29 .row], [(0, 1)], [0, 2, 3, 8, 9, 10], [0]⟩
def mscan_l0_f_k2 (a0 : List TBlock) (_a1 : Int) (_a2 : ByteArray) (_a3 : Int) (a4 : Int) (_a5 : Int) (_a6 : List TRow) : Bool := !!decide (a4 < (↑a0.length : Int))
def mscan_l0_f_k1 (a0 : List TBlock) (_a1 : Int) (a2 : ByteArray) (a3 : Int) (a4 : Int) (a5 : Int) (a6 : List TRow) : List TRow := (mscan_l2_run (a2, a3, a5, a0.getD a4.toNat (dflt TC.block), a6)).snd.snd.snd.snd
def mscan_l0_f_k0 (a0 : List TBlock) (a1 : Int) (a2 : ByteArray) (a3 : Int) (a4 : Int) (a5 : Int) (a6 : List TRow) : Bool := (mscan_l0_f_k2 a0 a1 a2 a3 a4 a5 a6) && mscan_l2_f_k0 (mscan_l2_run (a2, a3, a5, a0.getD a4.toNat (dflt TC.block), a6)).fst (mscan_l2_run (a2, a3, a5, a0.getD a4.toNat (dflt TC.block), a6)).snd.fst (mscan_l2_run (a2, a3, a5, a0.getD a4.toNat (dflt TC.block), a6)).snd.snd.fst (mscan_l2_run (a2, a3, a5, a0.getD a4.toNat (dflt TC.block), a6)).snd.snd.snd.fst (mscan_l0_f_k1 a0 a1 a2 a3 a4 a5 a6)
def mscan_l0_f_6 (a0 : List TBlock) (a1 : Int) (a2 : ByteArray) (a3 : Int) (a4 : Int) (a5 : Int) (a6 : List TRow) : List TRow := (mscan_l0_f_k1 a0 a1 a2 a3 a4 a5 a6)
def mscan_l0_f_7 (a0 : List TBlock) (a1 : Int) (a2 : ByteArray) (a3 : Int) (a4 : Int) (a5 : Int) (a6 : List TRow) : Bool := (mscan_l0_f_k2 a0 a1 a2 a3 a4 a5 a6) && !(mscan_l0_f_k0 a0 a1 a2 a3 a4 a5 a6)
def mscan_l0_f_14 (a0 : List TBlock) (a1 : Int) (a2 : ByteArray) (a3 : Int) (a4 : Int) (a5 : Int) (a6 : List TRow) : List TRow := (mscan_l0_f_k1 a0 a1 a2 a3 a4 a5 a6)
def mscan_l0_next (x : mscan_l0_X) : mscan_l0_X := (x.1, x.2.1, x.2.2.1, x.2.2.2.1, IntKind.i64.wrap (x.2.2.2.2.1 + (1 : Int)), (0 : Int), mscan_l0_f_6 x.1 x.2.1 x.2.2.1 x.2.2.2.1 x.2.2.2.2.1 x.2.2.2.2.2.1 x.2.2.2.2.2.2)
def mscan_l0_goes (x : mscan_l0_X) : Cnd := some (mscan_l0_f_7 x.1 x.2.1 x.2.2.1 x.2.2.2.1 x.2.2.2.2.1 x.2.2.2.2.2.1 x.2.2.2.2.2.2)
def mscan_l0_psA (x : mscan_l0_X) : List Prop := [((mscan_l0_f_k2 x.1 x.2.1 x.2.2.1 x.2.2.2.1 x.2.2.2.2.1 x.2.2.2.2.2.1 x.2.2.2.2.2.2) = true → (0 : Int) ≤ x.2.2.2.2.1 ∧ x.2.2.2.2.1 < (↑x.1.length : Int)), ((mscan_l0_f_k2 x.1 x.2.1 x.2.2.1 x.2.2.2.1 x.2.2.2.2.1 x.2.2.2.2.2.1 x.2.2.2.2.2.2) = true → loopAt Try.prog (13 : FuncId) (2 : Nat) = loopAt Try.prog (13 : FuncId) (2 : Nat)), ((mscan_l0_f_k2 x.1 x.2.1 x.2.2.1 x.2.2.2.1 x.2.2.2.2.1 x.2.2.2.2.2.1 x.2.2.2.2.2.2) = true → needX mscan_l2_next mscan_l2_goes mscan_l2_ps (mscan_l2_fuel (x.2.2.1, x.2.2.2.1, x.2.2.2.2.2.1, x.1.getD x.2.2.2.2.1.toNat (dflt TC.block), x.2.2.2.2.2.2)) (x.2.2.1, x.2.2.2.1, x.2.2.2.2.2.1, x.1.getD x.2.2.2.2.1.toNat (dflt TC.block), x.2.2.2.2.2.2))]
def mscan_l0_ps (x : mscan_l0_X) : List Prop := [((mscan_l0_f_k2 x.1 x.2.1 x.2.2.1 x.2.2.2.1 x.2.2.2.2.1 x.2.2.2.2.2.1 x.2.2.2.2.2.2) = true → (0 : Int) ≤ x.2.2.2.2.1 ∧ x.2.2.2.2.1 < (↑x.1.length : Int)), ((mscan_l0_f_k2 x.1 x.2.1 x.2.2.1 x.2.2.2.1 x.2.2.2.2.1 x.2.2.2.2.2.1 x.2.2.2.2.2.2) = true → needX mscan_l2_next mscan_l2_goes mscan_l2_ps (mscan_l2_fuel (x.2.2.1, x.2.2.2.1, x.2.2.2.2.2.1, x.1.getD x.2.2.2.2.1.toNat (dflt TC.block), x.2.2.2.2.2.2)) (x.2.2.1, x.2.2.2.1, x.2.2.2.2.2.1, x.1.getD x.2.2.2.2.1.toNat (dflt TC.block), x.2.2.2.2.2.2))]
def mscan_l0_outs (x : mscan_l0_X) : Outs := [(some 0, some (!decide (x.2.2.2.2.1 < (↑x.1.length : Int))), ⟨88, 2, [(8, .dq 1)], [(1, some (.deep 29 .row x.2.2.2.2.2.2)), (3, none)]⟩), (none, some ((mscan_l0_f_k0 x.1 x.2.1 x.2.2.1 x.2.2.2.1 x.2.2.2.2.1 x.2.2.2.2.2.1 x.2.2.2.2.2.2)), ⟨88, 4, [(8, .dq 3)], [(1, none), (3, some (.deep 29 .row (mscan_l0_f_14 x.1 x.2.1 x.2.2.1 x.2.2.2.1 x.2.2.2.2.1 x.2.2.2.2.2.1 x.2.2.2.2.2.2)))]⟩)]
def mscan_l0_fuel (x : mscan_l0_X) : Nat := ((↑x.1.length : Int) - x.2.2.2.2.1).toNat
def mscan_l0_run (x : mscan_l0_X) : mscan_l0_X := iterX mscan_l0_next mscan_l0_goes (mscan_l0_fuel x) x
theorem mscan_l0_ev (a0 : List TBlock) (a1 : Int) (a2 : ByteArray) (a3 : Int) (a4 : Int) (a5 : Int) (a6 : List TRow) : roundE (envT Cso3_2 mscan_l2_L) 9 (loopAt Try.prog 13 0) mscan_l0_S (mscan_l0_T (a0, a1, a2, a3, a4, a5, a6)) = some (mscan_l0_psA (a0, a1, a2, a3, a4, a5, a6), mscan_l0_outs (a0, a1, a2, a3, a4, a5, a6), mscan_l0_goes (a0, a1, a2, a3, a4, a5, a6), mscan_l0_T (mscan_l0_next (a0, a1, a2, a3, a4, a5, a6))) := by kernel_rfl
theorem mscan_l0_hA (a0 : List TBlock) (a1 : Int) (a2 : ByteArray) (a3 : Int) (a4 : Int) (a5 : Int) (a6 : List TRow) (hp : ∀ p ∈ mscan_l0_ps (a0, a1, a2, a3, a4, a5, a6), p) : ∀ p ∈ mscan_l0_psA (a0, a1, a2, a3, a4, a5, a6), p := by
 have n0 := N0 hp
 have n1 : ((mscan_l0_f_k2 a0 a1 a2 a3 a4 a5 a6) = true → loopAt Try.prog (13 : FuncId) (2 : Nat) = loopAt Try.prog (13 : FuncId) (2 : Nat)) := by intros; rfl
 have n2 := N0 (N1 hp)
 exact (needs_cons n0 (needs_cons n1 (needs_cons n2 needs_nil)))
noncomputable def mscan_l0_row := rowL (envT Cso3_2 mscan_l2_L) (loopAt Try.prog 13 0) mscan_l0_S mscan_l0_E mscan_l0_un mscan_l0_fuel mscan_l0_next mscan_l0_goes mscan_l0_ps mscan_l0_outs
theorem mscan_l0_rok : ∀ s b ps outs, mscan_l0_row s = some (b, ps, outs) → Wf s ⟨ps, outs, none⟩ ∧ LoopOk (envT C0 L0) b s ps outs :=
 rowP_ok (T := mscan_l0_T) Cso3_2_ok mscan_l2_Lok (u := 9) (by kernel_rfl) (by decide) (fun ⟨a0, a1, a2, a3, a4, a5, a6⟩ => mscan_l0_ev a0 a1 a2 a3 a4 a5 a6) (fun ⟨a0, a1, a2, a3, a4, a5, a6⟩ => mscan_l0_hA a0 a1 a2 a3 a4 a5 a6) mscan_l0_unok (fun _ => okOuts_ok (n := 88) rfl) fun _ _ => rfl
noncomputable def mscan_l0_L := addLp 0 mscan_l0_row mscan_l2_L
theorem mscan_l0_Lok : LpOk mscan_l0_L := addLp_ok mscan_l0_rok mscan_l2_Lok
def mscan_k6 (a0 : List TBlock) (a1 : Int) (a2 : ByteArray) (a3 : ByteArray) (a4 : Int) : List TBlock := (mscan_l0_run (a0, a1, a3, a4, (↑(atI a0 a2).fst : Int), (↑(atI a0 a2).snd.fst : Int), [])).fst
def mscan_k5 (a0 : List TBlock) (a1 : Int) (a2 : ByteArray) (a3 : ByteArray) (a4 : Int) : Int := (mscan_l0_run (a0, a1, a3, a4, (↑(atI a0 a2).fst : Int), (↑(atI a0 a2).snd.fst : Int), [])).snd.fst
def mscan_k4 (a0 : List TBlock) (a1 : Int) (a2 : ByteArray) (a3 : ByteArray) (a4 : Int) : ByteArray := (mscan_l0_run (a0, a1, a3, a4, (↑(atI a0 a2).fst : Int), (↑(atI a0 a2).snd.fst : Int), [])).snd.snd.fst
def mscan_k3 (a0 : List TBlock) (a1 : Int) (a2 : ByteArray) (a3 : ByteArray) (a4 : Int) : Int := (mscan_l0_run (a0, a1, a3, a4, (↑(atI a0 a2).fst : Int), (↑(atI a0 a2).snd.fst : Int), [])).snd.snd.snd.fst
def mscan_k2 (a0 : List TBlock) (a1 : Int) (a2 : ByteArray) (a3 : ByteArray) (a4 : Int) : Int := (mscan_l0_run (a0, a1, a3, a4, (↑(atI a0 a2).fst : Int), (↑(atI a0 a2).snd.fst : Int), [])).snd.snd.snd.snd.fst
def mscan_k1 (a0 : List TBlock) (a1 : Int) (a2 : ByteArray) (a3 : ByteArray) (a4 : Int) : List TRow := (mscan_l0_run (a0, a1, a3, a4, (↑(atI a0 a2).fst : Int), (↑(atI a0 a2).snd.fst : Int), [])).snd.snd.snd.snd.snd.snd
def mscan_k0 (a0 : List TBlock) (a1 : Int) (a2 : ByteArray) (a3 : ByteArray) (a4 : Int) : Int := (mscan_l0_run (a0, a1, a3, a4, (↑(atI a0 a2).fst : Int), (↑(atI a0 a2).snd.fst : Int), [])).snd.snd.snd.snd.snd.fst
def mscan_0 (a0 : List TBlock) (a1 : Int) (a2 : ByteArray) (a3 : ByteArray) (a4 : Int) : List TRow := bif mscan_l0_f_k0 (mscan_k6 a0 a1 a2 a3 a4) (mscan_k5 a0 a1 a2 a3 a4) (mscan_k4 a0 a1 a2 a3 a4) (mscan_k3 a0 a1 a2 a3 a4) (mscan_k2 a0 a1 a2 a3 a4) (mscan_k0 a0 a1 a2 a3 a4) (mscan_k1 a0 a1 a2 a3 a4) then mscan_l0_f_14 (mscan_k6 a0 a1 a2 a3 a4) (mscan_k5 a0 a1 a2 a3 a4) (mscan_k4 a0 a1 a2 a3 a4) (mscan_k3 a0 a1 a2 a3 a4) (mscan_k2 a0 a1 a2 a3 a4) (mscan_k0 a0 a1 a2 a3 a4) (mscan_k1 a0 a1 a2 a3 a4) else (mscan_k1 a0 a1 a2 a3 a4)
def mscan_r (_a0 : List TBlock) (_a1 : Int) (_a2 : ByteArray) (_a3 : ByteArray) (_a4 : Int) : A := .dq 0
def mscan_o (a0 : List TBlock) (a1 : Int) (a2 : ByteArray) (a3 : ByteArray) (a4 : Int) : Objs := [(0, some (.deep 29 .row (mscan_0 a0 a1 a2 a3 a4)))]
def mscan_ps (a0 : List TBlock) (a1 : Int) (a2 : ByteArray) (a3 : ByteArray) (a4 : Int) : List Prop := [(true = true → GoodAt a0), (true = true → needX mscan_l0_next mscan_l0_goes mscan_l0_ps (mscan_l0_fuel (a0, a1, a3, a4, (↑(atI a0 a2).fst : Int), (↑(atI a0 a2).snd.fst : Int), [])) (a0, a1, a3, a4, (↑(atI a0 a2).fst : Int), (↑(atI a0 a2).snd.fst : Int), []))]
theorem mscan_ev (a0 : List TBlock) (a1 : Int) (a2 : ByteArray) (a3 : ByteArray) (a4 : Int) : evF (envT Cso3_2 mscan_l0_L) 9 13 [.ref [.ref [.sl .block a0, .v (.int .i64 a1)]], .v (.string a2), .v (.string a3), .v (.int .i64 a4)] 0 [] = some (1, mscan_r a0 a1 a2 a3 a4, 1, mscan_o a0 a1 a2 a3 a4, [(true = true → GoodAt a0), (true = true → loopAt Try.prog (13 : FuncId) (0 : Nat) = loopAt Try.prog (13 : FuncId) (0 : Nat)), (true = true → needX mscan_l0_next mscan_l0_goes mscan_l0_ps (mscan_l0_fuel (a0, a1, a3, a4, (↑(atI a0 a2).fst : Int), (↑(atI a0 a2).snd.fst : Int), [])) (a0, a1, a3, a4, (↑(atI a0 a2).fst : Int), (↑(atI a0 a2).snd.fst : Int), []))]) := by kernel_rfl
theorem mscan_c (a0 : List TBlock) (a1 : Int) (a2 : ByteArray) (a3 : ByteArray) (a4 : Int) (hp : ∀ p ∈ mscan_ps a0 a1 a2 a3 a4, p) : CallOk Try.prog 13 [.ref [.ref [.sl .block a0, .v (.int .i64 a1)]], .v (.string a2), .v (.string a3), .v (.int .i64 a4)] 0 [] 1 (mscan_r a0 a1 a2 a3 a4) 1 (mscan_o a0 a1 a2 a3 a4) := by
 have n0 := N0 hp
 have n1 : (true = true → loopAt Try.prog (13 : FuncId) (0 : Nat) = loopAt Try.prog (13 : FuncId) (0 : Nat)) := by intros; rfl
 have n2 := N0 (N1 hp)
 exact evF_ok (envP_ok Cso3_2_ok mscan_l0_Lok) (mscan_ev a0 a1 a2 a3 a4) (needs_cons n0 (needs_cons n1 (needs_cons n2 needs_nil)))
end Go.Proofs.Ytnfmceffbnaanaa
namespace Go.Proofs.Ytnfmceffbnaanaa
open Go.RowKit
def stpR (til : ByteArray) (lim : Int) (n : Nat) (key : ByteArray) : Bool := decide ((n : Int) ≥ lim) || (!(til.toList == (ByteArray.mk #[]).toList)) && !Op.bytesLess key.toList til.toList
def goR (til : ByteArray) (lim : Int) : List TRow → List TRow → List TRow
 | [], out => out
 | r :: l, out => bif stpR til lim out.length r.key then out else goR til lim l (out ++ [r])
def endR (til : ByteArray) (lim : Int) : List TRow → List TRow → Bool
 | [], _ => false
 | r :: l, out => bif stpR til lim out.length r.key then true else endR til lim l (out ++ [r])
theorem goR_app (til : ByteArray) (lim : Int) (b : List TRow) : ∀ a out, goR til lim (a ++ b) out = bif endR til lim a out then goR til lim a out else goR til lim b (goR til lim a out)
 | [], out => rfl
 | r :: a, out => by
  have h1 : ∀ l, goR til lim (r :: l) out = bif stpR til lim out.length r.key then out else goR til lim l (out ++ [r]) := fun _ => rfl
  have h2 : endR til lim (r :: a) out = bif stpR til lim out.length r.key then true else endR til lim a (out ++ [r]) := rfl
  rw [List.cons_append, h1, h1, h2]
  cases stpR til lim out.length r.key with
  | true => rfl
  | false => exact goR_app til lim b a _
theorem goR_len (til : ByteArray) (lim : Int) : ∀ a out, (goR til lim a out).length ≤ out.length + a.length
 | [], out => Nat.le_refl _
 | r :: a, out => by
  unfold goR
  cases stpR til lim out.length r.key with
  | true => simp
  | false =>
   have := goR_len til lim a (out ++ [r])
   simp at this ⊢
   omega
theorem rowsB_drop {b : TBlock} (h : b.keys.length = b.vals.length) {j : Nat} (hj : j < b.keys.length) : (rowsB b).drop j = ⟨b.keys.getD j (dflt .str), b.vals.getD j (dflt .cells)⟩ :: (rowsB b).drop (j + 1) := by
 have hl : j < (rowsB b).length := by rw [rowsB_len h]; exact hj
 have e : (rowsB b)[j]? = some ⟨b.keys.getD j (dflt .str), b.vals.getD j (dflt .cells)⟩ := by
  have e1 : b.keys[j]? = some (b.keys.getD j (dflt .str)) := by rw [List.getD_eq_getElem?_getD, List.getElem?_eq_getElem hj]; rfl
  have e2 : b.vals[j]? = some (b.vals.getD j (dflt .cells)) := by rw [List.getD_eq_getElem?_getD, List.getElem?_eq_getElem (by omega)]; rfl
  unfold rowsB
  have ez : (b.keys.zip b.vals)[j]? = some (b.keys.getD j (dflt .str), b.vals.getD j (dflt .cells)) := List.getElem?_zip_eq_some.2 ⟨e1, e2⟩
  rw [List.getElem?_map, ez]
  rfl
 rw [List.drop_eq_getElem_cons hl, (List.getElem?_eq_some_iff.1 e).2]
section
variable {til : ByteArray} {lim : Int} {b : TBlock}
theorem l2_k0 {j : Nat} (_h : b.keys.length = b.vals.length) (out : List TRow) : mscan_l2_f_k0 til lim (j : Int) b out = (decide (j < b.keys.length) && stpR til lim out.length (b.keys.getD j (dflt .str))) := by
 unfold mscan_l2_f_k0 mscan_l2_f_k1 mscan_l2_f_k2 mscan_l2_f_k3 stpR
 rw [nn, dlt, Int.toNat_natCast]
theorem l2_goes {j : Nat} (h : b.keys.length = b.vals.length) (out : List TRow) : cval (mscan_l2_goes (til, lim, (j : Int), b, out)) = (decide (j < b.keys.length) && !stpR til lim out.length (b.keys.getD j (dflt .str))) := by
 show (mscan_l2_f_5 til lim (j : Int) b out) = _
 unfold mscan_l2_f_5
 rw [l2_k0 h]
 unfold mscan_l2_f_k1
 rw [nn, dlt]
 cases decide (j < b.keys.length) <;> rfl
theorem l2_ps {j : Nat} (h : b.keys.length = b.vals.length) (hc : ∀ r ∈ rowsB b, boundP r.cells.length) (out : List TRow) (ho : j < b.keys.length → boundP (out.length + 1)) : ∀ p ∈ mscan_l2_ps (til, lim, (j : Int), b, out), p := by
 have hk : (mscan_l2_f_k1 til lim (j : Int) b out) = true → j < b.keys.length := fun e => by
  unfold mscan_l2_f_k1 at e
  rw [nn, dlt] at e
  exact of_decide_eq_true e
 refine needs_cons (fun e _ _ => ?_) (needs_cons (fun e _ => ?_) (needs_cons (fun e _ => ?_) (needs_cons (fun e _ => ?_) (needs_cons (fun e _ => ho (hk e)) needs_nil))))
 ·have := hk e
  show (0 : Int) ≤ (j : Int) ∧ (j : Int) < (b.keys.length : Int)
  omega
 ·have := hk e
  show (0 : Int) ≤ (j : Int) ∧ (j : Int) < (b.keys.length : Int)
  omega
 ·have := hk e
  show (0 : Int) ≤ (j : Int) ∧ (j : Int) < (b.vals.length : Int)
  omega
 ·have := hk e
  show boundP (0 + (b.vals.getD (j : Int).toNat (dflt .cells)).length)
  rw [Int.toNat_natCast, Nat.zero_add]
  have h1 := rowsB_drop h this
  have h2 : (⟨b.keys.getD j (dflt .str), b.vals.getD j (dflt .cells)⟩ : TRow) ∈ rowsB b := List.mem_of_mem_drop (by rw [h1]; exact List.mem_cons_self ..)
  exact hc _ h2
theorem sc2 (h : b.keys.length = b.vals.length) (hn : b.keys.length ≤ 1152921504606846976) (hc : ∀ r ∈ rowsB b, boundP r.cells.length) : ∀ (m j : Nat) (out : List TRow), b.keys.length = j + m → boundP (out.length + m) →
  needX mscan_l2_next mscan_l2_goes mscan_l2_ps m (til, lim, (j : Int), b, out) ∧ ∃ j' : Nat, iterX mscan_l2_next mscan_l2_goes m (til, lim, (j : Int), b, out) = (til, lim, (j' : Int), b, goR til lim ((rowsB b).drop j) out) ∧
   mscan_l2_f_k0 til lim (j' : Int) b (goR til lim ((rowsB b).drop j) out) = endR til lim ((rowsB b).drop j) out
 | 0, j, out, hj, _ => by
  have hd : (rowsB b).drop j = [] := List.drop_eq_nil_of_le (by rw [rowsB_len h]; omega)
  have hlt : decide (j < b.keys.length) = false := decide_eq_false (by omega)
  rw [hd]
  refine ⟨⟨l2_ps h hc out (fun h => by omega), by rw [l2_goes h, hlt]; rfl⟩, j, rfl, by rw [l2_k0 h, hlt]; rfl⟩
 | m + 1, j, out, hj, ho => by
  have hlt : j < b.keys.length := by omega
  have hd := rowsB_drop h hlt
  have hps := l2_ps (til := til) (lim := lim) (j := j) h hc out (fun _ => by unfold boundP at *; omega)
  have hg := l2_goes (til := til) (lim := lim) (j := j) h out
  rw [decide_eq_true hlt, Bool.true_and] at hg
  cases hs : stpR til lim out.length (b.keys.getD j (dflt .str)) with
  | true =>
   rw [hs] at hg
   have hg' : goR til lim ((rowsB b).drop j) out = out := by rw [hd]; unfold goR; rw [hs]; rfl
   have he : endR til lim ((rowsB b).drop j) out = true := by rw [hd]; unfold endR; rw [hs]; rfl
   rw [hg', he]
   refine ⟨⟨hps, fun e => by rw [hg] at e; cases e⟩, j, ?_, by rw [l2_k0 h, hs, decide_eq_true hlt]; rfl⟩
   show (bif cval _ then _ else _) = _
   rw [hg]; rfl
  | false =>
   rw [hs] at hg
   have hnx : mscan_l2_next (til, lim, (j : Int), b, out) = (til, lim, ((j + 1 : Nat) : Int), b, out ++ [⟨b.keys.getD j (dflt .str), b.vals.getD j (dflt .cells)⟩]) := by
    show (til, lim, IntKind.i64.wrap ((j : Int) + 1), b, mscan_l2_f_4 til lim (j : Int) b out) = _
    unfold mscan_l2_f_4
    rw [wsucc (by omega), Int.toNat_natCast]
    rfl
   obtain ⟨q1, j', q2, q3⟩ := sc2 h hn hc m (j + 1) (out ++ [⟨b.keys.getD j (dflt .str), b.vals.getD j (dflt .cells)⟩]) (by omega) (by rw [List.length_append, List.length_singleton]; unfold boundP at *; omega)
   have hg' : goR til lim ((rowsB b).drop j) out = goR til lim ((rowsB b).drop (j + 1)) (out ++ [⟨b.keys.getD j (dflt .str), b.vals.getD j (dflt .cells)⟩]) := by rw [hd]; show (bif stpR til lim out.length _ then _ else _) = _; rw [hs]; rfl
   have he : endR til lim ((rowsB b).drop j) out = endR til lim ((rowsB b).drop (j + 1)) (out ++ [⟨b.keys.getD j (dflt .str), b.vals.getD j (dflt .cells)⟩]) := by rw [hd]; show (bif stpR til lim out.length _ then _ else _) = _; rw [hs]; rfl
   rw [hg', he]
   refine ⟨⟨hps, fun _ => by rw [hnx]; exact q1⟩, j', ?_, q3⟩
   show (bif cval _ then iterX _ _ m (mscan_l2_next _) else _) = _
   rw [hg, hnx]
   exact q2
end
def restR (bs : List TBlock) (i j : Nat) : List TRow := match bs.drop i with
 | b :: C => (rowsB b).drop j ++ rowsOf C
 | [] => []
def endX (x : mscan_l0_X) : List TRow := bif mscan_l0_f_k0 x.1 x.2.1 x.2.2.1 x.2.2.2.1 x.2.2.2.2.1 x.2.2.2.2.2.1 x.2.2.2.2.2.2 then mscan_l0_f_14 x.1 x.2.1 x.2.2.1 x.2.2.2.1 x.2.2.2.2.1 x.2.2.2.2.2.1 x.2.2.2.2.2.2 else x.2.2.2.2.2.2
theorem sc0 {til : ByteArray} {lim : Int} {bs : List TBlock} {n : Int} (h : ∀ b ∈ bs, b.keys.length = b.vals.length) (hn : (rowsOf bs).length ≤ 549755813888) (hbs : bs.length ≤ 1152921504606846976) (hc : ∀ r ∈ rowsOf bs, boundP r.cells.length) : ∀ (m i j : Nat) (out : List TRow), bs.length = i + m →
  (∀ b, bs[i]? = some b → j ≤ b.keys.length) → boundP (out.length + (restR bs i j).length) → needX mscan_l0_next mscan_l0_goes mscan_l0_ps m (bs, n, til, lim, (i : Int), (j : Int), out) ∧ endX (iterX mscan_l0_next mscan_l0_goes m (bs, n, til, lim, (i : Int), (j : Int), out)) = goR til lim (restR bs i j) out
 | 0, i, j, out, hi, _, _ => by
  have hd : restR bs i j = [] := by unfold restR; rw [List.drop_eq_nil_of_le (by omega)]
  have hk : mscan_l0_f_k2 bs n til lim (i : Int) (j : Int) out = false := by unfold mscan_l0_f_k2; rw [nn, dlt]; exact decide_eq_false (by omega)
  rw [hd]
  refine ⟨⟨needs_cons (fun e => ?_) (needs_cons (fun e => ?_) needs_nil), ?_⟩, ?_⟩
  ·have e' : mscan_l0_f_k2 bs n til lim (i : Int) (j : Int) out = true := e
   rw [hk] at e'; cases e'
  ·have e' : mscan_l0_f_k2 bs n til lim (i : Int) (j : Int) out = true := e
   rw [hk] at e'; cases e'
  ·show mscan_l0_f_7 bs n til lim (i : Int) (j : Int) out = _
   unfold mscan_l0_f_7
   rw [hk]; rfl
  ·show (bif mscan_l0_f_k0 bs n til lim (i : Int) (j : Int) out then _ else out) = out
   unfold mscan_l0_f_k0
   rw [hk]; rfl
 | m + 1, i, j, out, hi, hj, ho => by
  have hlt : i < bs.length := by omega
  have hk : mscan_l0_f_k2 bs n til lim (i : Int) (j : Int) out = true := by unfold mscan_l0_f_k2; rw [nn, dlt]; exact decide_eq_true hlt
  obtain ⟨b, hb⟩ : ∃ b, bs[i]? = some b := ⟨_, List.getElem?_eq_getElem hlt⟩
  have hD : bs.getD i (dflt .block) = b := by rw [List.getD_eq_getElem?_getD, hb]; rfl
  have hdr : bs.drop i = b :: bs.drop (i + 1) := by
   rw [List.drop_eq_getElem_cons hlt]
   congr 1
   rw [List.getElem?_eq_getElem hlt] at hb
   exact Option.some.inj hb
  have hmb := List.mem_of_getElem? hb
  have hR : restR bs i j = (rowsB b).drop j ++ rowsOf (bs.drop (i + 1)) := by unfold restR; rw [hdr]
  have hR' : restR bs (i + 1) 0 = rowsOf (bs.drop (i + 1)) := by
   unfold restR
   cases bs.drop (i + 1) with
   | nil => rfl
   | cons c C => rfl
  have hlb := h b hmb
  have hjb := hj b hb
  have hsub : ∀ r ∈ rowsB b, r ∈ rowsOf bs := fun r hr => List.mem_flatMap.2 ⟨b, hmb, hr⟩
  have hkb : b.keys.length ≤ (rowsOf bs).length := by
   have e : bs = bs.take i ++ bs.drop i := (List.take_append_drop ..).symm
   rw [e, hdr, rowsOf_app, rowsOf_cons, List.length_append, List.length_append, rowsB_len hlb]
   omega
  have hdl : ((rowsB b).drop j).length = b.keys.length - j := by rw [List.length_drop, rowsB_len hlb]
  rw [hR, List.length_append, hdl] at ho
  have hf : mscan_l2_fuel (til, lim, (j : Int), b, out) = b.keys.length - j := by
   show ((b.keys.length : Int) - (j : Int)).toNat = _
   omega
  obtain ⟨q1, j', q2, q3⟩ := sc2 (til := til) (lim := lim) hlb (by omega) (fun r hr => hc r (hsub r hr)) (b.keys.length - j) j out (by omega) (by unfold boundP at *; omega)
  have hrun : mscan_l2_run (til, lim, (j : Int), b, out) = (til, lim, (j' : Int), b, goR til lim ((rowsB b).drop j) out) := by unfold mscan_l2_run; rw [hf]; exact q2
  have hk1 : mscan_l0_f_k1 bs n til lim (i : Int) (j : Int) out = goR til lim ((rowsB b).drop j) out := by unfold mscan_l0_f_k1; rw [Int.toNat_natCast, hD, hrun]
  have hk0 : mscan_l0_f_k0 bs n til lim (i : Int) (j : Int) out = endR til lim ((rowsB b).drop j) out := by unfold mscan_l0_f_k0; rw [hk, hk1, Int.toNat_natCast, hD, hrun, Bool.true_and]; exact q3
  have hg : cval (mscan_l0_goes (bs, n, til, lim, (i : Int), (j : Int), out)) = !endR til lim ((rowsB b).drop j) out := by
   show mscan_l0_f_7 bs n til lim (i : Int) (j : Int) out = _
   unfold mscan_l0_f_7
   rw [hk, hk0]; rfl
  have hps : ∀ p ∈ mscan_l0_ps (bs, n, til, lim, (i : Int), (j : Int), out), p := by
   refine needs_cons (fun _ => ?_) (needs_cons (fun _ => ?_) needs_nil)
   ·show (0 : Int) ≤ (i : Int) ∧ (i : Int) < (bs.length : Int)
    omega
   ·show needX _ _ _ (mscan_l2_fuel (til, lim, (j : Int), bs.getD (i : Int).toNat (dflt .block), out)) (til, lim, (j : Int), bs.getD (i : Int).toNat (dflt .block), out)
    rw [Int.toNat_natCast, hD, hf]
    exact q1
  rw [hR, goR_app]
  cases he : endR til lim ((rowsB b).drop j) out with
  | true =>
   rw [he] at hg hk0
   refine ⟨⟨hps, fun e => by rw [hg] at e; cases e⟩, ?_⟩
   have hit : iterX mscan_l0_next mscan_l0_goes (m + 1) (bs, n, til, lim, (i : Int), (j : Int), out) = (bs, n, til, lim, (i : Int), (j : Int), out) := by
    show (bif cval _ then _ else _) = _
    rw [hg]; rfl
   rw [hit]
   show (bif mscan_l0_f_k0 bs n til lim (i : Int) (j : Int) out then mscan_l0_f_14 bs n til lim (i : Int) (j : Int) out else out) = _
   rw [hk0]
   unfold mscan_l0_f_14
   rw [hk1]
   rfl
  | false =>
   rw [he] at hg
   have hnx : mscan_l0_next (bs, n, til, lim, (i : Int), (j : Int), out) = (bs, n, til, lim, ((i + 1 : Nat) : Int), ((0 : Nat) : Int), goR til lim ((rowsB b).drop j) out) := by
    show (bs, n, til, lim, IntKind.i64.wrap ((i : Int) + 1), (0 : Int), mscan_l0_f_6 bs n til lim (i : Int) (j : Int) out) = _
    unfold mscan_l0_f_6
    rw [hk1, wsucc (by omega)]
    rfl
   have hgl := goR_len til lim ((rowsB b).drop j) out
   rw [hdl] at hgl
   obtain ⟨w1, w2⟩ := sc0 (til := til) (lim := lim) (n := n) h hn hbs hc m (i + 1) 0 (goR til lim ((rowsB b).drop j) out) (by omega) (fun _ _ => Nat.zero_le _) (by rw [hR']; unfold boundP at *; omega)
   rw [hR'] at w2
   refine ⟨⟨hps, fun _ => by rw [hnx]; exact w1⟩, ?_⟩
   have hit : iterX mscan_l0_next mscan_l0_goes (m + 1) (bs, n, til, lim, (i : Int), (j : Int), out) = iterX mscan_l0_next mscan_l0_goes m (bs, n, til, lim, ((i + 1 : Nat) : Int), ((0 : Nat) : Int), goR til lim ((rowsB b).drop j) out) := by
    show (bif cval _ then iterX _ _ m (mscan_l0_next _) else _) = _
    rw [hg, hnx]
    rfl
   rw [hit]
   exact w2
end Go.Proofs.Ytnfmceffbnaanaa
namespace Go.Proofs.Ytnfmceffbnaanaa
open Go.RowKit
def inR (from_ til : ByteArray) (r : TRow) : Bool := !kLt r.key from_ && (til.toList == (ByteArray.mk #[]).toList || kLt r.key til)
def scanR (rows : List TRow) (from_ til : ByteArray) (lim : Int) : List TRow := (rows.filter (inR from_ til)).take lim.toNat
def cellsR : List TRow → ByteArray → List TCell
 | [], _ => []
 | r :: l, k => bif r.key == k then r.cells else cellsR l k
theorem goR_take (from_ til : ByteArray) (lim : Int) : ∀ (S out : List TRow), SortR S → (∀ x ∈ S, kLt x.key from_ = false) → goR til lim S out = out ++ (S.filter (inR from_ til)).take (lim.toNat - out.length)
 | [], out, _, _ => by show out = out ++ _; rw [List.filter_nil, List.take_nil, List.append_nil]
 | r :: S, out, hs, hf => by
  have hfr := hf r (List.mem_cons_self ..)
  obtain ⟨h1, h2⟩ := List.pairwise_cons.1 hs
  have ih := goR_take from_ til lim S (out ++ [r]) h2 (fun x hx => hf x (List.mem_cons_of_mem _ hx))
  show (bif stpR til lim out.length r.key then out else goR til lim S (out ++ [r])) = _
  have hst : stpR til lim out.length r.key = (decide ((out.length : Int) ≥ lim) || !(til.toList == (ByteArray.mk #[]).toList || kLt r.key til)) := by
   unfold stpR kLt
   rw [Bool.not_or]
  have hin : inR from_ til r = (til.toList == (ByteArray.mk #[]).toList || kLt r.key til) := by unfold inR; rw [hfr]; rfl
  rw [← hin] at hst
  rw [hst]
  by_cases hl : (out.length : Int) ≥ lim
  ·rw [decide_eq_true hl, Bool.true_or, cond_true, show lim.toNat - out.length = 0 from by omega, List.take_zero, List.append_nil]
  ·rw [decide_eq_false hl, Bool.false_or]
   cases hi : inR from_ til r with
   | true =>
    rw [List.filter_cons_of_pos hi, show lim.toNat - out.length = (lim.toNat - (out ++ [r]).length) + 1 from by rw [List.length_append, List.length_singleton]; omega, List.take_succ_cons]
    show goR til lim S (out ++ [r]) = _
    rw [ih, List.append_assoc]
    rfl
   | false =>
    show out = _
    have hno : (r :: S).filter (inR from_ til) = [] := by
     refine List.filter_eq_nil_iff.2 fun x hx => ?_
     rcases List.mem_cons.1 hx with rfl | hx
     ·rw [hi]; exact Bool.false_ne_true
     ·intro hx'
      rw [hin, Bool.or_eq_false_iff] at hi
      unfold inR at hx'
      rw [hi.1, Bool.false_or, Bool.and_eq_true] at hx'
      have := kLt_trans (h1 x hx) hx'.2
      rw [hi.2] at this
      cases this
    rw [hno, List.take_nil, List.append_nil]
theorem cellsR_cut {key : ByteArray} {v : List TCell} {S : List TRow} : ∀ {P : List TRow}, (∀ x ∈ P, kLt x.key key = true) → cellsR (P ++ ⟨key, v⟩ :: S) key = v
 | [], _ => by show (bif (key == key) then v else _) = v; rw [beq_self_eq_true]; rfl
 | x :: P, h => by
  show (bif (x.key == key) then x.cells else cellsR (P ++ ⟨key, v⟩ :: S) key) = v
  rw [beq_eq_false_iff_ne.2 (kLt_ne (h x (List.mem_cons_self ..)))]
  exact cellsR_cut fun y hy => h y (List.mem_cons_of_mem _ hy)
theorem cellsR_no {key : ByteArray} : ∀ {l : List TRow}, hasR l key = false → cellsR l key = []
 | [], _ => rfl
 | x :: l, h => by
  unfold hasR at h
  rw [List.any_cons, Bool.or_eq_false_iff] at h
  show (bif (x.key == key) then x.cells else cellsR l key) = []
  rw [h.1]
  exact cellsR_no h.2
theorem getD_mid {α : Type} (A : List α) (b : α) (C : List α) (d : α) : (A ++ b :: C).getD A.length d = b := by
 rw [List.getD_eq_getElem?_getD, List.getElem?_append_right (Nat.le_refl _), Nat.sub_self]
 rfl
inductive RowCase (bs : List TBlock) (key : ByteArray) : Prop
 | hit (i j : Nat) (v : List TCell) (P S : List TRow) (e : rowsOf bs = P ++ ⟨key, v⟩ :: S) (ea : atI bs key = (i, j, true)) (er : restR bs i j = ⟨key, v⟩ :: S) (lo : ∀ x ∈ P, kLt x.key key = true) (hi : ∀ x ∈ S, kLt key x.key = true)
   (hi1 : i < bs.length) (hj : j < (bs.getD i (dflt .block)).vals.length) (hv : (bs.getD i (dflt .block)).vals.getD j (dflt .cells) = v) (hjk : ∀ b, bs[i]? = some b → j ≤ b.keys.length)
 | no (i j : Nat) (P S : List TRow) (e : rowsOf bs = P ++ S) (ea : atI bs key = (i, j, false)) (er : restR bs i j = S) (hc : Cut key P S) (hjk : ∀ b, bs[i]? = some b → j ≤ b.keys.length) (hi : i ≤ bs.length)
theorem row_case {bs : List TBlock} (h : GoodB bs) (key : ByteArray) : RowCase bs key := by
 have rest : ∀ (A C : List TBlock) (b : TBlock) (j : Nat), restR (A ++ b :: C) A.length j = (rowsB b).drop j ++ rowsOf C := fun A C b j => by
  unfold restR; rw [List.drop_left]
 cases at_case h key with
 | hit A C k1 k2 v1 v2 v e l1 l2 ea lo hi =>
  have ec := cut_of (v1 := v1) (v2 := v2) lo hi
  refine .hit A.length k1.length v (rowsOf A ++ rowsB ⟨k1, v1⟩) (rowsB ⟨k2, v2⟩ ++ rowsOf C) ?_ ea ?_ ec.lo ec.hi ?_ ?_ ?_ ?_
  ·rw [e, rowsOf_app, rowsOf_cons, rowsB_app l1, rowsB_cons]
   simp
  ·rw [e, rest, rowsB_app l1, rowsB_cons, show k1.length = (rowsB ⟨k1, v1⟩).length from (rowsB_len (b := ⟨k1, v1⟩) l1).symm, List.drop_left]
   rfl
  ·rw [e]; simp
  ·rw [e, getD_mid]
   show k1.length < (v1 ++ v :: v2).length
   rw [List.length_append, List.length_cons]; omega
  ·rw [e, getD_mid]
   show (v1 ++ v :: v2).getD k1.length _ = v
   rw [l1, getD_mid]
  ·intro b hb
   rw [e, List.getElem?_append_right (Nat.le_refl _), Nat.sub_self] at hb
   cases hb
   show k1.length ≤ (k1 ++ key :: k2).length
   simp
 | mid A C k1 k2 v1 v2 e l1 l2 l3 ea lo hi =>
  refine .no A.length k1.length (rowsOf A ++ rowsB ⟨k1, v1⟩) (rowsB ⟨k2, v2⟩ ++ rowsOf C) ?_ ea ?_ (cut_of lo hi) ?_ ?_
  ·rw [e, rowsOf_app, rowsOf_cons, rowsB_app l1, List.append_assoc, List.append_assoc]
  ·rw [e, rest, rowsB_app l1, show k1.length = (rowsB ⟨k1, v1⟩).length from (rowsB_len (b := ⟨k1, v1⟩) l1).symm, List.drop_left]
  ·intro b hb
   rw [e, List.getElem?_append_right (Nat.le_refl _), Nat.sub_self] at hb
   cases hb
   show k1.length ≤ (k1 ++ k2).length
   simp
  ·rw [e]; simp
 | all ea lo =>
  refine .no bs.length 0 (rowsOf bs) [] (by rw [List.append_nil]) ea (by unfold restR; rw [List.drop_length]) ⟨fun x hx => lo _ (rowsOf_mem hx), fun x hx => (nomatch hx)⟩ (fun b hb => ?_) (Nat.le_refl _)
  exact Nat.zero_le _
theorem good_sort {bs : List TBlock} (h : GoodB bs) : SortR (rowsOf bs) := by
 have h1 := h.ord
 rw [← rowsOf_keys fun b hb => (h.len b hb).1, List.pairwise_map] at h1
 exact h1
def ScanP (rows : List TRow) : Prop := boundP rows.length ∧ ∀ r ∈ rows, boundP r.cells.length
theorem scan_ok {bs : List TBlock} (h : GoodB bs) (hp : ScanP (rowsOf bs)) (n : Int) (from_ til : ByteArray) (lim : Int) : CallOk Try.prog 13 [.ref [.ref [.sl .block bs, .v (.int .i64 n)]], .v (.string from_), .v (.string til), .v (.int .i64 lim)] 0 [] 1 (.dq 0) 1 [(0, some (.deep 29 .row (scanR (rowsOf bs) from_ til lim)))] := by
 obtain ⟨hl, hc⟩ := hp
 have hlen := rowsOf_len h.len
 have hl' : (rowsOf bs).length ≤ 549755813888 := hl
 have hf : GoodAt bs := ⟨h, fair_of h (by omega)⟩
 have key : ∀ (i j : Nat) (S P : List TRow), (atI bs from_).1 = i → (atI bs from_).2.1 = j → restR bs i j = S → i ≤ bs.length → (∀ b, bs[i]? = some b → j ≤ b.keys.length) → rowsOf bs = P ++ S → (∀ x ∈ P, kLt x.key from_ = true) → (∀ x ∈ S, kLt x.key from_ = false) →
   CallOk Try.prog 13 [.ref [.ref [.sl .block bs, .v (.int .i64 n)]], .v (.string from_), .v (.string til), .v (.int .i64 lim)] 0 [] 1 (.dq 0) 1 [(0, some (.deep 29 .row (scanR (rowsOf bs) from_ til lim)))] := fun i j S P e1 e2 er hi hj he hP hS => by
  have hSl : S.length ≤ (rowsOf bs).length := by rw [he, List.length_append]; omega
  obtain ⟨w1, w2⟩ := sc0 (til := til) (lim := lim) (n := n) (fun b hb => (h.len b hb).1) hl' (by omega) hc (bs.length - i) i j [] (by omega) hj (by rw [er]; show boundP (0 + S.length); unfold boundP at *; omega)
  have hfu : mscan_l0_fuel (bs, n, til, lim, (i : Int), (j : Int), []) = bs.length - i := by
   show ((bs.length : Int) - (i : Int)).toNat = _
   omega
  have hc2 := mscan_c bs n from_ til lim (needs_cons (fun _ => hf) (needs_cons (fun _ => by rw [e1, e2, hfu]; exact w1) needs_nil))
  have e0 : mscan_0 bs n from_ til lim = scanR (rowsOf bs) from_ til lim := by
   have : mscan_0 bs n from_ til lim = endX (mscan_l0_run (bs, n, til, lim, ((atI bs from_).1 : Int), ((atI bs from_).2.1 : Int), [])) := rfl
   rw [this, e1, e2]
   unfold mscan_l0_run
   rw [hfu, w2, er, goR_take from_ til lim S [] (by have := good_sort h; rw [he] at this; exact (List.pairwise_append.1 this).2.1) hS]
   have hPn : P.filter (inR from_ til) = [] := List.filter_eq_nil_iff.2 fun x hx => by unfold inR; rw [hP x hx]; simp
   unfold scanR
   rw [he, List.filter_append, hPn, List.nil_append, List.nil_append]
   rfl
  unfold mscan_r mscan_o at hc2
  rw [e0] at hc2
  exact hc2
 cases row_case h from_ with
 | hit i j v P S e ea er lo hi hi1 _ _ hjk => exact key i j (⟨from_, v⟩ :: S) P (by rw [ea]) (by rw [ea]) er (by omega) hjk e lo (fun x hx => by
   rcases List.mem_cons.1 hx with rfl | hx
   ·exact kLt_irrefl _
   ·cases hb : kLt x.key from_ with
    | false => rfl
    | true => have := kLt_trans hb (hi x hx); rw [kLt_irrefl] at this; cases this)
 | no i j P S e ea er hc hjk hi => exact key i j S P (by rw [ea]) (by rw [ea]) er hi hjk e hc.lo (fun x hx => by
   cases hb : kLt x.key from_ with
   | false => rfl
   | true => have := kLt_trans hb (hc.hi x hx); rw [kLt_irrefl] at this; cases this)
theorem get_ok {bs : List TBlock} (h : GoodB bs) (hp : ScanP (rowsOf bs)) (n : Int) (key : ByteArray) : CallOk Try.prog 16 [.ref [.ref [.sl .block bs, .v (.int .i64 n)]], .v (.string key)] 0 [] 1
  (.tup [.agg [.v (.string (bif hasR (rowsOf bs) key then key else ByteArray.mk #[])), .sq 0], .v (.bool (hasR (rowsOf bs) key))]) 1 [(0, some (.arr 64 8 (.ty .cell (cellsR (rowsOf bs) key))))] := by
 obtain ⟨hl, hc⟩ := hp
 have hlen := rowsOf_len h.len
 have hl' : (rowsOf bs).length ≤ 549755813888 := hl
 have hf : GoodAt bs := ⟨h, fair_of h (by omega)⟩
 cases row_case h key with
 | hit i j v P S e ea er lo hi hi1 hj hv _ =>
  have k1 : mget_k1 bs n key = false := by unfold mget_k1; rw [ea]; rfl
  have k0 : mget_k0 bs n key = (j : Int) := by unfold mget_k0; rw [ea]
  have hh : hasR (rowsOf bs) key = true := by
   unfold hasR; rw [e]
   exact List.any_eq_true.2 ⟨⟨key, v⟩, by simp, beq_self_eq_true key⟩
  have hcr : cellsR (rowsOf bs) key = v := by rw [e]; exact cellsR_cut lo
  have hc2 := mget_c bs n key (needs_cons (fun _ => hf) (needs_cons (fun _ _ => by rw [ea]; show (0 : Int) ≤ (i : Int) ∧ (i : Int) < _; omega) (needs_cons (fun _ _ => by rw [k0, ea]; show (0 : Int) ≤ (j : Int) ∧ (j : Int) < (((bs.getD ((i : Nat) : Int).toNat _).2).length : Int); rw [Int.toNat_natCast]; have : j < (bs.getD i (dflt .block)).2.length := hj; omega)
   (needs_cons (fun _ _ => by
    rw [k0, ea]
    show boundP (0 + ((bs.getD ((i : Nat) : Int).toNat (dflt .block)).vals.getD ((j : Nat) : Int).toNat (dflt .cells)).length)
    rw [Int.toNat_natCast, Int.toNat_natCast, hv, Nat.zero_add]
    exact hc ⟨key, v⟩ (by rw [e]; simp)) needs_nil))))
  have e0 : mget_0 bs n key = key := by unfold mget_0; rw [k1]; rfl
  have e1 : mget_1 bs n key = true := by unfold mget_1; rw [k1]; rfl
  have e2 : mget_2 bs n key = v := by
   unfold mget_2
   rw [k1, k0, ea]
   show (bs.getD ((i : Nat) : Int).toNat (dflt .block)).vals.getD ((j : Nat) : Int).toNat (dflt .cells) = v
   rw [Int.toNat_natCast, Int.toNat_natCast]
   exact hv
  unfold mget_r mget_o at hc2
  rw [e0, e1, e2] at hc2
  rw [hh, hcr]
  exact hc2
 | no i j P S e ea er hcut hjk hi =>
  have k1 : mget_k1 bs n key = true := by unfold mget_k1; rw [ea]; rfl
  have hh : hasR (rowsOf bs) key = false := (none_rows e hcut).2
  have hc2 := mget_c bs n key (needs_cons (fun _ => hf) (needs_cons (fun _ h => by rw [k1] at h; cases h) (needs_cons (fun _ h => by rw [k1] at h; cases h) (needs_cons (fun _ h => by rw [k1] at h; cases h) needs_nil))))
  have e0 : mget_0 bs n key = ByteArray.mk #[] := by unfold mget_0; rw [k1]; rfl
  have e1 : mget_1 bs n key = false := by unfold mget_1; rw [k1]; rfl
  have e2 : mget_2 bs n key = [] := by unfold mget_2; rw [k1]; rfl
  unfold mget_r mget_o at hc2
  rw [e0, e1, e2] at hc2
  rw [hh, cellsR_no hh]
  exact hc2
def mapOf : List A → Objs → Option (List TRow)
 | .own i 0 :: _, o => match lookO i o with
  | some (.box _ [.dq j]) => absR (lookO j o)
  | _ => none
 | _, _ => none
theorem mapOf_ok {i off : Nat} {r : List A} {o : Objs} {rows : List TRow} (h : mapOf (.own i off :: r) o = some rows) : off = 0 ∧ ∃ t j, lookO i o = some (.box t [.dq j]) ∧ lookO j o = some (.abs 0 .row rows) := by
 unfold mapOf at h
 split at h <;> first | (cases h; done) | skip
 rename_i heq
 cases heq
 split at h <;> first | (cases h; done) | skip
 rename_i hi
 exact ⟨rfl, _, _, hi, absR_ok h⟩
def none_t : List A → Nat → Objs → Option CRes
 | [.own i off], nx, o => match mapOf [.own i off] o with
  | some _ => some (1, .v (.bool false), nx, o, [])
  | none => none
 | _, _, _ => none
def len_t : List A → Nat → Objs → Option CRes
 | [.own i off], nx, o => match mapOf [.own i off] o with
  | some rows => some (1, .v (.int .i64 (rows.length : Int)), nx, o, [])
  | none => none
 | _, _, _ => none
def get_t : List A → Nat → Objs → Option CRes
 | [.own i off, .v (.string key)], nx, o => match mapOf [.own i off, .v (.string key)] o with
  | some rows => some (1, .tup [.agg [.v (.string (bif hasR rows key then key else ByteArray.mk #[])), .sq nx], .v (.bool (hasR rows key))], nx + 1, (nx, some (.arr 64 8 (.ty .cell (cellsR rows key)))) :: o, [ScanP rows])
  | none => none
 | _, _, _ => none
def scan_t : List A → Nat → Objs → Option CRes
 | [.own i off, .v (.string from_), .v (.string til), .v (.int .i64 lim)], nx, o => match mapOf [.own i off, .v (.string from_), .v (.string til), .v (.int .i64 lim)] o with
  | some rows => some (1, .dq nx, nx + 1, (nx, some (.deep 29 .row (scanR rows from_ til lim))) :: o, [ScanP rows])
  | none => none
 | _, _, _ => none
theorem none_tok : TOk Try.prog 26 none_t := fun args nx o k x nx' o' ps h => by
 unfold none_t at h
 split at h <;> first | (cases h; done) | skip
 split at h <;> first | (cases h; done) | skip
 rename_i hm
 cases h
 obtain ⟨rfl, t, j, hi, hj⟩ := mapOf_ok hm
 refine ⟨fun _ => ?_, [], rfl⟩
 exact callOk_abs (args := []) (os := []) (m := 0) (x := .v (.bool false)) (fun bs _ _ => mnone_c bs _ (fun p hp => (nomatch hp))) (Nat.le_refl _) rfl rfl rfl hi hj
theorem len_tok : TOk Try.prog 17 len_t := fun args nx o k x nx' o' ps h => by
 unfold len_t at h
 split at h <;> first | (cases h; done) | skip
 split at h <;> first | (cases h; done) | skip
 rename_i rows hm
 cases h
 obtain ⟨rfl, t, j, hi, hj⟩ := mapOf_ok hm
 refine ⟨fun _ => ?_, [], rfl⟩
 exact callOk_abs (args := []) (os := []) (m := 0) (x := .v (.int .i64 (rows.length : Int))) (fun bs _ _ => mlen_c bs _ (fun p hp => (nomatch hp))) (Nat.le_refl _) rfl rfl rfl hi hj
theorem get_tok : TOk Try.prog 16 get_t := fun args nx o k x nx' o' ps h => by
 unfold get_t at h
 split at h <;> first | (cases h; done) | skip
 rename_i key
 split at h <;> first | (cases h; done) | skip
 rename_i rows hm
 cases h
 obtain ⟨rfl, t, j, hi, hj⟩ := mapOf_ok hm
 refine ⟨fun hps => ?_, [_], rfl⟩
 exact callOk_abs (m := 1) (args := [.v (.string key)]) (x := .tup [.agg [.v (.string (bif hasR rows key then key else ByteArray.mk #[])), .sq 0], .v (.bool (hasR rows key))]) (os := [(0, some (.arr 64 8 (.ty .cell (cellsR rows key))))]) (fun bs hg hr => by subst hr; exact get_ok hg (N0 hps) _ key) (Nat.le_refl _) rfl rfl rfl hi hj
theorem scan_tok : TOk Try.prog 13 scan_t := fun args nx o k x nx' o' ps h => by
 unfold scan_t at h
 split at h <;> first | (cases h; done) | skip
 rename_i from_ til lim
 split at h <;> first | (cases h; done) | skip
 rename_i rows hm
 cases h
 obtain ⟨rfl, t, j, hi, hj⟩ := mapOf_ok hm
 refine ⟨fun hps => ?_, [_], rfl⟩
 exact callOk_abs (m := 1) (args := [.v (.string from_), .v (.string til), .v (.int .i64 lim)]) (x := .dq 0) (os := [(0, some (.deep 29 .row (scanR rows from_ til lim)))]) (fun bs hg hr => by subst hr; exact scan_ok hg (N0 hps) _ from_ til lim) (Nat.le_refl _) rfl rfl rfl hi hj
noncomputable def Cmq : Tab := addC 26 none_t (addC 17 len_t (addC 16 get_t (addC 13 scan_t Cmp)))
theorem Cmq_ok : COk Try.prog Cmq := addC_ok none_tok (addC_ok len_tok (addC_ok get_tok (addC_ok scan_tok Cmp_ok)))
end Go.Proofs.Ytnfmceffbnaanaa
namespace Go.Proofs.Ytnfmceffbnaanaa
open Go.RowKit
def mnew_r  : A := .own 0 0
def mnew_o  : Objs := [(0, some (.box 56 [.own 1 0])), (1, some (.box 67 [.v (.slice none 0 0), .v (.int .i64 ((0 : Int)))]))]
def mnew_ps  : List Prop := []
theorem mnew_ev  : evF (envT Cmq L0) 9 10 [] 0 [] = some (1, mnew_r , 2, mnew_o , mnew_ps ) := by kernel_rfl
theorem mnew_c  (hp : ∀ p ∈ mnew_ps , p) : CallOk Try.prog 10 [] 0 [] 1 (mnew_r ) 2 (mnew_o ) := evF_ok (envP_ok Cmq_ok L0_ok) (mnew_ev ) hp
end Go.Proofs.Ytnfmceffbnaanaa
namespace Go.Proofs.Ytnfmceffbnaanaa
open Go.RowKit
theorem new_ok : CallOk Try.prog 10 [] 0 [] 1 (.own 0 0) 2 [(0, some (.box 56 [.dq 1])), (1, some (.abs 0 .row []))] := fun F N R vs hh ha => by
 refine (mnew_c (fun p hp => (nomatch hp)) F N R vs hh ha).mono fun e R' ⟨y, F', N', e1, e2, e3, e4, e5⟩ => ?_
 obtain ⟨_, us0, u1, u2⟩ := e2.ob 0 _ rfl
 obtain ⟨_, us1, w1, w2⟩ := e2.ob 1 _ rfl
 obtain ⟨a0, r0, rfl, v1, v2⟩ := u1.inv
 obtain rfl := v2.inv0
 obtain ⟨b0, r1, rfl, v3, v4⟩ := w1.inv
 obtain ⟨b1, r2, rfl, v5, v6⟩ := v4.inv
 obtain rfl := v6.inv0
 obtain rfl := v3.v_inv
 obtain rfl := v5.v_inv
 have ha0 : a0 = .pointer (some ⟨N'.b 1, 0, none⟩) := by
  cases v1 with
  | own _ => rfl
 subst ha0
 have hl : Lay (hp R') (fun _ => False) (N'.b 1) 0 0 (.slice none 0 0) [] := ⟨fun h => h, fun g h => h.elim, ⟨none, 0, rfl, Nat.le_refl _, fun h => absurd h (Nat.lt_irrefl _)⟩, fun h => absurd h (Nat.lt_irrefl _), fun r hr => (nomatch hr), List.Pairwise.nil⟩
 obtain ⟨root, q1, q2, q3⟩ := abs_shut (rows := []) hl w2 ⟨fun b hb => (nomatch hb), List.Pairwise.nil⟩ rfl
 let N2 : Nm := ⟨N'.b, fun k => if k = 1 then root else N'.q k⟩
 have hq : N2.q 1 = root := by show (if (1 : Nat) = 1 then root else N'.q 1) = root; exact if_pos rfl
 have feet : ∀ {g}, foot N2 1 (.abs 0 .row []) g → g = N'.b 1 := fun {g} ⟨k, hk⟩ => by
  rw [hq] at hk
  rcases q2 g ⟨k, hk⟩ with h | h | ⟨h, _⟩
  ·exact h
  ·exact h.elim
  ·exact absurd h (Nat.lt_irrefl _)
 have from_ : ∀ {k ob}, lookO k [(0, some (.box 56 [.dq 1])), (1, some (.abs 0 .row []))] = some ob → (k = 0 ∧ ob = .box 56 [.dq 1]) ∨ (k = 1 ∧ ob = .abs 0 .row []) := fun {k ob} h => by
  rw [lookO_cons, lookO_cons] at h
  by_cases e1 : k = 0
  ·rw [if_pos e1] at h; cases h; exact .inl ⟨e1, rfl⟩
  ·rw [if_neg e1] at h
   by_cases e2 : k = 1
   ·rw [if_pos e2] at h; cases h; exact .inr ⟨e2, rfl⟩
   ·rw [if_neg e2] at h; cases h
 have f0 : ∀ g, g = N'.b 0 → foot N' 0 (.box 56 [.own 1 0]) g := fun g h => h
 have f1 : ∀ {g}, foot N2 1 (.abs 0 .row []) g → ∃ ob, lookO 1 [(0, some (Ob.box 56 [.own 1 0])), (1, some (.box 67 [.v (.slice none 0 0), .v (.int .i64 0)]))] = some ob ∧ foot N' 1 ob g := fun h => ⟨_, rfl, feet h⟩
 refine ⟨y, F', N2, e1, ⟨e2.flt, fun k ob hk => ?_, fun k ob g hk hg => ?_, fun i j x z g hi hj hx hy => ?_, e2.gl⟩, ⟨Nat.zero_le _, fun i hi => absurd hi (Nat.not_lt_zero _), fun i hi => absurd hi (Nat.not_lt_zero _), e3.f, e3.fnew, fun g ⟨k, ob, hk, hg⟩ => ?_, e3.os, e3.tape, e3.output, e3.size, e3.keep⟩, ?_, e5⟩
 ·rcases from_ hk with ⟨rfl, rfl⟩ | ⟨rfl, rfl⟩
  ·refine ⟨by omega, [_], HL.cons ?_ HL.nil, u2⟩
   have : fam (N2.q 1) 0 = .pointer (some ⟨N'.b 1, 0, none⟩) := by rw [hq]; exact q1
   rw [← this]
   exact .dq (by omega)
  ·exact ⟨by omega, q3 F' N2 _ _ hq⟩
 ·rcases from_ hk with ⟨rfl, rfl⟩ | ⟨rfl, rfl⟩
  ·exact e2.ff 0 _ g rfl hg
  ·obtain ⟨ob, h1, h2⟩ := f1 hg
   exact e2.ff 1 ob g h1 h2
 ·rcases from_ hi with ⟨rfl, rfl⟩ | ⟨rfl, rfl⟩ <;> rcases from_ hj with ⟨rfl, rfl⟩ | ⟨rfl, rfl⟩
  ·rfl
  ·obtain ⟨ob, h1, h2⟩ := f1 hy
   exact e2.sep 0 1 _ ob g rfl h1 hx h2
  ·obtain ⟨ob, h1, h2⟩ := f1 hx
   exact e2.sep 1 0 ob _ g h1 rfl h2 hy
  ·rfl
 ·rcases from_ hk with ⟨rfl, rfl⟩ | ⟨rfl, rfl⟩
  ·exact e3.foot g ⟨0, _, rfl, hg⟩
  ·obtain ⟨ob, h1, h2⟩ := f1 hg
   exact e3.foot g ⟨1, ob, h1, h2⟩
 ·cases e4 with
  | own h => exact .own (N := N2) h
def new_t : List A → Nat → Objs → Option CRes
 | [], nx, o => some (1, .own nx 0, nx + 2, (nx, some (.box 56 [.dq (nx + 1)])) :: (nx + 1, some (.abs 0 .row [])) :: o, [])
 | _, _, _ => none
theorem new_tok : TOk Try.prog 10 new_t := fun args nx o k x nx' o' ps h => by
 unfold new_t at h
 split at h <;> first | (cases h; done) | skip
 cases h
 exact ⟨fun _ => callOk_shift new_ok (Nat.le_refl _) rfl nx o, [_, _], rfl⟩
noncomputable def Cmr : Tab := addC 10 new_t Cmq
theorem Cmr_ok : COk Try.prog Cmr := addC_ok new_tok Cmq_ok
end Go.Proofs.Ytnfmceffbnaanaa
namespace Go.Proofs.Ytnfmceffbnaanaa
open Go.RowKit
theorem callOk_sl {P : Program} {f : FuncId} {args : List A} {k : Nat} {e : TypeId} {c : TC} {l : List (U c)} (h : CallOk P f args 0 [] k (.sq 0) 1 [(0, some (.arr e (size c) (.ty c l)))]) : CallOk P f args 0 [] k (.sl c l) 0 [] := fun F N R vs hh ha =>
 Calls.mono (P := P) (h F N R vs hh ha) fun e0 R' ⟨y, F', N', e1, e2, e3, e4, e5⟩ => by
  obtain ⟨_, rfl⟩ := e4.sq_inv
  have hob := e2.ob 0 _ rfl
  obtain ⟨_, zs, g1, g2⟩ := id hob
  have hn : ∀ i j, i < 1 → (fun _ => none : Nat → Option Nat) i = some j → j < 0 ∧ N'.b j = N'.b i ∧ N'.q j = N'.q i := fun i j _ hj => by cases hj
  have hw : Ext F' N' 1 R' (fun g => F' g ∨ blkOf (N'.q 0) = some g) N' 1 R' := Ext.wide fun g hg => .inl hg
  have q1 := (sl_of_own (F' := fun g => F' g ∨ blkOf (N'.q 0) = some g) (N := N') (nx := 1) g1 (fun k hk => (g2 k hk).step hw) (fun g hg => .inr hg)).1
  have q2 := Hv.pk (N' := N') (nx' := 0) (ρ := fun _ => none) hn q1
  refine ⟨N'.q 0, fun g => F' g ∨ blkOf (N'.q 0) = some g, N', e1, ⟨fun g hg => ?_, fun i ob hi => (by cases hi), fun i ob g hi => (by cases hi), fun i j x y g hi => (by cases hi), fun x hx => ⟨.inl (e2.gl x hx).1, (e2.gl x hx).2⟩⟩, ⟨Nat.le_refl _, fun i hi => absurd hi (Nat.not_lt_zero _), fun i hi => absurd hi (Nat.not_lt_zero _), fun g hg => .inl (e3.f g hg), fun g hg => ?_, fun g ⟨i, ob, hi, _⟩ => (by cases hi), e3.os, e3.tape, e3.output, e3.size, e3.keep⟩, q2, e5⟩
  ·rcases hg with hg | hg
   ·exact e2.flt g hg
   ·exact hob.2.lt hg
  ·rcases hg with hg | hg
   ·exact e3.fnew g hg
   ·rcases e3.foot g ⟨0, _, rfl, hg⟩ with h | h
    ·exact .inr (.inl h)
    ·exact .inr (.inr h)
end Go.Proofs.Ytnfmceffbnaanaa
