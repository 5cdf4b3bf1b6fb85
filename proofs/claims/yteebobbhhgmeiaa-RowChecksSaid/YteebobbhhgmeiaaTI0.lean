/- A symbolic run over typed data, part I0: what the operations that turn memory come to. -/
import Derived.Test.YteebobbhhgmeiaaTH
namespace Go.Proofs.Yteebobbhhgmeiaa
open Go.RowKit

/-! ### a part of a row, put anew -/
theorem put_slice {zs vs : List Value} {k size off : Nat} (h1 : off + vs.length ≤ size) (h2 : k * size + size ≤ zs.length) (j : Nat) :
    ((zs.take (k * size + off) ++ vs ++ zs.drop (k * size + off + vs.length)).drop (j * size)).take size =
      if j = k then ((zs.drop (k * size)).take size).take off ++ vs ++ ((zs.drop (k * size)).take size).drop (off + vs.length) else (zs.drop (j * size)).take size := by
  have get : ∀ m, (zs.take (k * size + off) ++ vs ++ zs.drop (k * size + off + vs.length))[m]? = if m < k * size + off then zs[m]? else if m < k * size + off + vs.length then vs[m - (k * size + off)]? else zs[m]? := fun m => by
    rw [List.append_assoc, List.getElem?_append, List.length_take, Nat.min_eq_left (by omega)]
    by_cases c1 : m < k * size + off
    · rw [if_pos c1, if_pos c1, List.getElem?_take, if_pos c1]
    · rw [if_neg c1, if_neg c1, List.getElem?_append]
      by_cases c2 : m < k * size + off + vs.length
      · rw [if_pos (by omega), if_pos c2]
      · rw [if_neg (by omega), if_neg c2, List.getElem?_drop]
        congr 1
        omega
  apply List.ext_getElem?
  intro m
  rw [List.getElem?_take, List.getElem?_drop]
  by_cases hm : m < size
  · rw [if_pos hm, get]
    by_cases hj : j = k
    · subst hj
      rw [if_pos rfl, List.append_assoc, List.getElem?_append, List.length_take, List.length_take, List.length_drop]
      have hlen : min off (min size (zs.length - j * size)) = off := by omega
      rw [hlen]
      by_cases c1 : m < off
      · rw [if_pos (by omega), if_pos c1, List.getElem?_take, if_pos c1, List.getElem?_take, if_pos hm, List.getElem?_drop]
      · rw [if_neg (by omega), if_neg c1, List.getElem?_append]
        by_cases c2 : m < off + vs.length
        · rw [if_pos (by omega), if_pos (by omega)]
          congr 1
          omega
        · rw [if_neg (by omega), if_neg (by omega), List.getElem?_drop, List.getElem?_take, if_pos (by omega), List.getElem?_drop]
          congr 1
          omega
    · rw [if_neg hj, List.getElem?_take, if_pos hm, List.getElem?_drop]
      rcases Nat.lt_or_gt_of_ne hj with hlt | hgt
      · have : j * size + size ≤ k * size := by rw [← Nat.succ_mul]; exact Nat.mul_le_mul_right _ hlt
        rw [if_pos (by omega)]
      · have : k * size + size ≤ j * size := by rw [← Nat.succ_mul]; exact Nat.mul_le_mul_right _ hgt
        rw [if_neg (by omega), if_neg (by omega)]
  · rw [if_neg hm]
    symm
    rw [List.getElem?_eq_none]
    by_cases hj : j = k
    · rw [if_pos hj]
      simp only [List.length_append, List.length_take, List.length_drop]
      omega
    · rw [if_neg hj, List.length_take]
      omega

/-- A row's element, some of its cells put anew. -/
def setEls (k off : Nat) (us : List A) : Els → Option (Els × List Prop)
  | .lst cs => some (.lst (cs.set k (putL off us (nthL cs k))), [])
  | .ty c l => match dec c (putL off us (enc c (l.getD k (dflt c)))) with
    | some (d, ps) => some (.ty c (l.set k d), ps)
    | none => none
section
variable {F : Nat → Prop} {N : Nm} {nx : Nat} {R : World} {size : Nat}
theorem setEls_ok {k off : Nat} {us : List A} {vs : List Value} {els els' : Els} {ps : List Prop} {zs : List Value} (he : setEls k off us els = some (els', ps)) (hp : ∀ p ∈ ps, p) (hr : RowHL F N nx R els size zs) (hu : HL F N nx R us vs)
    (hk : k < els.n) (ho : off + vs.length ≤ size) : els'.n = els.n ∧ RowHL F N nx R els' size (zs.take (k * size + off) ++ vs ++ zs.drop (k * size + off + vs.length)) := by
  have hle : k * size + size ≤ zs.length := by rw [hr.1, ← Nat.succ_mul]; exact Nat.mul_le_mul_right _ hk
  have hlen : (zs.take (k * size + off) ++ vs ++ zs.drop (k * size + off + vs.length)).length = zs.length := by
    simp only [List.length_append, List.length_take, List.length_drop]
    omega
  have hput := HL.put (off := off) hu (hr.2 k hk)
  have main : els'.n = els.n → (∀ j, j < els.n → j ≠ k → els'.nth j = els.nth j) → HL F N nx R (els'.nth k) (((zs.drop (k * size)).take size).take off ++ vs ++ ((zs.drop (k * size)).take size).drop (off + vs.length)) →
      els'.n = els.n ∧ RowHL F N nx R els' size (zs.take (k * size + off) ++ vs ++ zs.drop (k * size + off + vs.length)) := fun hn hj hkk => by
    refine ⟨hn, by rw [hlen, hr.1, hn], fun j hjn => ?_⟩
    rw [hn] at hjn
    rw [put_slice ho hle]
    by_cases e : j = k
    · subst e
      rw [if_pos rfl]
      exact hkk
    · rw [if_neg e, hj j hjn e]
      exact hr.2 j hjn
  unfold setEls at he
  split at he
  · rename_i cs
    cases he
    refine main (by simp [Els.n]) (fun j hj e => ?_) ?_
    · show nthL _ j = nthL _ j
      simp only [nthL_get, List.getD_eq_getElem?_getD]
      rw [List.getElem?_set_ne (fun e' => e e'.symm)]
    · show HL F N nx R (nthL _ k) _
      have hk' : k < cs.length := hk
      rw [nthL_get, List.getD_eq_getElem?_getD, List.getElem?_set_self hk']
      exact hput
  · rename_i c l
    split at he <;> first | (cases he; done) | skip
    rename_i d qs hd
    cases he
    refine main (by simp [Els.n]) (fun j hj e => ?_) ?_
    · show enc c _ = enc c _
      rw [List.getD_eq_getElem?_getD, List.getD_eq_getElem?_getD, List.getElem?_set_ne (fun e' => e e'.symm)]
    · show HL F N nx R (enc c _) _
      have hk' : k < l.length := hk
      rw [List.getD_eq_getElem?_getD, List.getElem?_set_self hk']
      exact dec_ok hd hp _ hput
end

section
variable {P : Program} {w : World}
/-- A row of one's own in memory. -/
theorem own_blk {e : TypeId} {size n : Nat} {v : Value} {zs : List Value} (h : OwnR w e size v n zs) (hn : 0 < n) : ∃ g cap cur, v = .slice (some ⟨g, 0, none⟩) n (cap + 1) ∧ w.heap[g]? = some (.cells cur e (0, 0)) ∧ n ≤ cap + 1 ∧ cap + 1 ≤ maxLen ∧ cur.size = (cap + 1) * size ∧ cur.toList.take (n * size) = zs := by
  rcases h.2 with ⟨_, _, h0⟩ | h2
  · omega
  · exact h2
/-- Cells put into it. -/
theorem own_put {e : TypeId} {size n g cap o : Nat} {cur : Array Value} {zs vs : List Value} (hz : zs.length = n * size) (hg : w.heap[g]? = some (.cells cur e (0, 0))) (hn : n ≤ cap + 1) (hm : cap + 1 ≤ maxLen) (hs : cur.size = (cap + 1) * size) (ht : cur.toList.take (n * size) = zs) (ho : o + vs.length ≤ n * size) :
    OwnR (w.setRow g (cur.toList.take o ++ vs ++ cur.toList.drop (o + vs.length)).toArray) e size (.slice (some ⟨g, 0, none⟩) n (cap + 1)) n (zs.take o ++ vs ++ zs.drop (o + vs.length)) := by
  have hle : n * size ≤ cur.toList.length := by rw [Array.length_toList, hs]; exact Nat.mul_le_mul_right _ hn
  refine ⟨?_, .inr ⟨g, cap, _, rfl, setRow_heap w g cur _ e _ hg, hn, hm, ?_, ?_⟩⟩
  · simp only [List.length_append, List.length_take, List.length_drop]
    omega
  · simp only [List.size_toArray, List.length_append, List.length_take, List.length_drop, Array.length_toList]
    rw [Array.length_toList] at hle
    omega
  · show List.take (n * size) (cur.toList.take o ++ vs ++ cur.toList.drop (o + vs.length)) = _
    rw [← ht, List.append_assoc, List.append_assoc, List.take_append, List.take_take, List.length_take, Nat.min_eq_left (by omega : o ≤ cur.toList.length), Nat.min_eq_right (by omega : o ≤ n * size)]
    rw [List.take_append, List.take_of_length_le (by omega : vs.length ≤ n * size - o), List.take_take, Nat.min_eq_left (by omega : o ≤ n * size)]
    congr 2
    rw [List.take_drop, List.drop_take]
    congr 1
    rw [List.drop_take]
    congr 1
    omega
theorem run_copy_some {dT sT ty e : TypeId} {i : TypeInfo} (hu : P.underlying dT = some (.slice e)) (hi : P.info? e = some i) {g o dLen dCap m : Nat} {x : Value} {cur : Array Value} {t : TypeId} {cs : List Value}
    (hlen : (Builtin.lenOf x).run P w = .ok m w) (hnew : (Builtin.firstCells i.size (Nat.min m dLen) x).run P w = .ok cs.toArray w) (hg : w.heap[g]? = some (.cells cur t (0, 0)))
    (hfit : o + cs.length ≤ cur.size) (h1 : ∀ v ∈ cs, v.oneCell' = true) :
    (Builtin.copy_ #[dT, sT] ty #[.slice (some ⟨g, o, none⟩) dLen dCap, x]).run P w = .ok (goInt (Nat.min m dLen)) (w.setRow g (cur.toList.take o ++ cs ++ cur.toList.drop (o + cs.length)).toArray) := by
  have hst := run_storeCells_at (P := P) g o t cs 0 cur w hg (by simpa using hfit) h1
  simp only [Nat.add_zero] at hst
  have hst' : ∀ A : Array Value, A = cs.toArray → (storeCells ⟨g, o, none⟩ A.toList).run P w = .ok () (w.setRow g (cur.toList.take o ++ cs ++ cur.toList.drop (o + cs.length)).toArray) := fun A hA => by
    subst hA
    simpa [storeCells] using hst
  simp [Builtin.copy_, run_underlying hu, hlen, sizeOf, typeInfo, hi, hnew, hst' _ rfl]
theorem run_copy_zero {dT sT ty e : TypeId} {i : TypeInfo} (hu : P.underlying dT = some (.slice e)) (hi : P.info? e = some i) {d : Option Addr} {dLen dCap m : Nat} {x : Value}
    (hlen : (Builtin.lenOf x).run P w = .ok m w) (h0 : Nat.min m dLen = 0) (hnew : (Builtin.firstCells i.size 0 x).run P w = .ok #[] w) :
    (Builtin.copy_ #[dT, sT] ty #[.slice d dLen dCap, x]).run P w = .ok (goInt 0) w := by
  cases d <;> simp [Builtin.copy_, run_underlying hu, hlen, sizeOf, typeInfo, hi, h0, hnew, storeCells]
/-- The source of an append or a copy, read. -/
theorem src_read {y : Value} {size m : Nat} {us : List Value} (h : FlatR w y size m us) {w' : World} (hc : ∀ ad v, w.cell? ad = some v → w'.cell? ad = some v) : (Builtin.lenOf y).run P w' = .ok m w' ∧ ∀ k, k ≤ m → (Builtin.firstCells size k y).run P w' = .ok (us.take (k * size)).toArray w' := by
  obtain ⟨A, c, rfl, h1⟩ := h.val
  refine ⟨rfl, fun k hk => ?_⟩
  have hl := h.len
  cases A with
  | none =>
    have hm : m = 0 ∨ 0 < m := by omega
    rcases hm with hm | hm
    · subst hm
      have : us = [] := List.eq_nil_of_length_eq_zero (by simpa using hl)
      subst this
      simp [Builtin.firstCells]
    · obtain ⟨ad, e, _⟩ := h.cells _ _ _ rfl hm
      cases e
  | some ad =>
    have hle : k * size ≤ us.length := by rw [hl]; exact Nat.mul_le_mul_right _ hk
    have hread := run_loadCells_list (P := P) w' ad (us.take (k * size)) (fun j u hj => by
      have hm : 0 < m := by
        rcases Nat.eq_zero_or_pos m with h0 | h0
        · subst h0
          have : us = [] := List.eq_nil_of_length_eq_zero (by simpa using hl)
          subst this
          rw [List.take_nil] at hj
          cases j <;> cases hj
        · exact h0
      obtain ⟨ad', e, hcell⟩ := h.cells _ _ _ rfl hm
      cases e
      rw [List.getElem?_take] at hj
      split at hj <;> first | (cases hj; done) | skip
      exact hc _ _ (hcell j u hj))
    rw [List.length_take, Nat.min_eq_left hle] at hread
    simp [Builtin.firstCells, hread]
end
end Go.Proofs.Yteebobbhhgmeiaa
