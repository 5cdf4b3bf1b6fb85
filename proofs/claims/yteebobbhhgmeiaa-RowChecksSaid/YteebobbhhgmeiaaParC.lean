/- The region's theorem in handy forms: no new variable, one, two. -/
import Derived.Test.YteebobbhhgmeiaaPar
import Derived.Deep.MidRow
namespace Go.Proofs.Yteebobbhhgmeiaa
open Go.RowKit

theorem setCells_blk {t : TypeId} {b : Nat} : ∀ (vs : List Value) (o : Nat) (w : World) (cs : Array Value), w.heap[b]? = some (.cells cs t (0, 0)) → o + vs.length = cs.size →
    (w.setCells b o vs).heap = w.heap.setIfInBounds b (.cells (cs.extract 0 o ++ vs.toArray) t (0, 0)) ∧ (w.setCells b o vs).tape = w.tape ∧ (w.setCells b o vs).drawn = w.drawn ∧ (w.setCells b o vs).os = w.os ∧ (w.setCells b o vs).output = w.output
  | [], o, w, cs, h, hz => by
    simp only [List.length_nil, Nat.add_zero] at hz
    refine ⟨?_, rfl, rfl, rfl, rfl⟩
    have hb := blk_lt h
    rw [hz]
    simp only [Array.extract_size, Array.append_empty]
    show w.heap = _
    rw [Array.getElem?_eq_getElem hb] at h
    have h' := Option.some.inj h
    rw [← h', Array.setIfInBounds_def]
    simp [hb]
  | v :: vs, o, w, cs, h, hz => by
    simp only [List.length_cons] at hz
    obtain ⟨h1, h2, h3, h4, h5⟩ := setCells_blk vs (o + 1) (w.setCell ⟨b, o, none⟩ v) (cs.setIfInBounds o v) (set_same h v) (by simp; omega)
    have hu : w.setCells b o (v :: vs) = (w.setCell ⟨b, o, none⟩ v).setCells b (o + 1) vs := rfl
    rw [hu]
    refine ⟨?_, h2, h3, h4, h5⟩
    rw [h1]
    have e1 : (w.setCell ⟨b, o, none⟩ v).heap.setIfInBounds b (.cells ((cs.setIfInBounds o v).extract 0 (o + 1) ++ vs.toArray) t (0, 0)) = w.heap.setIfInBounds b (.cells ((cs.setIfInBounds o v).extract 0 (o + 1) ++ vs.toArray) t (0, 0)) := by
      apply Array.ext_getElem?
      intro i
      by_cases hi : i = b
      · subst hi
        have hb := blk_lt h
        rw [Array.getElem?_setIfInBounds_self_of_lt (by rw [set_size]; exact hb), Array.getElem?_setIfInBounds_self_of_lt hb]
      · rw [Array.getElem?_setIfInBounds_ne (Ne.symm hi), Array.getElem?_setIfInBounds_ne (Ne.symm hi)]
        exact Below.heap_setCell w ⟨b, o, none⟩ v i hi
    rw [e1]
    congr 2
    apply Array.ext_getElem?
    intro i
    have ho : o < cs.size := by omega
    rcases Nat.lt_trichotomy i o with hlt | heq | hgt
    · rw [Array.getElem?_append_left (by simp; omega), Array.getElem?_append_left (by simp; omega)]
      simp only [Array.getElem?_extract, Nat.zero_add, Nat.sub_zero, Array.size_setIfInBounds]
      rw [if_pos (by omega), if_pos (by omega), Array.getElem?_setIfInBounds_ne (by omega)]
    · subst heq
      rw [Array.getElem?_append_left (by simp; omega), Array.getElem?_append_right (by simp; omega)]
      simp only [Array.getElem?_extract, Nat.zero_add, Nat.sub_zero, Array.size_setIfInBounds, Array.size_extract]
      rw [if_pos (by omega), Array.getElem?_setIfInBounds_self_of_lt ho, show i - min i cs.size = 0 by omega]
      rfl
    · rw [Array.getElem?_append_right (by simp; omega), Array.getElem?_append_right (by simp; omega)]
      simp only [Array.size_extract, Array.size_setIfInBounds, Nat.sub_zero, List.getElem?_toArray]
      rw [show min (o + 1) cs.size = o + 1 by omega, show min o cs.size = o by omega, show i - o = (i - (o + 1)) + 1 by omega]
      rfl

theorem run_store_fresh {P : Program} {w : World} {b : Nat} {ty t : TypeId} {zs : Array Value} {v : Value} (hb : w.heap[b]? = some (.cells zs t (0, 0))) (hz : zs.size = v.cells.size)
    (hi : (P.info? ty).map (·.size) = some v.cells.size) (h1 : v.cells.all (·.oneCell') = true) :
    (Instr.storeAt ty (ptrTo b) v).run P w = .ok () { w with heap := w.heap.setIfInBounds b (.cells v.cells t (0, 0)) } := by
  have := run_storeCells_cells (P := P) b 0 v.cells.toList 0 w (fun j hj => by
      have hj' : j < zs.size := by rw [hz]; simpa using hj
      rw [blk_cell hb, Nat.zero_add, Array.getElem?_eq_getElem hj']
      rfl) (fun j _ => blk_frozen hb _)
    (fun v hv => (Array.all_eq_true_iff_forall_mem.1 h1) v (by simpa using hv))
  have hw : w.setCells b 0 v.cells.toList = { w with heap := w.heap.setIfInBounds b (.cells v.cells t (0, 0)) } := by
    obtain ⟨h1, h2, h3, h4, h5⟩ := setCells_blk (t := t) v.cells.toList 0 w zs hb (by simp [hz])
    generalize w.setCells b 0 v.cells.toList = w' at *
    cases w'
    simp only at h1 h2 h3 h4 h5
    subst h1 h2 h3 h4 h5
    simp
  cases hq : P.info? ty with
  | none => simp [hq] at hi
  | some i =>
    have hs : v.cells.size = i.size := by simp [hq] at hi; omega
    simp only [Nat.add_zero] at this
    simp only [Instr.storeAt, Instr.sureAddr, ptrTo, Sem.run_bind, Sem.run_pure, Result.andThen_ok]
    simp [storeVar, sizeOf, typeInfo, hq, hs, this, hw]

theorem qcallM {P : Program} {f : FuncId} {args : Array Value} {w : World} {x : Xt} {v : Value} {M : World → Prop} (hM : Clos M) (hm : M (ext w x))
    (h : Calls P f args (ext w x) fun e w' => e = .returned v ∧ Below (ext w x).heap.size (ext w x) w') : Calls P f args (ext w x) fun e w'' => e = .returned v ∧ (∃ y, w'' = ext w y) ∧ M w'' :=
  h.mono fun _ w' ⟨he, hb⟩ => ⟨he, by
    have := hM _ _ hm hb
    obtain ⟨y, rfl⟩ := ext_of_below hb
    exact ⟨⟨_, ext_ext w x y⟩, this⟩⟩
theorem qcallS {P : Program} {f : FuncId} {args : Array Value} {w : World} {x : Xt} {v : Value} {M : World → Prop} (hm : M (ext w x))
    (h : Calls P f args (ext w x) fun e w' => e = .returned v ∧ ext w x = w') : Calls P f args (ext w x) fun e w'' => e = .returned v ∧ (∃ y, w'' = ext w y) ∧ M w'' :=
  h.mono fun _ w' ⟨he, hb⟩ => ⟨he, by
    subst hb
    exact ⟨⟨x, rfl⟩, hm⟩⟩

section
variable {P : Program} {Q : Exit → Act → World → Prop} {id : Nat} {l : List Oper} {a : Act} {w : World}

/-- Quiet operations alone, then a tail. -/
theorem wp_par0 (n : Nat) (hm : P.follows .mixedOrders = true) (hB : parB l.toArray n [] = true)
    (h : ∃ aF, (∀ M : World → Prop, Clos M → wpSkip P l.toArray (fun w' => (∃ x, w' = ext w x) ∧ M w') (skp []) (fun a' => a' = aF) 0 (l.take n) a) ∧
      ∀ w', Below w.heap.size w w' → wpList P l.toArray Q (l.drop n) aF w') : (Code.region id l.toArray true).wp P Q a w := by
  obtain ⟨aF, h1, h2⟩ := h
  exact wp_region_par n [] hm hB (fun e he => by cases he) (fun e he => by cases he) (fun e he => by cases he) h1 (fun _ w' hb _ _ => h2 w' hb)

/-- One new variable besides: made at place j, written at place s. -/
theorem wp_par1 (n j s : Nat) (oj os : Oper) (t T : TypeId) (d : Nat) (y : Operand) (zs : Array Value) (v : Value) (hm : P.follows .mixedOrders = true) (hB : parB l.toArray n [⟨j, s, .cells zs T (0, 0), .cells v.cells T (0, 0)⟩] = true)
    (hj : l[j]? = some oj) (hs : l[s]? = some os) (hop : os.op = .store t (.tmp d) y) (hd : oj.dst = some d) (hdz : d < a.tmps.size)
    (hA : ∀ (ρ : Operand → Value) (w' : World), (execOp ρ oj).run P w' = .ok (.value (ptrTo w'.heap.size)) (w'.alloc (.cells zs T (0, 0))))
    (hz : zs.size = v.cells.size) (hi : (P.info? t).map (·.size) = some v.cells.size) (h1 : v.cells.all (·.oneCell') = true)
    (h : ∃ aF, (∀ M : World → Prop, Clos M → wpSkip P l.toArray (fun w' => (∃ x, w' = ext w x) ∧ M w') (skp [⟨j, s, .cells zs T (0, 0), .cells v.cells T (0, 0)⟩]) (fun a' => a' = aF) 0 (l.take n) a) ∧ aF.eval y = v ∧
      ∀ b w', Below w.heap.size w w' → w.heap.size ≤ b → w'.heap[b]? = some (.cells v.cells T (0, 0)) → wpList P l.toArray Q (l.drop n) (aF.put (some d) (ptrTo b)) w') : (Code.region id l.toArray true).wp P Q a w := by
  obtain ⟨aF, hq, hv, hF⟩ := h
  have hjx : ∀ o, l.toArray[j]? = some o → o = oj := fun o ho => by simpa [hj, eq_comm] using ho
  have hsx : ∀ o, l.toArray[s]? = some o → o = os := fun o ho => by simpa [hs, eq_comm] using ho
  refine wp_region_par n _ hm hB ?_ ?_ ?_ hq ?_
  · intro e he o d' ho hd'
    obtain rfl : e = _ := List.mem_singleton.1 he
    rw [hjx o ho, hd] at hd'
    rw [← Option.some.inj hd']
    exact hdz
  · intro e he o ho ρ w'
    obtain rfl : e = _ := List.mem_singleton.1 he
    rw [hjx o ho]
    exact hA ρ w'
  · intro e he o t' d' y' ho hop' ρ w' b hx hy hb
    obtain rfl : e = _ := List.mem_singleton.1 he
    rw [hsx o ho] at hop' ⊢
    rw [hop] at hop'
    injection hop' with e1 e2 e3
    subst e1 e3
    injection e2 with e2
    subst e2
    rw [hv] at hy
    unfold execOp
    simp only [hop, hx, hy, Sem.run_bind, run_store_fresh hb hz hi h1, Result.andThen_ok, Sem.run_pure]
  · intro β w' hb hblk _
    obtain ⟨g1, g2⟩ := hblk _ (List.mem_singleton.2 rfl)
    have := hF (β j) w' hb g1 g2
    simpa [hj, hd] using this
end
end Go.Proofs.Yteebobbhhgmeiaa
