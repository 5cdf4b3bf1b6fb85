/- A symbolic run over typed data, part I2: append, make, copy, calls: it is so. -/
import Derived.Test.YteebobbhhgmeiaaTI
namespace Go.Proofs.Yteebobbhhgmeiaa
open Go.RowKit

section
variable {E : Env} {Z : Base} {F : Nat → Prop} {N : Nm} {s : St} {a : Act} {R : World} {G : Guards}

theorem own_made {w : World} {e : TypeId} {sz n cap : Nat} {cur : Array Value} {zs : List Value} (hz : zs.length = n * sz) (hc : cur.size = cap * sz) (hm : cap ≤ maxLen) (hn : n ≤ cap) (ht : cur.toList.take (n * sz) = zs) {g : Nat} (hg : w.heap[g]? = some (.cells cur e (0, 0))) :
    OwnR w e sz (.slice (some ⟨g, 0, none⟩) n cap) n zs := by
  cases cap with
  | zero =>
    have : n = 0 := by omega
    subst this
    exact ⟨hz, .inl ⟨_, rfl, rfl⟩⟩
  | succ c => exact ⟨hz, .inr ⟨g, c, cur, rfl, hg, hn, hm, hc, ht⟩⟩
/-- An append that moves to a new row. -/
theorem app_grow {t u ty e e' : TypeId} {i : TypeInfo} {z : Value} (ht : E.P.underlying t = some (.slice e)) (hu : E.P.underlying u = some (.slice e') ∨ E.P.underlying u = some .string) (hi : E.P.info? e = some i) (hz : i.zero = some z) (hzs : z.cells.size = i.size) (hby : i.bytes ≤ 256)
    {b : Option Addr} {n cap m : Nat} {x : Value} {zs us : List Value} (hzl : zs.length = n * i.size) (hul : us.length = m * i.size) (hold : (Builtin.firstCells i.size n (.slice b n cap)).run E.P R.drew = .ok zs.toArray R.drew)
    (hlen : (Builtin.lenOf x).run E.P R = .ok m R) (hnew : (Builtin.firstCells i.size m x).run E.P R.drew = .ok us.toArray R.drew) (hg : cap < n + m) (hbd : boundP (n + m)) :
    ∃ v' R', (Builtin.append_ #[t, u] ty #[.slice b n cap, x]).run E.P R = .ok v' R' ∧ OwnR R' e i.size v' (n + m) (zs ++ us) ∧ Below R.heap.size R R' ∧ ∀ g, blkOf v' = some g → R.heap.size ≤ g := by
  have hbd' : n + m ≤ 549755813888 := hbd
  have hb2 : (n + m) * i.bytes ≤ 140737488355328 := Nat.le_trans (Nat.mul_le_mul hbd' hby) (by decide)
  have hrun := run_app_grow (P := E.P) (w := R) t u ty e i z ht hu hi hz b n cap m x zs us hold hlen hnew hg (by omega) (growslice_fits hg hb2)
  refine ⟨_, _, hrun, ?_, ((Below.refl _ R).drew).trans ⟨rfl, rfl, rfl, by simp, fun k hk => Below.heap_alloc R.drew _ k hk⟩, fun g hg => ?_⟩
  · have hge := grownCap_ge R (n + m) cap e
    have hmx : maxLen = 9223372036854775807 := rfl
    have hcm : grownCap R (n + m) cap e ≤ maxLen := grownCap_le_maxLen R (n + m) cap e (by omega)
    refine own_made (cur := zs.toArray ++ us.toArray ++ Builtin.zeroCells z.cells (grownCap R (n + m) cap e - (n + m))) ?_ ?_ hcm hge ?_ (heap_alloc_new R.drew _)
    · rw [List.length_append, hzl, hul, Nat.add_mul]
    · simp only [Array.size_append, List.size_toArray, size_zeroCells, hzs, hzl, hul, ← Nat.add_mul]
      congr 1
      omega
    · simp only [Array.toList_append]
      have : (n + m) * i.size = (zs ++ us).length := by rw [List.length_append, hzl, hul, Nat.add_mul]
      rw [this]
      exact List.take_left
  · generalize grownCap R (n + m) cap e = c at hg
    cases c with
    | zero => cases hg
    | succ c => cases hg; exact Nat.le_refl _
theorem drew_cell {ad : Addr} {v : Value} (h : R.cell? ad = some v) : R.drew.cell? ad = some v := h
def AppRes (E : Env) (R : World) (t u ty e : TypeId) (sz : Nat) (v0 x : Value) (k : Nat) (zs : List Value) : Prop := ∃ v' R', (Builtin.append_ #[t, u] ty #[v0, x]).run E.P R = .ok v' R' ∧ OwnR R' e sz v' k zs ∧ R'.os = R.os ∧ R'.tape = R.tape ∧ R'.output = R.output ∧ R.heap.size ≤ R'.heap.size ∧
      (∀ g, g < R.heap.size → blkOf v0 ≠ some g → R'.heap[g]? = R.heap[g]?) ∧ ∀ g, blkOf v' = some g → R.heap.size ≤ g ∨ blkOf v0 = some g
/-- An append to a row of one's own. -/
theorem app_own {t u ty e e' : TypeId} {i : TypeInfo} {z : Value} (ht : E.P.underlying t = some (.slice e)) (hu : E.P.underlying u = some (.slice e') ∨ E.P.underlying u = some .string) (hi : E.P.info? e = some i) (hz : i.zero = some z) (hzs : z.cells.size = i.size) (hby : i.bytes ≤ 256)
    {v0 : Value} {n m : Nat} {x : Value} {zs us : List Value} (h0 : OwnR R e i.size v0 n zs) (hul : us.length = m * i.size) (h1 : ∀ v ∈ us, v.oneCell' = true)
    (hx : ∀ R', (∀ ad v, R.cell? ad = some v → R'.cell? ad = some v) → (Builtin.lenOf x).run E.P R' = .ok m R' ∧ ∀ k, k ≤ m → (Builtin.firstCells i.size k x).run E.P R' = .ok (us.take (k * i.size)).toArray R') (hbd : boundP (n + m)) :
    AppRes E R t u ty e i.size v0 x (n + m) (zs ++ us) := by
  obtain ⟨hl1, hf1⟩ := hx R fun _ _ h => h
  obtain ⟨_, hf2⟩ := hx R.drew fun _ _ h => drew_cell h
  have hfull : us.take (m * i.size) = us := by rw [← hul]; exact List.take_length
  have hf1' := hf1 m (Nat.le_refl _)
  have hf2' := hf2 m (Nat.le_refl _)
  rw [hfull] at hf1' hf2'
  have grow : ∀ b cap, v0 = .slice b n cap → (Builtin.firstCells i.size n (.slice b n cap)).run E.P R.drew = .ok zs.toArray R.drew → cap < n + m → AppRes E R t u ty e i.size v0 x (n + m) (zs ++ us) := fun b cap e0 hold hlt => by
    obtain ⟨v', R', g1, g2, g3, g4⟩ := app_grow (R := R) (E := E) (ty := ty) ht hu hi hz hzs hby h0.1 hul hold hl1 hf2' hlt hbd
    rw [← e0] at g1
    exact ⟨v', R', g1, g2, g3.os, g3.tape, g3.output, g3.size, fun g hg _ => g3.block g hg, fun g hg => .inl (g4 g hg)⟩
  have hrd := (src_read (P := E.P) (flat_own h0) (w' := R.drew) fun _ _ h => drew_cell h).2 n (Nat.le_refl _)
  have hzfull : zs.take (n * i.size) = zs := by rw [← h0.1]; exact List.take_length
  rw [hzfull] at hrd
  rcases h0.2 with ⟨b, e0, n0⟩ | ⟨g, cap, cur, e0, q2, q3, q4, q5, q6⟩
  · subst n0
    by_cases hm : m = 0
    · subst hm
      have hus : us = [] := List.eq_nil_of_length_eq_zero (by simpa using hul)
      subst hus
      have := run_app_none (P := E.P) (w := R) t u ty e i ht hu hi b x hl1 (by simpa using hf1 0 (Nat.le_refl _))
      rw [← e0] at this
      exact ⟨v0, R, this, by simpa using h0, rfl, rfl, rfl, Nat.le_refl _, fun _ _ _ => rfl, fun g hg => .inr hg⟩
    · rw [e0] at hrd
      exact grow b 0 e0 hrd (by omega)
  · by_cases hroom : n + m ≤ cap + 1
    · have hfit : n * i.size + us.length ≤ cur.size := by rw [hul, q5, ← Nat.add_mul]; exact Nat.mul_le_mul_right _ hroom
      have hrun := run_app_room (P := E.P) (w := R) t u ty e i ht hu hi g n (cap + 1) m x cur q2 us hl1 hf1' h1 hroom hfit
      rw [← e0] at hrun
      refine ⟨_, _, hrun, ?_, rfl, rfl, rfl, by simp, fun g' _ hg' => setRow_other R _ g' _ (fun e => hg' (by subst e; rw [e0]; rfl)), fun g' hg' => .inr (by rw [e0]; exact hg')⟩
      refine own_made (by rw [List.length_append, h0.1, hul, Nat.add_mul]) ?_ q4 hroom ?_ (setRow_heap R g cur _ e _ q2)
      · simp only [List.size_toArray, List.length_append, List.length_take, List.length_drop, Array.length_toList]
        omega
      · show List.take ((n + m) * i.size) (cur.toList.take (n * i.size) ++ us ++ cur.toList.drop (n * i.size + us.length)) = _
        rw [q6]
        have : (n + m) * i.size = (zs ++ us).length := by rw [List.length_append, h0.1, hul, Nat.add_mul]
        rw [this]
        exact List.take_left
    · rw [e0] at hrd
      exact grow _ _ e0 hrd (by omega)

theorem dest_ok (h : HRel F N s.nx s.o R) {e : TypeId} {sz : Nat} {x : A} {v : Value} {d : Option Nat} {els : Els} (he : destE s.o e sz x = some (d, els)) (hx : Hv F N s.nx R x v) :
    ∃ zs, OwnR R e sz v els.n zs ∧ RowHL F N s.nx R els sz zs ∧ (∀ i, d = some i → (∃ e' s' els', lookO i s.o = some (.arr e' s' els')) ∧ v = N.q i) ∧ (d = none → blkOf v = none) := by
  unfold destE at he
  split at he <;> first | (cases he; done) | skip
  · rename_i i
    split at he <;> first | (cases he; done) | skip
    rename_i e' size els' hl
    cases hb : Nat.beq e' e with
    | false => rw [hb] at he; cases he
    | true =>
      cases hb2 : Nat.beq size sz with
      | false => rw [hb, hb2] at he; cases he
      | true =>
        rw [hb, hb2] at he
        cases he
        obtain rfl := Nat.eq_of_beq_eq_true hb
        obtain rfl := Nat.eq_of_beq_eq_true hb2
        obtain ⟨_, zs, g1, g2⟩ := h.ob i _ hl
        rw [hx.sq_inv.2]
        exact ⟨zs, g1, ⟨g1.1, g2⟩, (fun j hj => by cases hj; exact ⟨⟨_, _, _, hl⟩, rfl⟩), fun e => by cases e⟩
  · cases he
    obtain ⟨b, rfl⟩ := hx.nl_inv
    exact ⟨[], ⟨by simp [Els.n], .inl ⟨b, rfl, rfl⟩⟩, .nil, (fun j hj => by cases hj), fun _ => by cases b <;> rfl⟩
  · rename_i x
    cases hb : isNilV x with
    | false => rw [hb] at he; cases he
    | true =>
      rw [hb] at he
      cases he
      rw [hx.v_inv, isNilV_ok hb]
      exact ⟨[], ⟨by simp [Els.n], .inl ⟨none, rfl, rfl⟩⟩, .nil, (fun j hj => by cases hj), fun _ => rfl⟩
theorem app_ok (h : Rel Z F N s a R) (hG : GOk (tmOf a) G) {t u ty : TypeId} {x y : Operand} {f : Eff} (he : appE E s G t u x y = some f) (hp : ∀ p ∈ f.ps, p) :
    ∃ v R', (Builtin.append_ #[t, u] ty #[a.eval x, a.eval y]).run E.P R = .ok v R' ∧ EK F N s.nx s.o R f v R' := by
  unfold appE at he
  split at he <;> first | (cases he; done) | skip
  rename_i e ht
  split at he <;> first | (cases he; done) | skip
  rename_i sz hsz
  cases hsd : sideB E.P e sz with
  | false => rw [hsd] at he; cases he
  | true =>
    rw [hsd] at he
    simp only [cond_true] at he
    obtain ⟨i, z, hi, hz, rfl, hzs, hpos, hby⟩ := sideB_ok hsd
    split at he <;> first | (cases he; done) | skip
    rename_i b ps hb
    split at he
    · rename_i j z' lo n hx
      obtain ⟨_, aa, cap, q1, q2, q3, q4⟩ := (ev_ok h hG hx).2.vw_inv
      split at he <;> first | (cases he; done) | skip
      rename_i e0 size els hl
      cases hb0 : Nat.beq z' i.size with
      | false => rw [hb0] at he; cases he
      | true =>
      cases hb1 : Nat.beq size i.size with
      | false => rw [hb0, hb1] at he; cases he
      | true =>
        rw [hb0, hb1] at he
        simp only [cond_true] at he
        split at he <;> first | (cases he; done) | skip
        rename_i r qs hcat
        cases he
        generalize hnorm : r.norm (E.tc e) = nn at *
        obtain ⟨r', rs⟩ := nn
        obtain rfl := Nat.eq_of_beq_eq_true hb0
        obtain rfl := Nat.eq_of_beq_eq_true hb1
        obtain ⟨hle, hm0, hbd⟩ := hp _ (List.mem_cons_self ..)
        have hp1 : ∀ p ∈ ps, p := fun p hm => hp p (List.mem_cons_of_mem _ (List.mem_append.2 (.inl hm)))
        have hp2 : ∀ p ∈ qs, p := fun p hm => hp p (List.mem_cons_of_mem _ (List.mem_append.2 (.inr (List.mem_append.2 (.inl hm)))))
        have hp3 : ∀ p ∈ rs, p := fun p hm => hp p (List.mem_cons_of_mem _ (List.mem_append.2 (.inr (List.mem_append.2 (.inr hm)))))
        obtain ⟨⟨e', hu⟩, us, g1, g2, g3⟩ := moreE_ok h hG hb hp1 hpos
        obtain ⟨_, zs, r1, r2⟩ := h.hp.ob j _ hl
        have hr : RowHL F N s.nx R els i.size zs := ⟨r1.1, r2⟩
        have hsub := hr.sub hle
        obtain ⟨c1, c2⟩ := catEls_ok hcat hp2 hsub g1
        obtain ⟨d1, d2⟩ := norm_ok hnorm hp3 c2
        rw [sub_n hle] at c1
        obtain ⟨hl1, _⟩ := g3 R fun _ _ h => h
        obtain ⟨_, hf2⟩ := g3 R.drew fun _ _ h => drew_cell h
        have hful : us.take (b.n * i.size) = us := by rw [← g1.1]; exact List.take_length
        have hf2' := hf2 b.n (Nat.le_refl _)
        rw [hful] at hf2'
        have hflat : FlatR R (.slice aa n cap) i.size n ((zs.drop (lo * i.size)).take (n * i.size)) := ⟨by rw [hsub.1, sub_n hle], ⟨aa, cap, rfl, q2⟩, fun A m c e hn => by
          cases e
          refine ⟨_, q4 hn, fun k v hv => ?_⟩
          obtain ⟨g, c2, p1, _, p3, _, p5⟩ := row_place r1 (by omega)
          rw [p3, add_mk, add_mk, Nat.zero_add]
          rw [List.getElem?_take] at hv
          split at hv <;> first | (cases hv; done) | skip
          rw [List.getElem?_drop] at hv
          exact p5 _ v hv⟩
        have hrd := (src_read (P := E.P) hflat (w' := R.drew) fun _ _ h => drew_cell h).2 n (Nat.le_refl _)
        rw [List.take_take, Nat.min_self] at hrd
        have hcap : cap = n := q3 rfl
        obtain ⟨v', R', k1, k2, k3, k4⟩ := app_grow (R := R) (E := E) (ty := ty) ht hu hi hz hzs hby hflat.len g1.1 hrd hl1 hf2' (by omega) hbd
        rw [q1]
        refine ⟨v', R', k1, ?_⟩
        have hrow := ek_row (k := 1) (ps := (lo + n ≤ els.n ∧ 0 < b.n ∧ boundP (n + b.n)) :: (ps ++ (qs ++ rs))) (d := none) (e := e) (els := r') (v := v') h.hp k3.os k3.tape k3.output k3.size (fun _ e => by cases e) (fun g hg _ => k3.block g hg) (by rw [d1, c1]; exact k2) d2 (fun g hg => .inl (k4 g hg)) (fun _ => rfl)
        exact hrow
    · rename_i x' hnv hx
      split at he <;> first | (cases he; done) | skip
      rename_i d els hd
      split at he <;> first | (cases he; done) | skip
      rename_i r qs hcat
      cases he
      generalize hnorm : r.norm (E.tc e) = nn at *
      obtain ⟨r', rs⟩ := nn
      have hbd : boundP (els.n + b.n) := hp _ (List.mem_cons_self ..)
      have hp1 : ∀ p ∈ ps, p := fun p hm => hp p (List.mem_cons_of_mem _ (List.mem_append.2 (.inl hm)))
      have hp2 : ∀ p ∈ qs, p := fun p hm => hp p (List.mem_cons_of_mem _ (List.mem_append.2 (.inr (List.mem_append.2 (.inl hm)))))
      have hp3 : ∀ p ∈ rs, p := fun p hm => hp p (List.mem_cons_of_mem _ (List.mem_append.2 (.inr (List.mem_append.2 (.inr hm)))))
      obtain ⟨⟨e', hu⟩, us, g1, g2, g3⟩ := moreE_ok h hG hb hp1 hpos
      obtain ⟨zs, r1, r2, r3, r4⟩ := dest_ok h.hp hd (ev_ok h hG hx).2
      obtain ⟨c1, c2⟩ := catEls_ok hcat hp2 r2 g1
      obtain ⟨d1, d2⟩ := norm_ok hnorm hp3 c2
      obtain ⟨v', R', k1, k2, k3, k4, k5, k6, k7, k8⟩ := app_own (E := E) (ty := ty) ht hu hi hz hzs hby r1 g1.1 g2 g3 hbd
      refine ⟨v', R', k1, ek_row h.hp k3 k4 k5 k6 (fun j hj => (r3 j hj).1) (fun g hg hn => k7 g hg fun e => ?_) (by rw [d1, c1]; exact k2) d2 (fun g hg => ?_) (fun hk => ?_)⟩
      · cases d with
        | none => rw [r4 rfl] at e; cases e
        | some j =>
          rw [(r3 j rfl).2] at e
          exact hn j rfl e
      · rcases k8 g hg with h1 | h1
        · exact .inl h1
        · cases d with
          | none => rw [r4 rfl] at h1; cases h1
          | some j => exact .inr ⟨j, rfl, by rw [← (r3 j rfl).2]; exact h1⟩
      · cases d with
        | none => rfl
        | some j => cases hk with | step hk => cases hk
    · cases he

theorem buildSl_ok (h : Rel Z F N s a R) (hG : GOk (tmOf a) G) {t : TypeId} {len : Nat} {parts : Array (Nat × Operand)} {f : Eff} (he : buildSlE E s G t len parts.toList = some f) :
    ∃ v R', (Instr.buildSlice t len (parts.map fun (i, x) => (i, a.eval x))).run E.P R = .ok v R' ∧ EK F N s.nx s.o R f v R' := by
  unfold buildSlE at he
  split at he <;> first | (cases he; done) | skip
  rename_i e hu
  split at he <;> first | (cases he; done) | skip
  rename_i i hi
  split at he <;> first | (cases he; done) | skip
  rename_i z hz
  split at he <;> first | (cases he; done) | skip
  rename_i ps hps
  cases h1 : Nat.ble (len * i.size) 16777216 with
  | false => rw [h1] at he; cases he
  | true =>
  cases h2 : Nat.beq z.cells.size i.size with
  | false => rw [h1, h2] at he; cases he
  | true =>
  cases h3 : Nat.ble 1 i.size with
  | false => rw [h1, h2, h3] at he; cases he
  | true =>
    rw [h1, h2, h3] at he
    simp only [cond_true] at he
    split at he <;> first | (cases he; done) | skip
    rename_i cs hcs
    cases h4 : oneEls s.o (.lst (chunks i.size len cs)) with
    | false => rw [h4] at he; cases he
    | true =>
      rw [h4] at he
      cases he
      have g1 := Nat.le_of_ble_eq_true h1
      have g2 := Nat.eq_of_beq_eq_true h2
      have g3 : 0 < i.size := Nat.le_of_ble_eq_true h3
      have hparts := partsE_ok h hG hps
      have hz0 : HL F N s.nx R (repL (toL z.cells.toList) len) (madeCells z.cells (len * i.size)).toList := by
        rw [← g2, madeCells_rep]
        exact repL_ok (HL.toL _) len
      obtain ⟨arr, q1, q2⟩ := fillA_ok hcs hparts hz0
      have hl : (parts.map fun (i, x) => (i, a.eval x)) = (parts.toList.map fun (i, x) => (i, a.eval x)).toArray := by rw [← Array.toList_map, Array.toArray_toList]
      have hrun := run_buildSl hu hi hz g1 q1 R
      rw [← hl] at hrun
      refine ⟨_, _, hrun, ?_⟩
      have hsize : ∀ {A0 arr : Array Value} {ps : List (Nat × Value)} {pl}, Instr.fill pl A0 ps = some arr → arr.size = A0.size := fun {A0 arr ps pl} hf => by
        induction ps generalizing A0 with
        | nil => simp only [Instr.fill] at hf; cases hf; rfl
        | cons p r ih =>
          obtain ⟨k, v⟩ := p
          unfold Instr.fill at hf
          split at hf <;> first | (cases hf; done) | skip
          split at hf
          · cases hf
          · rw [ih hf]
            have key : ∀ (l : List (Value × Nat)) (off : Nat) (c : Array Value), (l.foldl (fun (c : Array Value) (p : Value × Nat) => c.setIfInBounds (off + p.2) p.1) c).size = c.size := by
              intro l
              induction l with
              | nil => intro off c; rfl
              | cons p r ih => intro off c; rw [List.foldl_cons, ih]; simp
            rw [← Array.foldl_toList]
            exact key _ _ _
      have hasz : arr.size = len * i.size := by rw [hsize q1, size_madeCells]
      have hrow : RowHL F N s.nx R (.lst (chunks i.size len cs)) i.size arr.toList := by
        have hn : (Els.lst (chunks i.size len cs)).n = len := chunks_length _ _ _
        refine ⟨by rw [hn, Array.length_toList, hasz], fun k hk => ?_⟩
        rw [hn] at hk
        show HL F N s.nx R (nthL (chunks i.size len cs) k) _
        rw [chunks_nth _ _ _ _ hk]
        exact (q2.drop _).take _
      have hn : (Els.lst (chunks i.size len cs)).n = len := chunks_length _ _ _
      have hmx : len ≤ maxLen := by
        have h5 : len ≤ len * i.size := Nat.le_mul_of_pos_right _ g3
        have hmx : maxLen = 9223372036854775807 := rfl
        omega
      refine ek_row (d := none) (v := .slice (some ⟨R.heap.size, 0, none⟩) len len) h.hp rfl rfl rfl (by simp) (fun _ e => by cases e) (fun g hg _ => Below.heap_alloc R _ g hg) ?_ hrow (fun g hg => .inl ?_) (fun _ => rfl)
      · rw [hn]
        exact own_made (by rw [Array.length_toList, hasz]) hasz hmx (Nat.le_refl _) (List.take_of_length_le (by rw [Array.length_toList, hasz]; exact Nat.le_refl _)) (heap_alloc_new R _)
      · cases len with
        | zero => cases hg
        | succ n => cases hg; exact Nat.le_refl _

theorem makeSl_ok (ok : EnvOk E) (h : Rel Z F N s a R) (hG : GOk (tmOf a) G) {t : TypeId} {len cap : Operand} {f : Eff} (he : makeSlE E s G t len cap = some f) (hp : ∀ p ∈ f.ps, p) :
    ∃ v R', (Instr.makeSlice t (a.eval len) (a.eval cap)).run E.P R = .ok v R' ∧ EK F N s.nx s.o R f v R' := by
  unfold makeSlE at he
  split at he <;> first | (cases he; done) | skip
  rename_i e hu
  split at he <;> first | (cases he; done) | skip
  rename_i c hc
  split at he <;> first | (cases he; done) | skip
  rename_i k1 l k2 m hl hm
  cases hsd : sideB E.P e (size c) with
  | false => rw [hsd] at he; cases he
  | true =>
    rw [hsd] at he
    cases he
    obtain ⟨i, z, hi, hz, hs1, hzs, hpos, hby⟩ := sideB_ok hsd
    obtain ⟨i', hi', _, _, z', hz', hzc⟩ := ok.tc e c hc
    rw [hi] at hi'
    cases hi'
    rw [hz] at hz'
    cases hz'
    obtain ⟨h0, h1, h2⟩ := hp _ (List.mem_singleton.2 rfl)
    have hbm : (i.bytes : Int) * m ≤ 281474976710656 := by
      have a1 : (i.bytes : Int) * m ≤ 256 * m := Int.mul_le_mul_of_nonneg_right (by omega) (by omega)
      omega
    have hrun := run_make (P := E.P) R t e i z hu hi hz k1 k2 l m h0 h1 hbm (by omega)
    rw [raw_ok h hG hl, raw_ok h hG hm]
    refine ⟨_, _, hrun, ?_⟩
    have hn : (Els.ty c (List.replicate l.toNat (dflt c))).n = l.toNat := by simp [Els.n]
    have hzl : z.cells.toList.length = size c := by rw [Array.length_toList, hzs]
    have hmade : ∀ n, (madeCells z.cells (n * i.size)).toList = (List.replicate n z.cells.toList).flatten := fun n => by
      rw [hs1, ← hzs]
      exact madeCells_rep _ _
    have hflen : ∀ n, ((List.replicate n z.cells.toList).flatten).length = n * size c := fun n => by
      simp only [List.length_flatten, List.map_replicate, hzl, List.sum_replicate_nat]
    have htake : ∀ (k n : Nat), k ≤ n → ((List.replicate n z.cells.toList).flatten).take (k * size c) = (List.replicate k z.cells.toList).flatten := fun k n hkn => by
      have : List.replicate n z.cells.toList = List.replicate k z.cells.toList ++ List.replicate (n - k) z.cells.toList := by rw [List.replicate_append_replicate]; congr 1; omega
      rw [this, List.flatten_append]
      have e1 : k * size c = ((List.replicate k z.cells.toList).flatten).length := (hflen k).symm
      rw [e1]
      exact List.take_left
    have hdrop : ∀ (k n : Nat), k ≤ n → ((List.replicate n z.cells.toList).flatten).drop (k * size c) = (List.replicate (n - k) z.cells.toList).flatten := fun k n hkn => by
      have : List.replicate n z.cells.toList = List.replicate k z.cells.toList ++ List.replicate (n - k) z.cells.toList := by rw [List.replicate_append_replicate]; congr 1; omega
      rw [this, List.flatten_append]
      have e1 : k * size c = ((List.replicate k z.cells.toList).flatten).length := (hflen k).symm
      rw [e1]
      exact List.drop_left
    have hrow : RowHL F N s.nx R (.ty c (List.replicate l.toNat (dflt c))) (size c) ((List.replicate l.toNat z.cells.toList).flatten) := by
      refine ⟨by rw [hn, hflen], fun k hk => ?_⟩
      rw [hn] at hk
      rw [hdrop k _ (by omega), show l.toNat - k = (l.toNat - k - 1) + 1 by omega, List.replicate_succ, List.flatten_cons, show size c = z.cells.toList.length from hzl.symm, List.take_left]
      show HL F N s.nx R (enc c _) _
      rw [List.getD_eq_getElem?_getD, List.getElem?_replicate, if_pos hk]
      exact hzc F N s.nx R
    refine ek_row (d := none) (v := .slice (some ⟨R.heap.size, 0, none⟩) l.toNat m.toNat) h.hp rfl rfl rfl (by simp) (fun _ e => by cases e) (fun g hg _ => Below.heap_alloc R _ g hg) ?_ hrow (fun g hg => .inl ?_) (fun _ => rfl)
    · rw [hn]
      have hmx : maxLen = 9223372036854775807 := rfl
      refine own_made (cur := madeCells z.cells (m.toNat * i.size)) (hflen _) (by rw [size_madeCells, hs1]) (by omega) (by omega) ?_ (heap_alloc_new R _)
      rw [hmade]
      exact htake _ _ (by omega)
    · generalize m.toNat = c at hg
      cases c with
      | zero => cases hg
      | succ n => cases hg; exact Nat.le_refl _
end
end Go.Proofs.Yteebobbhhgmeiaa
