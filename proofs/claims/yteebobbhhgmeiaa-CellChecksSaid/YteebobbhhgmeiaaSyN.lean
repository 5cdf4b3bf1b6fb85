/- A symbolic run with sequences: append, calls that hand back sequences. -/
import Derived.Test.YteebobbhhgmeiaaSyM
namespace Go.Proofs.Yteebobbhhgmeiaa
open Go.RowKit

theorem run_append_of_nil {P : Program} (w : World) (base : Nat) (t ty e : TypeId) (i : TypeInfo) (size : Nat) (ht : P.underlying t = some (.slice e)) (hi : P.info? e = some i)
    (v : Value) (n : Nat) (xs : List Value) (hown : w.ownsRow base e size v n xs) (c : Nat) : (Builtin.append_ #[t, t] ty #[v, .slice none 0 c]).run P w = .ok v w := by
  rcases hown.2 with ⟨rfl, rfl⟩ | ⟨g, cap, cur, rfl, _, _, hnc, _⟩
  · simp [Builtin.append_, run_underlying ht, sizeOf, typeInfo, hi, Builtin.lenOf, Builtin.firstCells]
  · simp [Builtin.append_, run_underlying ht, sizeOf, typeInfo, hi, Builtin.lenOf, Builtin.firstCells, hnc, storeCells]

theorem run_append_flat {P : Program} (w : World) (base : Nat) (t ty e : TypeId) (i : TypeInfo) (z : Value) (size bytes : Nat) (ht : P.underlying t = some (.slice e)) (hi : P.info? e = some i) (hz : i.zero = some z)
    (hsize : i.size = size) (hby : i.bytes = bytes) (hzs : z.cells.size = size) (hsz : 0 < size)
    (v : Value) (n : Nat) (xs : List Value) (hown : w.ownsRow base e size v n xs)
    (u : Value) (m : Nat) (news : List Value) (hr : FlatR w u size m news) (h1 : ∀ u ∈ news, u.oneCell' = true)
    (h63 : n + m ≤ maxLen) (hbytes : (n + m) * bytes ≤ 140737488355328) (hbase : base ≤ w.heap.size) :
    ∃ v' w', (Builtin.append_ #[t, t] ty #[v, u]).run P w = .ok v' w' ∧ w'.ownsRow base e size v' (n + m) (xs ++ news) ∧ w.grownBy w' v.ownBlock ∧
      (v'.ownBlock = v.ownBlock ∨ v'.ownBlock = some w.heap.size) := by
  obtain ⟨A, c, rfl, hmc⟩ := hr.val
  rcases A with _ | ad
  · have hm : m = 0 := by
      rcases Nat.eq_zero_or_pos m with h0 | h0
      · exact h0
      · obtain ⟨ad, h, _⟩ := hr.cells h0
        cases h
    subst hm
    have hn : news = [] := List.eq_nil_of_length_eq_zero (by simpa using hr.len)
    subst hn
    exact ⟨v, w, run_append_of_nil w base t ty e i size ht hi v n xs hown c, by simpa using hown, World.grownBy.refl w _, .inl rfl⟩
  · have hcells : ∀ j u, news[j]? = some u → w.cell? (ad.add j) = some u := by
      intro j u hu
      rcases Nat.eq_zero_or_pos m with h0 | h0
      · subst h0
        have hn : news = [] := List.eq_nil_of_length_eq_zero (by simpa using hr.len)
        subst hn
        simp at hu
      · obtain ⟨ad', _, _, ⟨_, _, h⟩, _, hc⟩ := hr.cells h0
        injection h with h
        injection h with h
        subst h
        exact hc j u hu
    obtain ⟨v', w', hrun, h2, h3, _, h5⟩ := run_append_own_at (P := P) w base t ty e i z size bytes ht hi hz hsize hby hzs hsz v n xs hown ad m c news hr.len hcells h1 h63 hbytes hbase
    exact ⟨v', w', hrun, h2, h3, h5⟩

theorem flat_of_own {R : World} {base : Nat} {e : TypeId} {size n : Nat} {v : Value} {xs : List Value} (h : R.ownsRow base e size v n xs) : FlatR R v size n xs := by
  refine ⟨h.1, ?_, fun hn => ?_⟩
  · rcases h.2 with ⟨rfl, rfl⟩ | ⟨g, cap, cur, rfl, _, _, hnc, _⟩
    · exact ⟨none, 0, rfl, Nat.le_refl _⟩
    · exact ⟨_, cap, rfl, hnc⟩
  · rcases h.2 with ⟨rfl, h0⟩ | ⟨g, cap, cur, rfl, hb, hh, hnc, hmax, hcur, htake⟩
    · omega
    · refine ⟨⟨g, 0, none⟩, rfl, rfl, ⟨n, cap, rfl⟩, blk_lt hh, fun j u hu => ?_⟩
      exact h.cells (g := g) rfl j u hu
theorem ownBlock_blk (v : Value) : v.ownBlock = blkOf v := by
  cases v <;> first | rfl | (rename_i A _ _; cases A <;> rfl)

/-- An own row of plain cells. -/
theorem seq_of_own {R : World} {base : Nat} {e : TypeId} {size n : Nat} {v : Value} {xs : List Value} (h : R.ownsRow base e size v n xs) : SeqR base R v xs ⟨true, e, size, n, xs, none⟩ :=
  ⟨flat_of_own h, fun _ => h, ⟨rfl, fun _ _ => rfl⟩, fun K hK => by cases hK⟩
theorem touch_plain {v : Value} {zs : List Value} {own : Bool} {e : TypeId} {size n : Nat} {xs : List Value} {g : Nat} (h : Touch v zs ⟨own, e, size, n, xs, none⟩ g) : blkOf v = some g := by
  rcases h with ⟨_, h⟩ | ⟨K, i, v', hK, _⟩
  · exact h
  · cases hK

/-- One new row, of plain cells. -/
theorem more_one {base : Nat} {N : Nm} {s : St} {R R' : World} {drop : Option Nat} {e : TypeId} {size n : Nat} {xs : List Value} {v : Value} (hos : R'.os = R.os) (ht : R'.tape = R.tape) (ho : R'.output = R.output) (hz : R.heap.size ≤ R'.heap.size)
    (hst : ∀ g, g < R.heap.size → ¬ Dropped N s drop g → R'.heap[g]? = R.heap[g]?) (hown : R'.ownsRow base e size v n xs) (hnew : ∀ g, blkOf v = some g → R.heap.size ≤ g ∨ Dropped N s drop g) :
    MoreOk base N s R [⟨true, e, size, n, xs, none⟩] drop R' (fun _ => v) (fun _ => xs) where
  os := hos
  tape := ht
  output := ho
  size := hz
  stay := hst
  seq := fun j q hj => by
    match j, hj with
    | 0, hj => cases hj; exact seq_of_own hown
  new := fun j q g hj hg => by
    match j, hj with
    | 0, hj => cases hj; exact hnew g (touch_plain hg)
  sep := fun j q g hj _ hg => by
    match j, hj with
    | 0, hj =>
      cases hj
      refine ⟨fun j' q' hne hq' => ?_, fun K _ _ hK => by cases hK⟩
      match j', hq' with
      | 0, _ => exact absurd rfl hne

theorem ownsRow_base {R : World} {b b' : Nat} {e : TypeId} {size n : Nat} {v : Value} {xs : List Value} (hb : b ≤ b') (h : R.ownsRow b' e size v n xs) : R.ownsRow b e size v n xs := by
  refine ⟨h.1, ?_⟩
  rcases h.2 with h0 | ⟨g, cap, cur, h1, h2, h3⟩
  · exact .inl h0
  · exact .inr ⟨g, cap, cur, h1, Nat.le_trans hb h2, h3⟩

section
variable {E : Env} {B : World} {N : Nm} {s : St} {a : Act} {R : World} {G : Guards}

theorem newsE_ok (h : RelE E B N s a R) {sz m : Nat} {y : AV} {us : List Value} (hy : newsE s sz y = some (m, us)) : FlatR R (conc N y) sz m us := by
  unfold newsE at hy
  split at hy <;> first | (cases hy; done) | skip
  · rename_i c
    cases hy
    exact ⟨by simp, ⟨none, c, rfl, Nat.zero_le _⟩, fun hn => by omega⟩
  · rename_i i len cap
    split at hy <;> first | (cases hy; done) | skip
    rename_i e cs hb
    split at hy <;> first | (cases hy; done) | skip
    rename_i xs hxs
    cases hl : Nat.beq xs.length (len * sz) with
    | false => rw [hl] at hy; cases hy
    | true =>
      rw [hl] at hy
      simp only [cond_true] at hy
      cases hl2 : Nat.ble len cap with
      | false => rw [hl2] at hy; cases hy
      | true =>
      rw [hl2] at hy
      cases hy
      have hlen := Nat.eq_of_beq_eq_true hl
      obtain ⟨_, vs, hvs, hh⟩ := h.boxes i e cs hb
      have e1 := rawL_ok hxs hvs
      rw [e1] at hh
      exact ⟨hlen, ⟨some ⟨N.b i, 0, none⟩, cap, rfl, Nat.le_of_ble_eq_true hl2⟩, fun hn => ⟨⟨N.b i, 0, none⟩, rfl, rfl, ⟨_, _, rfl⟩, blk_lt hh, fun j u hu => by rw [add_mk, blk_cell hh, Nat.zero_add]; simpa using hu⟩⟩
  · rename_i k
    split at hy <;> first | (cases hy; done) | skip
    rename_i q hq
    split at hy <;> first | (cases hy; done) | skip
    rename_i hkid
    cases hl : Nat.beq q.size sz with
    | false => rw [hl] at hy; cases hy
    | true =>
      rw [hl] at hy
      cases hy
      obtain rfl := Nat.eq_of_beq_eq_true hl
      have hs := h.seqs k q hq
      have hz : N.z k = q.xs := by
        apply List.ext_getElem?
        intro j
        refine hs.alike.2 j ?_
        unfold isKid
        rw [hkid]
      have := hs.flat
      rw [hz] at this
      exact this

theorem run_buildSlice0 {P : Program} {t e : TypeId} {sz : Nat} (hu : P.underlying t = some (.slice e)) (hs : sizeP P e = some sz) (R : World) :
    (Instr.buildSlice t 0 #[]).run P R = .ok (.slice (some ⟨R.heap.size, 0, none⟩) 0 0) (R.alloc (.cells #[] e (0, 0))) := by
  unfold sizeP at hs
  cases hi : P.info? e with
  | none => rw [hi] at hs; cases hs
  | some i =>
    have hz : ∀ f : Nat → Value, Array.map f (Array.range 0) = #[] := fun f => Array.eq_empty_of_size_eq_zero (by simp)
    simp [Instr.buildSlice, run_underlying hu, sizeOf, typeInfo, hi, Instr.fill, newRow, hz]

theorem sideB_ok {e : TypeId} {sz : Nat} (h : sideB E e sz = true) : ∃ i z, E.P.info? e = some i ∧ i.zero = some z ∧ i.size = sz ∧ z.cells.size = sz ∧ 0 < sz := by
  unfold sideB at h
  split at h <;> first | (cases h; done) | skip
  rename_i i hi
  split at h <;> first | (cases h; done) | skip
  rename_i z hz
  simp only [Bool.and_eq_true] at h
  obtain ⟨⟨h1, h2⟩, h3⟩ := h
  exact ⟨i, z, hi, hz, Nat.eq_of_beq_eq_true h1, Nat.eq_of_beq_eq_true h2, Nat.le_of_ble_eq_true h3⟩

theorem u8B_ok {e : TypeId} (h : u8B E e = true) : ∃ i, E.P.info? e = some i ∧ i.zero = some (.int .u8 0) ∧ i.size = 1 ∧ i.bytes = 1 := by
  unfold u8B at h
  split at h <;> first | (cases h; done) | skip
  rename_i i hi
  simp only [Bool.and_eq_true] at h
  obtain ⟨⟨h1, h2⟩, h3⟩ := h
  refine ⟨i, hi, ?_, Nat.eq_of_beq_eq_true h1, Nat.eq_of_beq_eq_true h2⟩
  unfold isU8z at h3
  split at h3 <;> first | (cases h3; done) | skip
  rename_i hz
  exact hz
theorem appS_ok (h : RelE E B N s a R) (hG : GOk (tmOf a) G) {o : Oper} {x' y' : Operand} {t u : TypeId} (hop : o.op = .call { callee := .builtin .append, args := #[x', y'], argTypes := #[t, u] })
    {x : AV} {news : List Sq} {drop : Option Nat} {ps : List Prop} (he : appS E s G t u x' y' = some (.more x news drop, ps)) (hp : ∀ p ∈ ps, p) :
    MoreRun E.P B.heap.size N s R x news drop ((execOp a.eval o).run E.P R) := by
  have hbase : B.heap.size ≤ R.heap.size := h.bel.size
  unfold appS at he
  split at he <;> first | (cases he; done) | skip
  rename_i e ht hu
  cases hside : u8B E e with
  | false => rw [hside] at he; cases he
  | true =>
    rw [hside] at he
    simp only [cond_true] at he
    obtain ⟨ti, hi, hz, hs1, hs2⟩ := u8B_ok hside
    split at he <;> first | (cases he; done) | skip
    rename_i b hb
    have hb' := raw_ok h hG hb
    have main : ∀ (v0 : Value) (n0 : Nat) (xs0 : List Value) (dr : Option Nat), a.eval x' = v0 → R.ownsRow B.heap.size e 1 v0 n0 xs0 → (∀ g, blkOf v0 = some g → Dropped N s dr g) →
        (n0 + b.size ≤ maxLen ∧ n0 + b.size ≤ 140737488355328) →
        MoreRun E.P B.heap.size N s R (.sq 0) [⟨true, e, 1, n0 + b.size, xs0 ++ Lib.strCells b, none⟩] dr ((execOp a.eval o).run E.P R) := by
      intro v0 n0 xs0 dr hv0 hown hdr hbd
      obtain ⟨v', w', hrun, g1, g2, g4⟩ := Lib.run_append_own_string (P := E.P) R B.heap.size t u o.type e ti ht hu hi hz hs1 hs2 v0 n0 xs0 hown b hbd.1 hbd.2 hbase
      have hr : (execOp a.eval o).run E.P R = .ok (.value v') w' := by
        unfold execOp
        simp only [hop, resolve, invoke, builtin, Sem.run_bind, Sem.run_pure, Result.andThen_ok, List.map_toArray, List.map_cons, List.map_nil, hv0, hb', hrun]
      rw [hr]
      refine ⟨fun _ => v', fun _ => xs0 ++ Lib.strCells b, rfl, more_one g2.os g2.tape g2.output g2.size (fun g hg hnd => g2.block g hg fun e => ?_) g1 (fun g hg => ?_)⟩
      · rw [ownBlock_blk] at e
        exact hnd (hdr g e.symm)
      · rcases g1.2 with ⟨k1, k2⟩ | ⟨g', cap, cur, k1, k2, k3, k4⟩
        · rw [k1] at hg; cases hg
        · rw [k1] at hg
          cases hg
          rcases hown.2 with ⟨j1, j2⟩ | ⟨g0, cap0, cur0, j1, j2, j3, j4, j5, j6, j7⟩
          · subst j2
            obtain ⟨v2, w2, h2, h3, _, _⟩ := Lib.run_append_own_string (P := E.P) R R.heap.size t u o.type e ti ht hu hi hz hs1 hs2 v0 0 xs0 ⟨hown.1, .inl ⟨j1, rfl⟩⟩ b hbd.1 hbd.2 (Nat.le_refl _)
            rw [hrun] at h2
            obtain ⟨rfl, rfl⟩ : v' = v2 ∧ w' = w2 := by cases h2; exact ⟨rfl, rfl⟩
            rcases h3.2 with ⟨e1, _⟩ | ⟨g2, _, _, e1, e2, _⟩
            · rw [k1] at e1; cases e1
            · rw [k1] at e1; cases e1; exact .inl e2
          · have hxl : xs0.length = n0 := by simpa using hown.1
            have hcs : cur0.size = cap0 := by simpa using j6
            have hmx : n0 + b.size ≤ 9223372036854775807 := by have := hbd.1; simp only [maxLen] at this; omega
            by_cases hroom : n0 + b.size ≤ cap0
            · have h2 := Lib.run_append_room_string (P := E.P) R t u o.type e ti ht hu hi hs1 g0 n0 cap0 cur0 j3 b hroom (by omega)
              rw [← j1, hrun] at h2
              have : v' = .slice (some ⟨g0, 0, none⟩) (n0 + b.size) cap0 := by cases h2; rfl
              rw [k1] at this
              cases this
              exact .inr (hdr _ (by rw [j1]; rfl))
            · have holds : ∀ j u, xs0[j]? = some u → R.cell? ((⟨g0, 0, none⟩ : Addr).add j) = some u := by
                have := hown
                rw [j1] at this
                exact this.cells (g := g0) rfl
              have h2 := Lib.run_append_grow_string (P := E.P) R t u o.type e ti (.int .u8 0) ht hu hi hz ⟨g0, 0, none⟩ n0 cap0 xs0 (by rw [hs1]; simpa using hxl) holds b (by omega) (by omega) (by rw [hs2]; exact growslice_fits (by omega) (by omega))
              rw [← j1, hrun] at h2
              have : blkOf v' = some R.heap.size := by cases h2; rfl
              rw [k1] at this
              cases this
              exact .inl (Nat.le_refl _)
    split at he <;> first | (cases he; done) | skip
    · rename_i k hx
      split at he <;> first | (cases he; done) | skip
      rename_i q hq
      split at he <;> first | (cases he; done) | skip
      rename_i hown hkid
      cases hqe : Nat.beq q.e e with
      | false => rw [hqe] at he; cases he
      | true =>
        cases hqs : Nat.beq q.size 1 with
        | false => rw [hqe, hqs] at he; cases he
        | true =>
          rw [hqe, hqs] at he
          cases he
          have e1 := Nat.eq_of_beq_eq_true hqe
          have e2 := Nat.eq_of_beq_eq_true hqs
          have hs := h.seqs k q hq
          have ho := hs.own hown
          rw [e1, e2] at ho
          have hzz : N.z k = q.xs := by
            apply List.ext_getElem?
            intro j
            refine hs.alike.2 j ?_
            unfold isKid
            rw [hkid]
          rw [hzz] at ho
          exact main _ _ _ _ (ev_ok h hG hx).2 ho (fun g hg => ⟨k, q, rfl, hq, hown, hg⟩) (hp _ (by simp))
    · rename_i hx
      cases he
      exact main _ _ _ _ (ev_ok h hG hx).2 (World.ownsRow_nil R _ e 1) (fun g hg => by cases hg) (hp _ (by simp))

theorem more_ok (ok : EnvOk E B) (h : RelE E B N s a R) (hG : GOk (tmOf a) G) {o : Oper} {x : AV} {news : List Sq} {drop : Option Nat} {ps : List Prop} (he : effE E s G o = some (.more x news drop, ps)) (hp : ∀ p ∈ ps, p) :
    MoreRun E.P B.heap.size N s R x news drop ((execOp a.eval o).run E.P R) := by
  obtain ⟨dst, op, type, pos, after, guard⟩ := o
  have hbase : B.heap.size ≤ R.heap.size := h.bel.size
  unfold effE at he
  simp only at he
  split at he
  · unfold allocE at he
    repeat (split at he <;> first | (cases he; done) | skip)
  · unfold boxE at he
    repeat (split at he <;> first | (cases he; done) | skip)
  · unfold sliceE at he
    rename_i t len parts
    split at he <;> first | (cases he; done) | skip
    rename_i d
    split at he <;> first | (cases he; done) | skip
    rename_i ps' hps
    split at he
    · cases he
    · split at he <;> first | (cases he; done) | skip
      rename_i e hu
      split at he <;> first | (cases he; done) | skip
      rename_i sz hsz
      split at he <;> first | (cases he; done) | skip
      cases hb : Nat.beq len 0 with
      | false => rw [hb] at he; cases he
      | true =>
        rw [hb] at he
        obtain rfl := Nat.eq_of_beq_eq_true hb
        cases he
        have h2 := rawParts_ok h hG hps
        have h3 : (parts.map fun (i, x) => (i, a.eval x)) = ([] : List (Nat × Value)).toArray := by
          rw [← h2, ← Array.toList_map, Array.toArray_toList]
        have h1 := run_buildSlice0 hu hsz R
        have hr : (execOp a.eval { dst := some d, op := .buildSlice t 0 parts, type, pos, after, guard }).run E.P R = .ok (.value (.slice (some ⟨R.heap.size, 0, none⟩) 0 0)) (R.alloc (.cells #[] e (0, 0))) := by
          simp only [execOp, Sem.run_bind, h3, h1, Result.andThen_ok, Sem.run_pure]
        rw [hr]
        refine ⟨fun _ => .slice (some ⟨R.heap.size, 0, none⟩) 0 0, fun _ => [], rfl, ?_⟩
        refine more_one rfl rfl rfl (by simp) (fun g hg _ => Below.heap_alloc R _ g hg) ⟨by simp, .inr ⟨R.heap.size, 0, #[], rfl, hbase, heap_alloc_new R _, Nat.le_refl _, by simp [maxLen], by simp, by simp⟩⟩ (fun g hg => ?_)
        cases hg
        exact .inl (Nat.le_refl _)
  · split at he <;> first | (cases he; done) | skip
    obtain ⟨_, _, _, h'⟩ := setE_set _ _ _ _ _ _ he
    cases h'
  · rename_i f args ts
    unfold callM at he
    split at he <;> first | (cases he; done) | skip
    rename_i xs hxs
    cases hf : goesB E.P f with
    | false => rw [hf] at he; cases he
    | true =>
      rw [hf] at he
      simp only [cond_true] at he
      split at he <;> first | (cases he; done) | skip
      rename_i c news' ps' hC
      split at he
      · split at he <;> first | (cases he; done) | skip
      · rename_i q r
        cases hsim : c.simple with
        | false => rw [hsim] at he; cases he
        | true =>
          rw [hsim] at he
          cases he
          have hargs : (#[] ++ args.map a.eval ++ #[]) = (xs.map (conc N)).toArray := by
            rw [← evAll_ok h hG hxs, ← Array.toList_map, Array.toArray_toList, Array.empty_append, Array.append_empty]
          have hrun : (execOp a.eval { dst, op := .call { callee := .value (.func f), args, argTypes := ts }, type, pos, after, guard }).run E.P R = .ok (.enter f (xs.map (conc N)).toArray) R := by
            rw [execOp_call_go, hargs]
            exact run_goes hf _ R
          rw [hrun]
          have hc := ok.C f xs s.b s.q _ _ _ hC hp N R (ok.bel h.bel) (fun i e cs hi => (h.boxes i e cs hi).2) (fun k q hk => ⟨_, h.seqs k q hk⟩)
          refine ⟨rfl, hc.mono fun e R' ⟨v, z, h1, h2, h3⟩ => ⟨v, z, h1, ?_⟩⟩
          refine ⟨h2.os, h2.tape, h2.output, h2.size, fun g hg _ => h2.block g hg, fun j q hj => ?_, fun j q g hj hg => .inl (h3.new j q g hj hg), h3.sep⟩
          have := h3.seq j q hj
          exact ⟨this.flat, fun ho => ownsRow_base hbase (this.own ho), this.alike, this.kids⟩
  · rename_i args ts
    split at he <;> first | (cases he; done) | skip
    rename_i x' y' hargs
    have hax : args = #[x', y'] := by rw [← Array.toArray_toList (xs := args), hargs]
    unfold appE2 at he
    split at he <;> first | (cases he; done) | skip
    rename_i t0 u0 hts0
    have htx0 : ts = #[t0, u0] := by rw [← Array.toArray_toList (xs := ts), hts0]
    cases hq0 : Nat.beq t0 u0 with
    | false => rw [hq0] at he; subst hax htx0; exact appS_ok h hG rfl he hp
    | true =>
    rw [hq0] at he
    simp only [cond_true] at he
    unfold appE at he
    split at he <;> first | (cases he; done) | skip
    rename_i t t' hts
    have htx : ts = #[t, t'] := by rw [← Array.toArray_toList (xs := ts), hts]
    cases htt : Nat.beq t t' with
    | false => rw [htt] at he; cases he
    | true =>
      rw [htt] at he
      simp only [cond_true] at he
      obtain rfl := Nat.eq_of_beq_eq_true htt
      split at he <;> first | (cases he; done) | skip
      rename_i e hu
      split at he <;> first | (cases he; done) | skip
      rename_i sz hsz
      cases hside : sideB E e sz with
      | false => rw [hside] at he; cases he
      | true =>
        rw [hside] at he
        simp only [cond_true] at he
        obtain ⟨ti, tz, hi, hz, hs1, hs2, hs3⟩ := sideB_ok hside
        split at he <;> first | (cases he; done) | skip
        rename_i w hw
        split at he <;> first | (cases he; done) | skip
        rename_i m us hnews
        have hflat := newsE_ok h hnews
        obtain ⟨_, hw'⟩ := ev_ok h hG hw
        have main : ∀ (v0 : Value) (n0 : Nat) (xs0 : List Value) (dr : Option Nat), a.eval x' = v0 → R.ownsRow B.heap.size e sz v0 n0 xs0 → (∀ g, blkOf v0 = some g → Dropped N s dr g) →
            (n0 + m ≤ maxLen ∧ (n0 + m) * bytesP E.P e ≤ 140737488355328) → (∀ u ∈ us, u.oneCell' = true) →
            MoreRun E.P B.heap.size N s R (.sq 0) [⟨true, e, sz, n0 + m, xs0 ++ us, none⟩] dr ((execOp a.eval { dst, op := .call { callee := .builtin .append, args, argTypes := ts }, type, pos, after, guard }).run E.P R) := by
          intro v0 n0 xs0 dr hv0 hown hdr hbd h1
          have hby : ti.bytes = bytesP E.P e := by unfold bytesP; rw [hi]
          obtain ⟨v', w', hrun, g1, g2, g3⟩ := run_append_flat (P := E.P) R B.heap.size t type e ti tz sz (bytesP E.P e) hu hi hz hs1 hby hs2 hs3 v0 n0 xs0 hown (conc N w) m us hflat h1 hbd.1 hbd.2 hbase
          have hr : (execOp a.eval { dst, op := .call { callee := .builtin .append, args, argTypes := ts }, type, pos, after, guard }).run E.P R = .ok (.value v') w' := by
            show (do let d ← resolve a.eval _ type; invoke d.target d.args : Sem Next).run E.P R = _
            subst hax htx
            simp only [resolve, invoke, builtin, Sem.run_bind, Sem.run_pure, Result.andThen_ok, List.map_toArray, List.map_cons, List.map_nil, hv0, hw', hrun]
          rw [hr]
          refine ⟨fun _ => v', fun _ => xs0 ++ us, rfl, more_one g2.os g2.tape g2.output g2.size (fun g hg hnd => g2.block g hg fun e => ?_) g1 (fun g hg => ?_)⟩
          · rw [ownBlock_blk] at e
            exact hnd (hdr g e.symm)
          · rcases g3 with g3 | g3
            · rw [ownBlock_blk, ownBlock_blk] at g3
              exact .inr (hdr g (g3.symm.trans hg))
            · rw [ownBlock_blk, hg] at g3
              cases g3
              exact .inl (Nat.le_refl _)
        split at he <;> first | (cases he; done) | skip
        · rename_i k hx
          split at he <;> first | (cases he; done) | skip
          rename_i q hq
          split at he <;> first | (cases he; done) | skip
          rename_i hown hkid
          cases hqe : Nat.beq q.e e with
          | false => rw [hqe] at he; cases he
          | true =>
            cases hqs : Nat.beq q.size sz with
            | false => rw [hqe, hqs] at he; cases he
            | true =>
              rw [hqe, hqs] at he
              cases he
              have e1 := Nat.eq_of_beq_eq_true hqe
              have e2 := Nat.eq_of_beq_eq_true hqs
              have hs := h.seqs k q hq
              have ho := hs.own hown
              rw [e1, e2] at ho
              have hzz : N.z k = q.xs := by
                apply List.ext_getElem?
                intro j
                refine hs.alike.2 j ?_
                unfold isKid
                rw [hkid]
              rw [hzz] at ho
              exact main _ _ _ _ (ev_ok h hG hx).2 ho (fun g hg => ⟨k, q, rfl, hq, hown, hg⟩) (hp _ (by simp)) (hp _ (by simp))
        · rename_i hx
          cases he
          exact main _ _ _ _ (ev_ok h hG hx).2 (World.ownsRow_nil R _ e sz) (fun g hg => by cases hg) (hp _ (by simp)) (hp _ (by simp))
  · unfold valEff at he
    split at he <;> first | (cases he; done) | skip
end
end Go.Proofs.Yteebobbhhgmeiaa
