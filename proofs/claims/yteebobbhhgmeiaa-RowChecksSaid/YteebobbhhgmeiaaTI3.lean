/- A symbolic run over typed data, part I3: one operation, whatever it is. -/
import Derived.Test.YteebobbhhgmeiaaTI2
namespace Go.Proofs.Yteebobbhhgmeiaa
open Go.RowKit Go.MapKept

section
variable {F : Nat → Prop} {N : Nm} {nx : Nat} {R : World} {size : Nat}
theorem ty_mid {c : TC} {l m : List (U c)} {lo n : Nat} (hlo : lo + Nat.min n m.length ≤ l.length) :
    (Els.ty c (l.take lo ++ (m.take n ++ l.drop (lo + Nat.min n m.length)))).n = l.length ∧
    ∀ j, j < l.length → (Els.ty c (l.take lo ++ (m.take n ++ l.drop (lo + Nat.min n m.length)))).nth j = if lo ≤ j ∧ j < lo + Nat.min n m.length then (Els.ty c m).nth (j - lo) else (Els.ty c l).nth j := by
  have hmin : Nat.min n m.length = min n m.length := rfl
  refine ⟨?_, fun j hj => ?_⟩
  · show (l.take lo ++ (m.take n ++ l.drop _)).length = _
    rw [List.length_append, List.length_append, List.length_take, List.length_take, List.length_drop]
    omega
  · show enc c ((l.take lo ++ (m.take n ++ l.drop _)).getD j (dflt c)) = _
    rw [List.getD_eq_getElem?_getD, List.getElem?_append, List.length_take]
    by_cases c1 : j < lo
    · rw [if_pos (by omega), if_neg (by omega), List.getElem?_take, if_pos c1]
      show _ = enc c (l.getD j _)
      rw [List.getD_eq_getElem?_getD]
    · rw [if_neg (by omega), List.getElem?_append, List.length_take]
      by_cases c2 : j < lo + Nat.min n m.length
      · rw [if_pos (by omega), if_pos ⟨by omega, c2⟩, List.getElem?_take, if_pos (by omega)]
        show _ = enc c (m.getD (j - lo) _)
        rw [List.getD_eq_getElem?_getD]
        congr 3
        omega
      · rw [if_neg (by omega), if_neg (by omega), List.getElem?_drop]
        show _ = enc c (l.getD j _)
        rw [List.getD_eq_getElem?_getD]
        congr 3
        omega
theorem mid_ok {lo n : Nat} {els b r : Els} {ps : List Prop} {zs us : List Value} (he : midE lo n els b = some (r, ps)) (hp : ∀ p ∈ ps, p) (h1 : RowHL F N nx R els size zs) (h2 : RowHL F N nx R b size us) (hle : lo + n ≤ els.n) :
    r.n = els.n ∧ RowHL F N nx R r size (zs.take (lo * size) ++ us.take (Nat.min b.n n * size) ++ zs.drop (lo * size + (us.take (Nat.min b.n n * size)).length)) := by
  unfold midE at he
  split at he <;> first | (cases he; done) | skip
  rename_i c l
  split at he <;> first | (cases he; done) | skip
  rename_i m qs hm
  cases he
  have h3 := h2.ty hm hp
  have hbn : m.length = b.n := (elsTy_ok (F := F) (N := N) (nx := nx) (R := R) hm hp).1
  have hmin : Nat.min b.n n = min b.n n := rfl
  have hmin2 : Nat.min n m.length = min n m.length := rfl
  have hle' : lo + n ≤ l.length := hle
  obtain ⟨k1, k2⟩ := ty_mid (m := m) (l := l) (lo := lo) (n := n) (by omega)
  have hz : zs.length = l.length * size := h1.1
  have hu : us.length = m.length * size := h3.1
  have hul : (us.take (Nat.min b.n n * size)).length = Nat.min b.n n * size := by
    rw [List.length_take, hu, hbn]
    exact Nat.min_eq_left (Nat.mul_le_mul_right _ (by omega))
  have hlm : lo * size + Nat.min b.n n * size ≤ zs.length := by rw [hz, ← Nat.add_mul]; exact Nat.mul_le_mul_right _ (by omega)
  refine ⟨k1, ?_, fun j hj => ?_⟩
  · rw [k1, List.length_append, List.length_append, hul, List.length_take, List.length_drop, ← hz]
    omega
  · rw [k1] at hj
    rw [k2 j hj]
    have hjs : j * size + size ≤ zs.length := by rw [hz, ← Nat.succ_mul]; exact Nat.mul_le_mul_right _ hj
    by_cases c1 : j < lo
    · rw [if_neg (by omega)]
      have : j * size + size ≤ lo * size := by rw [← Nat.succ_mul]; exact Nat.mul_le_mul_right _ c1
      rw [List.append_assoc, List.drop_append_of_le_length (by rw [List.length_take]; omega), List.take_append_of_le_length (by rw [List.length_drop, List.length_take]; omega), List.drop_take, List.take_take, Nat.min_eq_left (by omega)]
      exact h1.2 j hj
    · by_cases c2 : j < lo + Nat.min n m.length
      · rw [if_pos ⟨by omega, c2⟩]
        have hk : j - lo < b.n := by omega
        have e1 : j * size = lo * size + (j - lo) * size := by rw [← Nat.add_mul]; congr 1; omega
        have hks : (j - lo) * size + size ≤ Nat.min b.n n * size := by rw [← Nat.succ_mul]; exact Nat.mul_le_mul_right _ (by omega)
        rw [List.append_assoc, List.drop_append, List.drop_eq_nil_of_le (by rw [List.length_take]; omega), List.nil_append, List.length_take, Nat.min_eq_left (by omega), e1, Nat.add_sub_cancel_left,
          List.drop_append_of_le_length (by omega), List.take_append_of_le_length (by rw [List.length_drop]; omega), List.drop_take, List.take_take, Nat.min_eq_left (by omega)]
        exact h3.2 (j - lo) (by rw [show (Els.ty c m).n = m.length from rfl, hbn]; exact hk)
      · rw [if_neg (by omega)]
        have : lo * size + Nat.min b.n n * size ≤ j * size := by rw [← Nat.add_mul]; exact Nat.mul_le_mul_right _ (by omega)
        rw [List.drop_append, List.drop_eq_nil_of_le (by rw [List.length_append, List.length_take, hul]; omega), List.nil_append, List.length_append, List.length_take, hul, List.drop_drop]
        have e2 : lo * size + Nat.min b.n n * size + (j * size - (min (lo * size) zs.length + Nat.min b.n n * size)) = j * size := by omega
        rw [e2]
        exact h1.2 j hj
end
section
variable {E : Env} {Z : Base} {F : Nat → Prop} {N : Nm} {s : St} {a : Act} {R : World} {G : Guards}
theorem copy_ok (h : Rel Z F N s a R) (hG : GOk (tmOf a) G) {t u ty : TypeId} {x y : Operand} {f : Eff} (he : copyE E s G t u x y = some f) (hp : ∀ p ∈ f.ps, p) :
    ∃ v R', (Builtin.copy_ #[t, u] ty #[a.eval x, a.eval y]).run E.P R = .ok v R' ∧ EK F N s.nx s.o R f v R' := by
  unfold copyE at he
  split at he <;> first | (cases he; done) | skip
  rename_i e ht
  split at he <;> first | (cases he; done) | skip
  rename_i sz hsz
  cases hsd : sideB E.P e sz with
  | false => rw [hsd] at he; cases he
  | true =>
    rw [hsd] at he
    simp only [cond_true] at he
    obtain ⟨i, z, hi, hz, rfl, hzs, hpos, hby⟩ := sideB_ok hsd
    split at he <;> first | (cases he; done) | skip
    rename_i b ps hb
    have main : ∀ (j lo n : Nat) (e' : TypeId) (els r : Els) (qs : List Prop) (aa : Option Addr) (cap : Nat) (k0 : List Prop), lookO j s.o = some (.arr e' i.size els) → midE lo n els b = some (r, qs) → (∀ p ∈ ps, p) → (∀ p ∈ qs, p) → lo + n ≤ els.n →
        a.eval x = .slice aa n cap → (0 < n → aa = some ((placeOf (N.q j)).add (lo * i.size))) →
        ∃ v R', (Builtin.copy_ #[t, u] ty #[a.eval x, a.eval y]).run E.P R = .ok v R' ∧ EK F N s.nx s.o R ⟨.v (.int .i64 (Nat.min b.n n : Nat)), s.nx, (j, some (.arr e' i.size r)) :: s.o, 2, k0⟩ v R' := by
      intro j lo n e' els r qs aa cap k0 hl hmid hp1 hp2 hle hxv haa
      obtain ⟨_, us, g1, g2, g3⟩ := moreE_ok h hG hb hp1 hpos
      obtain ⟨_, zs, r1, r2⟩ := h.hp.ob j _ hl
      obtain ⟨d1, d2⟩ := mid_ok hmid hp2 ⟨r1.1, r2⟩ g1 hle
      obtain ⟨hl1, hf1⟩ := g3 R fun _ _ h => h
      have hmin : Nat.min b.n n = min b.n n := rfl
      have hlen : (us.take (Nat.min b.n n * i.size)).length = Nat.min b.n n * i.size := by
        rw [List.length_take, g1.1]
        exact Nat.min_eq_left (Nat.mul_le_mul_right _ (by omega))
      by_cases hn : 0 < n
      · obtain ⟨g, c, cur, q1, q2, q3, q4, q5, q6⟩ := own_blk r1 (by omega)
        have hpl : aa = some ⟨g, lo * i.size, none⟩ := by
          rw [haa hn, q1]
          show some ((⟨g, 0, none⟩ : Addr).add _) = _
          rw [add_mk, Nat.zero_add]
        have hfit : lo * i.size + (us.take (Nat.min b.n n * i.size)).length ≤ els.n * i.size := by
          rw [hlen, ← Nat.add_mul]
          exact Nat.mul_le_mul_right _ (by omega)
        have hcur : els.n * i.size ≤ cur.size := by rw [q5]; exact Nat.mul_le_mul_right _ q3
        have hrun := run_copy_some (P := E.P) (w := R) (ty := ty) (sT := u) ht hi (g := g) (o := lo * i.size) (dLen := n) (dCap := cap) hl1 (hf1 (Nat.min b.n n) (by omega)) q2 (by omega) (fun v hv => g2 v (List.mem_of_mem_take hv))
        rw [hxv, hpl]
        refine ⟨_, _, hrun, ?_⟩
        have hown := own_put (w := R) (o := lo * i.size) (vs := us.take (Nat.min b.n n * i.size)) r1.1 q2 q3 q4 q5 q6 hfit
        rw [← q1, ← d1] at hown
        refine ek_put (R' := R.setRow g (cur.toList.take (lo * i.size) ++ us.take (Nat.min b.n n * i.size) ++ cur.toList.drop (lo * i.size + (us.take (Nat.min b.n n * i.size)).length)).toArray) h.hp hl rfl rfl rfl (by simp) (fun g' _ hg' => setRow_other R _ g' _ (fun e => ?_)) hown d2 fun _ _ => .v _
        subst e
        rw [q1] at hg'
        exact hg' rfl
      · have h0 : Nat.min b.n n = 0 := by omega
        have hrun := run_copy_zero (P := E.P) (w := R) (ty := ty) (sT := u) ht hi (d := aa) (dLen := n) (dCap := cap) hl1 h0 (by simpa using hf1 0 (Nat.zero_le _))
        rw [hxv]
        refine ⟨_, _, hrun, ?_⟩
        rw [h0, Nat.zero_mul] at d2
        rw [h0]
        have d2' : RowHL F N s.nx R r i.size zs := by simpa using d2
        exact ek_put (R' := R) h.hp hl rfl rfl rfl (Nat.le_refl _) (fun _ _ _ => rfl) (by rw [d1]; exact r1) d2' fun _ _ => .v _
    split at he <;> first | (cases he; done) | skip
    · rename_i j hx
      split at he <;> first | (cases he; done) | skip
      rename_i e' size els hl
      cases hb1 : Nat.beq size i.size with
      | false => rw [hb1] at he; cases he
      | true =>
        rw [hb1] at he
        simp only [cond_true] at he
        split at he <;> first | (cases he; done) | skip
        rename_i r qs hmid
        cases he
        obtain rfl := Nat.eq_of_beq_eq_true hb1
        obtain ⟨_, zs, r1, _⟩ := h.hp.ob j _ hl
        obtain ⟨aa, cap, e1, _⟩ := r1.form
        refine main j 0 els.n e' els r qs aa cap _ hl hmid (fun p hm => hp p (List.mem_append.2 (.inl hm))) (fun p hm => hp p (List.mem_append.2 (.inr hm))) (by omega) (by rw [(ev_ok h hG hx).2.sq_inv.2, e1]) fun hn => ?_
        obtain ⟨g, c, q1, _, q3, _, _⟩ := row_place r1 hn
        rw [q1] at e1
        cases e1
        rw [q3, Nat.zero_mul, add_zero]
    · rename_i j z' lo n f hx
      split at he <;> first | (cases he; done) | skip
      rename_i e' size els hl
      cases hb0 : Nat.beq z' i.size with
      | false => rw [hb0] at he; cases he
      | true =>
      cases hb1 : Nat.beq size i.size with
      | false => rw [hb0, hb1] at he; cases he
      | true =>
        rw [hb0, hb1] at he
        simp only [cond_true] at he
        split at he <;> first | (cases he; done) | skip
        rename_i r qs hmid
        cases he
        obtain rfl := Nat.eq_of_beq_eq_true hb0
        obtain rfl := Nat.eq_of_beq_eq_true hb1
        obtain ⟨_, aa, cap, e1, _, _, e4⟩ := (ev_ok h hG hx).2.vw_inv
        exact main j lo n e' els r qs aa cap _ hl hmid (fun p hm => hp p (List.mem_cons_of_mem _ (List.mem_append.2 (.inl hm)))) (fun p hm => hp p (List.mem_cons_of_mem _ (List.mem_append.2 (.inr hm)))) (hp _ (List.mem_cons_self ..)) e1 e4

theorem strBytes_ok (h : Rel Z F N s a R) (hG : GOk (tmOf a) G) {src dst : TypeId} {x : Operand} {f : Eff} (he : strBytesE E s G src dst x = some f) :
    ∃ v R', (convert src dst (a.eval x)).run E.P R = .ok v R' ∧ EK F N s.nx s.o R f v R' := by
  unfold strBytesE at he
  split at he <;> first | (cases he; done) | skip
  rename_i e hs hd
  split at he <;> first | (cases he; done) | skip
  rename_i b hu hx
  cases he
  have hrun := run_bytes_of_string (P := E.P) R src dst e b hs hd hu
  rw [raw_ok h hG hx]
  refine ⟨_, _, hrun, ek_frozen (R' := R.drew.alloc _) h.hp (((Below.refl _ R).drew).trans ⟨rfl, rfl, rfl, by simp, fun k hk => Below.heap_alloc R.drew _ k hk⟩) (by simp) ?_⟩
  have hlen : b.data.toList.length = b.size := by simp
  have hge := grownCap_ge R b.size 0 e
  have main : Hv (fun g => F g ∨ g = R.heap.size) N s.nx (R.drew.alloc (.cells (bytesRow b (grownCap R b.size 0 e)) e ((bytesRow b (grownCap R b.size 0 e)).size, (bytesRow b (grownCap R b.size 0 e)).size + 1))) (.sl .u8 b.data.toList) (.slice (some ⟨R.heap.size, 0, none⟩) b.data.toList.length (grownCap R b.size 0 e)) := by
    refine Hv.of_sl (by rw [hlen]; exact hge) fun hn => ⟨_, rfl, .inr rfl, fun k d hd => ?_⟩
    refine HC.cons.2 ⟨⟨byteV d, ?_, .v _⟩, HC.nil⟩
    rw [add_mk, show size .u8 = 1 from rfl, Nat.mul_one, Nat.zero_add]
    have hk : k < b.data.toList.length := (List.getElem?_eq_some_iff.1 hd).1
    have hblk : (R.drew.alloc (.cells (bytesRow b (grownCap R b.size 0 e)) e ((bytesRow b (grownCap R b.size 0 e)).size, (bytesRow b (grownCap R b.size 0 e)).size + 1))).heap[R.heap.size]? = some (.cells (bytesRow b (grownCap R b.size 0 e)) e ((bytesRow b (grownCap R b.size 0 e)).size, (bytesRow b (grownCap R b.size 0 e)).size + 1)) := heap_alloc_new R.drew _
    unfold World.cell?
    simp only [hblk]
    have e1 : (bytesRow b (grownCap R b.size 0 e))[k]? = some (byteV d) := by
      unfold bytesRow
      rw [Array.getElem?_append_left (by rw [hlen] at hk; simpa using hk), Array.getElem?_map]
      have : b.data[k]? = some d := by rw [← Array.getElem?_toList]; exact hd
      rw [this]
      rfl
    simpa using e1
  rw [hlen] at main
  exact main

theorem callEff_ok (ok : EnvOk E) (h : Rel Z F N s a R) (hG : GOk (tmOf a) G) {o : Oper} {g : Operand} {args : Array Operand} {ts : Array TypeId} (ho : o.op = .call { callee := .value g, args, argTypes := ts }) {f : Eff} (he : callEff E s G g args.toList = some f) (hp : ∀ p ∈ f.ps, p) :
    UponV E.P (fun v R' => EK F N s.nx s.o R f v R') ((execOp a.eval o).run E.P R) := by
  unfold callEff at he
  split at he <;> first | (cases he; done) | skip
  rename_i k x nx' o' ps hr
  cases he
  obtain ⟨fn, xs, vs, h1, h2, h3⟩ := callR_ok h hG ho hr
  rw [h3 R]
  refine (ok.C fn xs s.nx s.o _ _ _ _ _ h1 hp F N R vs h.hp h2).mono fun e R' ⟨y, F', N', e1, e2, e3, e4, e5⟩ => ⟨y, e1, F', N', e2, e3, e4, fun hk => e5 ?_⟩
  cases hb : Nat.ble k 1 with
  | true => exact Nat.le_of_ble_eq_true hb
  | false =>
    have hk' : (bif Nat.ble k 1 then 1 else 2) ≤ 1 := hk
    rw [hb] at hk'
    cases hk' with | step hk' => cases hk'

theorem run_lift2 {α : Type} {P : Program} {R R' : World} {m : Sem α} {f : α → Next} {x : α} (h : m.run P R = .ok x R') : ((do pure (f (← m)) : Sem Next)).run P R = .ok (f x) R' := by
  simp [h]
theorem upon_of {P : Program} {K : Value → World → Prop} {v : Value} {R' : World} {r : Result Next} (h : r = .ok (.value v) R') (hk : K v R') : UponV P K r := by
  rw [h]
  exact hk
theorem range_ok (h : Rel Z F N s a R) (hG : GOk (tmOf a) G) {t : TypeId} {x : Operand} {f : Eff} (he : rangeE E s G t x = some f) :
    ∃ v R', (Instr.range t (a.eval x)).run E.P R = .ok v R' ∧ EK F N s.nx s.o R f v R' := by
  unfold rangeE at he
  split at he <;> first | (cases he; done) | skip
  rename_i b hu hx
  cases he
  have e := raw_ok h hG hx
  refine ⟨.pointer (some ⟨R.heap.size, 0, none⟩), R.alloc (.stringIter b 0), ?_, ?_⟩
  · rw [e]
    simp [Instr.range, run_underlying hu]
  · refine ek_new h.hp (fun N' g hg => hg) (fun _ hb => hb) ?_
    have : (⟨R.heap.size, 0, none⟩ : Addr) = ⟨(N.setB s.nx R.heap.size).b s.nx, 0, none⟩ := by
      show _ = (⟨setF N.b s.nx R.heap.size s.nx, 0, none⟩ : Addr)
      rw [setF_same]
    rw [this]
    exact .own (by omega)
theorem next_ok (h : Rel Z F N s a R) (hG : GOk (tmOf a) G) {it : Operand} {ty : TypeId} {f : Eff} (he : nextE s G it = some f) :
    ∃ v R', (Instr.next (a.eval it) true ty).run E.P R = .ok v R' ∧ EK F N s.nx s.o R f v R' := by
  unfold nextE at he
  split at he <;> first | (cases he; done) | skip
  rename_i i off hx
  have hx' := (ev_ok h hG hx).2.own_inv
  cases h0 : Nat.beq off 0 with
  | false => rw [h0] at he; cases he
  | true =>
    rw [h0] at he
    simp only [cond_true] at he
    obtain rfl := Nat.eq_of_beq_eq_true h0
    split at he <;> first | (cases he; done) | skip
    rename_i b pos hl
    cases he
    have hb : R.heap[N.b i]? = some (.stringIter b pos) := (h.hp.ob _ _ hl).2
    by_cases hp : pos < b.size
    · refine ⟨.tuple #[.bool true, .int .i64 (pos : Nat), .int .i32 ((Utf8.decode b pos).1 : Nat)], { R with heap := R.heap.setIfInBounds (N.b i) (.stringIter b (pos + (Utf8.decode b pos).2)) }, ?_, ?_⟩
      · rw [hx'.2]
        simp [Instr.next, getObj, setObj, Sem.run, hb, hp, goInt]
      · rw [decide_eq_true hp]
        exact ek_upd h.hp hl rfl (fun g hg => hg) hb (fun hs => hs) (.it true _ _ rfl)
    · refine ⟨.tuple #[.bool false], { R with heap := R.heap.setIfInBounds (N.b i) (.stringIter b pos) }, ?_, ?_⟩
      · have hsame : R.heap.setIfInBounds (N.b i) (.stringIter b pos) = R.heap := by
          have hlt := blk_lt hb
          have hv : R.heap[N.b i] = .stringIter b pos := (Array.getElem?_eq_some_iff.1 hb).2
          apply Array.ext_getElem?
          intro j
          by_cases hj : N.b i = j
          · subst hj; simp [hlt, hv]
          · simp [hj]
        rw [hx'.2, hsame]
        simp [Instr.next, getObj, Sem.run, hb, hp]
      · rw [decide_eq_false hp]
        exact ek_upd h.hp hl rfl (fun g hg => hg) hb (fun hs => hs) (.it false _ _ rfl)
theorem mkMap_ok (h : Rel Z F N s a R) {t : TypeId} {f : Eff} (he : mkMapE E s t = some f) : ∃ v R', (Instr.makeMap t none).run E.P R = .ok v R' ∧ EK F N s.nx s.o R f v R' := by
  unfold mkMapE at he
  cases hk : keyB E t with
  | false => rw [hk] at he; cases he
  | true =>
    rw [hk] at he
    cases he
    refine ⟨.map (some R.heap.size), R.alloc (.map #[] 0), by simp [Instr.makeMap], ?_⟩
    refine ek_new h.hp (fun N' g hg => hg) (fun _ hb => ⟨[], 0, hb, rfl, fun j p e hp => by cases hp⟩) ?_
    have : (some R.heap.size : Option Nat) = some ((N.setB s.nx R.heap.size).b s.nx) := by
      show _ = some (setF N.b s.nx R.heap.size s.nx)
      rw [setF_same]
    rw [this]
    exact .mp (by omega)
theorem mapUp_ok (h : Rel Z F N s a R) (hG : GOk (tmOf a) G) {t : TypeId} {m k x : Operand} {f : Eff} (he : mapUpE E s G t m k x = some f) :
    ∃ R', (Instr.mapUpdate t (a.eval m) (a.eval k) (a.eval x)).run E.P R = .ok () R' ∧ EK F N s.nx s.o R f undef R' := by
  unfold mapUpE at he
  split at he <;> first | (cases he; done) | skip
  rename_i y b n hm hk hx
  split at he <;> first | (cases he; done) | skip
  rename_i i l hi
  cases hq : keyB E t with
  | false => rw [hq] at he; cases he
  | true =>
    rw [hq] at he
    cases he
    obtain ⟨e1, hl, es, clock, e2, e3⟩ := mapI_ok h.hp hi (ev_ok h hG hm).2
    obtain ⟨kt, vt, q1, q2, q3⟩ := keyB_ok hq
    have hkk : IsKey .string (.string b) := trivial
    rw [e1, raw_ok h hG hk, raw_ok h hG hx]
    have mk : ∀ {es' : List MapEntry} {c : Nat}, MapR (updM l b n) es' → EK F N s.nx s.o R ⟨.v undef, s.nx, (i, some (.map .str .i64 (updM l b n))) :: s.o, 2, []⟩ undef { R with heap := R.heap.setIfInBounds (N.b i) (.map es'.toArray c) } := fun {es' c} hr =>
      ek_upd h.hp hl rfl (fun g hg => hg) e2 (fun hs => by
        obtain ⟨g1, g2⟩ := mapR_to (F := F) (N := N) (R := { R with heap := R.heap.setIfInBounds (N.b i) (.map es'.toArray c) }) (nx := s.nx) hr
        exact ⟨es', c, hs, g1, g2⟩) (.v _)
    rcases mapR_find b 0 e3 with ⟨g1, _, g3⟩ | ⟨j, e, g1, g2, g3, g4⟩
    · refine ⟨_, ?_, mk (g3 n clock) (c := clock + 1)⟩
      simp [Instr.mapUpdate, run_underlying q1, MapKept.run_getObj_map e2, run_checkKey q2 hkk, run_findKey q2 g1, run_setObj_map _ e2]
    · refine ⟨_, ?_, mk (g4 n) (c := clock)⟩
      have hj : es[0 + j]? = some e := by rw [Nat.zero_add]; exact g2
      simp [Instr.mapUpdate, run_underlying q1, MapKept.run_getObj_map e2, run_checkKey q2 hkk, run_findKey q2 g1, g2, g3, run_keyThatStays hkk, run_setObj_map _ e2]
theorem eff_ok (ok : EnvOk E) (h : Rel Z F N s a R) (hG : GOk (tmOf a) G) {o : Oper} {f : Eff} (he : effE E s G o = some f) (hp : ∀ p ∈ f.ps, p) :
    UponV E.P (fun v R' => EK F N s.nx s.o R f v R') ((execOp a.eval o).run E.P R) := by
  have hcall := fun {g args ts} (ho : o.op = .call { callee := .value g, args, argTypes := ts }) => callEff_ok (f := f) ok h hG ho
  obtain ⟨dst, op, type, pos, after, guard⟩ := o
  unfold effE at he
  simp only at he
  split at he
  · rename_i e
    unfold allocE at he
    split at he <;> first | (cases he; done) | skip
    rename_i z hz
    cases he
    exact upon_of (run_lift2 (run_allocAt hz)) (ek_box h.hp (HL.toL _) e 1 [])
  · rename_i e v
    unfold boxE at he
    split at he <;> first | (cases he; done) | skip
    rename_i x hx
    split at he <;> first | (cases he; done) | skip
    rename_i us hus
    cases hs : sqOk s.o us with
    | false => rw [hs] at he; cases he
    | true =>
      rw [hs] at he
      cases he
      exact upon_of (run_lift2 run_boxAt) (ek_box h.hp (cellsA_ok h.hp hus hs (ev_ok h hG hx).2) e 1 [])
  · rename_i t x v
    obtain ⟨R', h1, h2⟩ := set_ok h hG he hp
    have : (execOp a.eval { dst, op := .store t x v, type, pos, after, guard }).run E.P R = .ok .skip R' := by
      show (do Instr.storeAt t (a.eval x) (a.eval v); pure Next.skip : Sem Next).run E.P R = _
      simp [h1]
    rw [this]
    exact h2
  · rename_i t len parts
    obtain ⟨v, R', h1, h2⟩ := buildSl_ok h hG he
    exact upon_of (run_lift2 h1) h2
  · rename_i t len cap
    obtain ⟨v, R', h1, h2⟩ := makeSl_ok ok h hG he hp
    exact upon_of (run_lift2 h1) h2
  · rename_i src dst' x
    obtain ⟨v, R', h1, h2⟩ := strBytes_ok h hG he
    exact upon_of (run_lift2 h1) h2
  · rename_i args ts
    split at he <;> first | (cases he; done) | skip
    rename_i x y t u ha ht
    have ha' : args = #[x, y] := by rw [← Array.toArray_toList (xs := args), ha]
    have ht' : ts = #[t, u] := by rw [← Array.toArray_toList (xs := ts), ht]
    subst ha' ht'
    obtain ⟨v, R', h1, h2⟩ := app_ok (ty := type) h hG he hp
    refine upon_of ?_ h2
    show (do let d ← resolve a.eval _ type; invoke d.target d.args : Sem Next).run E.P R = _
    simp [resolve, invoke, builtin, h1]
  · rename_i args ts
    split at he <;> first | (cases he; done) | skip
    rename_i x y t u ha ht
    have ha' : args = #[x, y] := by rw [← Array.toArray_toList (xs := args), ha]
    have ht' : ts = #[t, u] := by rw [← Array.toArray_toList (xs := ts), ht]
    subst ha' ht'
    obtain ⟨v, R', h1, h2⟩ := copy_ok (ty := type) h hG he hp
    refine upon_of ?_ h2
    show (do let d ← resolve a.eval _ type; invoke d.target d.args : Sem Next).run E.P R = _
    simp [resolve, invoke, builtin, h1]
  · rename_i g args ts
    exact hcall rfl he hp
  · rename_i t x
    obtain ⟨v, R', h1, h2⟩ := range_ok h hG he
    exact upon_of (run_lift2 h1) h2
  · rename_i it
    obtain ⟨v, R', h1, h2⟩ := next_ok (E := E) (ty := type) h hG he
    exact upon_of (run_lift2 h1) h2
  · rename_i t
    obtain ⟨v, R', h1, h2⟩ := mkMap_ok h he
    exact upon_of (run_lift2 h1) h2
  · rename_i t m k x
    obtain ⟨R', h1, h2⟩ := mapUp_ok h hG he
    have : (execOp a.eval { dst, op := .mapUpdate t m k x, type, pos, after, guard }).run E.P R = .ok .skip R' := by
      show (do Instr.mapUpdate t (a.eval m) (a.eval k) (a.eval x); pure Next.skip : Sem Next).run E.P R = _
      simp [h1]
    rw [this]
    exact h2
  · cases he
/-- An operation, whatever it is. -/
theorem op_ok (ok : EnvOk E) (h : Rel Z F N s a R) (hG : GOk (tmOf a) G) {o : Oper} {f : Eff} (he : opE E s G o = some f) (hp : ∀ p ∈ f.ps, p) :
    UponV E.P (fun v R' => EK F N s.nx s.o R f v R') ((execOp a.eval o).run E.P R) := by
  unfold opE at he
  cases hl : loudB o.op with
  | true => rw [hl] at he; exact eff_ok ok h hG he hp
  | false =>
    rw [hl] at he
    simp only [cond_false] at he
    split at he
    · rename_i x ps hv
      cases he
      obtain ⟨v, h1, h2⟩ := val_ok ok h hG hv hp
      have h3 := h2 R (Below.refl _ _)
      have fin : ∀ R', Below R.heap.size R R' → EK F N s.nx s.o R ⟨x, s.nx, s.o, 0, ps⟩ v R' := fun R' hb => by
        obtain ⟨g1, g2⟩ := h.hp.grow hb
        exact ⟨F, N, g1, Step.of_below hb, h1.step g2, fun _ => hb⟩
      generalize (execOp a.eval o).run E.P R = r at *
      cases r with
      | halt x w => exact h3.elim
      | ok n w =>
        cases n <;> simp only [Oper.quietUpon] at h3 <;> simp only [UponV]
        case value u =>
          obtain ⟨e1, e2⟩ := h3
          rw [e1, e2]
          exact fin R (Below.refl _ _)
        case skip =>
          obtain ⟨e1, e2⟩ := h3
          rw [e1, ← e2]
          exact fin R (Below.refl _ _)
        case enter f args =>
          obtain ⟨e1, hc⟩ := h3
          rw [e1]
          exact hc.mono fun e w'' ⟨he, hw''⟩ => ⟨v, he, fin _ hw''⟩
    · exact eff_ok ok h hG he hp
end
end Go.Proofs.Yteebobbhhgmeiaa
