/- A symbolic run over typed data, part G: soundness of the operations that leave the world alone. -/
import Derived.Test.YteebobbhhgmeiaaTF
import Derived.MapKept
namespace Go.Proofs.Yteebobbhhgmeiaa
open Go.RowKit Go.MapKept

section
variable {E : Env} {Z : Base} {F : Nat → Prop} {N : Nm} {s : St} {a : Act} {R : World} {G : Guards}

theorem run_bytes_val {P : Program} {v : Value} {l : List UInt8} {src dst e : TypeId} (hv : ∃ a c, v = .slice a l.length c ∧ l.length ≤ c ∧ (0 < l.length → ∃ ad, a = some ad ∧ ∀ j b, l[j]? = some b → R.cell? (ad.add j) = some (byteV b)))
    (hs : P.underlying src = some (.slice e)) (he : P.underlying e = some (.int .u8)) (hd : P.underlying dst = some .string) : (convert src dst v).run P R = .ok (.string ⟨l.toArray⟩) R := by
  obtain ⟨A, c, rfl, _, hc⟩ := hv
  rw [run_convert_bytes_string R src dst e A _ c hs he hd]
  by_cases hn : 0 < l.length
  · obtain ⟨ad, rfl, h5⟩ := hc hn
    have hl := run_loadCells_list (P := P) R ad (l.map byteV) (fun j u hj => by
      rw [List.getElem?_map] at hj
      cases hb : l[j]? with
      | none => rw [hb] at hj; cases hj
      | some b => rw [hb] at hj; cases hj; exact h5 j b hb)
    rw [List.length_map] at hl
    have e1 : l.map byteV = (l.map fun b => (b.toNat : Int)).map (Value.int .u8) := by rw [List.map_map]; rfl
    rw [e1] at hl
    rw [run_bytesToString R ad l.length c _ hl, foldl_push_bytes]
    have e2 : (l.map fun b => (b.toNat : Int)).map (fun n => UInt8.ofNat n.toNat) = l := by
      rw [List.map_map]
      exact (List.map_congr_left fun b _ => by show UInt8.ofNat ((b.toNat : Int).toNat) = id b; simp).trans (List.map_id l)
    rw [e2]
    simp
  · obtain rfl : l = [] := List.eq_nil_of_length_eq_zero (by omega)
    cases A with
    | none => rfl
    | some ad =>
      have hl := run_loadCells_list (P := P) R ad [] (fun j u hj => by cases hj)
      rw [show ([] : List UInt8).length = 0 from rfl, run_bytesToString R ad 0 c [] hl]
      rfl
theorem bytesE_ok (h : Rel Z F N s a R) (hG : GOk (tmOf a) G) {src dst : TypeId} {x : Operand} {z : A} {ps : List Prop} (he : bytesE E s G src dst x = some (some (z, ps))) (hp : ∀ p ∈ ps, p) :
    ∃ y, Hv F N s.nx R z y ∧ ∀ R', Below R.heap.size R R' → (convert src dst (a.eval x)).run E.P R' = .ok y R' := by
  unfold bytesE at he
  split at he <;> first | (cases he; done) | skip
  rename_i w hx
  split at he <;> first | (cases he; done) | skip
  rename_i l qs hl
  split at he <;> first | (cases he; done) | skip
  rename_i e hs hd
  split at he <;> first | (cases he; done) | skip
  rename_i hu
  cases he
  refine ⟨_, Hv.v _, fun R' hb => ?_⟩
  obtain ⟨aa, c, q1, q2, q3⟩ := bytes_val h.hp hl hp (ev_ok h hG hx).2
  exact run_bytes_val ⟨aa, c, q1, q2, fun hp => by
    obtain ⟨ad, r1, r2⟩ := q3 hp
    exact ⟨ad, r1, fun j b hj => below_cell hb (r2 j b hj)⟩⟩ hs hu hd

/-- A call in a grown world. -/
theorem callOk_grow (h : HRel F N s.nx s.o R) {P : Program} {g : FuncId} {xs : List A} {vs : List Value} {k nx' : Nat} {x : A} {o' : Objs} (hc : CallOk P g xs s.nx s.o k x nx' o') (hv : HL F N s.nx R xs vs) {R' : World} (hb : Below R.heap.size R R') :
    Calls P g vs.toArray R' fun e R'' => ∃ y F' N', e = .returned y ∧ HRel F' N' nx' o' R'' ∧ Step F N s.nx s.o R' F' N' nx' o' R'' ∧ Hv F' N' nx' R'' x y ∧ (k ≤ 1 → Below R'.heap.size R' R'') := by
  obtain ⟨h1, h2⟩ := h.grow hb
  exact hc F N R' vs h1 (hv.step h2)

/-! ### maps -/
def MapR : List (ByteArray × Int) → List MapEntry → Prop
  | [], es => es = []
  | p :: l, es => ∃ e r, es = e :: r ∧ e.key = .string p.1 ∧ e.val = .int .i64 p.2 ∧ MapR l r
theorem mapR_of {nx : Nat} : ∀ {l : List (U .str × U .i64)} {es : List MapEntry}, es.length = l.length → (∀ (j : Nat) (p : U .str × U .i64) (e : MapEntry), l[j]? = some p → es[j]? = some e → e.key = keyV .str p.1 ∧ Hv F N nx R (valA .i64 p.2) e.val) → MapR l es
  | [], es, h, _ => List.eq_nil_of_length_eq_zero h
  | p :: l, [], h, _ => by cases h
  | p :: l, e :: r, h, k => by
    obtain ⟨h1, h2⟩ := k 0 p e rfl rfl
    exact ⟨e, r, rfl, h1, Hv.v_inv (x := .int .i64 p.2) h2, mapR_of (by simpa using h) fun j q f hq hf => k (j + 1) q f hq hf⟩
theorem mapR_to {nx : Nat} : ∀ {l : List (ByteArray × Int)} {es : List MapEntry}, MapR l es → es.length = l.length ∧ ∀ (j : Nat) (p : U .str × U .i64) (e : MapEntry), l[j]? = some p → es[j]? = some e → e.key = keyV .str p.1 ∧ Hv F N nx R (valA .i64 p.2) e.val
  | [], es, h => by
    have h' : es = [] := h
    subst h'
    exact ⟨rfl, fun j p e hp => by cases hp⟩
  | p :: l, es, ⟨e, r, he, h1, h2, h3⟩ => by
    subst he
    obtain ⟨g1, g2⟩ := mapR_to (nx := nx) h3
    refine ⟨by simp [g1], fun j q f hq hf => ?_⟩
    cases j with
    | zero => cases hq; cases hf; exact ⟨h1, by rw [h2]; exact Hv.v _⟩
    | succ j => exact g2 j q f hq hf
theorem mapR_key : ∀ {l : List (ByteArray × Int)} {es : List MapEntry}, MapR l es → ∀ x ∈ es, IsKey .string x.key
  | [], es, h, x, hx => by
    have h' : es = [] := h
    subst h'
    cases hx
  | p :: l, es, ⟨e, r, he, h1, _, h3⟩, x, hx => by
    subst he
    rcases List.mem_cons.1 hx with rfl | hx
    · rw [h1]; trivial
    · exact mapR_key h3 x hx
/-- What is found in a map, and what stands there behind an update. -/
theorem mapR_find (b : ByteArray) : ∀ {l : List (ByteArray × Int)} {es : List MapEntry} (j : Nat), MapR l es →
    (Instr.findNow .string (.string b) es j = some none ∧ findM l b = 0 ∧ ∀ n c, MapR (updM l b n) (es ++ [⟨.string b, .int .i64 n, c⟩])) ∨
    ∃ k e, Instr.findNow .string (.string b) es j = some (some (j + k, .int .i64 (findM l b))) ∧ es[k]? = some e ∧ e.key = .string b ∧ ∀ n, MapR (updM l b n) (es.modify k fun e => { e with key := .string b, val := .int .i64 n })
  | [], es, j, h => by
    have h' : es = [] := h
    subst h'
    exact .inl ⟨rfl, rfl, fun n c => ⟨_, _, rfl, rfl, rfl, rfl⟩⟩
  | p :: l, es, j, ⟨e, r, he, h1, h2, h3⟩ => by
    subst he
    have hs : Instr.sameNow .string (.string b) e.key = some (b == p.1) := by rw [h1]; rfl
    cases hb : (b == p.1) with
    | true =>
      rw [hb] at hs
      refine .inr ⟨0, e, ?_, rfl, ?_, fun n => ?_⟩
      · simp only [Instr.findNow, hs]
        rw [h2]
        show _ = some (some (j + 0, Value.int .i64 (bif b == p.1 then p.2 else findM l b)))
        rw [hb]
        rfl
      · rw [h1, (bytes_beq b p.1).1 hb]
      · show MapR (bif b == p.1 then (b, n) :: l else p :: updM l b n) _
        rw [hb]
        exact ⟨_, _, rfl, rfl, rfl, h3⟩
    | false =>
      rw [hb] at hs
      have hf : findM (p :: l) b = findM l b := by show (bif b == p.1 then p.2 else findM l b) = _; rw [hb]; rfl
      have hu : ∀ n, updM (p :: l) b n = p :: updM l b n := fun n => by show (bif b == p.1 then (b, n) :: l else p :: updM l b n) = _; rw [hb]; rfl
      rcases mapR_find b (j + 1) h3 with ⟨g1, g2, g3⟩ | ⟨k, e', g1, g2, g3, g4⟩
      · refine .inl ⟨by simp only [Instr.findNow, hs]; exact g1, by rw [hf]; exact g2, fun n c => ?_⟩
        rw [hu]
        exact ⟨e, _, rfl, h1, h2, g3 n c⟩
      · refine .inr ⟨k + 1, e', ?_, g2, g3, fun n => ?_⟩
        · simp only [Instr.findNow, hs]
          rw [g1, hf]
          congr 3
          omega
        · rw [hu]
          exact ⟨e, _, rfl, h1, h2, g4 n⟩
theorem mapI_ok (h : HRel F N s.nx s.o R) {x : A} {y : Value} {i : Nat} {l : List (ByteArray × Int)} (he : mapI s.o x = some (i, l)) (hx : Hv F N s.nx R x y) :
    y = .map (some (N.b i)) ∧ lookO i s.o = some (.map .str .i64 l) ∧ ∃ es clock, R.heap[N.b i]? = some (.map es.toArray clock) ∧ MapR l es := by
  unfold mapI at he
  split at he <;> first | (cases he; done) | skip
  split at he <;> first | (cases he; done) | skip
  rename_i hl
  cases he
  obtain ⟨_, es, clock, h1, h2, h3⟩ := h.ob _ _ hl
  exact ⟨hx.mp_inv.2, hl, es, clock, h1, mapR_of h2 h3⟩
theorem keyB_ok {t : TypeId} (h : keyB E t = true) : ∃ k v, E.P.underlying t = some (.map k v) ∧ E.P.underlying k = some .string ∧ ∀ R, (zeroValue v).run E.P R = .ok (.int .i64 0) R := by
  unfold keyB at h
  split at h <;> first | (cases h; done) | skip
  rename_i k v hu
  split at h <;> first | (cases h; done) | skip
  rename_i z hk hz
  obtain rfl : z = 0 := of_decide_eq_true h
  refine ⟨k, v, hu, hk, fun R => ?_⟩
  cases hi : E.P.info? v with
  | none => rw [hi] at hz; cases hz
  | some i =>
    rw [hi] at hz
    have hz' : i.zero = some (.int .i64 0) := hz
    simp [zeroValue, typeInfo, hi, hz']
theorem look_ok (h : Rel Z F N s a R) (hG : GOk (tmOf a) G) {t : TypeId} {m k : Operand} {z : A} {ps : List Prop} (he : lookE E s G t m k = some (z, ps)) :
    ∃ v, Hv F N s.nx R z v ∧ ∀ R', Below R.heap.size R R' → (Instr.lookup t (a.eval m) (a.eval k) false).run E.P R' = .ok v R' := by
  unfold lookE at he
  split at he <;> first | (cases he; done) | skip
  rename_i x b hm hk
  split at he <;> first | (cases he; done) | skip
  rename_i i l hi
  cases hq : keyB E t with
  | false => rw [hq] at he; cases he
  | true =>
    rw [hq] at he
    cases he
    obtain ⟨e1, _, es, clock, e2, e3⟩ := mapI_ok h.hp hi (ev_ok h hG hm).2
    obtain ⟨kt, vt, q1, q2, q3⟩ := keyB_ok hq
    have e4 := raw_ok h hG hk
    refine ⟨_, Hv.v _, fun R' hb => ?_⟩
    have hb' := blk_next e2 hb
    have hkk : IsKey .string (.string b) := trivial
    rw [e1, e4]
    rcases mapR_find b 0 e3 with ⟨g1, g2, _⟩ | ⟨j, e, g1, _, _, _⟩
    · simp [Instr.lookup, run_underlying q1, MapKept.run_getObj_map hb', run_checkKey q2 hkk, run_findKey q2 g1, q3, g2]
    · simp [Instr.lookup, run_underlying q1, MapKept.run_getObj_map hb', run_checkKey q2 hkk, run_findKey q2 g1]
theorem val_ok (ok : EnvOk E) (h : Rel Z F N s a R) (hG : GOk (tmOf a) G) {o : Oper} {z : A} {ps : List Prop} (he : valE E s G o = some (z, ps)) (hp : ∀ p ∈ ps, p) :
    ∃ v, Hv F N s.nx R z v ∧ ∀ R', Below R.heap.size R R' → Oper.quietUpon E.P (fun R'' => Below R'.heap.size R' R'') R' v ((execOp a.eval o).run E.P R') := by
  have pure_ : ∀ {z : A} {ps : List Prop}, pureR E s G o = some (z, ps) → ∃ v, Hv F N s.nx R z v ∧ ∀ R', Below R.heap.size R R' → Oper.quietUpon E.P (fun R'' => Below R'.heap.size R' R'') R' v ((execOp a.eval o).run E.P R') := fun he => by
    obtain ⟨y, h1, h2⟩ := pureR_ok h hG he
    exact ⟨y, h1, fun R' _ => up_val (h2 R')⟩
  obtain ⟨dst, op, type, pos, after, guard⟩ := o
  unfold valE at he
  simp only at he
  split at he
  · split at he <;> first | (cases he; done) | skip
    rename_i x _ _ hx
    cases he
    exact ⟨_, (ev_ok h hG hx).2, fun R' _ => up_val rfl⟩
  · split at he <;> first | (cases he; done) | skip
    rename_i x _ _ hx
    cases he
    exact ⟨_, (ev_ok h hG hx).2, fun R' _ => up_val rfl⟩
  · obtain ⟨q, h1, h2⟩ := pickP_ok h hG he hp
    refine ⟨_, h2, fun R' _ => up_val ?_⟩
    simp only [execOp, h1, asBool, Sem.run_bind, Sem.run_pure, Result.andThen_ok]
  · rename_i x ix
    split at he
    · rename_i r hr
      subst he
      unfold itE at hr
      split at hr <;> first | (cases hr; done) | skip
      rename_i q vs hx
      have hv := (ev_ok h hG hx).2
      generalize ha : a.eval x = y at hv
      cases hv with | it _ _ _ hy => ?_
      split at hr
      · cases hr
        refine ⟨_, Hv.v _, fun R' _ => up_val (run_lift ?_)⟩
        rw [ha, hy]
        cases q <;> simp [Instr.extract]
      · rename_i k
        split at hr <;> first | (cases hr; done) | skip
        rename_i v hv
        cases hr
        have hq : q = true := hp _ (List.mem_singleton.2 rfl)
        subst hq
        refine ⟨_, Hv.v _, fun R' _ => up_val (run_lift ?_)⟩
        rw [ha, hy]
        simp [Instr.extract, hv]
    split at he
    · rename_i z' hz
      cases he
      unfold extractE at hz
      split at hz <;> first | (cases hz; done) | skip
      rename_i xs hx
      obtain ⟨vs, e1, h2⟩ := (ev_ok h hG hx).2.tup_inv
      obtain ⟨v, h3, h4⟩ := h2.get (Option.some.inj hz)
      refine ⟨v, h4, fun R' _ => up_val (run_lift ?_)⟩
      rw [e1]
      simp [Instr.extract, h3]
    · cases he
    · exact pure_ he
  · rename_i t x f
    split at he
    · rename_i z' hz
      cases he
      unfold partE at hz
      split at hz <;> first | (cases hz; done) | skip
      rename_i cs hx
      obtain ⟨vs, e1, h2⟩ := (ev_ok h hG hx).2.agg_inv
      split at hz <;> first | (cases hz; done) | skip
      rename_i fs hu
      split at hz <;> first | (cases hz; done) | skip
      rename_i fd hf
      obtain ⟨y, h3, h4⟩ := run_part (cs := vs.toArray) (Option.some.inj hz) (by simpa using h2.drop fd.offset)
      refine ⟨y, h3, fun R' _ => up_val (run_lift ?_)⟩
      rw [e1]
      have h5 := h4 R'
      simp only [Instr.field, Sem.run_bind, run_underlying hu, Result.andThen_ok, hf, asAgg, Sem.run_pure]
      exact h5
    · cases he
    · exact pure_ he
  · rename_i t x f
    obtain ⟨_, y, h1, h2⟩ := field_ok h hG he
    exact ⟨y, h1, fun R' _ => up_val (run_lift (h2 R'))⟩
  · rename_i t x i
    obtain ⟨_, y, h1, h2⟩ := index_ok h hG he hp
    exact ⟨y, h1, fun R' _ => up_val (run_lift (h2 R'))⟩
  · rename_i t x
    obtain ⟨y, h1, h2⟩ := load_ok h hG he hp
    exact ⟨y, h1, fun R' hb => up_val (run_lift (h2 R' hb))⟩
  · rename_i t x lo hi mx
    obtain ⟨y, h1, h2⟩ := slice_ok h hG rfl he hp
    exact ⟨y, h1, fun R' _ => up_val (h2 R')⟩
  · rename_i t parts
    obtain ⟨y, h1, h2⟩ := build_ok h hG he
    exact ⟨y, h1, fun R' _ => up_val (run_lift (h2 R'))⟩
  · rename_i x
    split at he
    · rename_i z' hz
      cases he
      unfold nilE at hz
      split at hz <;> first | (cases hz; done) | skip
      rename_i w hx
      cases hs : sureF w with
      | false => rw [hs] at hz; cases hz
      | true =>
        rw [hs] at hz
        obtain rfl : w = z := Option.some.inj hz
        have hx' := (ev_ok h hG hx).2
        refine ⟨_, hx', fun R' _ => up_val ?_⟩
        have hc : (∃ ad, a.eval x = .pointer (some ad)) ∨ ∃ f vs us, a.eval x = .func (.func f) vs us := by
          cases hsu : sure w with
          | true => exact .inl (sure_ptr hsu hx')
          | false =>
            cases w with
            | fn f0 l1 l2 =>
              obtain ⟨vs, us, e1, _⟩ := hx'.fn_inv
              exact .inr ⟨_, _, _, e1⟩
            | _ => exact absurd (hs.symm.trans hsu) (fun e => nomatch e)
        rcases hc with ⟨ad, e⟩ | ⟨f, vs, us, e⟩
        · simp only [execOp, e]; rfl
        · simp only [execOp, e]; rfl
    · exact pure_ he
  · rename_i t x i
    split at he
    · rename_i r hr
      subst he
      unfold strIxE at hr
      split at hr <;> first | (cases hr; done) | skip
      rename_i b k n hx hi
      split at hr <;> first | (cases hr; done) | skip
      rename_i hu
      obtain ⟨rfl, hd⟩ := wth_some (Option.some.inj hr)
      obtain ⟨h0, h1⟩ := ndB_ok hd hp
      refine ⟨_, Hv.v _, fun R' _ => up_val (run_lift ?_)⟩
      rw [raw_ok h hG hx, raw_ok h hG hi]
      have hlt : n.toNat < b.size := by omega
      have hlt' : n.toNat < b.data.toList.length := by rw [Array.length_toList]; exact hlt
      have hb : b[n.toNat]? = some b.data.toList[n.toNat] := by
        rw [getElem?_pos b n.toNat hlt]
        rfl
      have hby : byteAt b.data.toList n.toNat = .int .u8 (b.data.toList[n.toNat]).toNat := by
        unfold byteAt byteV
        rw [List.getD_eq_getElem?_getD, List.getElem?_eq_getElem hlt']
        rfl
      rw [hby]
      simp [Instr.index, asIntOf, run_underlying hu, h0, hb]
    · exact pure_ he
  · rename_i fn first captured
    split at he <;> first | (cases he; done) | skip
    rename_i z' hz
    cases he
    unfold funcE at hz
    split at hz <;> first | (cases hz; done) | skip
    split at hz <;> first | (cases hz; done) | skip
    rename_i f _ _ xs ys hx hy
    cases hz
    refine ⟨.func (.func f) (first.map a.eval) (captured.map a.eval), ?_, fun R' _ => up_val rfl⟩
    have := Hv.of_fn (f := f) (evAll_ok h hG hx) (evAll_ok h hG hy)
    rwa [← Array.toList_map, ← Array.toList_map, Array.toArray_toList, Array.toArray_toList] at this
  · rename_i f args ts
    unfold callE at he
    split at he <;> first | (cases he; done) | skip
    rename_i k w nx' o' ps' hr
    cases hk : Nat.ble k 1 with
    | false => rw [hk] at he; cases he
    | true =>
      rw [hk] at he
      cases he
      obtain ⟨g, xs, vs, h1, h2, h3⟩ := callR_ok h hG (o := { dst, op := .call { callee := .value f, args, argTypes := ts }, type, pos, after, guard }) rfl hr
      refine ⟨w, Hv.v _, fun R' hb => ?_⟩
      rw [h3 R']
      refine ⟨rfl, (callOk_grow h.hp (ok.C g xs s.nx s.o _ _ _ _ _ h1 hp) h2 hb).mono fun e R'' ⟨y, F', N', e1, _, _, e2, e3⟩ => ?_⟩
      exact ⟨by rw [e1, e2.v_inv], e3 (Nat.le_of_ble_eq_true hk)⟩
  · rename_i args ts
    split at he
    · rename_i z' hz
      cases he
      unfold lenE at hz
      split at hz <;> first | (cases hz; done) | skip
      rename_i x hargs
      have hx0 : args = #[x] := by rw [← Array.toArray_toList (xs := args), hargs]
      have fin : ∀ aa n c t e, a.eval x = .slice aa n c → ts[0]? = some t → E.P.underlying t = some (.slice e) → ∀ R', Below R.heap.size R R' → Oper.quietUpon E.P (fun R'' => Below R'.heap.size R' R'') R' (.int .i64 n) ((execOp a.eval { dst, op := .call { callee := .builtin .len, args, argTypes := ts }, type, pos, after, guard }).run E.P R') := fun aa n c t e q1 ht hu R' _ => up_val (by
        have ha : args.map a.eval = #[.slice aa n c] := by
          rw [hx0]
          simp [q1]
        show (do let d ← resolve a.eval _ type; invoke d.target d.args : Sem Next).run E.P R' = _
        simp [resolve, invoke, builtin, Builtin.len_, ha, ht, run_underlying hu, goInt])
      split at hz <;> first | (cases hz; done) | skip
      · rename_i hx
        split at hz <;> first | (cases hz; done) | skip
        rename_i t ht
        split at hz <;> first | (cases hz; done) | skip
        rename_i e hu
        cases hz
        obtain ⟨aa, q1⟩ := (ev_ok h hG hx).2.nl_inv
        exact ⟨_, Hv.v _, fin aa 0 0 t e q1 ht hu⟩
      · rename_i w hnl hx
        split at hz <;> first | (cases hz; done) | skip
        rename_i n f hv
        split at hz <;> first | (cases hz; done) | skip
        rename_i t ht
        split at hz <;> first | (cases hz; done) | skip
        rename_i e hu
        cases hz
        obtain ⟨aa, c, q1, _, _⟩ := view_ok h.hp hv (ev_ok h hG hx).2
        exact ⟨_, Hv.v _, fin aa n c t e q1 ht hu⟩
    · exact pure_ he
  · rename_i args ts
    split at he
    · rename_i v hv
      cases he
      refine ⟨v, Hv.v _, fun R' _ => up_val ?_⟩
      have := minmax_ok (E := E) h hG hv (.inl rfl) ts type (args.map fun | .const _ => true | _ => false) R'
      have ha : (args.toList.map a.eval).toArray = args.map a.eval := by rw [← Array.toList_map, Array.toArray_toList]
      rw [ha] at this
      exact this
    · exact pure_ he
  · rename_i args ts
    split at he
    · rename_i v hv
      cases he
      refine ⟨v, Hv.v _, fun R' _ => up_val ?_⟩
      have := minmax_ok (E := E) h hG hv (.inr rfl) ts type (args.map fun | .const _ => true | _ => false) R'
      have ha : (args.toList.map a.eval).toArray = args.map a.eval := by rw [← Array.toList_map, Array.toArray_toList]
      rw [ha] at this
      exact this
    · exact pure_ he
  · rename_i src dst' x
    split at he
    · rename_i r hr
      subst he
      obtain ⟨y, h1, h2⟩ := bytesE_ok h hG hr hp
      exact ⟨y, h1, fun R' hb => up_val (run_lift (h2 R' hb))⟩
    · exact pure_ he
  · rename_i t x y yt
    cases hn : eqNilE E s G t x y with
    | true =>
      rw [hn] at he
      cases he
      exact ⟨_, Hv.v _, fun R' _ => up_val (run_lift (eqNil_ok h hG hn .eql (.inl rfl) R'))⟩
    | false =>
      rw [hn] at he
      simp only [cond_false] at he
      split at he
      · rename_i b hb
        cases he
        exact ⟨_, Hv.v _, fun R' _ => up_val (run_lift (eqE_ok ok h hG hb .eql (.inl rfl) R'))⟩
      · cases he
      · exact pure_ he
  · rename_i t x y yt
    cases hn : eqNilE E s G t x y with
    | true =>
      rw [hn] at he
      cases he
      exact ⟨_, Hv.v _, fun R' _ => up_val (run_lift (eqNil_ok h hG hn .neq (.inr rfl) R'))⟩
    | false =>
      rw [hn] at he
      simp only [cond_false] at he
      split at he
      · rename_i b hb
        cases he
        exact ⟨_, Hv.v _, fun R' _ => up_val (run_lift (eqE_ok ok h hG hb .neq (.inr rfl) R'))⟩
      · cases he
      · exact pure_ he
  · obtain ⟨v, h1, h2⟩ := arith_ok h hG rfl he hp
    exact ⟨v, h1, fun R' _ => up_val (h2 R')⟩
  · obtain ⟨v, h1, h2⟩ := arith_ok h hG rfl he hp
    exact ⟨v, h1, fun R' _ => up_val (h2 R')⟩
  · obtain ⟨v, h1, h2⟩ := arith_ok h hG rfl he hp
    exact ⟨v, h1, fun R' _ => up_val (h2 R')⟩
  · obtain ⟨v, h1, h2⟩ := arith_ok h hG rfl he hp
    exact ⟨v, h1, fun R' _ => up_val (h2 R')⟩
  · obtain ⟨v, h1, h2⟩ := look_ok h hG he
    exact ⟨v, h1, fun R' hb => up_val (run_lift (h2 R' hb))⟩
  · exact pure_ he
end
end Go.Proofs.Yteebobbhhgmeiaa
