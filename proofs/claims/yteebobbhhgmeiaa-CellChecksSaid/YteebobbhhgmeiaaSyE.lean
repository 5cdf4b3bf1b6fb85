/- A symbolic run with sequences, part E: soundness of the values. -/
import Derived.Test.YteebobbhhgmeiaaSyD
namespace Go.Proofs.Yteebobbhhgmeiaa
open Go.RowKit

section
variable {E : Env} {B : World} {N : Nm} {s : St} {a : Act} {R : World} {G : Guards}

theorem add_add (ad : Addr) (i j : Nat) : (ad.add i).add j = ad.add (i + j) := by
  unfold Addr.add
  by_cases hi : i = 0 <;> by_cases hj : j = 0 <;> simp [hi, hj, Nat.add_assoc]

theorem field_ok (h : RelE E B N s a R) (hG : GOk (tmOf a) G) {t : TypeId} {x : Operand} {f : Nat} {z : AV} {ps : List Prop} (he : fieldE E s G t x f = some (z, ps)) :
    z.simple = true ∧ (Instr.fieldAt t (a.eval x) f).run E.P R = .ok (conc N z) R := by
  unfold fieldE at he
  split at he <;> first | (cases he; done) | skip
  rename_i fs hu
  split at he <;> first | (cases he; done) | skip
  rename_i fd hf
  split at he <;> first | (cases he; done) | skip
  rename_i n hn
  cases h0 : Nat.beq n 0 with
  | true => rw [h0] at he; cases he
  | false =>
    rw [h0] at he
    simp only [cond_false] at he
    have hn0 : n ≠ 0 := fun e => by subst e; simp at h0
    split at he <;> first | (cases he; done) | skip
    · rename_i i off hx
      obtain ⟨_, hx'⟩ := ev_ok h hG hx
      cases he
      refine ⟨rfl, ?_⟩
      rw [run_fieldAt hu hf hn hn0 hx', add_mk]
      rfl
    · rename_i ad hx
      obtain ⟨_, hx'⟩ := ev_ok h hG hx
      cases he
      exact ⟨rfl, run_fieldAt hu hf hn hn0 hx'⟩
    · rename_i k off hx
      obtain ⟨_, hx'⟩ := ev_ok h hG hx
      cases he
      refine ⟨rfl, ?_⟩
      rw [run_fieldAt hu hf hn hn0 hx', add_add]
      rfl

theorem index_ok (h : RelE E B N s a R) (hG : GOk (tmOf a) G) {t : TypeId} {x i : Operand} {z : AV} {ps : List Prop} (he : indexE E s G t x i = some (z, ps)) (hp : ∀ p ∈ ps, p) :
    z.simple = true ∧ (Instr.indexAt t (a.eval x) (a.eval i)).run E.P R = .ok (conc N z) R := by
  unfold indexE at he
  split at he <;> first | (cases he; done) | skip
  rename_i k n hi
  rw [raw_ok h hG hi]
  split at he <;> first | (cases he; done) | skip
  · rename_i len e hu
    split at he <;> first | (cases he; done) | skip
    rename_i sz hsz
    split at he <;> first | (cases he; done) | skip
    · rename_i b off hx
      obtain ⟨_, hx'⟩ := ev_ok h hG hx
      cases hc : isConst i with
      | true =>
        rw [hc] at he
        simp only [cond_true] at he
        cases hd : decide (0 ≤ n ∧ n < (len : Int)) with
        | false => rw [hd] at he; cases he
        | true =>
          rw [hd] at he
          simp only [cond_true] at he
          obtain ⟨h0, h1⟩ := of_decide_eq_true hd
          cases he
          refine ⟨rfl, ?_⟩
          rw [run_indexAt_arr hu hsz hx' h0 h1, add_mk]
          rfl
      | false =>
        rw [hc] at he
        simp only [cond_false] at he
        cases hb : Nat.beq sz 1 with
        | false => rw [hb] at he; cases he
        | true =>
          rw [hb] at he
          obtain rfl := Nat.eq_of_beq_eq_true hb
          cases he
          obtain ⟨h0, h1⟩ : 0 ≤ n ∧ n < (len : Int) := hp _ (by simp)
          refine ⟨rfl, ?_⟩
          rw [run_indexAt_arr hu hsz hx' h0 h1, add_mk, Nat.mul_one]
          rfl
    · rename_i ad hx
      obtain ⟨_, hx'⟩ := ev_ok h hG hx
      cases he
      obtain ⟨h0, h1⟩ : 0 ≤ n ∧ n < (len : Int) := hp _ (by simp)
      exact ⟨rfl, run_indexAt_arr hu hsz hx' h0 h1⟩
    · rename_i kk off hx
      obtain ⟨_, hx'⟩ := ev_ok h hG hx
      cases he
      obtain ⟨h0, h1⟩ : 0 ≤ n ∧ n < (len : Int) := hp _ (by simp)
      refine ⟨rfl, ?_⟩
      rw [run_indexAt_arr hu hsz hx' h0 h1, add_add]
      rfl
  · rename_i e hu
    split at he <;> first | (cases he; done) | skip
    rename_i sz hsz
    split at he <;> first | (cases he; done) | skip
    · rename_i b len cap hx
      obtain ⟨_, hx'⟩ := ev_ok h hG hx
      cases hc : isConst i with
      | true =>
        rw [hc] at he
        simp only [cond_true] at he
        cases hd : decide (0 ≤ n ∧ n < (len : Int)) with
        | false => rw [hd] at he; cases he
        | true =>
          rw [hd] at he
          simp only [cond_true] at he
          obtain ⟨h0, h1⟩ := of_decide_eq_true hd
          cases he
          refine ⟨rfl, ?_⟩
          rw [run_indexAt_sl hu hsz hx' h0 h1, add_mk, Nat.zero_add]
          rfl
      | false =>
        rw [hc] at he
        simp only [cond_false] at he
        cases hb : Nat.beq sz 1 with
        | false => rw [hb] at he; cases he
        | true =>
          rw [hb] at he
          obtain rfl := Nat.eq_of_beq_eq_true hb
          cases he
          obtain ⟨h0, h1⟩ : 0 ≤ n ∧ n < (len : Int) := hp _ (by simp)
          refine ⟨rfl, ?_⟩
          rw [run_indexAt_sl hu hsz hx' h0 h1, add_mk, Nat.mul_one]
          rfl
    · rename_i A len cap hx
      obtain ⟨_, hx'⟩ := ev_ok h hG hx
      cases he
      obtain ⟨h0, h1⟩ : 0 ≤ n ∧ n < (len : Int) := hp _ (by simp)
      have hA : A = some (addrOf A) := hp _ (by simp)
      refine ⟨rfl, run_indexAt_sl (cap := cap) hu hsz (hx'.trans ?_) h0 h1⟩
      show Value.slice A len cap = _
      rw [← hA]
    · rename_i kk hx
      obtain ⟨_, hx'⟩ := ev_ok h hG hx
      split at he <;> first | (cases he; done) | skip
      rename_i q hq
      cases hb : Nat.beq sz q.size with
      | false => rw [hb] at he; cases he
      | true =>
        rw [hb] at he
        cases he
        obtain ⟨h0, h1⟩ : 0 ≤ n ∧ n < (q.n : Int) := hp _ (by simp)
        have hs := h.seqs kk q hq
        obtain ⟨ad, e1, e2, ⟨A, c, e3⟩, _, _⟩ := hs.flat.cells (by omega)
        obtain ⟨A', c', e4, _⟩ := hs.flat.val
        have e5 : N.q kk = .slice (some ad) q.n c := by
          rw [e3] at e4
          rw [e3]
          cases e4
          rfl
        refine ⟨rfl, ?_⟩
        rw [run_indexAt_sl hu hsz (hx'.trans e5) h0 h1, ← e2]
        rfl

theorem box_cell (h : RelE E B N s a R) {i : Nat} {e : TypeId} {cs : List LV} (hi : s.box i = some (e, cs)) : ∃ vs, CellsAre N cs vs ∧ ∀ j, R.cell? ⟨N.b i, j, none⟩ = vs[j]? := by
  obtain ⟨_, vs, h2, h3⟩ := h.boxes i e cs hi
  exact ⟨vs, h2, fun j => by rw [blk_cell h3]; simp⟩

theorem aggA_ok {N : Nm} {cs : List LV} {vs : List Value} {z : AV} (h : aggA cs = some z) (hc : CellsAre N cs vs) : z.simple = true ∧ conc N z = .agg vs.toArray := by
  unfold aggA at h
  split at h
  · rename_i xs hxs
    cases h
    rw [rawL_ok hxs hc]
    exact ⟨rfl, rfl⟩
  · cases hl : liveL cs with
    | false => rw [hl] at h; cases h
    | true =>
      rw [hl] at h
      cases h
      refine ⟨hl, ?_⟩
      rw [live_map hl hc]
      rfl
theorem oneA_ok {N : Nm} {c : LV} {v : Value} {z : AV} (h : oneA c = some z) (hc : LVIs N c v) : z.simple = true ∧ conc N z = v := by
  cases c with
  | v x => cases h; exact ⟨rfl, (show v = x from hc).symm⟩
  | sq k => cases h; exact ⟨rfl, (show v = N.q k from hc).symm⟩
  | dead => cases h
theorem tyCells_length (xs : List Value) : ∀ (zs : List Value) (o : Nat), (tyCells xs o zs).length = zs.length
  | [], _ => rfl
  | _ :: zs, o => by
    show (tyCells xs (o + 1) zs).length + 1 = zs.length + 1
    rw [tyCells_length xs zs (o + 1)]
theorem needEls_ok {q : Sq} : ∀ {zs : List Value} {o : Nat}, (∀ p ∈ needEls q o zs, p) → ∀ i v, (tyCells q.xs o zs)[i]? = some v → NeedEl q (o + i) v
  | [], _, _, _, _, h => by cases h
  | z :: zs, o, hp, 0, v, h => by
    obtain rfl := Option.some.inj h
    exact hp _ (List.mem_cons_self ..)
  | z :: zs, o, hp, i + 1, v, h => by
    have := needEls_ok (zs := zs) (o := o + 1) (fun p hm => hp p (List.mem_cons_of_mem _ hm)) i v h
    rwa [show o + 1 + i = o + (i + 1) by omega] at this
theorem el_cell {base : Nat} {v : Value} {zs : List Value} {q : Sq} (hs : SeqR base R v zs q) {o : Nat} {u : Value} (hn : NeedEl q o u) : R.cell? ((placeOf v).add o) = some u := by
  obtain ⟨h1, h2⟩ := hn
  have h3 := hs.alike.2 o h2
  rw [h1] at h3
  have hlt : o < zs.length := (List.getElem?_eq_some_iff.1 h3).1
  have hpos : 0 < q.n := by
    have := hs.flat.len
    rcases Nat.eq_zero_or_pos q.n with h0 | h0
    · rw [h0, Nat.zero_mul] at this; omega
    · exact h0
  obtain ⟨ad, _, e2, _, _, e4⟩ := hs.flat.cells hpos
  rw [e2]
  exact e4 o u h3

theorem load_ok (ok : EnvOk E B) (h : RelE E B N s a R) (hG : GOk (tmOf a) G) {t : TypeId} {x : Operand} {z : AV} {ps : List Prop} (he : loadE E s G t x = some (z, ps)) (hp : ∀ p ∈ ps, p) :
    z.simple = true ∧ (Instr.loadAt t (a.eval x)).run E.P R = .ok (conc N z) R := by
  unfold loadE at he
  split at he <;> first | (cases he; done) | skip
  · rename_i i off hx
    obtain ⟨_, hx'⟩ := ev_ok h hG hx
    rw [run_loadAt hx']
    split at he <;> first | (cases he; done) | skip
    rename_i e cs hb
    obtain ⟨vs, hvs, hcell⟩ := box_cell h hb
    split at he <;> first | (cases he; done) | skip
    · rename_i hr
      split at he <;> first | (cases he; done) | skip
      rename_i n hn
      cases hl : Nat.ble (off + n) cs.length with
      | false => rw [hl] at he; cases he
      | true =>
        rw [hl] at he
        simp only [cond_true] at he
        have hle : off + n ≤ cs.length := Nat.le_of_ble_eq_true hl
        have hlen := cells_length hvs
        split at he <;> first | (cases he; done) | skip
        rename_i z' hz
        cases he
        obtain ⟨h1, h2⟩ := aggA_ok hz (cells_take n (cells_drop off hvs))
        refine ⟨h1, ?_⟩
        rw [h2]
        refine run_loadVar_agg hr ?_ fun j v hv => ?_
        · rw [hn]
          simp
          omega
        · rw [add_mk, hcell]
          rw [List.getElem?_take] at hv
          split at hv <;> first | (cases hv; done) | skip
          rwa [List.getElem?_drop] at hv
    · rename_i hr
      split at he <;> first | (cases he; done) | skip
      rename_i c hc
      split at he <;> first | (cases he; done) | skip
      rename_i z' hz
      cases he
      obtain ⟨v, hv, hl⟩ := cells_get hvs hc
      obtain ⟨h1, h2⟩ := oneA_ok hz hl
      exact ⟨h1, by rw [h2]; exact run_loadVar_one hr (by rw [hcell]; exact hv)⟩
  · rename_i i base len k hx
    obtain ⟨_, hx'⟩ := ev_ok h hG hx
    rw [run_loadAt hx']
    split at he <;> first | (cases he; done) | skip
    rename_i e cs hb
    obtain ⟨vs, hvs, hcell⟩ := box_cell h hb
    split at he <;> first | (cases he; done) | skip
    rename_i hr
    cases hl : Nat.ble (base + len) cs.length with
    | false => rw [hl] at he; cases he
    | true =>
      rw [hl] at he
      simp only [cond_true] at he
      have hle : base + len ≤ cs.length := Nat.le_of_ble_eq_true hl
      have hlen := cells_length hvs
      split at he <;> first | (cases he; done) | skip
      rename_i xs hxs
      split at he <;> first | (cases he; done) | skip
      rename_i v hv
      cases he
      have hk : k < len := hp _ (by simp)
      refine ⟨rfl, run_loadVar_one hr ?_⟩
      have e1 := rawL_ok hxs (cells_take len (cells_drop base hvs))
      rw [← e1] at hv
      have := selV_ok hv (Nat.zero_le _) (by rw [List.length_take, List.length_drop]; omega)
      rw [Nat.sub_zero, List.getElem?_take, if_pos hk, List.getElem?_drop] at this
      rw [hcell]
      exact this
  · rename_i ad hx
    obtain ⟨_, hx'⟩ := ev_ok h hG hx
    rw [run_loadAt hx']
    split at he <;> first | (cases he; done) | skip
    rename_i z' hz
    split at he <;> first | (cases he; done) | skip
    · rename_i hr
      split at he <;> first | (cases he; done) | skip
      rename_i n hn
      cases hl : Nat.beq n z'.cells.toList.length with
      | false => rw [hl] at he; cases he
      | true =>
        rw [hl] at he
        obtain rfl := Nat.eq_of_beq_eq_true hl
        cases he
        refine ⟨rfl, run_loadVar_agg hr ?_ fun j v hv => ?_⟩
        · rw [hn, rdCells_length]
        · have := needCells_ok (fun p hm => hp p hm) j v hv
          rw [Nat.zero_add] at this
          exact safe_cell (ok.bel h.bel) this
    · rename_i hr
      cases he
      have hn : NeedAt E ad (rdAs E.w0 ad z') := hp _ (by simp)
      exact ⟨rfl, run_loadVar_one hr (safe_cell (ok.bel h.bel) hn)⟩
  · rename_i k off hx
    obtain ⟨_, hx'⟩ := ev_ok h hG hx
    rw [run_loadAt hx']
    split at he <;> first | (cases he; done) | skip
    rename_i q hq
    have hs := h.seqs k q hq
    split at he <;> first | (cases he; done) | skip
    rename_i z' hz
    split at he <;> first | (cases he; done) | skip
    · rename_i hr
      split at he <;> first | (cases he; done) | skip
      rename_i n hn
      cases hl : Nat.beq n z'.cells.toList.length with
      | false => rw [hl] at he; cases he
      | true =>
        rw [hl] at he
        obtain rfl := Nat.eq_of_beq_eq_true hl
        cases he
        refine ⟨rfl, run_loadVar_agg hr ?_ fun j v hv => ?_⟩
        · rw [hn, tyCells_length]
        · rw [add_add]
          exact el_cell hs (needEls_ok (fun p hm => hp p hm) j v hv)
    · rename_i hr
      cases he
      exact ⟨rfl, run_loadVar_one hr (el_cell hs (hp _ (List.mem_singleton.2 rfl)))⟩

theorem evAll_ok (h : RelE E B N s a R) (hG : GOk (tmOf a) G) : ∀ {l : List Operand} {xs : List AV}, evAll s G l = some xs → l.map a.eval = xs.map (conc N)
  | [], xs, he => by obtain rfl := Option.some.inj he; rfl
  | o :: r, xs, he => by
    unfold evAll at he
    cases hx : s.ev G o with
    | none => simp only [hx] at he; cases he
    | some x =>
      cases hr : evAll s G r with
      | none => simp only [hx, hr] at he; cases he
      | some ys =>
        simp only [hx, hr] at he
        obtain rfl := Option.some.inj he
        rw [List.map_cons, List.map_cons, (ev_ok h hG hx).2, evAll_ok h hG hr]

theorem run_goes {P : Program} {f : FuncId} (hf : goesB P f = true) (args : Array Value) (R : World) : (callFunc f args).run P R = .ok (.enter f args) R := by
  unfold goesB at hf
  cases hq : P.funcs[f]? with
  | none => simp only [hq] at hf; cases hf
  | some fn =>
    simp only [hq, Bool.and_eq_true] at hf
    obtain ⟨h1, h2⟩ := hf
    have h2' : (fn.name == "runtime.NumGoroutine") = false := by simpa using h2
    have h1' : fn.body.isNone = false := by cases hb : fn.body <;> simp_all
    simp only [callFunc, Sem.run_bind, run_program, Result.andThen_ok, hq, h2', h1']
    rfl

theorem plainC_some {o : Option CRes} {z : AV} {ps : List Prop} (h : plainC o = some (z, ps)) : ∃ v ps', o = some (.v v, [], ps') ∧ (AV.v v, ps') = (z, ps) := by
  unfold plainC at h
  split at h <;> first | (cases h; done) | skip
  rename_i v ps'
  exact ⟨v, ps', rfl, Option.some.inj h⟩
theorem plain_calls {P : Program} {f : FuncId} {args : Array Value} {v : Value} {b : Nat → Nat} {R : World} (h : Calls P f args R fun e R' => ∃ v' z, e = .returned (conc ⟨b, v', z⟩ (.v v)) ∧ Below R.heap.size R R' ∧ NewOk R.heap.size R' v' z []) :
    Calls P f args R fun e R' => e = .returned v ∧ Below R.heap.size R R' :=
  h.mono fun _ _ ⟨_, _, h1, h2, _⟩ => ⟨h1, h2⟩

theorem up_val {P : Program} {C : World → Prop} {v : Value} {r : Result Next} (h : r = .ok (.value v) R) : Oper.quietUpon P C R v r := by
  rw [h]; exact ⟨rfl, rfl⟩
theorem run_lift {α : Type} {P : Program} {m : Sem α} {f : α → Next} {x : α} (h : m.run P R = .ok x R) : ((do pure (f (← m)) : Sem Next)).run P R = .ok (f x) R := by
  simp [h]

theorem eqE_ok (ok : EnvOk E B) (h : RelE E B N s a R) (hG : GOk (tmOf a) G) {t : TypeId} {x y : Operand} {b : Bool} (he : eqE E s G t x y = some (some b)) (op : BinOp) (hop : op = .eql ∨ op = .neq) :
    (do eqGuard op t x y (a.eval x) (a.eval y); binOp op t (a.eval x) (a.eval y) : Sem Value).run E.P R = .ok (.bool (bif (op matches .eql) then b else !b)) R := by
  unfold eqE at he
  split at he <;> first | (cases he; done) | skip
  rename_i xs ys hx hy
  rw [raw_ok h hG hx, raw_ok h hG hy]
  obtain ⟨h1, h2⟩ := ok.eq t xs.toList ys.toList b (Option.some.inj he)
  have h3 := h2 R
  simp only [Array.toArray_toList] at h3
  have hg := run_eqGuard_agg R op t x y xs ys h1
  rcases hop with rfl | rfl
  · simp [hg, binOp, Op.equal, Op.maxDepth, h3]
  · simp [hg, binOp, Op.equal, Op.maxDepth, h3]

theorem pureR_ok (h : RelE E B N s a R) (hG : GOk (tmOf a) G) {o : Oper} {z : AV} {ps : List Prop} (he : pureR E s G o = some (z, ps)) {C : World → Prop} :
    z.simple = true ∧ Oper.quietUpon E.P C R (conc N z) ((execOp a.eval o).run E.P R) := by
  unfold pureR at he
  split at he <;> first | (cases he; done) | skip
  rename_i y hy
  cases he
  exact ⟨rfl, up_val (pureE_ok h hG hy)⟩

theorem minmax_ok (h : RelE E B N s a R) (hG : GOk (tmOf a) G) {b : Builtin} {args : List Operand} {v : Value} (he : minmaxE s G b args = some v) (hb : b = .max ∨ b = .min) (ts : Array TypeId) (t : TypeId) (cs : Array Bool) :
    (builtin b ts t cs (args.map a.eval).toArray).run E.P R = .ok (.value v) R := by
  unfold minmaxE at he
  split at he <;> first | (cases he; done) | skip
  split at he <;> first | (cases he; done) | skip
  rename_i x y _ k i k' c hx hy
  rw [List.map_cons, List.map_cons, List.map_nil, raw_ok h hG hx, raw_ok h hG hy]
  rcases hb with rfl | rfl
  · cases he
    simp [builtin, my_max]
  · cases he
    simp [builtin, my_min]

theorem rawAVs_map (N : Nm) : ∀ l : List Value, (rawAVs l).map (conc N) = l
  | [] => rfl
  | x :: r => by
    show conc N (.v x) :: (rawAVs r).map (conc N) = x :: r
    rw [rawAVs_map N r]
    rfl

theorem run_bytes_flat {P : Program} {R : World} {v : Value} {n : Nat} {ns : List Int} {src dst e : TypeId} (hf : FlatR R v 1 n (ns.map (Value.int .u8)))
    (hs : P.underlying src = some (.slice e)) (he : P.underlying e = some (.int .u8)) (hd : P.underlying dst = some .string) : (convert src dst v).run P R = .ok (.string (strOfNums ns)) R := by
  obtain ⟨A, c, rfl, _⟩ := hf.val
  have hlen : ns.length = n := by simpa using hf.len
  rw [run_convert_bytes_string R src dst e A n c hs he hd]
  by_cases hn : 0 < n
  · obtain ⟨ad, h1, h2, ⟨_, _, h3⟩, h4, h5⟩ := hf.cells hn
    cases h3
    have hl := run_loadCells_list (P := P) R ad (ns.map (Value.int .u8)) h5
    rw [List.length_map, hlen] at hl
    rw [run_bytesToString R ad n c ns hl, foldl_push_bytes]
    simp [strOfNums]
  · obtain rfl : n = 0 := by omega
    obtain rfl := List.eq_nil_of_length_eq_zero hlen
    cases A with
    | none => rfl
    | some ad =>
      have hl := run_loadCells_list (P := P) R ad [] (fun j u hj => by cases hj)
      rw [run_bytesToString R ad 0 c [] hl]
      rfl
theorem bytesE_ok (h : RelE E B N s a R) (hG : GOk (tmOf a) G) {src dst : TypeId} {x : Operand} {z : AV} {ps : List Prop} (he : bytesE E s G src dst x = some (some (z, ps))) (hp : ∀ p ∈ ps, p) :
    z.simple = true ∧ (convert src dst (a.eval x)).run E.P R = .ok (conc N z) R := by
  unfold bytesE at he
  split at he <;> first | (cases he; done) | skip
  rename_i k hx
  split at he <;> first | (cases he; done) | skip
  rename_i q hq
  split at he <;> first | (cases he; done) | skip
  rename_i hkid
  cases hl : Nat.beq q.size 1 with
  | false => rw [hl] at he; cases he
  | true =>
    rw [hl] at he
    simp only [cond_true] at he
    split at he <;> first | (cases he; done) | skip
    rename_i e hs hd
    split at he <;> first | (cases he; done) | skip
    rename_i hu
    cases he
    refine ⟨rfl, ?_⟩
    rw [(ev_ok h hG hx).2]
    have hsq := h.seqs k q hq
    have hz : N.z k = q.xs := by
      apply List.ext_getElem?
      intro j
      refine hsq.alike.2 j ?_
      unfold isKid
      rw [hkid]
    have hf := hsq.flat
    rw [hz, Nat.eq_of_beq_eq_true hl] at hf
    have hb : NeedBytes q.xs := hp _ (by simp)
    rw [hb] at hf
    exact run_bytes_flat hf hs hu hd

theorem val_ok (ok : EnvOk E B) (h : RelE E B N s a R) (hG : GOk (tmOf a) G) {o : Oper} {z : AV} {ps : List Prop} (he : valE E s G o = some (z, ps)) (hp : ∀ p ∈ ps, p) :
    z.simple = true ∧ Oper.quietUpon E.P (fun R' => Below R.heap.size R R') R (conc N z) ((execOp a.eval o).run E.P R) := by
  obtain ⟨dst, op, type, pos, after, guard⟩ := o
  unfold valE at he
  simp only at he
  split at he
  · split at he <;> first | (cases he; done) | skip
    rename_i x _ _ hx
    cases he
    obtain ⟨h1, h2⟩ := ev_ok h hG hx
    exact ⟨h1, up_val (by rw [← h2]; rfl)⟩
  · split at he <;> first | (cases he; done) | skip
    rename_i x _ _ hx
    cases he
    obtain ⟨h1, h2⟩ := ev_ok h hG hx
    exact ⟨h1, up_val (by rw [← h2]; rfl)⟩
  · split at he <;> first | (cases he; done) | skip
    rename_i c x y _ z' hz
    cases he
    obtain ⟨q, h1, h2⟩ := pickE_ok h hG hz
    refine ⟨rfl, up_val ?_⟩
    simp only [execOp, h1, asBool, Sem.run_bind, Sem.run_pure, Result.andThen_ok]
    rw [show conc N (.v z') = z' from rfl, h2]
  · rename_i x ix
    split at he
    · rename_i z' hz
      cases he
      unfold extractE at hz
      split at hz <;> first | (cases hz; done) | skip
      rename_i xs hx
      obtain ⟨hs, hx'⟩ := ev_ok h hG hx
      have hget : ∀ c, xs[ix]? = some c → (Instr.extract (a.eval x) ix).run E.P R = .ok (concT N c) R := fun c hc => by
        rw [hx']
        simp [conc, Instr.extract, hc]
      split at hz
      · rename_i c hc
        have hc' := hget _ hc
        have hz' : oneA c = some z := Option.some.inj hz
        obtain ⟨h1, h2⟩ := oneA_ok (N := N) (v := concL N c) hz' (by cases c <;> first | rfl | trivial)
        exact ⟨h1, up_val (by rw [h2]; exact run_lift hc')⟩
      · rename_i cs hc
        have hc' := hget _ hc
        have hz' : aggA cs = some z := Option.some.inj hz
        obtain ⟨h1, h2⟩ := aggA_ok (N := N) hz' map_are
        exact ⟨h1, up_val (by rw [h2]; exact run_lift hc')⟩
      · cases hz
    · cases he
    · exact pureR_ok h hG he
  · rename_i t x f
    obtain ⟨h1, h2⟩ := field_ok h hG he
    exact ⟨h1, up_val (run_lift h2)⟩
  · rename_i t x i
    obtain ⟨h1, h2⟩ := index_ok h hG he hp
    exact ⟨h1, up_val (run_lift h2)⟩
  · rename_i t x
    obtain ⟨h1, h2⟩ := load_ok ok h hG he hp
    exact ⟨h1, up_val (run_lift h2)⟩
  · rename_i f args ts
    unfold callE at he
    split at he <;> first | (cases he; done) | skip
    rename_i xs hxs
    cases hf : goesB E.P f with
    | false => rw [hf] at he; cases he
    | true =>
      rw [hf] at he
      simp only [cond_true] at he
      obtain ⟨v, ps', hv, e0⟩ := plainC_some he
      cases e0
      refine ⟨rfl, ?_⟩
      have hc := plain_calls (ok.C f xs s.b s.q _ _ _ hv hp N R (ok.bel h.bel) (fun i e cs hi => (h.boxes i e cs hi).2) (fun k q hk => ⟨_, h.seqs k q hk⟩))
      have hargs : (#[] ++ args.map a.eval ++ #[]) = (xs.map (conc N)).toArray := by
        rw [← evAll_ok h hG hxs, ← Array.toList_map, Array.toArray_toList, Array.empty_append, Array.append_empty]
      have hrun : (execOp a.eval { dst, op := .call { callee := .value (.func f), args, argTypes := ts }, type, pos, after, guard }).run E.P R = .ok (.enter f (xs.map (conc N)).toArray) R := by
        rw [execOp_call_go, hargs]
        exact run_goes hf _ R
      rw [hrun]
      exact ⟨rfl, hc⟩
  · rename_i f args ts _
    unfold callVE at he
    split at he <;> first | (cases he; done) | skip
    rename_i g first captured hf
    split at he <;> first | (cases he; done) | skip
    rename_i xs hxs
    cases hg : goesB E.P g with
    | false => rw [hg] at he; cases he
    | true =>
      rw [hg] at he
      simp only [cond_true] at he
      obtain ⟨v, ps', hv, e0⟩ := plainC_some he
      cases e0
      refine ⟨rfl, ?_⟩
      have hc := plain_calls (ok.C g _ s.b s.q _ _ _ hv hp N R (ok.bel h.bel) (fun i e cs hi => (h.boxes i e cs hi).2) (fun k q hk => ⟨_, h.seqs k q hk⟩))
      have hargs : ((rawAVs first.toList ++ xs ++ rawAVs captured.toList).map (conc N)).toArray = first ++ args.map a.eval ++ captured := by
        rw [List.map_append, List.map_append, ← evAll_ok h hG hxs, rawAVs_map, rawAVs_map, ← Array.toList_map]
        apply Array.ext'
        simp
      rw [hargs] at hc
      have hrun : (execOp a.eval { dst, op := .call { callee := .value f, args, argTypes := ts }, type, pos, after, guard }).run E.P R = .ok (.enter g (first ++ args.map a.eval ++ captured)) R := by
        show (do let d ← resolve a.eval _ type; invoke d.target d.args : Sem Next).run E.P R = _
        have hr : (resolve a.eval { callee := .value f, args, argTypes := ts } type) = pure { target := .fn (.func g) captured, args := first ++ args.map a.eval } := by
          simp only [resolve, raw_ok h hG hf, Deferred.ofValue]
        rw [hr]
        simp only [Sem.run_bind, Sem.run_pure, Result.andThen_ok, invoke]
        exact run_goes hg _ R
      rw [hrun]
      exact ⟨rfl, hc⟩
  · rename_i args ts
    split at he
    · rename_i z' hz
      cases he
      unfold lenE at hz
      split at hz <;> first | (cases hz; done) | skip
      rename_i x hargs
      have hx0 : args = #[x] := by rw [← Array.toArray_toList (xs := args), hargs]
      split at hz <;> first | (cases hz; done) | skip
      · rename_i b len cap hx
        split at hz <;> first | (cases hz; done) | skip
        rename_i t ht
        split at hz <;> first | (cases hz; done) | skip
        rename_i e hu
        cases hz
        obtain ⟨_, hx'⟩ := ev_ok h hG hx
        refine ⟨rfl, up_val ?_⟩
        have ha : args.map a.eval = #[.slice (some ⟨N.b b, 0, none⟩) len cap] := by
          rw [hx0]
          simp [hx', conc]
        show (do let d ← resolve a.eval _ type; invoke d.target d.args : Sem Next).run E.P R = _
        simp [resolve, invoke, builtin, Builtin.len_, ha, ht, run_underlying hu, conc, goInt]
      · rename_i k hx
        split at hz <;> first | (cases hz; done) | skip
        rename_i q hq
        split at hz <;> first | (cases hz; done) | skip
        rename_i t ht
        split at hz <;> first | (cases hz; done) | skip
        rename_i e hu
        cases hz
        obtain ⟨_, hx'⟩ := ev_ok h hG hx
        obtain ⟨A, c, e4, _⟩ := (h.seqs k q hq).flat.val
        refine ⟨rfl, up_val ?_⟩
        have ha : args.map a.eval = #[.slice A q.n c] := by
          rw [hx0]
          simp [hx', conc, e4]
        show (do let d ← resolve a.eval _ type; invoke d.target d.args : Sem Next).run E.P R = _
        simp [resolve, invoke, builtin, Builtin.len_, ha, ht, run_underlying hu, conc, goInt]
    · exact pureR_ok h hG he
  · rename_i args ts
    split at he <;> first | (cases he; done) | skip
    rename_i v hv
    cases he
    refine ⟨rfl, up_val ?_⟩
    have := minmax_ok h hG hv (.inl rfl) ts type (args.map fun | .const _ => true | _ => false)
    have ha : (args.toList.map a.eval).toArray = args.map a.eval := by rw [← Array.toList_map, Array.toArray_toList]
    rw [ha] at this
    exact this
  · rename_i args ts
    split at he <;> first | (cases he; done) | skip
    rename_i v hv
    cases he
    refine ⟨rfl, up_val ?_⟩
    have := minmax_ok h hG hv (.inr rfl) ts type (args.map fun | .const _ => true | _ => false)
    have ha : (args.toList.map a.eval).toArray = args.map a.eval := by rw [← Array.toList_map, Array.toArray_toList]
    rw [ha] at this
    exact this
  · rename_i src dst' x
    split at he
    · rename_i r hr
      subst he
      obtain ⟨h1, h2⟩ := bytesE_ok h hG hr hp
      exact ⟨h1, up_val (run_lift h2)⟩
    · exact pureR_ok h hG he
  · rename_i t x y yt
    split at he
    · rename_i b hb
      cases he
      exact ⟨rfl, up_val (run_lift (eqE_ok ok h hG hb .eql (.inl rfl)))⟩
    · cases he
    · exact pureR_ok h hG he
  · rename_i t x y yt
    split at he
    · rename_i b hb
      cases he
      exact ⟨rfl, up_val (run_lift (eqE_ok ok h hG hb .neq (.inr rfl)))⟩
    · cases he
    · exact pureR_ok h hG he
  · exact pureR_ok h hG he
end
end Go.Proofs.Yteebobbhhgmeiaa
