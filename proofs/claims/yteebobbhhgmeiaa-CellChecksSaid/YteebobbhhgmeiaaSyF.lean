/- A symbolic run with sequences, part F: guards, effects. -/
import Derived.Test.YteebobbhhgmeiaaSyE
import Derived.Maps.AppendAt
namespace Go.Proofs.Yteebobbhhgmeiaa
open Go.RowKit

/-! ### guards -/
def gset (s : St) : Nat → Nat → Bool → Guards
  | 0, u, b => [(u, b)]
  | n + 1, u, b => (u, b) :: match s.get u with
    | some (.opt v c _) => gset s n v c
    | _ => []
def gprops (s : St) (G : Guards) : Guards → List Prop
  | [] => []
  | (u, b) :: r => match s.get u with
    | some x => match x.strip G with
      | some (.v (.bool g)) => (g = b) :: gprops s G r
      | _ => gprops s G r
    | none => gprops s G r
def gimp : List Prop → Prop → Prop
  | [], p => p
  | q :: r, p => q → gimp r p
def gimps (qs : List Prop) : List Prop → List Prop
  | [] => []
  | p :: r => gimp qs p :: gimps qs r

theorem gimp_ok : ∀ {qs : List Prop} {p : Prop}, gimp qs p → (∀ q ∈ qs, q) → p
  | [], _, h, _ => h
  | q :: r, _, h, hq => gimp_ok (h (hq q (by simp))) fun q' h' => hq q' (by simp [h'])
theorem gimps_ok {qs : List Prop} : ∀ {ps : List Prop}, (∀ p ∈ gimps qs ps, p) → (∀ q ∈ qs, q) → ∀ p ∈ ps, p
  | [], _, _, _, h => by cases h
  | p :: r, hp, hq, p', hm => by
    rcases List.mem_cons.1 hm with rfl | hm
    · exact gimp_ok (hp _ (List.mem_cons_self ..)) hq
    · exact gimps_ok (ps := r) (fun p h => hp p (List.mem_cons_of_mem _ h)) hq p' hm

section
variable {E : Env} {B : World} {N : Nm} {s : St} {a : Act} {R : World}

theorem inG_cons {u v : Nat} {b c : Bool} {G : Guards} (h : inG u b ((v, c) :: G) = true) : (u = v ∧ b = c) ∨ inG u b G = true := by
  unfold inG at h
  cases hk : Nat.beq v u with
  | false => rw [hk] at h; exact .inr h
  | true =>
    rw [hk] at h
    simp only [cond_true] at h
    cases hb : beqB c b with
    | false => rw [hb] at h; exact .inr h
    | true => exact .inl ⟨(Nat.eq_of_beq_eq_true hk).symm, (beqB_eq hb).symm⟩

theorem gset_ok (h : RelE E B N s a R) : ∀ (n u : Nat) (b : Bool), tmOf a u = .bool b → GOk (tmOf a) (gset s n u b)
  | 0, u, b, hu, v, c, hv => by
    rcases inG_cons hv with ⟨rfl, rfl⟩ | h'
    · exact hu
    · cases h'
  | n + 1, u, b, hu, v, c, hv => by
    unfold gset at hv
    rcases inG_cons hv with ⟨rfl, rfl⟩ | h'
    · exact hu
    · split at h'
      · rename_i v' c' x hg
        have hh := (h.slots u _ hg)
        have : tmOf a v' = .bool c' := by
          by_cases hc : tmOf a v' = .bool c'
          · exact hc
          · have := hh.2 hc
            rw [hu] at this
            cases this
        exact gset_ok h n v' c' this v c h'
      · cases h'
theorem gprops_ok (h : RelE E B N s a R) {G : Guards} (hG : GOk (tmOf a) G) : ∀ {l : Guards}, (∀ e ∈ l, tmOf a e.1 = .bool e.2) → ∀ q ∈ gprops s G l, q
  | [], _, _, hq => by cases hq
  | (u, b) :: r, hl, q, hq => by
    have hr : ∀ e ∈ r, tmOf a e.1 = .bool e.2 := fun e he => hl e (List.mem_cons_of_mem _ he)
    unfold gprops at hq
    split at hq
    · rename_i x hx
      split at hq
      · rename_i g hg
        rcases List.mem_cons.1 hq with rfl | hq
        · obtain ⟨_, h2⟩ := strip_ok hG hg (h.slots u x hx)
          have h3 := hl (u, b) (List.mem_cons_self ..)
          rw [h2] at h3
          have : Value.bool g = Value.bool b := h3
          injection this
        · exact gprops_ok h hG hr q hq
      · exact gprops_ok h hG hr q hq
    · exact gprops_ok h hG hr q hq
theorem gset_mem (h : RelE E B N s a R) : ∀ (n u : Nat) (b : Bool), tmOf a u = .bool b → ∀ e ∈ gset s n u b, tmOf a e.1 = .bool e.2
  | 0, u, b, hu, e, he => by
    obtain rfl := List.mem_singleton.1 he
    exact hu
  | n + 1, u, b, hu, e, he => by
    unfold gset at he
    rcases List.mem_cons.1 he with rfl | he
    · exact hu
    · split at he
      · rename_i v' c' x hg
        have hh := (h.slots u _ hg)
        have : tmOf a v' = .bool c' := by
          by_cases hc : tmOf a v' = .bool c'
          · exact hc
          · have := hh.2 hc
            rw [hu] at this
            cases this
        exact gset_mem h n v' c' this e he
      · cases he

/-! ### the effects that change the world -/
theorem rawParts_ok (h : RelE E B N s a R) {G : Guards} (hG : GOk (tmOf a) G) : ∀ {l : List (Nat × Operand)} {ps : List (Nat × Value)}, rawParts s G l = some ps → l.map (fun (i, x) => (i, a.eval x)) = ps
  | [], ps, he => Option.some.inj he
  | (i, o) :: r, ps, he => by
    unfold rawParts at he
    cases ho : s.raw G o with
    | none => simp only [ho] at he; cases he
    | some v =>
      cases hr : rawParts s G r with
      | none => simp only [ho, hr] at he; cases he
      | some l =>
        simp only [ho, hr] at he
        obtain rfl := Option.some.inj he
        rw [List.map_cons, rawParts_ok h hG hr]
        simp only [raw_ok h hG ho]

theorem run_buildSlice {P : Program} {t : TypeId} {len : Nat} {parts : List (Nat × Value)} {e : TypeId} {cs : List Value} (hc : sliceCells P t len parts = some (e, cs)) (R : World) :
    (Instr.buildSlice t len parts.toArray).run P R = .ok (.slice (some ⟨R.heap.size, 0, none⟩) len len) (R.alloc (.cells cs.toArray e (0, 0))) := by
  unfold sliceCells at hc
  split at hc <;> first | (cases hc; done) | skip
  rename_i e' hu
  split at hc <;> first | (cases hc; done) | skip
  rename_i i hi
  split at hc <;> first | (cases hc; done) | skip
  rename_i z hz
  cases h1 : Nat.ble (len * i.size) 16777216 with
  | false => rw [h1] at hc; cases hc
  | true =>
    cases h2 : Nat.beq (len * i.size) 0 with
    | true => rw [h1, h2] at hc; cases hc
    | false =>
      rw [h1, h2] at hc
      simp only [cond_true, cond_false] at hc
      split at hc <;> first | (cases hc; done) | skip
      rename_i cells hf
      cases hc
      have g1 : ¬ len * i.size > 2 ^ 24 := by have := Nat.le_of_ble_eq_true h1; omega
      have g2 : ¬ len * i.size = 0 := fun e => by rw [e] at h2; cases h2
      simp only [Instr.buildSlice, Sem.run_bind, run_underlying hu, Result.andThen_ok, sizeOf, typeInfo, run_program, hi, Sem.run_pure, g1, g2, if_false, zeroValue, hz, hf]
      simp [newRow]

theorem setE_set (E : Env) (s : St) (G : Guards) (t : TypeId) (x y : Operand) {f : Eff} {ps : List Prop} (he : setE E s G t x y = some (f, ps)) : ∃ i e cs, f = .set i e cs := by
  unfold setE at he
  split at he <;> first | (cases he; done) | skip
  rename_i v hv
  split at he <;> first | (cases he; done) | skip
  rename_i us hus
  split at he <;> first | (cases he; done) | skip
  · rename_i i off hx
    split at he <;> first | (cases he; done) | skip
    rename_i e cs hb
    split at he <;> first | (cases he; done) | skip
    rename_i n hn
    generalize Nat.beq n us.length = q1 at he
    generalize oneLV s us = q2 at he
    generalize Nat.ble (off + n) cs.length = q3 at he
    cases q1 <;> cases q2 <;> cases q3 <;> cases he
    exact ⟨_, _, _, rfl⟩
  · rename_i i base len k hx
    split at he <;> first | (cases he; done) | skip
    rename_i e cs hb
    split at he <;> first | (cases he; done) | skip
    rename_i u _
    generalize u.oneCell' = q1 at he
    generalize Nat.ble (base + len) cs.length = q2 at he
    cases q1 <;> cases q2 <;> first | (cases he; done) | skip
    simp only [cond_true] at he
    split at he <;> first | (cases he; done) | skip
    split at he <;> first | (cases he; done) | skip
    cases he
    exact ⟨_, _, _, rfl⟩
theorem callM_kind {E : Env} {s : St} {G : Guards} {f : FuncId} {args : List Operand} {e : Eff} {ps : List Prop} (he : callM E s G f args = some (e, ps)) : (∃ v, e = .val (.v v)) ∨ ∃ x news d, e = .more x news d := by
  unfold callM at he
  split at he <;> first | (cases he; done) | skip
  generalize goesB E.P f = q1 at he
  cases q1 <;> first | (cases he; done) | skip
  simp only [cond_true] at he
  split at he <;> first | (cases he; done) | skip
  rename_i c news _ _
  split at he
  · split at he <;> first | (cases he; done) | skip
    cases he
    exact .inl ⟨_, rfl⟩
  · generalize c.simple = q2 at he
    cases q2 <;> first | (cases he; done) | skip
    cases he
    exact .inr ⟨_, _, _, rfl⟩
theorem appE_kind {E : Env} {s : St} {G : Guards} {ts : Array TypeId} {x y : Operand} {e : Eff} {ps : List Prop} (he : appE E s G ts x y = some (e, ps)) : ∃ x news d, e = .more x news d := by
  unfold appE at he
  split at he <;> first | (cases he; done) | skip
  rename_i t t' _
  generalize Nat.beq t t' = q0 at he
  cases q0 <;> first | (cases he; done) | skip
  simp only [cond_true] at he
  split at he <;> first | (cases he; done) | skip
  rename_i ee _
  split at he <;> first | (cases he; done) | skip
  rename_i sz _
  generalize sideB E ee sz = q1 at he
  cases q1 <;> first | (cases he; done) | skip
  simp only [cond_true] at he
  split at he <;> first | (cases he; done) | skip
  split at he <;> first | (cases he; done) | skip
  split at he <;> first | (cases he; done) | skip
  · split at he <;> first | (cases he; done) | skip
    rename_i q _
    split at he <;> first | (cases he; done) | skip
    generalize Nat.beq q.e ee = q2 at he
    generalize Nat.beq q.size sz = q3 at he
    cases q2 <;> cases q3 <;> first | (cases he; done) | skip
    cases he
    exact ⟨_, _, _, rfl⟩
  · cases he
    exact ⟨_, _, _, rfl⟩

theorem appS_kind {E : Env} {s : St} {G : Guards} {t u : TypeId} {x y : Operand} {e : Eff} {ps : List Prop} (he : appS E s G t u x y = some (e, ps)) : ∃ x news d, e = .more x news d := by
  unfold appS at he
  split at he <;> first | (cases he; done) | skip
  rename_i ee _ _
  generalize u8B E ee = q1 at he
  cases q1 <;> first | (cases he; done) | skip
  simp only [cond_true] at he
  split at he <;> first | (cases he; done) | skip
  split at he <;> first | (cases he; done) | skip
  · split at he <;> first | (cases he; done) | skip
    rename_i q _
    split at he <;> first | (cases he; done) | skip
    generalize Nat.beq q.e ee = q2 at he
    generalize Nat.beq q.size 1 = q3 at he
    cases q2 <;> cases q3 <;> first | (cases he; done) | skip
    cases he
    exact ⟨_, _, _, rfl⟩
  · cases he
    exact ⟨_, _, _, rfl⟩
theorem appE2_kind {E : Env} {s : St} {G : Guards} {ts : Array TypeId} {x y : Operand} {e : Eff} {ps : List Prop} (he : appE2 E s G ts x y = some (e, ps)) : ∃ x news d, e = .more x news d := by
  unfold appE2 at he
  split at he <;> first | (cases he; done) | skip
  rename_i t u _
  cases hq : Nat.beq t u with
  | true => rw [hq] at he; exact appE_kind he
  | false => rw [hq] at he; exact appS_kind he

theorem cellsA_ok (h : RelE E B N s a R) {v : AV} {cs : List LV} (hc : cellsA s v = some cs) : CellsAre N cs (conc N v).cells.toList := by
  cases v <;> first | (cases hc; done) | skip
  · cases hc; exact toL_ok _
  · rename_i k
    have hc' : (match s.seq k with | some _ => some [LV.sq k] | none => none) = some cs := hc
    split at hc' <;> first | (cases hc'; done) | skip
    rename_i q hq
    cases hc'
    obtain ⟨A, c, e, _⟩ := (h.seqs k q hq).flat.val
    have : (conc N (.sq k)).cells.toList = [N.q k] := by
      show (N.q k).cells.toList = _
      rw [e]
      rfl
    rw [this]
    exact ⟨rfl, trivial⟩
  · rename_i cs'
    cases hc
    have : (conc N (.agg cs)).cells.toList = cs.map (concL N) := by simp [conc, Value.cells]
    rw [this]
    exact map_are
theorem oneLV_ok (h : RelE E B N s a R) : ∀ {cs : List LV} {vs : List Value}, oneLV s cs = true → CellsAre N cs vs → ∀ c ∈ vs, c.oneCell' = true
  | [], [], _, _, _, hm => by cases hm
  | .v x :: r, v :: vs, ho, ⟨h1, h2⟩, c, hm => by
    unfold oneLV at ho
    cases hx : x.oneCell' with
    | false => rw [hx] at ho; cases ho
    | true =>
      rw [hx] at ho
      rcases List.mem_cons.1 hm with rfl | hm
      · have e : c = x := h1
        rw [e]; exact hx
      · exact oneLV_ok h ho h2 c hm
  | .sq k :: r, v :: vs, ho, ⟨h1, h2⟩, c, hm => by
    unfold oneLV at ho
    split at ho <;> first | (cases ho; done) | skip
    rename_i q hq
    rcases List.mem_cons.1 hm with rfl | hm
    · have e : c = N.q k := h1
      obtain ⟨A, cc, e', _⟩ := (h.seqs k q hq).flat.val
      rw [e, e']
      rfl
    · exact oneLV_ok h ho h2 c hm
  | .dead :: _, _, ho, _, _, _ => by cases ho
  | [], _ :: _, _, h, _, _ => h.elim
  | _ :: _, [], _, h, _, _ => h.elim

theorem box_ok (h : RelE E B N s a R) {G : Guards} (hG : GOk (tmOf a) G) {o : Oper} {e : TypeId} {cs : List LV} {x : AV} {ps : List Prop} (he : effE E s G o = some (.box e cs x, ps)) :
    ∃ d vs, o.dst = some d ∧ x.simple = true ∧ CellsAre N cs vs ∧ (execOp a.eval o).run E.P R = .ok (.value (conc (N.setB d R.heap.size) x)) (R.alloc (.cells vs.toArray e (0, 0))) := by
  obtain ⟨dst, op, type, pos, after, guard⟩ := o
  unfold effE at he
  simp only at he
  split at he
  · unfold allocE at he
    split at he <;> first | (cases he; done) | skip
    rename_i d
    split at he <;> first | (cases he; done) | skip
    rename_i z hz
    cases he
    refine ⟨d, _, rfl, rfl, toL_ok _, ?_⟩
    have := run_allocAt (P := E.P) (R := R) hz
    simp only [execOp, Sem.run_bind, this, Result.andThen_ok, Sem.run_pure, conc, Nm.setB, setF_same]
  · unfold boxE at he
    split at he <;> first | (cases he; done) | skip
    rename_i d
    split at he <;> first | (cases he; done) | skip
    rename_i v hv
    split at he <;> first | (cases he; done) | skip
    rename_i cs' hcs
    cases he
    refine ⟨d, _, rfl, rfl, cellsA_ok h hcs, ?_⟩
    have hv' := (ev_ok h hG hv).2
    generalize conc N v = y at *
    have := run_boxAt (P := E.P) (R := R) (e := e) (v := y)
    simp only [execOp, Sem.run_bind, hv', this, Result.andThen_ok, Sem.run_pure, conc, Nm.setB, setF_same]
  · unfold sliceE at he
    rename_i t len parts
    split at he <;> first | (cases he; done) | skip
    rename_i d
    split at he <;> first | (cases he; done) | skip
    rename_i ps' hps
    split at he
    · rename_i e' cs' hcs
      cases he
      refine ⟨d, _, rfl, rfl, toL_ok _, ?_⟩
      have h1 := run_buildSlice hcs R
      have h2 := rawParts_ok h hG hps
      have h3 : (parts.map fun (i, x) => (i, a.eval x)) = ps'.toArray := by
        rw [← h2, ← Array.toList_map, Array.toArray_toList]
      simp only [execOp, Sem.run_bind, h3, h1, Result.andThen_ok, Sem.run_pure, conc, Nm.setB, setF_same]
    · split at he <;> first | (cases he; done) | skip
      split at he <;> first | (cases he; done) | skip
      split at he <;> first | (cases he; done) | skip
      generalize Nat.beq len 0 = q at he
      cases q <;> cases he
  · split at he <;> first | (cases he; done) | skip
    obtain ⟨_, _, _, h'⟩ := setE_set _ _ _ _ _ _ he
    cases h'
  · rcases callM_kind he with ⟨_, h'⟩ | ⟨_, _, _, h'⟩ <;> cases h'
  · split at he <;> first | (cases he; done) | skip
    obtain ⟨_, _, _, h'⟩ := appE2_kind he
    cases h'
  · unfold valEff at he
    split at he <;> first | (cases he; done) | skip

theorem list_mid (cs : List Value) (u : Value) {base len k : Nat} (hl : base + len ≤ cs.length) (hk : k < len) :
    cs.take (base + k) ++ [u] ++ cs.drop (base + k + 1) = cs.take base ++ (((cs.drop base).take len).take k ++ [u] ++ ((cs.drop base).take len).drop (k + 1)) ++ cs.drop (base + len) := by
  have hA : (cs.take base).length = base := by rw [List.length_take]; omega
  have hB : ((cs.drop base).take len).length = len := by rw [List.length_take, List.length_drop]; omega
  have hcs : cs = cs.take base ++ ((cs.drop base).take len ++ cs.drop (base + len)) := by
    rw [← List.drop_drop, List.take_append_drop, List.take_append_drop]
  generalize cs.take base = A at *
  generalize (cs.drop base).take len = B at *
  generalize cs.drop (base + len) = C at *
  subst hcs
  rw [← hA, Nat.add_assoc, List.take_length_add_append, List.drop_length_add_append, List.take_append_of_le_length (by omega), List.drop_append_of_le_length (by omega)]
  simp

theorem valE_of_eff {G : Guards} {o : Oper} {x : AV} {ps : List Prop} (he : effE E s G o = some (.val x, ps)) : valE E s G o = some (x, ps) := by
  obtain ⟨dst, op, type, pos, after, guard⟩ := o
  unfold effE at he
  simp only at he
  split at he
  · unfold allocE at he
    repeat (split at he <;> first | (cases he; done) | skip)
  · unfold boxE at he
    repeat (split at he <;> first | (cases he; done) | skip)
  · unfold sliceE at he
    repeat (split at he <;> first | (cases he; done) | skip)
    generalize Nat.beq _ _ = q at he
    cases q <;> cases he
  · split at he <;> first | (cases he; done) | skip
    obtain ⟨_, _, _, h'⟩ := setE_set _ _ _ _ _ _ he
    cases h'
  · rename_i f args ts
    unfold callM at he
    show callE E s G f args.toList = _
    unfold callE
    split at he <;> first | (cases he; done) | skip
    rename_i xs hxs
    try rw [hxs]
    try simp only
    generalize goesB E.P f = q1 at he ⊢
    cases q1 <;> first | (cases he; done) | skip
    simp only [cond_true] at he ⊢
    split at he <;> first | (cases he; done) | skip
    rename_i c news ps' hC
    try rw [hC]
    split at he
    · split at he <;> first | (cases he; done) | skip
      cases he
      rfl
    · generalize c.simple = q2 at he
      cases q2 <;> cases he
  · split at he <;> first | (cases he; done) | skip
    obtain ⟨_, _, _, h'⟩ := appE2_kind he
    cases h'
  · unfold valEff at he
    split at he <;> first | (cases he; done) | skip
    rename_i x' ps' hv
    cases he
    exact hv

theorem set_ok (h : RelE E B N s a R) {G : Guards} (hG : GOk (tmOf a) G) {o : Oper} {i : Nat} {e : TypeId} {cs' : List LV} {ps : List Prop} (he : effE E s G o = some (.set i e cs', ps)) (hp : ∀ p ∈ ps, p) :
    o.dst = none ∧ ∃ cs vs', s.box i = some (e, cs) ∧ CellsAre N cs' vs' ∧ (execOp a.eval o).run E.P R = .ok .skip (R.setRow (N.b i) vs'.toArray) := by
  obtain ⟨dst, op, type, pos, after, guard⟩ := o
  unfold effE at he
  simp only at he
  split at he
  · unfold allocE at he
    repeat (split at he <;> first | (cases he; done) | skip)
  · unfold boxE at he
    repeat (split at he <;> first | (cases he; done) | skip)
  · unfold sliceE at he
    repeat (split at he <;> first | (cases he; done) | skip)
    generalize Nat.beq _ _ = q at he
    cases q <;> cases he
  · rename_i t x y
    split at he <;> first | (cases he; done) | skip
    refine ⟨rfl, ?_⟩
    unfold setE at he
    split at he <;> first | (cases he; done) | skip
    rename_i v hv
    obtain ⟨_, hv'⟩ := ev_ok h hG hv
    split at he <;> first | (cases he; done) | skip
    rename_i us hus
    have hcells := cellsA_ok h hus
    rw [← hv'] at hcells
    have hlen := cells_length hcells
    split at he <;> first | (cases he; done) | skip
    · rename_i j off hx
      split at he <;> first | (cases he; done) | skip
      rename_i e' cs hb
      split at he <;> first | (cases he; done) | skip
      rename_i n hn
      cases h1 : Nat.beq n us.length with
      | false => rw [h1] at he; cases he
      | true =>
        cases h2 : oneLV s us with
        | false => rw [h1, h2] at he; cases he
        | true =>
          cases h3 : Nat.ble (off + n) cs.length with
          | false => rw [h1, h2, h3] at he; cases he
          | true =>
            rw [h1, h2, h3] at he
            obtain rfl := Nat.eq_of_beq_eq_true h1
            have h4 := Nat.le_of_ble_eq_true h3
            cases he
            obtain ⟨_, vs, hvs, hheap⟩ := h.boxes _ _ _ hb
            have hl2 := cells_length hvs
            refine ⟨cs, _, hb, cells_append (cells_append (cells_take off hvs) hcells) (cells_drop (off + us.length) hvs), ?_⟩
            obtain ⟨_, hx'⟩ := ev_ok h hG hx
            have := run_storeAt (P := E.P) (R := R) (t := t) (v := a.eval y) hx' hheap (by rw [hn, hlen]) (by omega) (oneLV_ok h h2 hcells)
            rw [← hlen] at this
            simp only [execOp, Sem.run_bind, this, Result.andThen_ok, Sem.run_pure]
    · rename_i j base len k hx
      split at he <;> first | (cases he; done) | skip
      rename_i e' cs hb
      split at he <;> first | (cases he; done) | skip
      rename_i u hn
      cases h1 : u.oneCell' with
      | false => rw [h1] at he; cases he
      | true =>
        cases h3 : Nat.ble (base + len) cs.length with
        | false => rw [h1, h3] at he; cases he
        | true =>
          rw [h1, h3] at he
          simp only [cond_true] at he
          split at he <;> first | (cases he; done) | skip
          rename_i xs hxs
          split at he <;> first | (cases he; done) | skip
          rename_i zs hzs
          have h4 := Nat.le_of_ble_eq_true h3
          cases he
          have hk : k < len := hp _ (by simp)
          obtain ⟨_, vs, hvs, hheap⟩ := h.boxes _ _ _ hb
          have hl2 := cells_length hvs
          have e1 := rawL_ok hxs (cells_take len (cells_drop base hvs))
          refine ⟨cs, _, hb, cells_append (cells_append (cells_take base hvs) (toL_ok zs)) (cells_drop (base + len) hvs), ?_⟩
          obtain ⟨_, hx'⟩ := ev_ok h hG hx
          have hy : (a.eval y).cells.toList = [u] := by
            match hys : (a.eval y).cells.toList, hcells with
            | [w], hc => exact congrArg (fun z => [z]) hc.1
          have hxl : xs.length = len := by rw [← e1, List.length_take, List.length_drop]; omega
          have hz := setV_ok hzs (Nat.zero_le _) (by rw [hxl]; omega)
          have := run_storeAt (P := E.P) (R := R) (t := t) (v := a.eval y) hx' hheap (by rw [hn, hy]; rfl) (by rw [hy]; simp; omega) (by rw [hy]; intro c hc; obtain rfl := List.mem_singleton.1 hc; exact h1)
          simp only [execOp, Sem.run_bind, this, Result.andThen_ok, Sem.run_pure]
          rw [hy, hz, ← e1, Nat.sub_zero, List.length_singleton, list_mid vs u (by omega) hk]
  · rcases callM_kind he with ⟨_, h'⟩ | ⟨_, _, _, h'⟩ <;> cases h'
  · split at he <;> first | (cases he; done) | skip
    obtain ⟨_, _, _, h'⟩ := appE2_kind he
    cases h'
  · unfold valEff at he
    split at he <;> first | (cases he; done) | skip
end
end Go.Proofs.Yteebobbhhgmeiaa
