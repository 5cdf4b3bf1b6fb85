/- A region that draws its order: quiet operations and new variables, in whatever order; then operations in one order. -/
import Derived.Test.YteebobbhhgmeiaaParA
namespace Go.Proofs.Yteebobbhhgmeiaa
open Go.RowKit

section par
variable {P : Program} {ops : Array Oper} {Q : Exit → Act → World → Prop}

def seesB (ops : Array Oper) (o o' : Oper) : Bool :=
  (match o.dst with | some d => (o'.looksAt ops).contains d | none => false) || (match o'.dst with | some d => (o.looksAt ops).contains d | none => false)

def pairB (ops : Array Oper) (n : Nat) : Bool := (List.range n).all fun j => (List.range j).all fun i =>
  match ops[i]?, ops[j]? with
  | some o, some o' => (match o.dst with | some d => o'.dst != some d | none => true) && (!seesB ops o o' || Region.waitsFor .any ops j i)
  | _, _ => true

def blindB (ops : Array Oper) (n : Nat) (al : List Al) : Bool := al.all fun e => (List.range n).all fun i => skp al i ||
  match ops[i]?, ops[e.j]? with
  | some o, some o' => (match o'.dst with | some d => !(o.looksAt ops).contains d | none => true)
  | _, _ => true

def alB (ops : Array Oper) (n : Nat) (al : List Al) (e : Al) : Bool :=
  decide (e.j < n) && decide (e.s < n) && Region.waitsFor .any ops e.s e.j &&
  match ops[e.j]?, ops[e.s]? with
  | some o, some o' => o.guard.isNone && o'.guard.isNone && o'.dst.isNone &&
    (match o.dst, o'.op with
     | some d, .store _ (.tmp t) y => t == d && (match y with
        | .tmp u => al.all (fun e' => match ops[e'.j]? with | some p => p.dst != some u | none => true) && (List.range n).all (fun k => decide (k ≤ e.s) || (match ops[k]? with | some p => p.dst != some u | none => true))
        | _ => true)
     | _, _ => false)
  | _, _ => false

def parB (ops : Array Oper) (n : Nat) (al : List Al) : Bool :=
  backB ops && Region.noSelect ops && decide (n ≤ ops.size) && pairB ops n && blindB ops n al && al.all (alB ops n al) &&
  decide ((al.map (·.j) ++ al.map (·.s)).Nodup) && (decide (n = ops.size) || (Region.sinkB .any ops n && Region.chainB .any ops n))

structure ParOk (ops : Array Oper) (n : Nat) (al : List Al) : Prop where
  back : backB ops = true
  nosel : Region.noSelect ops = true
  n_le : n ≤ ops.size
  dst : ∀ i j o o' d, i < j → j < n → ops[i]? = some o → ops[j]? = some o' → o.dst = some d → o'.dst ≠ some d
  ord : ∀ i j o o' d, i < j → j < n → ops[i]? = some o → ops[j]? = some o' → (o.dst = some d ∧ d ∈ o'.looksAt ops ∨ o'.dst = some d ∧ d ∈ o.looksAt ops) → Region.waitsFor .any ops j i = true
  blind : ∀ e ∈ al, ∀ i o o' d, i < n → skp al i = false → ops[i]? = some o → ops[e.j]? = some o' → o'.dst = some d → d ∉ o.looksAt ops
  als : ∀ e ∈ al, e.j < n ∧ e.s < n ∧ Region.waitsFor .any ops e.s e.j = true ∧ ∃ o o' d t y, ops[e.j]? = some o ∧ ops[e.s]? = some o' ∧ o.guard = none ∧ o'.guard = none ∧ o'.dst = none ∧ o.dst = some d ∧ o'.op = .store t (.tmp d) y ∧
    ∀ u, y = .tmp u → (∀ e' ∈ al, ∀ p, ops[e'.j]? = some p → p.dst ≠ some u) ∧ ∀ k p, e.s < k → k < n → ops[k]? = some p → p.dst ≠ some u
  nodup : (al.map (·.j) ++ al.map (·.s)).Nodup
  tail : n = ops.size ∨ (Region.sinkB .any ops n = true ∧ Region.chainB .any ops n = true)

theorem parOk {n : Nat} {al : List Al} (h : parB ops n al = true) : ParOk ops n al := by
  simp only [parB, Bool.and_eq_true, decide_eq_true_eq, Bool.or_eq_true] at h
  obtain ⟨⟨⟨⟨⟨⟨⟨h1, h2⟩, h3⟩, h4⟩, h5⟩, h6⟩, h7⟩, h8⟩ := h
  have hp : ∀ i j o o', i < j → j < n → ops[i]? = some o → ops[j]? = some o' → (match o.dst with | some d => o'.dst != some d | none => true) = true ∧ (!seesB ops o o' || Region.waitsFor .any ops j i) = true := by
    intro i j o o' hij hj ho ho'
    have := List.all_eq_true.1 (List.all_eq_true.1 h4 j (List.mem_range.2 hj)) i (List.mem_range.2 hij)
    simp only [ho, ho', Bool.and_eq_true] at this
    exact this
  refine ⟨h1, h2, h3, ?_, ?_, ?_, ?_, h7, ?_⟩
  · intro i j o o' d hij hj ho ho' hd
    have := (hp i j o o' hij hj ho ho').1
    simpa [hd] using this
  · intro i j o o' d hij hj ho ho' hc
    have := (hp i j o o' hij hj ho ho').2
    have hs : seesB ops o o' = true := by
      unfold seesB
      rcases hc with ⟨hd, hm⟩ | ⟨hd, hm⟩
      · simp [hd, hm]
      · simp [hd, hm]
    simpa [hs] using this
  · intro e he i o o' d hi hsk ho ho' hd
    have := List.all_eq_true.1 (List.all_eq_true.1 h5 e he) i (List.mem_range.2 hi)
    simp only [hsk, Bool.false_or, ho, ho', hd] at this
    simpa using this
  · intro e he
    have := List.all_eq_true.1 h6 e he
    simp only [alB, Bool.and_eq_true, decide_eq_true_eq] at this
    obtain ⟨⟨⟨a1, a2⟩, a3⟩, a4⟩ := this
    refine ⟨a1, a2, a3, ?_⟩
    split at a4
    · rename_i o o' ho ho'
      simp only [Bool.and_eq_true, Option.isNone_iff_eq_none] at a4
      obtain ⟨⟨⟨b1, b2⟩, b3⟩, b4⟩ := a4
      split at b4
      · rename_i d t u y hd hop
        simp only [Bool.and_eq_true, beq_iff_eq] at b4
        obtain ⟨rfl, b5⟩ := b4
        refine ⟨o, o', _, t, y, ho, ho', b1, b2, b3, hd, hop, ?_⟩
        rintro v rfl
        simp only [Bool.and_eq_true] at b5
        refine ⟨fun e' he' p hp' => ?_, fun k p hk hkn hp' => ?_⟩
        · have := List.all_eq_true.1 b5.1 e' he'
          simpa [hp'] using this
        · have := List.all_eq_true.1 b5.2 k (List.mem_range.2 hkn)
          simp only [hp', Bool.or_eq_true, decide_eq_true_eq] at this
          rcases this with h | h
          · omega
          · simpa using h
      · cases b4
    · cases a4
  · exact h8

/-- Slots that agree: an operation does the same. -/
theorem execOp_slots {a a' : Act} (o : Oper) (hs : ∀ cs b, o.op ≠ .select cs b) (h : ∀ t ∈ o.looksAt ops, a'.tmps.getD t undef = a.tmps.getD t undef) : execOp a'.eval o = execOp a.eval o :=
  execOp_congr o hs fun x hx => by
    cases x with
    | tmp t => exact h t (List.mem_append_left _ (List.mem_filterMap.2 ⟨.tmp t, by simpa using hx, rfl⟩))
    | _ => rfl
theorem wanted_slots {a a' : Act} (o : Oper) (hz : a'.tmps.size = a.tmps.size) (h : ∀ t ∈ o.looksAt ops, a'.tmps.getD t undef = a.tmps.getD t undef) : Region.wanted o (yielded ops a'.tmps) = Region.wanted o (yielded ops a.tmps) := by
  unfold Region.wanted
  cases hg : o.guard with
  | none => rfl
  | some gw =>
    obtain ⟨g, want⟩ := gw
    have hy : yielded ops a'.tmps g = yielded ops a.tmps g := by
      unfold yielded
      cases ht : (ops[g]?).bind (·.dst) with
      | none => rfl
      | some t =>
        have := h t (by simp [Oper.looksAt, hg, ht])
        simp only [Option.bind_some]
        by_cases hlt : t < a.tmps.size
        · have hlt' : t < a'.tmps.size := by rw [hz]; exact hlt
          simp only [Array.getD_eq_getD_getElem?, Array.getElem?_eq_getElem hlt, Array.getElem?_eq_getElem hlt', Option.getD_some] at this
          rw [Array.getElem?_eq_getElem hlt, Array.getElem?_eq_getElem hlt', this]
        · rw [Array.getElem?_eq_none (by rw [hz]; exact Nat.le_of_not_lt hlt), Array.getElem?_eq_none (Nat.le_of_not_lt hlt)]
    simp only [hy]

theorem getD_set_iff {listed : Array Bool} {i k : Nat} (hi : i < listed.size) : (listed.setIfInBounds i true).getD k false = true ↔ k = i ∨ listed.getD k false = true := by
  by_cases h : i = k
  · subst h; simp [hi]
  · rw [getD_set_ne false h]
    exact ⟨.inr, fun h' => h'.resolve_left fun e => h e.symm⟩

def ptrTo (b : Nat) : Value := .pointer (some ⟨b, 0, none⟩)
def vOf (al : List Al) (aF : Act) (β : Nat → Nat) (k d : Nat) : Value := if al.any (·.j == k) then ptrTo (β k) else aF.tmps.getD d undef

structure Head (ops : Array Oper) (n : Nat) (al : List Al) (aF a0 : Act) (w0 : World) (listed : Array Bool) (a : Act) (w : World) (β : Nat → Nat) : Prop where
  inv : HeadInv .any ops n listed
  defers : a.defers = a0.defers
  size : a.tmps.size = a0.tmps.size
  s1 : ∀ k o d, k < n → ops[k]? = some o → o.dst = some d → d < a0.tmps.size → listed.getD k false = true → a.tmps.getD d undef = vOf al aF β k d
  s2 : ∀ d, (∀ k o, k < n → ops[k]? = some o → listed.getD k false = true → o.dst ≠ some d) → a.tmps.getD d undef = a0.tmps.getD d undef
  bel : Below w0.heap.size w0 w
  blk : ∀ e ∈ al, listed.getD e.j false = true → w0.heap.size ≤ β e.j ∧ w.heap[β e.j]? = some (if listed.getD e.s false then e.o1 else e.o0)
  inj : ∀ e ∈ al, ∀ e' ∈ al, listed.getD e.j false = true → listed.getD e'.j false = true → e.j ≠ e'.j → β e.j ≠ β e'.j

variable {n : Nat} {al : List Al} {aF a0 : Act} {w0 : World} {listed : Array Bool} {a : Act} {w : World} {β : Nat → Nat} {i : Nat}

theorem waits_listed {j k : Nat} {o : Oper} (h : Region.waitsFor .any ops j k = true) (ho : ops[j]? = some o) (hall : ∀ e ∈ o.after, Region.binds .any e = true → listed.getD e.on false = true) : listed.getD k false = true := by
  obtain ⟨o', ho', e, he, hb, hon⟩ := Region.waitsFor_spec h
  have : o' = o := Option.some.inj (ho'.symm.trans ho)
  subst this
  rw [← hon]
  exact hall e he hb

/-- A slot that an operation looks at, when it comes up: what it holds in the text's order. -/
theorem Head.slot (ok : ParOk ops n al) (h : Head ops n al aF a0 w0 listed a w β) {oi : Oper} (hi : i < n) (hoi : ops[i]? = some oi) (hun : listed.getD i false = false)
    (hall : ∀ e ∈ oi.after, Region.binds .any e = true → listed.getD e.on false = true) {t : Nat} (ht : t ∈ oi.looksAt ops) (hbl : ∀ e ∈ al, ∀ p, ops[e.j]? = some p → p.dst ≠ some t) :
    a.tmps.getD t undef = (lexA ops (skp al) aF a0 i).tmps.getD t undef := by
  have hd : ∀ p q o o' d, p < q → q < i → ops[p]? = some o → ops[q]? = some o' → o.dst = some d → o'.dst ≠ some d := fun p q o o' d h1 h2 => ok.dst p q o o' d h1 (by omega)
  obtain ⟨l1, l2⟩ := lexA_get (ops := ops) (sk := skp al) (aF := aF) (a0 := a0) (t := t) i hd
  have hsk : ∀ k o, k < n → ops[k]? = some o → o.dst = some t → skp al k = false := by
    intro k o hk ho hdst
    cases hs : skp al k with
    | false => rfl
    | true =>
      exfalso
      obtain ⟨e, he, hor⟩ := List.any_eq_true.1 hs
      simp only [Bool.or_eq_true, beq_iff_eq] at hor
      rcases hor with rfl | rfl
      · exact hbl e he o ho hdst
      · obtain ⟨_, _, _, _, o', _, _, _, _, ho', _, _, hn, _⟩ := ok.als e he
        have : o' = o := Option.some.inj (ho'.symm.trans ho)
        subst this
        rw [hn] at hdst
        cases hdst
  by_cases hw : ∃ k o, k < n ∧ ops[k]? = some o ∧ o.dst = some t
  · obtain ⟨k, o, hk, ho, hdst⟩ := hw
    have hs := hsk k o hk ho hdst
    have huniq : ∀ k' o', k' < n → ops[k']? = some o' → o'.dst = some t → k' = k := by
      intro k' o' hk' ho' hdst'
      rcases Nat.lt_trichotomy k' k with hlt | heq | hgt
      · exact absurd hdst (ok.dst k' k o' o t hlt hk ho' ho hdst')
      · exact heq
      · exact absurd hdst' (ok.dst k k' o o' t hgt hk' ho ho' hdst)
    rcases Nat.lt_or_ge k i with hlt | hge
    · have hwt := ok.ord k i o oi t hlt hi ho hoi (.inl ⟨hdst, ht⟩)
      have hl := waits_listed hwt hoi hall
      by_cases hlt' : t < a0.tmps.size
      · rw [h.s1 k o t hk ho hdst hlt' hl, l1 k o hlt hs ho hdst hlt']
        unfold vOf
        rw [if_neg]
        intro hany
        obtain ⟨e, he, hej⟩ := List.any_eq_true.1 hany
        simp only [beq_iff_eq] at hej
        subst hej
        exact hbl e he o ho hdst
      · have e1 : a.tmps.getD t undef = undef := by
          rw [Array.getD_eq_getD_getElem?, Array.getElem?_eq_none (by rw [h.size]; exact Nat.le_of_not_lt hlt')]; rfl
        have e2 : (lexA ops (skp al) aF a0 i).tmps.getD t undef = undef := by
          rw [Array.getD_eq_getD_getElem?, Array.getElem?_eq_none (by rw [lexA_size]; exact Nat.le_of_not_lt hlt')]; rfl
        rw [e1, e2]
    · have hkl : listed.getD k false = false := by
        by_cases hki : k = i
        · subst hki; exact hun
        · cases hkl : listed.getD k false with
          | false => rfl
          | true =>
            have hwt := ok.ord i k oi o t (by omega) hk hoi ho (.inr ⟨hdst, ht⟩)
            have := waits_listed hwt ho (h.inv.closed k o ho hkl)
            rw [hun] at this
            cases this
      rw [h.s2 t fun k' o' hk' ho' hl' hdst' => by
        have := huniq k' o' hk' ho' hdst'
        subst this
        rw [hkl] at hl'
        cases hl']
      rw [l2 fun k' o' hk' _ ho' hdst' => by
        have := huniq k' o' (by omega) ho' hdst'
        omega]
  · rw [h.s2 t fun k' o' hk' ho' _ hdst' => hw ⟨k', o', hk', ho', hdst'⟩]
    rw [l2 fun k' o' hk' _ ho' hdst' => hw ⟨k', o', by omega, ho', hdst'⟩]

theorem inj_nodup {α β : Type} {f : α → β} : ∀ {l : List α}, (l.map f).Nodup → ∀ {x y : α}, x ∈ l → y ∈ l → f x = f y → x = y
  | [], _, _, _, hx, _, _ => by cases hx
  | c :: l, h, x, y, hx, hy, hf => by
    rw [List.map_cons, List.nodup_cons] at h
    rcases List.mem_cons.1 hx with h1 | h1
    · rcases List.mem_cons.1 hy with h2 | h2
      · rw [h1, h2]
      · subst h1
        exact absurd (List.mem_map.2 ⟨y, h2, hf.symm⟩) h.1
    · rcases List.mem_cons.1 hy with h2 | h2
      · subst h2
        exact absurd (List.mem_map.2 ⟨x, h1, hf⟩) h.1
      · exact inj_nodup h.2 h1 h2 hf

def Clos (M : World → Prop) : Prop := ∀ w1 w2, M w1 → Below w1.heap.size w1 w2 → M w2
def ClsM (w0 : World) (M : World → Prop) (w' : World) : Prop := (∃ x, w' = ext w0 x) ∧ M w'

/-- Put into a slot that no other operation of the head writes. -/
theorem Head.put (ok : ParOk ops n al) (h : Head ops n al aF a0 w0 listed a w β) (_hz : listed.size = ops.size) {oi : Oper} (hr : i ∈ Region.ready .any ops listed) (hi : i < n) (hoi : ops[i]? = some oi) (v : Value) (β' : Nat → Nat) (w' : World)
    (hβ : ∀ k, k ≠ i → β' k = β k)
    (hv : ∀ d, oi.dst = some d → d < a0.tmps.size → v = vOf al aF β' i d)
    (hbel : Below w0.heap.size w0 w')
    (hblk : ∀ e ∈ al, (listed.setIfInBounds i true).getD e.j false = true → w0.heap.size ≤ β' e.j ∧ w'.heap[β' e.j]? = some (if (listed.setIfInBounds i true).getD e.s false then e.o1 else e.o0))
    (hinj : ∀ e ∈ al, ∀ e' ∈ al, (listed.setIfInBounds i true).getD e.j false = true → (listed.setIfInBounds i true).getD e'.j false = true → e.j ≠ e'.j → β' e.j ≠ β' e'.j) :
    Head ops n al aF a0 w0 (listed.setIfInBounds i true) (a.put oi.dst v) w' β' := by
  have hin : i < listed.size := in_of_unlisted (mem_ready.1 hr).1
  refine ⟨h.inv.set hr hi, by rw [put_defers', h.defers], by rw [put_size, h.size], ?_, ?_, hbel, hblk, hinj⟩
  · intro k o d hk ho hd hlt hl
    by_cases hki : k = i
    · subst hki
      have : o = oi := Option.some.inj (ho.symm.trans hoi)
      subst this
      rw [hd, put_getD, if_pos ⟨rfl, by rw [h.size]; exact hlt⟩]
      exact hv d hd hlt
    · have hl' := ((getD_set_iff hin).1 hl).resolve_left hki
      have hne : oi.dst ≠ some d := by
        rcases Nat.lt_or_ge k i with hlt' | hge
        · exact ok.dst k i o oi d hlt' hi ho hoi hd
        · intro hdi
          exact ok.dst i k oi o d (by omega) hk hoi ho hdi hd
      have hx : (a.put oi.dst v).tmps.getD d undef = a.tmps.getD d undef := by
        cases hdi : oi.dst with
        | none => rfl
        | some e =>
          rw [put_getD, if_neg]
          rintro ⟨rfl, _⟩
          exact hne hdi
      rw [hx, h.s1 k o d hk ho hd hlt hl']
      unfold vOf
      rw [hβ k hki]
  · intro d hno
    have hne : oi.dst ≠ some d := hno i oi hi hoi ((getD_set_iff hin).2 (.inl rfl))
    have hx : (a.put oi.dst v).tmps.getD d undef = a.tmps.getD d undef := by
      cases hdi : oi.dst with
      | none => rfl
      | some e =>
        rw [put_getD, if_neg]
        rintro ⟨rfl, _⟩
        exact hne hdi
    rw [hx]
    exact h.s2 d fun k o hk ho hl => hno k o hk ho ((getD_set_iff hin).2 (.inr hl))

theorem head_quiet (ok : ParOk ops n al)
    (hq : ∀ M : World → Prop, Clos M → wpSkip P ops (ClsM w0 M) (skp al) (fun a' => a' = aF) 0 (ops.toList.take n) a0)
    (h : Head ops n al aF a0 w0 listed a w β) (hz : listed.size = ops.size) {oi : Oper} (hr : i ∈ Region.ready .any ops listed) (hi : i < n) (hoi : ops[i]? = some oi) (hsk : skp al i = false) :
    wpOp P ops Q i (fun a' w' => ∃ β', Head ops n al aF a0 w0 (listed.setIfInBounds i true) a' w' β') a w := by
  obtain ⟨hun, o', ho', hall⟩ := mem_ready.1 hr
  have : o' = oi := Option.some.inj (ho'.symm.trans hoi)
  subst this
  have hin := in_of_unlisted hun
  let M : World → Prop := fun w' => ∀ e ∈ al, listed.getD e.j false = true → w'.heap[β e.j]? = some (if listed.getD e.s false then e.o1 else e.o0)
  have hM : Clos M := fun w1 w2 hm hb e he hl => blk_next (hm e he hl) hb
  have hlen : (ops.toList.take n).length = n := by
    rw [List.length_take, Array.length_toList]
    exact Nat.min_eq_left ok.n_le
  have hvals := (skip_vals (ops := ops) (aF := aF) (a0 := a0) (ops.toList.take n) 0 a0 (fun j hj => by
      rw [hlen] at hj
      rw [Nat.zero_add, List.getElem?_take, if_pos hj, Array.getElem?_toList]) rfl
    (fun p q o o'' d _ h2 h3 => ok.dst p q o o'' d h2 (by rw [hlen] at h3; omega)) (hq M hM)).2 i o' (Nat.zero_le _) (by rw [hlen]; omega) hsk hoi
  obtain ⟨v, hy, hv⟩ := hvals
  have hslots : ∀ t ∈ o'.looksAt ops, a.tmps.getD t undef = (lexA ops (skp al) aF a0 i).tmps.getD t undef := fun t ht =>
    h.slot ok hi hoi (getD_both hun) hall ht fun e he p hp hd => ok.blind e he i o' p t hi hsk hoi hp hd ht
  have hsel := Region.noSelect_spec ok.nosel
  have hy' : YieldsIn P ops (ClsM w0 M) o' v a := hy.of_same (execOp_slots o' (fun cs b => hsel i o' cs b hoi) hslots)
    (wanted_slots o' (by rw [h.size, lexA_size]) hslots)
  have hC : ClsM w0 M w := ⟨ext_of_below h.bel, fun e he hl => (h.blk e he hl).2⟩
  have hput := hv a h.size
  refine wpOp_of_qOp (K := fun a' => a' = a.put o'.dst v) hC (fun a' w' hw' ha' => ?_) (hy'.qOp hoi rfl)
  subst ha'
  obtain ⟨⟨x, hx⟩, hm⟩ := hw'
  rw [hput]
  have hnj : ∀ e ∈ al, e.j ≠ i ∧ e.s ≠ i := fun e he => by
    unfold skp at hsk
    rw [List.any_eq_false] at hsk
    have := hsk e he
    simp only [Bool.or_eq_true, beq_iff_eq, not_or] at this
    exact this
  refine ⟨β, h.put ok hz hr hi hoi _ β w' (fun _ _ => rfl) (fun d hd _ => ?_) (by rw [hx]; exact below_ext w0 x) (fun e he hl => ?_) (fun e he e' he' hl hl' => ?_)⟩
  · unfold vOf valF
    rw [hd, if_neg]
    intro hany
    obtain ⟨e, he, hej⟩ := List.any_eq_true.1 hany
    exact (hnj e he).1 (by simpa using hej)
  · have hl0 := ((getD_set_iff hin).1 hl).resolve_left (hnj e he).1
    rw [getD_set_ne false (Ne.symm (hnj e he).2)]
    exact ⟨(h.blk e he hl0).1, hm e he hl0⟩
  · exact h.inj e he e' he' (((getD_set_iff hin).1 hl).resolve_left (hnj e he).1) (((getD_set_iff hin).1 hl').resolve_left (hnj e' he').1)

theorem nodup_jj (ok : ParOk ops n al) {e e' : Al} (he : e ∈ al) (he' : e' ∈ al) : e.j ≠ e'.s := by
  have := ok.nodup
  rw [List.nodup_append] at this
  exact this.2.2 _ (List.mem_map.2 ⟨e, he, rfl⟩) _ (List.mem_map.2 ⟨e', he', rfl⟩)

theorem nodup_s (ok : ParOk ops n al) {e e' : Al} (he : e ∈ al) (he' : e' ∈ al) (h : e.s = e'.s) : e = e' := by
  have := ok.nodup
  rw [List.nodup_append] at this
  exact inj_nodup this.2.1 he he' h

theorem head_alloc (ok : ParOk ops n al)
    (hA : ∀ e ∈ al, ∀ o, ops[e.j]? = some o → ∀ (ρ : Operand → Value) (w' : World), (execOp ρ o).run P w' = .ok (.value (ptrTo w'.heap.size)) (w'.alloc e.o0))
    (h : Head ops n al aF a0 w0 listed a w β) (hz : listed.size = ops.size) {e : Al} (he : e ∈ al) (hr : e.j ∈ Region.ready .any ops listed) :
    wpOp P ops Q e.j (fun a' w' => ∃ β', Head ops n al aF a0 w0 (listed.setIfInBounds e.j true) a' w' β') a w := by
  obtain ⟨hun, o', ho', hall⟩ := mem_ready.1 hr
  have hin := in_of_unlisted hun
  obtain ⟨hjn, hsn, hw, o, os, d, t, y, ho, hos, hg, hgs, hds, hd, hop, hy⟩ := ok.als e he
  have : o' = o := Option.some.inj (ho'.symm.trans ho)
  subst this
  unfold wpOp
  simp only [ho, Region.wanted, hg, ↓reduceIte]
  refine .inl ?_
  unfold Oper.wp
  rw [hA e he o' ho]
  simp only [Oper.upon]
  have hsun : listed.getD e.s false = false := by
    cases hs : listed.getD e.s false with
    | false => rfl
    | true =>
      have := waits_listed hw hos (h.inv.closed _ _ hos hs)
      rw [getD_both hun] at this
      cases this
  have hn0 : w0.heap.size ≤ w.heap.size := h.bel.size
  refine ⟨fun k => if k = e.j then w.heap.size else β k, h.put ok hz hr hjn ho _ _ _ (fun k hk => by simp [hk]) (fun d' hd' _ => ?_) (h.bel.alloc hn0 _) (fun e' he' hl => ?_) (fun e1 he1 e2 he2 hl1 hl2 hne => ?_)⟩
  · unfold vOf
    rw [if_pos (List.any_eq_true.2 ⟨e, he, by simp⟩)]
    simp
  · by_cases hj : e'.j = e.j
    · have : e' = e := by
        have := ok.nodup
        rw [List.nodup_append] at this
        exact inj_nodup this.1 he' he hj
      subst this
      simp only [↓reduceIte]
      rw [getD_set_ne false (nodup_jj ok he he), hsun]
      exact ⟨hn0, alloc_new _ rfl⟩
    · have hl0 := ((getD_set_iff hin).1 hl).resolve_left hj
      rw [getD_set_ne false (nodup_jj ok he he')]
      simp only [if_neg hj]
      exact ⟨(h.blk e' he' hl0).1, alloc_old _ (h.blk e' he' hl0).2⟩
  · have hlt : ∀ e' ∈ al, e'.j ≠ e.j → (listed.setIfInBounds e.j true).getD e'.j false = true → β e'.j < w.heap.size := fun e' he' hj hl =>
      blk_lt (h.blk e' he' (((getD_set_iff hin).1 hl).resolve_left hj)).2
    by_cases h1 : e1.j = e.j
    · have h2 : e2.j ≠ e.j := fun h2 => hne (h1.trans h2.symm)
      simp only [if_pos h1, if_neg h2]
      have := hlt e2 he2 h2 hl2
      omega
    · by_cases h2 : e2.j = e.j
      · simp only [if_neg h1, if_pos h2]
        have := hlt e1 he1 h1 hl1
        omega
      · simp only [if_neg h1, if_neg h2]
        exact h.inj e1 he1 e2 he2 (((getD_set_iff hin).1 hl1).resolve_left h1) (((getD_set_iff hin).1 hl2).resolve_left h2) hne

theorem head_store (ok : ParOk ops n al) (hsz : ∀ e ∈ al, ∀ o d, ops[e.j]? = some o → o.dst = some d → d < a0.tmps.size)
    (hq : ∀ M : World → Prop, Clos M → wpSkip P ops (ClsM w0 M) (skp al) (fun a' => a' = aF) 0 (ops.toList.take n) a0)
    (hS : ∀ e ∈ al, ∀ o t d y, ops[e.s]? = some o → o.op = .store t (.tmp d) y → ∀ (ρ : Operand → Value) (w' : World) (b : Nat), ρ (.tmp d) = ptrTo b → ρ y = aF.eval y → w'.heap[b]? = some e.o0 →
      (execOp ρ o).run P w' = .ok .skip { w' with heap := w'.heap.setIfInBounds b e.o1 })
    (h : Head ops n al aF a0 w0 listed a w β) (hz : listed.size = ops.size) {e : Al} (he : e ∈ al) (hr : e.s ∈ Region.ready .any ops listed) :
    wpOp P ops Q e.s (fun a' w' => ∃ β', Head ops n al aF a0 w0 (listed.setIfInBounds e.s true) a' w' β') a w := by
  obtain ⟨hun, o', ho', hall⟩ := mem_ready.1 hr
  have hin := in_of_unlisted hun
  obtain ⟨hjn, hsn, hw, o, os, d, t, y, ho, hos, hg, hgs, hds, hd, hop, hy⟩ := ok.als e he
  have : o' = os := Option.some.inj (ho'.symm.trans hos)
  subst this
  have hjl := waits_listed hw hos hall
  obtain ⟨hge, hblk⟩ := h.blk e he hjl
  rw [getD_both hun] at hblk
  simp only [Bool.false_eq_true, ↓reduceIte] at hblk
  have hdlt := hsz e he o d ho hd
  have ha : a.eval (.tmp d) = ptrTo (β e.j) := by
    show a.tmps.getD d undef = _
    rw [h.s1 e.j o d hjn ho hd hdlt hjl]
    unfold vOf
    rw [if_pos (List.any_eq_true.2 ⟨e, he, by simp⟩)]
  have hlen : (ops.toList.take n).length = n := by
    rw [List.length_take, Array.length_toList]
    exact Nat.min_eq_left ok.n_le
  have hv : a.eval y = aF.eval y := by
    cases y with
    | tmp u =>
      obtain ⟨hy1, hy2⟩ := hy u rfl
      show a.tmps.getD u undef = aF.tmps.getD u undef
      have hu : u ∈ o'.looksAt ops := List.mem_append_left _ (List.mem_filterMap.2 ⟨.tmp u, by simp [hop, Op.operands], rfl⟩)
      rw [h.slot ok hsn hos (getD_both hun) hall hu hy1]
      have hk := (skip_vals (ops := ops) (aF := aF) (a0 := a0) (ops.toList.take n) 0 a0 (fun j hj => by
          rw [hlen] at hj
          rw [Nat.zero_add, List.getElem?_take, if_pos hj, Array.getElem?_toList]) rfl
        (fun p q o o'' d _ h2 h3 => ok.dst p q o o'' d h2 (by rw [hlen] at h3; omega)) (hq (fun _ => True) (fun _ _ _ _ => trivial))).1
      rw [hlen, Nat.zero_add] at hk
      have hn' : ∀ m, e.s ≤ m → m ≤ n → (lexA ops (skp al) aF a0 m).tmps.getD u undef = (lexA ops (skp al) aF a0 e.s).tmps.getD u undef := by
        intro m hm
        induction m with
        | zero =>
          intro _
          have : e.s = 0 := by omega
          rw [this]
        | succ m ih =>
          intro hmn
          by_cases hms : e.s = m + 1
          · rw [← hms]
          · rw [← ih (by omega) (by omega)]
            conv => lhs; unfold lexA
            split
            · rename_i p hp
              split
              · rfl
              · cases hpd : p.dst with
                | none => rfl
                | some c =>
                  rw [put_getD, if_neg]
                  rintro ⟨rfl, _⟩
                  by_cases hm' : m = e.s
                  · subst hm'
                    have : p = o' := Option.some.inj (hp.symm.trans hos)
                    subst this
                    rw [hds] at hpd
                    cases hpd
                  · exact hy2 m p (by omega) (by omega) hp hpd
            · rfl
      rw [← hn' n (by omega) (Nat.le_refl _), hk]
    | _ => rfl
  unfold wpOp
  simp only [hos, Region.wanted, hgs, ↓reduceIte]
  refine .inl ?_
  unfold Oper.wp
  rw [hS e he o' t d y hos hop a.eval w (β e.j) ha hv hblk]
  simp only [Oper.upon]
  have hset : ∀ k, k ≠ β e.j → (w.heap.setIfInBounds (β e.j) e.o1)[k]? = w.heap[k]? := fun k hk => Array.getElem?_setIfInBounds_ne (Ne.symm hk)
  refine ⟨β, h.put ok hz hr hsn hos _ β _ (fun _ _ => rfl) (fun d' hd' _ => by rw [hds] at hd'; cases hd') ?_ (fun e' he' hl => ?_) (fun e1 he1 e2 he2 hl1 hl2 hne => ?_)⟩
  · obtain ⟨b1, b2, b3, b4, b5⟩ := h.bel
    exact ⟨b1, b2, b3, by simpa using b4, fun k hk => (hset k (by omega)).trans (b5 k hk)⟩
  · have hl0 := ((getD_set_iff hin).1 hl).resolve_left (nodup_jj ok he' he)
    obtain ⟨g1, g2⟩ := h.blk e' he' hl0
    refine ⟨g1, ?_⟩
    by_cases hee : e' = e
    · subst hee
      rw [(getD_set_iff hin).2 (.inl rfl)]
      simp only [↓reduceIte]
      show (w.heap.setIfInBounds (β e'.j) e'.o1)[β e'.j]? = _
      rw [Array.getElem?_setIfInBounds_self_of_lt (blk_lt g2)]
    · have hjj : e'.j ≠ e.j := fun hj => hee (by
        have := ok.nodup
        rw [List.nodup_append] at this
        exact inj_nodup this.1 he' he hj)
      rw [getD_set_ne false (fun hs => hee (nodup_s ok he' he hs.symm))]
      rw [← g2]
      exact hset _ (h.inj e' he' e he hl0 hjl hjj)
  · exact h.inj e1 he1 e2 he2 (((getD_set_iff hin).1 hl1).resolve_left (nodup_jj ok he1 he)) (((getD_set_iff hin).1 hl2).resolve_left (nodup_jj ok he2 he)) hne

theorem tail_next (hc : Region.chainB .any ops n = true) {k : Nat} (hk : n ≤ k) (hz : listed.size = ops.size) (hl : ∀ i, i < ops.size → (listed.getD i false = true ↔ i < k)) (hr : i ∈ Region.ready .any ops listed) : i = k := by
  obtain ⟨hun, o', ho', hall⟩ := mem_ready.1 hr
  have hin := in_of_unlisted hun
  have hik : k ≤ i := by
    rcases Nat.lt_or_ge i k with h | h
    · have := (hl i (by omega)).2 h
      rw [getD_both hun] at this
      cases this
    · exact h
  by_cases he : i = k
  · exact he
  · exfalso
    have h1 := List.all_eq_true.1 hc i (List.mem_range.2 (by omega))
    simp only [Bool.or_eq_true, decide_eq_true_eq] at h1
    rcases h1 with h1 | h1
    · omega
    · have h2 := waits_listed h1 ho' hall
      have := (hl (i - 1) (by omega)).1 h2
      omega

/-- **The region.** -/
theorem wp_region_par {id : Nat} {l : List Oper} (n : Nat) (al : List Al) {aF : Act} {a : Act} {w : World} (hm : P.follows .mixedOrders = true) (hB : parB l.toArray n al = true)
    (hsz : ∀ e ∈ al, ∀ o d, l.toArray[e.j]? = some o → o.dst = some d → d < a.tmps.size)
    (hA : ∀ e ∈ al, ∀ o, l.toArray[e.j]? = some o → ∀ (ρ : Operand → Value) (w' : World), (execOp ρ o).run P w' = .ok (.value (ptrTo w'.heap.size)) (w'.alloc e.o0))
    (hS : ∀ e ∈ al, ∀ o t d y, l.toArray[e.s]? = some o → o.op = .store t (.tmp d) y → ∀ (ρ : Operand → Value) (w' : World) (b : Nat), ρ (.tmp d) = ptrTo b → ρ y = aF.eval y → w'.heap[b]? = some e.o0 →
      (execOp ρ o).run P w' = .ok .skip { w' with heap := w'.heap.setIfInBounds b e.o1 })
    (hq : ∀ M : World → Prop, Clos M → wpSkip P l.toArray (ClsM w M) (skp al) (fun a' => a' = aF) 0 (l.take n) a)
    (hF : ∀ (β : Nat → Nat) (w' : World), Below w.heap.size w w' → (∀ e ∈ al, w.heap.size ≤ β e.j ∧ w'.heap[β e.j]? = some e.o1) → (∀ e ∈ al, ∀ e' ∈ al, e.j ≠ e'.j → β e.j ≠ β e'.j) →
      wpList P l.toArray Q (l.drop n) (al.foldl (fun b e => b.put ((l.toArray[e.j]?).bind (·.dst)) (ptrTo (β e.j))) aF) w') : (Code.region id l.toArray true).wp P Q a w := by
  have ok := parOk hB
  let w0 : World := { w with drawn := w.drawn + 1 }
  have hbel0 : ∀ w', Below w0.heap.size w0 w' → Below w.heap.size w w' := fun w' ⟨b1, b2, b3, b4, b5⟩ => ⟨b1, b2, b3, b4, b5⟩
  have hq0 : ∀ M : World → Prop, Clos M → wpSkip P l.toArray (ClsM w0 M) (skp al) (fun a' => a' = aF) 0 (l.toArray.toList.take n) a := fun M hM => by
    have := hq M hM
    have hc : ClsM w0 M = ClsM w M := rfl
    rw [hc]
    simpa using this
  have hlen : (l.take n).length = n := by
    have := ok.n_le
    rw [List.length_take]
    simp at this
    omega
  -- the head's end
  have hend : ∀ listed a' w' β, Head l.toArray n al aF a w0 listed a' w' β → (∀ i, i < n → listed.getD i false = true) → wpList P l.toArray Q (l.drop n) a' w' := by
    intro listed a' w' β h hall
    have hkeep := skip_keeps _ _ _ (hq0 (fun _ => True) (fun _ _ _ _ => trivial))
    have hblk : ∀ e ∈ al, w.heap.size ≤ β e.j ∧ w'.heap[β e.j]? = some e.o1 := fun e he => by
      obtain ⟨h1, h2, _⟩ := ok.als e he
      obtain ⟨g1, g2⟩ := h.blk e he (hall _ h1)
      rw [hall _ h2] at g2
      exact ⟨g1, g2⟩
    have hinj : ∀ e ∈ al, ∀ e' ∈ al, e.j ≠ e'.j → β e.j ≠ β e'.j := fun e he e' he' => h.inj e he e' he' (hall _ (ok.als e he).1) (hall _ (ok.als e' he').1)
    have H := hF β w' (hbel0 _ h.bel) hblk hinj
    have hfold : ∀ (L : List Al) (b : Act), (∀ e ∈ L, e ∈ al) → b.tmps.size = a.tmps.size →
        let r := L.foldl (fun b e => b.put ((l.toArray[e.j]?).bind (·.dst)) (ptrTo (β e.j))) b
        r.tmps.size = a.tmps.size ∧ r.defers = b.defers ∧ ∀ d, d < a.tmps.size → r.tmps.getD d undef = if (∃ e ∈ L, (l.toArray[e.j]?).bind (·.dst) = some d) then a'.tmps.getD d undef else b.tmps.getD d undef := by
      intro L
      induction L with
      | nil => intro b _ hb; exact ⟨hb, rfl, fun d _ => by simp⟩
      | cons e L ih =>
        intro b hmem hb
        obtain ⟨hjn, hsn, hw, o, os, d0, t, y, ho, hos, hg, hgs, hds, hd0, hop, hy⟩ := ok.als e (hmem e (by simp))
        have hbind : (l.toArray[e.j]?).bind (·.dst) = some d0 := by rw [ho]; exact hd0
        obtain ⟨r1, r2, r3⟩ := ih (b.put ((l.toArray[e.j]?).bind (·.dst)) (ptrTo (β e.j))) (fun e' he' => hmem e' (List.mem_cons_of_mem _ he')) (by rw [put_size]; exact hb)
        refine ⟨r1, by rw [List.foldl_cons, r2, put_defers'], fun d hd => ?_⟩
        rw [List.foldl_cons, r3 d hd]
        by_cases hL : ∃ e' ∈ L, (l.toArray[e'.j]?).bind (·.dst) = some d
        · rw [if_pos hL, if_pos]
          obtain ⟨e', he', hx⟩ := hL
          exact ⟨e', List.mem_cons_of_mem _ he', hx⟩
        · rw [if_neg hL, hbind, put_getD]
          by_cases hdd : d0 = d
          · subst hdd
            rw [if_pos ⟨rfl, by rw [hb]; exact hd⟩, if_pos ⟨e, by simp, hbind⟩]
            rw [h.s1 e.j o d0 hjn ho hd0 hd (hall _ hjn)]
            unfold vOf
            rw [if_pos (List.any_eq_true.2 ⟨e, hmem e (by simp), by simp⟩)]
          · rw [if_neg (fun hx => hdd hx.1), if_neg]
            rintro ⟨e', he', hx⟩
            rcases List.mem_cons.1 he' with h' | h'
            · subst h'
              rw [hbind] at hx
              exact hdd (Option.some.inj hx)
            · exact hL ⟨e', h', hx⟩
    obtain ⟨f1, f2, f3⟩ := hfold al aF (fun _ he => he) hkeep.1
    have hact : al.foldl (fun b e => b.put ((l.toArray[e.j]?).bind (·.dst)) (ptrTo (β e.j))) aF = a' := by
      have ht : (al.foldl (fun b e => b.put ((l.toArray[e.j]?).bind (·.dst)) (ptrTo (β e.j))) aF).tmps = a'.tmps := by
        apply Array.ext
        · rw [f1, h.size]
        · intro d hd1 hd2
          have hda : d < a.tmps.size := by rw [← h.size]; exact hd2
          have e1 := f3 d hda
          rw [Array.getD_eq_getD_getElem?, Array.getElem?_eq_getElem hd1, Option.getD_some] at e1
          have e2 : a'.tmps.getD d undef = a'.tmps[d] := by rw [Array.getD_eq_getD_getElem?, Array.getElem?_eq_getElem hd2, Option.getD_some]
          refine (e1.trans ?_).trans e2
          by_cases hno : ∃ e ∈ al, (l.toArray[e.j]?).bind (·.dst) = some d
          · rw [if_pos hno]
          · rw [if_neg hno]
            by_cases hwr : ∃ k o, k < n ∧ l.toArray[k]? = some o ∧ o.dst = some d
            · obtain ⟨k, o, hk, ho, hdst⟩ := hwr
              rw [h.s1 k o d hk ho hdst hda (hall k hk)]
              unfold vOf
              rw [if_neg]
              intro hany
              obtain ⟨e, he, hej⟩ := List.any_eq_true.1 hany
              simp only [beq_iff_eq] at hej
              subst hej
              exact hno ⟨e, he, by rw [ho]; exact hdst⟩
            · rw [h.s2 d fun k o hk ho _ hdst => hwr ⟨k, o, hk, ho, hdst⟩]
              exact hkeep.2.2 d fun i o ho _ hdst => by
                have hi : i < n := by
                  have := (List.getElem?_eq_some_iff.1 ho).1
                  simp only [List.length_take] at this
                  omega
                rw [List.getElem?_take, if_pos hi] at ho
                exact hwr ⟨i, o, hi, by simpa using ho, hdst⟩
      have hdf : (al.foldl (fun b e => b.put ((l.toArray[e.j]?).bind (·.dst)) (ptrTo (β e.j))) aF).defers = a'.defers := by
        rw [f2, hkeep.2.1, h.defers]
      generalize al.foldl (fun b e => b.put ((l.toArray[e.j]?).bind (·.dst)) (ptrTo (β e.j))) aF = r at ht hdf
      cases r; cases a'
      simp only at ht hdf
      subst ht hdf
      rfl
    rw [hact] at H
    exact H
  have hendT : ∀ listed a' w' β, Head l.toArray n al aF a w0 listed a' w' β → (∀ i, i < n → listed.getD i false = true) →
      (∀ i, i < l.toArray.size → (listed.getD i false = true ↔ i < n)) := fun listed a' w' β h hall i hi => by
    constructor
    · intro hl
      rcases Nat.lt_or_ge i n with h' | h'
      · exact h'
      · have := h.inv.tail i h' hi
        rw [getD_both this] at hl
        cases hl
    · exact hall i
  let Inv : Array Bool → Act → World → Prop := fun listed a' w' =>
    (∃ β, Head l.toArray n al aF a w0 listed a' w' β) ∨
    ∃ k, n ≤ k ∧ k ≤ l.toArray.size ∧ (∀ i, i < l.toArray.size → (listed.getD i false = true ↔ i < k)) ∧ wpList P l.toArray Q (l.drop k) a' w'
  have htailStep : ∀ listed a' w' i k, listed.size = l.toArray.size → i ∈ Region.ready .any l.toArray listed → n ≤ k → k ≤ l.toArray.size →
      (∀ i, i < l.toArray.size → (listed.getD i false = true ↔ i < k)) → wpList P l.toArray Q (l.drop k) a' w' → wpOp P l.toArray Q i (Inv (listed.setIfInBounds i true)) a' w' := by
    intro listed a' w' i k hz hr hk hks hl h
    have hin := in_of_unlisted (mem_ready.1 hr).1
    have hik : i = k := by
      rcases ok.tail with hn | ⟨_, hc⟩
      · exfalso
        have h1 : listed.getD i false = false := getD_both (mem_ready.1 hr).1
        have h2 : listed.getD i false = true := (hl i (by omega)).2 (by omega)
        rw [h1] at h2
        cases h2
      · exact tail_next hc hk hz hl hr
    subst hik
    obtain ⟨o, ho⟩ : ∃ o, l.toArray[i]? = some o := ⟨_, Array.getElem?_eq_getElem (by omega)⟩
    have hol : l[i]? = some o := by simpa using ho
    have hlt : i < l.length := (List.getElem?_eq_some_iff.1 hol).1
    have hdrop : l.drop i = o :: l.drop (i + 1) := by
      rw [List.drop_eq_getElem_cons hlt]
      rw [List.getElem?_eq_getElem hlt] at hol
      rw [Option.some.inj hol]
    rw [hdrop] at h
    have hwp : wpOp P l.toArray Q i (wpList P l.toArray Q (l.drop (i + 1))) a' w' := by
      unfold wpOp
      simp only [ho]
      exact h
    refine wpOp_mono (fun a2 w2 h2 => .inr ⟨i + 1, by omega, by simp; omega, fun j hj => ?_, h2⟩) hwp
    rw [getD_set_iff hin, hl j hj]
    omega
  refine wp_region_inv (Inv := Inv) hm (.inl ⟨fun _ => 0, ?_⟩) ?_ ?_
  · refine ⟨⟨by simp, fun j oj _ hl => (by rw [getD_replicate_false] at hl; cases hl), fun t _ ht => getD_in (by simpa using ht) (getD_replicate_false _ _)⟩, rfl, rfl, ?_, fun _ _ => rfl, Below.refl _ _, ?_, ?_⟩
    · intro k o d _ _ _ _ hl
      rw [getD_replicate_false] at hl
      cases hl
    · intro e _ hl
      rw [getD_replicate_false] at hl
      cases hl
    · intro e _ e' _ hl
      rw [getD_replicate_false] at hl
      cases hl
  · intro listed a' w' i hz hinv hr
    rcases hinv with ⟨β, h⟩ | ⟨k, hk, hks, hl, h⟩
    · by_cases hall : ∀ i, i < n → listed.getD i false = true
      · exact htailStep listed a' w' i n hz hr (Nat.le_refl _) ok.n_le (hendT _ _ _ _ h hall) (hend _ _ _ _ h hall)
      · have hin : i < n := by
          rcases Nat.lt_or_ge i n with h' | h'
          · exact h'
          · exfalso
            obtain ⟨j, hj, hjl⟩ : ∃ j, j < n ∧ listed.getD j false = false := by
              by_cases hx : ∃ j, j < n ∧ listed.getD j false = false
              · exact hx
              · exfalso
                apply hall
                intro j hj
                cases hjl : listed.getD j false with
                | true => rfl
                | false => exact absurd ⟨j, hj, hjl⟩ hx
            have hsz' := in_of_unlisted (mem_ready.1 hr).1
            rcases ok.tail with hn | ⟨hs, hc⟩
            · omega
            · exact tail_waits hs hc (by omega) h.inv _ j rfl hj (getD_in (by omega) hjl) i h' hr
        obtain ⟨hun, oi, hoi, _⟩ := mem_ready.1 hr
        refine wpOp_mono (fun _ _ h => .inl h) ?_
        cases hsk : skp al i with
        | false => exact head_quiet ok hq0 h hz hr hin hoi hsk
        | true =>
          obtain ⟨e, he, hor⟩ := List.any_eq_true.1 hsk
          simp only [Bool.or_eq_true, beq_iff_eq] at hor
          rcases hor with rfl | rfl
          · exact head_alloc ok hA h hz he hr
          · exact head_store ok hsz hq0 hS h hz he hr
    · exact htailStep listed a' w' i k hz hr hk hks hl h
  · intro listed a' w' hz hinv hr
    have hall := all_listed ok.back hz hr
    rcases hinv with ⟨β, h⟩ | ⟨k, hk, hks, hl, h⟩
    · have hall' : ∀ i, i < n → listed.getD i false = true := fun i hi => hall i (by have := ok.n_le; omega)
      have h2 := hend _ _ _ _ h hall'
      have hn : n = l.toArray.size := by
        rcases Nat.lt_or_ge n l.toArray.size with h' | h'
        · have := (hendT _ _ _ _ h hall' n h').1 (hall n h')
          omega
        · have := ok.n_le; omega
      rw [List.drop_eq_nil_of_le (by rw [hn]; simp)] at h2
      exact h2
    · have hn : k = l.toArray.size := by
        rcases Nat.lt_or_ge k l.toArray.size with h' | h'
        · have := (hl k h').1 (hall k h')
          omega
        · omega
      rw [List.drop_eq_nil_of_le (by rw [hn]; simp)] at h
      exact h
end par
end Go.Proofs.Yteebobbhhgmeiaa
