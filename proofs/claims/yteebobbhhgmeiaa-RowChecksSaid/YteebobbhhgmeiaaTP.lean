/- A region that draws its order, in which calls hand back new things: whatever order it is, it comes to what one order comes to. -/
import Derived.Test.YteebobbhhgmeiaaPar
namespace Go.Proofs.Yteebobbhhgmeiaa
open Go.RowKit

section canon
def UponV (P : Program) (K : Value → World → Prop) : Result Next → Prop
  | .ok (.value v) w' => K v w'
  | .ok .skip w' => K undef w'
  | .ok (.enter f args) w' => Calls P f args w' fun e w'' => ∃ v, e = .returned v ∧ K v w''
  | _ => False
theorem wp_uponV {P : Program} {o : Oper} {a : Act} {w : World} {K : Act → World → Prop} {Q : Exit → Act → World → Prop} (h : UponV P (fun v w' => K (a.put o.dst v) w') ((execOp a.eval o).run P w)) : o.wp P a w K Q := by
  unfold Oper.wp
  generalize (execOp a.eval o).run P w = r at *
  cases r with
  | halt x w => exact h.elim
  | ok n w =>
    cases n <;> simp only [UponV] at h <;> simp only [Oper.upon]
    case value u => exact h
    case skip => exact h
    case enter f args => exact h.mono fun e w'' ⟨v, he, hk⟩ => by subst he; exact hk

theorem uponV_mono {P : Program} {K K' : Value → World → Prop} {r : Result Next} (h : UponV P K r) (hk : ∀ v w, K v w → K' v w) : UponV P K' r := by
  cases r with
  | halt x w => exact h
  | ok n w =>
    cases n <;> first | exact h | (exact hk _ _ h) | skip
    case enter f args =>
      exact Calls.mono (P := P) h fun e w'' hh => by
        obtain ⟨v, he, hv⟩ := hh
        exact ⟨v, he, hk _ _ hv⟩
theorem wp_upon' {P : Program} {o : Oper} {a : Act} {R : World} {v : Value} {K : Act → World → Prop} {Q : Exit → Act → World → Prop} (h : Oper.quietUpon P (fun R' => Below R.heap.size R R') R v ((execOp a.eval o).run P R))
    (hk : ∀ R', Below R.heap.size R R' → K (a.put o.dst v) R') : o.wp P a R K Q := by
  have hr : Below R.heap.size R R := Below.refl _ _
  unfold Oper.wp
  generalize (execOp a.eval o).run P R = r at *
  cases r with
  | halt x w => exact h.elim
  | ok n w =>
    cases n <;> simp only [Oper.quietUpon] at h <;> simp only [Oper.upon]
    case value u =>
      obtain ⟨e1, e2⟩ := h
      rw [e1, e2]
      exact hk _ hr
    case skip =>
      obtain ⟨e1, e2⟩ := h
      rw [e1, ← e2]
      exact hk _ hr
    case enter f args =>
      obtain ⟨e1, hc⟩ := h
      rw [e1]
      exact hc.mono fun e w'' ⟨he, hw''⟩ => by subst he; exact hk _ hw''

/-- What operations wait for, and what that waits for. -/
def newB (seen : List Nat) : List Edge → List Nat
  | [] => []
  | e :: r => bif Region.binds .any e && !(seen.any (Nat.beq e.on)) then e.on :: newB seen r else newB seen r
def reachB (ops : Array Oper) : Nat → List Nat → List Nat → List Nat
  | 0, _, seen => seen
  | _ + 1, [], seen => seen
  | n + 1, i :: r, seen => match ops[i]? with
    | some o => reachB ops n (newB seen o.after.toList ++ r) (newB seen o.after.toList ++ seen)
    | none => reachB ops n r seen
/-- An operation waits for another one, or for one that does. -/
def waitsB (ops : Array Oper) (i j : Nat) : Bool := Region.waitsFor .any ops i j || (reachB ops (ops.size + 2) [i] []).any (Nat.beq j)
theorem newB_mem {seen : List Nat} {k : Nat} : ∀ {l : List Edge}, k ∈ newB seen l → ∃ e ∈ l, Region.binds .any e = true ∧ e.on = k
  | [], h => by cases h
  | e :: r, h => by
    unfold newB at h
    cases hc : (Region.binds .any e && !(seen.any (Nat.beq e.on))) with
    | true =>
      rw [hc] at h
      rcases List.mem_cons.1 h with rfl | h
      · exact ⟨e, List.mem_cons_self .., (Bool.and_eq_true_iff.1 hc).1, rfl⟩
      · obtain ⟨e', h1, h2⟩ := newB_mem h
        exact ⟨e', List.mem_cons_of_mem _ h1, h2⟩
    | false =>
      rw [hc] at h
      obtain ⟨e', h1, h2⟩ := newB_mem h
      exact ⟨e', List.mem_cons_of_mem _ h1, h2⟩
theorem reachB_listed {ops : Array Oper} {m : Nat} {listed : Array Bool} (hi : HeadInv .any ops m listed) : ∀ (n : Nat) (fr seen : List Nat),
    (∀ k ∈ fr, ∀ o, ops[k]? = some o → ∀ e ∈ o.after, Region.binds .any e = true → listed.getD e.on false = true) → (∀ k ∈ seen, listed.getD k false = true) → ∀ k ∈ reachB ops n fr seen, listed.getD k false = true
  | 0, _, _, _, h2, k, hk => h2 k hk
  | _ + 1, [], _, _, h2, k, hk => h2 k hk
  | n + 1, i :: r, seen, h1, h2, k, hk => by
    unfold reachB at hk
    cases ho : ops[i]? with
    | none =>
      rw [ho] at hk
      exact reachB_listed hi n r seen (fun k hk => h1 k (List.mem_cons_of_mem _ hk)) h2 k hk
    | some o =>
      rw [ho] at hk
      have hnew : ∀ k ∈ newB seen o.after.toList, listed.getD k false = true := fun k hk => by
        obtain ⟨e, he, hb, rfl⟩ := newB_mem hk
        exact h1 i (List.mem_cons_self ..) o ho e (Array.mem_toList_iff.1 he) hb
      refine reachB_listed hi n _ _ (fun k hk o' ho' e he hb => ?_) (fun k hk => ?_) k hk
      · rcases List.mem_append.1 hk with hk | hk
        · exact hi.closed k o' ho' (hnew k hk) e he hb
        · exact h1 k (List.mem_cons_of_mem _ hk) o' ho' e he hb
      · rcases List.mem_append.1 hk with hk | hk
        · exact hnew k hk
        · exact h2 k hk
theorem waitsB_listed {ops : Array Oper} {m : Nat} {listed : Array Bool} (hi : HeadInv .any ops m listed) {i j : Nat} {o : Oper} (h : waitsB ops i j = true) (ho : ops[i]? = some o) (hall : ∀ e ∈ o.after, Region.binds .any e = true → listed.getD e.on false = true) : listed.getD j false = true := by
  rcases Bool.or_eq_true_iff.1 h with h1 | h1
  · exact waits_listed h1 ho hall
  · obtain ⟨k, hk, hb⟩ := List.any_eq_true.1 h1
    rw [Nat.eq_of_beq_eq_true hb]
    refine reachB_listed hi _ [i] [] (fun k hk o' ho' => ?_) (fun k hk => by cases hk) k hk
    obtain rfl := List.mem_singleton.1 hk
    obtain rfl := Option.some.inj (ho.symm.trans ho')
    exact hall
structure Canon (ops : Array Oper) (n : Nat) (ix : Nat → Nat) (M : Nat → Bool) : Prop where
  back : backB ops = true
  nosel : Region.noSelect ops = true
  lt : ∀ k, k < n → ix k < ops.size
  inj : ∀ j k, j < k → k < n → ix j ≠ ix k
  sur : ∀ i, i < ops.size → ∃ k, k < n ∧ ix k = i
  dst : ∀ j k o o' d, j < k → k < n → ops[ix j]? = some o → ops[ix k]? = some o' → o.dst = some d → o'.dst ≠ some d
  ord : ∀ j k o o' d, j < k → k < n → ops[ix j]? = some o → ops[ix k]? = some o' → (o.dst = some d ∧ d ∈ o'.looksAt ops ∨ o'.dst = some d ∧ d ∈ o.looksAt ops) → Region.waitsFor .any ops (ix k) (ix j) = true
  mop : ∀ j k, j < k → k < n → M j = true → waitsB ops (ix k) (ix j) = true

variable {P : Program} {ops : Array Oper} {n : Nat} {ix : Nat → Nat} {M : Nat → Bool} {a0 : Act}

def canA (ops : Array Oper) (ix : Nat → Nat) (a0 : Act) (V : Nat → Value) : Nat → Act
  | 0 => a0
  | k + 1 => (canA ops ix a0 V k).put ((ops[ix k]?).bind (·.dst)) (V k)
theorem canA_congr {V V' : Nat → Value} : ∀ {k}, (∀ j, j < k → V' j = V j) → canA ops ix a0 V' k = canA ops ix a0 V k
  | 0, _ => rfl
  | k + 1, h => by
    unfold canA
    rw [canA_congr fun j hj => h j (by omega), h k (by omega)]
theorem canA_size {V : Nat → Value} : ∀ k, (canA ops ix a0 V k).tmps.size = a0.tmps.size
  | 0 => rfl
  | k + 1 => by unfold canA; rw [put_size, canA_size k]
theorem canA_defers {V : Nat → Value} : ∀ k, (canA ops ix a0 V k).defers = a0.defers
  | 0 => rfl
  | k + 1 => by unfold canA; rw [put_defers', canA_defers k]
theorem canA_get (ok : Canon ops n ix M) {V : Nat → Value} {t : Nat} : ∀ k, k ≤ n →
    (∀ j o, j < k → ops[ix j]? = some o → o.dst = some t → t < a0.tmps.size → (canA ops ix a0 V k).tmps.getD t undef = V j) ∧
    ((∀ j o, j < k → ops[ix j]? = some o → o.dst ≠ some t) → (canA ops ix a0 V k).tmps.getD t undef = a0.tmps.getD t undef)
  | 0, _ => ⟨fun j _ hj => by omega, fun _ => rfl⟩
  | k + 1, hk => by
    obtain ⟨h1, h2⟩ := canA_get ok (V := V) (t := t) k (by omega)
    obtain ⟨ok', hok'⟩ : ∃ o, ops[ix k]? = some o := ⟨_, Array.getElem?_eq_getElem (ok.lt k (by omega))⟩
    have hstep : canA ops ix a0 V (k + 1) = (canA ops ix a0 V k).put ok'.dst (V k) := by
      show (canA ops ix a0 V k).put ((ops[ix k]?).bind (·.dst)) (V k) = _
      rw [hok']; rfl
    rw [hstep]
    refine ⟨fun j o hj ho hd hlt => ?_, fun hno => ?_⟩
    · by_cases hjk : j = k
      · subst hjk
        have : o = ok' := Option.some.inj (ho.symm.trans hok')
        subst this
        rw [hd, put_getD, if_pos ⟨rfl, by rw [canA_size]; exact hlt⟩]
      · have hne := ok.dst j k o ok' t (by omega) (by omega) ho hok' hd
        rw [← h1 j o (by omega) ho hd hlt]
        cases hdk : ok'.dst with
        | none => rfl
        | some d =>
          rw [put_getD, if_neg]
          rintro ⟨rfl, _⟩
          exact hne hdk
    · rw [← h2 fun j o hj ho => hno j o (by omega) ho]
      have hne := hno k ok' (by omega) hok'
      cases hdk : ok'.dst with
      | none => rfl
      | some d =>
        rw [put_getD, if_neg]
        rintro ⟨rfl, _⟩
        exact hne hdk

def Pend (P : Program) (ops : Array Oper) (ix : Nat → Nat) (a0 : Act) (V : Nat → Value) (w : World) (k : Nat) : Prop := ∀ o, ops[ix k]? = some o →
  (Region.wanted o (yielded ops (canA ops ix a0 V k).tmps) = true ∧ ∀ w', Below w.heap.size w w' → Oper.quietUpon P (fun w'' => Below w'.heap.size w' w'') w' (V k) ((execOp (canA ops ix a0 V k).eval o).run P w')) ∨
  (Region.wanted o (yielded ops (canA ops ix a0 V k).tmps) = false ∧ V k = undef)
theorem Pend.grow {V : Nat → Value} {w w1 : World} {k : Nat} (h : Pend P ops ix a0 V w k) (hb : Below w.heap.size w w1) : Pend P ops ix a0 V w1 k := fun o ho => by
  rcases h o ho with ⟨h1, h2⟩ | h1
  · exact .inl ⟨h1, fun w' hw' => h2 w' (hb.trans (hw'.mono hb.size))⟩
  · exact .inr h1
theorem Pend.congr {V V' : Nat → Value} {w : World} {k : Nat} (h : Pend P ops ix a0 V w k) (he : ∀ j, j ≤ k → V' j = V j) : Pend P ops ix a0 V' w k := by
  unfold Pend
  rw [canA_congr fun j hj => he j (by omega), he k (Nat.le_refl _)]
  exact h

variable {S : Nat → Act → World → Prop}
variable (hq : ∀ k A w, k < n → M k = false → S k A w → ∀ o, ops[ix k]? = some o → ∃ v, S (k + 1) (A.put o.dst v) w ∧
    ((Region.wanted o (yielded ops A.tmps) = true ∧ ∀ w', Below w.heap.size w w' → Oper.quietUpon P (fun w'' => Below w'.heap.size w' w'') w' v ((execOp A.eval o).run P w')) ∨ (Region.wanted o (yielded ops A.tmps) = false ∧ v = undef)))
include hq
/-- The quiet operations ahead of the next one that is not. -/
theorem canon_on (ok : Canon ops n ix M) {w : World} : ∀ (m p : Nat) (V : Nat → Value), n - p = m → p ≤ n → S p (canA ops ix a0 V p) w →
    ∃ p' V', p ≤ p' ∧ p' ≤ n ∧ (∀ j, j < p → V' j = V j) ∧ S p' (canA ops ix a0 V' p') w ∧ (p' = n ∨ (p' < n ∧ M p' = true)) ∧ ∀ k, p ≤ k → k < p' → Pend P ops ix a0 V' w k
  | 0, p, V, hm, hp, hS => ⟨p, V, Nat.le_refl _, hp, fun _ _ => rfl, hS, .inl (by omega), fun k h1 h2 => by omega⟩
  | m + 1, p, V, hm, hp, hS => by
    have hpn : p < n := by omega
    cases hM : M p with
    | true => exact ⟨p, V, Nat.le_refl _, hp, fun _ _ => rfl, hS, .inr ⟨hpn, hM⟩, fun k h1 h2 => by omega⟩
    | false =>
      obtain ⟨o, ho⟩ : ∃ o, ops[ix p]? = some o := ⟨_, Array.getElem?_eq_getElem (ok.lt p hpn)⟩
      obtain ⟨v, hS', hv⟩ := hq p _ w hpn hM hS o ho
      let V1 : Nat → Value := fun j => if j = p then v else V j
      have e1 : ∀ j, j < p → V1 j = V j := fun j hj => if_neg (by omega)
      have e2 : V1 p = v := if_pos rfl
      have e3 : canA ops ix a0 V1 p = canA ops ix a0 V p := canA_congr e1
      have e4 : canA ops ix a0 V1 (p + 1) = (canA ops ix a0 V p).put o.dst v := by
        show (canA ops ix a0 V1 p).put ((ops[ix p]?).bind (·.dst)) (V1 p) = _
        rw [e3, e2, ho]; rfl
      obtain ⟨p', V', h1, h2, h3, h4, h5, h6⟩ := canon_on ok m (p + 1) V1 (by omega) (by omega) (by rw [e4]; exact hS')
      refine ⟨p', V', by omega, h2, fun j hj => (h3 j (by omega)).trans (e1 j hj), h4, h5, fun k hk1 hk2 => ?_⟩
      by_cases hkp : k = p
      · subst hkp
        have hpd : Pend P ops ix a0 V1 w k := fun o' ho' => by
          have : o' = o := Option.some.inj (ho'.symm.trans ho)
          subst this
          rw [e3, e2]
          exact hv
        exact hpd.congr fun j hj => h3 j (by omega)
      · exact h6 k (by omega) hk2
omit hq

structure CInv (P : Program) (ops : Array Oper) (n : Nat) (ix : Nat → Nat) (M : Nat → Bool) (S : Nat → Act → World → Prop) (a0 : Act) (listed : Array Bool) (a : Act) (w : World) (p : Nat) (V : Nat → Value) : Prop where
  inv : HeadInv .any ops ops.size listed
  le : p ≤ n
  st : S p (canA ops ix a0 V p) w
  next : p = n ∨ (p < n ∧ M p = true ∧ listed.getD (ix p) false = false)
  pend : ∀ k, k < p → listed.getD (ix k) false = false → Pend P ops ix a0 V w k
  rest : ∀ k, p ≤ k → k < n → listed.getD (ix k) false = false
  defers : a.defers = a0.defers
  size : a.tmps.size = a0.tmps.size
  s1 : ∀ k o d, k < n → ops[ix k]? = some o → o.dst = some d → d < a0.tmps.size → listed.getD (ix k) false = true → a.tmps.getD d undef = V k
  s2 : ∀ d, (∀ k o, k < n → ops[ix k]? = some o → listed.getD (ix k) false = true → o.dst ≠ some d) → a.tmps.getD d undef = a0.tmps.getD d undef

variable {listed : Array Bool} {a : Act} {w : World} {p : Nat} {V : Nat → Value}
/-- A slot that an operation looks at, when it comes up. -/
theorem CInv.slot (ok : Canon ops n ix M) (h : CInv P ops n ix M S a0 listed a w p V) {k : Nat} {o : Oper} (hk : k < n) (ho : ops[ix k]? = some o) (hun : listed.getD (ix k) false = false)
    (hall : ∀ e ∈ o.after, Region.binds .any e = true → listed.getD e.on false = true) {t : Nat} (ht : t ∈ o.looksAt ops) : a.tmps.getD t undef = (canA ops ix a0 V k).tmps.getD t undef := by
  obtain ⟨l1, l2⟩ := canA_get ok (V := V) (a0 := a0) (t := t) k (by omega)
  by_cases hw : ∃ j o', j < n ∧ ops[ix j]? = some o' ∧ o'.dst = some t
  · obtain ⟨j, o', hj, ho', hd⟩ := hw
    have huniq : ∀ j' o'', j' < n → ops[ix j']? = some o'' → o''.dst = some t → j' = j := by
      intro j' o'' hj' ho'' hd''
      rcases Nat.lt_trichotomy j' j with hlt | heq | hgt
      · exact absurd hd (ok.dst j' j o'' o' t hlt hj ho'' ho' hd'')
      · exact heq
      · exact absurd hd'' (ok.dst j j' o' o'' t hgt hj' ho' ho'' hd)
    rcases Nat.lt_or_ge j k with hlt | hge
    · have hl := waits_listed (ok.ord j k o' o t hlt hk ho' ho (.inl ⟨hd, ht⟩)) ho hall
      by_cases hts : t < a0.tmps.size
      · rw [h.s1 j o' t hj ho' hd hts hl, l1 j o' hlt ho' hd hts]
      · have e1 : a.tmps.getD t undef = undef := by
          rw [Array.getD_eq_getD_getElem?, Array.getElem?_eq_none (by rw [h.size]; exact Nat.le_of_not_lt hts)]; rfl
        have e2 : (canA ops ix a0 V k).tmps.getD t undef = undef := by
          rw [Array.getD_eq_getD_getElem?, Array.getElem?_eq_none (by rw [canA_size]; exact Nat.le_of_not_lt hts)]; rfl
        rw [e1, e2]
    · have hjl : listed.getD (ix j) false = false := by
        by_cases hjk : j = k
        · subst hjk; exact hun
        · cases hjl : listed.getD (ix j) false with
          | false => rfl
          | true =>
            have hwt := ok.ord k j o o' t (by omega) hj ho ho' (.inr ⟨hd, ht⟩)
            have := waits_listed hwt ho' (h.inv.closed (ix j) o' ho' hjl)
            rw [hun] at this
            cases this
      rw [h.s2 t fun j' o'' hj' ho'' hl' hd' => by
        obtain rfl := huniq j' o'' hj' ho'' hd'
        rw [hjl] at hl'
        cases hl']
      rw [l2 fun j' o'' hj' ho'' hd' => by
        have := huniq j' o'' (by omega) ho'' hd'
        omega]
  · rw [h.s2 t fun j o' hj ho' _ hd => hw ⟨j, o', hj, ho', hd⟩]
    rw [l2 fun j o' hj ho' hd => hw ⟨j, o', by omega, ho', hd⟩]

/-- One more is done. -/
theorem CInv.put (ok : Canon ops n ix M) (h : CInv P ops n ix M S a0 listed a w p V) {k : Nat} {o : Oper} (hk : k < n) (ho : ops[ix k]? = some o) (hr : ix k ∈ Region.ready .any ops listed) {v : Value} {w' : World} {p' : Nat} {V' : Nat → Value}
    (hp : p ≤ p') (hle : p' ≤ n) (hkp : k < p') (hst : S p' (canA ops ix a0 V' p') w') (hV : ∀ j, j < p → V' j = V j) (hv : V' k = v)
    (hnext : p' = n ∨ (p' < n ∧ M p' = true)) (hpend : ∀ j, j < p' → j ≠ k → listed.getD (ix j) false = false → Pend P ops ix a0 V' w' j) :
    CInv P ops n ix M S a0 (listed.setIfInBounds (ix k) true) (a.put o.dst v) w' p' V' := by
  have hin : ix k < listed.size := in_of_unlisted (mem_ready.1 hr).1
  have hix : ∀ j, j < n → ix j = ix k → j = k := fun j hj e => by
    rcases Nat.lt_trichotomy j k with hlt | heq | hgt
    · exact absurd e (ok.inj j k hlt hk)
    · exact heq
    · exact absurd e.symm (ok.inj k j hgt hj)
  have hrest : ∀ j, p' ≤ j → j < n → (listed.setIfInBounds (ix k) true).getD (ix j) false = false := fun j h1 h2 => by
    rw [getD_set_ne false (fun e => by have := hix j h2 e.symm; omega)]
    exact h.rest j (by omega) h2
  refine ⟨h.inv.set hr (ok.lt k hk), hle, hst, ?_, ?_, hrest, by rw [put_defers', h.defers], by rw [put_size, h.size], ?_, ?_⟩
  · rcases hnext with hn | ⟨h1, h2⟩
    · exact .inl hn
    · exact .inr ⟨h1, h2, hrest p' (Nat.le_refl _) h1⟩
  · intro j hj hl
    have hjk : j ≠ k := fun e => by
      subst e
      rw [(getD_set_iff hin).2 (.inl rfl)] at hl
      cases hl
    refine hpend j hj hjk ?_
    cases hjl : listed.getD (ix j) false with
    | false => rfl
    | true => rw [(getD_set_iff hin).2 (.inr hjl)] at hl; cases hl
  · intro j oj d hj hoj hd hlt hl
    by_cases hjk : j = k
    · subst hjk
      have : oj = o := Option.some.inj (hoj.symm.trans ho)
      subst this
      rw [hd, put_getD, if_pos ⟨rfl, by rw [h.size]; exact hlt⟩, hv]
    · have hl' := ((getD_set_iff hin).1 hl).resolve_left fun e => hjk (hix j hj e)
      have hjp : j < p := by
        rcases Nat.lt_or_ge j p with h' | h'
        · exact h'
        · rw [h.rest j h' hj] at hl'; cases hl'
      have hne : o.dst ≠ some d := by
        rcases Nat.lt_or_ge j k with hlt' | hge
        · exact ok.dst j k oj o d hlt' hk hoj ho hd
        · intro hdi
          exact ok.dst k j o oj d (by omega) hj ho hoj hdi hd
      have hx : (a.put o.dst v).tmps.getD d undef = a.tmps.getD d undef := by
        cases hdi : o.dst with
        | none => rfl
        | some e =>
          rw [put_getD, if_neg]
          rintro ⟨rfl, _⟩
          exact hne hdi
      rw [hx, h.s1 j oj d hj hoj hd hlt hl', hV j hjp]
  · intro d hno
    have hne : o.dst ≠ some d := hno k o hk ho ((getD_set_iff hin).2 (.inl rfl))
    have hx : (a.put o.dst v).tmps.getD d undef = a.tmps.getD d undef := by
      cases hdi : o.dst with
      | none => rfl
      | some e =>
        rw [put_getD, if_neg]
        rintro ⟨rfl, _⟩
        exact hne hdi
    rw [hx]
    exact h.s2 d fun j oj hj hoj hl => hno j oj hj hoj ((getD_set_iff hin).2 (.inr hl))

theorem act_ext {a b : Act} (hd : a.defers = b.defers) (hz : a.tmps.size = b.tmps.size) (ht : ∀ t, a.tmps.getD t undef = b.tmps.getD t undef) : a = b := by
  have : a.tmps = b.tmps := by
    apply Array.ext hz
    intro i h1 h2
    have := ht i
    simp only [Array.getD_eq_getD_getElem?, Array.getElem?_eq_getElem h1, Array.getElem?_eq_getElem h2, Option.getD_some] at this
    exact this
  cases a; cases b
  simp only at this hd
  subst this hd
  rfl

theorem wp_canon {id : Nat} {a : Act} {w : World} {Q : Exit → Act → World → Prop} (hm : P.follows .mixedOrders = true) (ok : Canon ops n ix M)
    (hq : ∀ k A w, k < n → M k = false → S k A w → ∀ o, ops[ix k]? = some o → ∃ v, S (k + 1) (A.put o.dst v) w ∧
      ((Region.wanted o (yielded ops A.tmps) = true ∧ ∀ w', Below w.heap.size w w' → Oper.quietUpon P (fun w'' => Below w'.heap.size w' w'') w' v ((execOp A.eval o).run P w')) ∨ (Region.wanted o (yielded ops A.tmps) = false ∧ v = undef)))
    (hmop : ∀ k A w, k < n → M k = true → S k A w → ∀ o, ops[ix k]? = some o → (Region.wanted o (yielded ops A.tmps) = true ∧ UponV P (fun v w' => (Below w.heap.size w w' ∨ ∀ j, j < k → waitsB ops (ix k) (ix j) = true ∨ ∀ V, canA ops ix a V k = A → Pend P ops ix a V w j → Pend P ops ix a V w' j) ∧ S (k + 1) (A.put o.dst v) w') ((execOp A.eval o).run P w)) ∨
      (Region.wanted o (yielded ops A.tmps) = false ∧ S (k + 1) (A.put o.dst undef) w))
    (hg : ∀ k A w w', S k A w → Below w.heap.size w w' → S k A w')
    (h0 : S 0 a w) (hF : ∀ A w', S n A w' → Q .normal A w') : (Code.region id ops true).wp P Q a w := by
  have hsel := Region.noSelect_spec ok.nosel
  refine wp_region_inv (Inv := fun listed a' w' => ∃ p V, CInv P ops n ix M S a listed a' w' p V) hm ?_ ?_ ?_
  · have h0' : S 0 (canA ops ix a (fun _ => undef) 0) { w with drawn := w.drawn + 1 } := hg _ _ _ _ h0 ⟨rfl, rfl, rfl, Nat.le_refl _, fun _ _ => rfl⟩
    obtain ⟨p, V, _, h2, _, h4, h5, h6⟩ := canon_on hq ok n 0 (fun _ => undef) rfl (Nat.zero_le _) h0'
    refine ⟨p, V, ⟨⟨by simp, fun j oj _ hl => (by rw [getD_replicate_false] at hl; cases hl), fun t _ ht => getD_in (by simpa using ht) (getD_replicate_false _ _)⟩, h2, h4, ?_, fun k hk _ => h6 k (Nat.zero_le _) hk, fun k _ _ => getD_replicate_false _ _, rfl, rfl, ?_, fun _ _ => rfl⟩⟩
    · rcases h5 with h | ⟨h, h'⟩
      · exact .inl h
      · exact .inr ⟨h, h', getD_replicate_false _ _⟩
    · intro k o d _ _ _ _ hl
      rw [getD_replicate_false] at hl
      cases hl
  · intro listed a' w' i hz hinv hr
    obtain ⟨p, V, h⟩ := hinv
    obtain ⟨hun, o, ho, hall⟩ := mem_ready.1 hr
    have hi : i < ops.size := (Array.getElem?_eq_some_iff.1 ho).1
    obtain ⟨k, hk, rfl⟩ := ok.sur i hi
    have hunk := getD_both hun
    have hslots : ∀ t ∈ o.looksAt ops, a'.tmps.getD t undef = (canA ops ix a V k).tmps.getD t undef := fun t ht => h.slot ok hk ho hunk hall ht
    have hex : execOp a'.eval o = execOp (canA ops ix a V k).eval o := execOp_slots o (fun cs b => hsel (ix k) o cs b ho) hslots
    have hwn := wanted_slots (ops := ops) o (by rw [h.size, canA_size] : a'.tmps.size = (canA ops ix a V k).tmps.size) hslots
    have hnext : p = n ∨ (p < n ∧ M p = true) := by
      rcases h.next with h1 | ⟨h1, h2, _⟩
      · exact .inl h1
      · exact .inr ⟨h1, h2⟩
    unfold wpOp
    simp only [ho]
    rcases Nat.lt_trichotomy k p with hlt | heq | hgt
    · have hdone : ∀ w'', Below w'.heap.size w' w'' → ∃ p V, CInv P ops n ix M S a (listed.setIfInBounds (ix k) true) (a'.put o.dst (V k)) w'' p V := fun w'' hb =>
        ⟨p, V, h.put ok hk ho hr (Nat.le_refl _) h.le hlt (hg _ _ _ _ h.st hb) (fun _ _ => rfl) rfl hnext fun j hj hne hl => (h.pend j hj hl).grow hb⟩
      have hdone' : ∀ w'', Below w'.heap.size w' w'' → ∃ p' V', CInv P ops n ix M S a (listed.setIfInBounds (ix k) true) (a'.put o.dst (V k)) w'' p' V' := fun w'' hb =>
        ⟨p, V, h.put ok hk ho hr (Nat.le_refl _) h.le hlt (hg _ _ _ _ h.st hb) (fun _ _ => rfl) rfl hnext fun j hj hne hl => (h.pend j hj hl).grow hb⟩
      rcases h.pend k hlt hunk o ho with ⟨h1, h2⟩ | ⟨h1, h2⟩
      · rw [if_pos (hwn.trans h1)]
        left
        refine wp_upon' (v := V k) ?_ hdone'
        rw [hex]
        exact h2 w' (Below.refl _ _)
      · rw [if_neg (by rw [hwn, h1]; exact Bool.false_ne_true)]
        have := hdone' w' (Below.refl _ _)
        rw [h2] at this
        exact this
    · subst heq
      have hMk : M k = true := by
        rcases hnext with h1 | ⟨_, h2⟩
        · omega
        · exact h2
      have main : ∀ v w'', (Below w'.heap.size w' w'' ∨ ∀ j, j < k → waitsB ops (ix k) (ix j) = true ∨ ∀ V1, canA ops ix a V1 k = canA ops ix a V k → Pend P ops ix a V1 w' j → Pend P ops ix a V1 w'' j) → S (k + 1) ((canA ops ix a V k).put o.dst v) w'' → ∃ p' V', CInv P ops n ix M S a (listed.setIfInBounds (ix k) true) (a'.put o.dst v) w'' p' V' := fun v w'' hb hS => by
        let V1 : Nat → Value := fun j => if j = k then v else V j
        have e1 : ∀ j, j < k → V1 j = V j := fun j hj => if_neg (by omega)
        have e2 : V1 k = v := if_pos rfl
        have e3 : canA ops ix a V1 k = canA ops ix a V k := canA_congr e1
        have e4 : canA ops ix a V1 (k + 1) = (canA ops ix a V k).put o.dst v := by
          show (canA ops ix a V1 k).put ((ops[ix k]?).bind (·.dst)) (V1 k) = _
          rw [e3, e2, ho]; rfl
        obtain ⟨p', V', g1, g2, g3, g4, g5, g6⟩ := canon_on hq ok (n - (k + 1)) (k + 1) V1 rfl (by omega) (by rw [e4]; exact hS)
        refine ⟨p', V', h.put ok hk ho hr (by omega) g2 (by omega) g4 (fun j hj => (g3 j (by omega)).trans (e1 j hj)) ((g3 k (by omega)).trans e2) g5 fun j hj hne hl => ?_⟩
        rcases Nat.lt_or_ge j k with hlt | hge
        · rcases hb with hb | hb
          · exact ((h.pend j hlt hl).grow hb).congr fun j' hj' => (g3 j' (by omega)).trans (e1 j' (by omega))
          · rcases hb j hlt with hb | hb
            · have := waitsB_listed h.inv hb ho hall
              rw [hl] at this
              cases this
            · exact (hb V rfl (h.pend j hlt hl)).congr fun j' hj' => (g3 j' (by omega)).trans (e1 j' (by omega))
        · exact g6 j (by omega) hj
      rcases hmop k _ w' hk hMk h.st o ho with ⟨h1, h2⟩ | ⟨h1, h2⟩
      · rw [if_pos (hwn.trans h1)]
        left
        refine wp_uponV ?_
        rw [hex]
        exact uponV_mono h2 fun v w'' ⟨hb, hS⟩ => main v w'' hb hS
      · rw [if_neg (by rw [hwn, h1]; exact Bool.false_ne_true)]
        exact main undef w' (.inl (Below.refl _ _)) h2
    · exfalso
      rcases h.next with h1 | ⟨h1, h2, h3⟩
      · omega
      · have := waitsB_listed h.inv (ok.mop p k hgt hk h2) ho hall
        rw [h3] at this
        cases this
  · intro listed a' w' hz hinv hr
    obtain ⟨p, V, h⟩ := hinv
    have hall := all_listed ok.back hz hr
    have hpn : p = n := by
      rcases h.next with h1 | ⟨h1, h2, h3⟩
      · exact h1
      · rw [hall (ix p) (ok.lt p h1)] at h3; cases h3
    subst hpn
    have : a' = canA ops ix a V p := act_ext (by rw [h.defers, canA_defers]) (by rw [h.size, canA_size]) fun t => by
      obtain ⟨l1, l2⟩ := canA_get ok (V := V) (a0 := a) (t := t) p (Nat.le_refl _)
      by_cases hw : ∃ j o', j < p ∧ ops[ix j]? = some o' ∧ o'.dst = some t
      · obtain ⟨j, o', hj, ho', hd⟩ := hw
        by_cases hts : t < a.tmps.size
        · rw [h.s1 j o' t hj ho' hd hts (hall _ (ok.lt j hj)), l1 j o' hj ho' hd hts]
        · have e1 : a'.tmps.getD t undef = undef := by
            rw [Array.getD_eq_getD_getElem?, Array.getElem?_eq_none (by rw [h.size]; exact Nat.le_of_not_lt hts)]; rfl
          have e2 : (canA ops ix a V p).tmps.getD t undef = undef := by
            rw [Array.getD_eq_getD_getElem?, Array.getElem?_eq_none (by rw [canA_size]; exact Nat.le_of_not_lt hts)]; rfl
          rw [e1, e2]
      · rw [h.s2 t fun j o' hj ho' _ hd => hw ⟨j, o', hj, ho', hd⟩, l2 fun j o' hj ho' hd => hw ⟨j, o', hj, ho', hd⟩]
    rw [this]
    exact hF _ _ h.st
end canon

/-! ### the order, and that it will do -/
def canonB (ops : Array Oper) (order : List Nat) (kinds : List Nat) (cm : Nat → Nat → Bool) : Bool :=
  backB ops && Region.noSelect ops && Nat.beq order.length ops.size && (List.range ops.size).all (fun i => order.contains i) && order.all (fun i => Nat.blt i ops.size) &&
  (List.range order.length).all fun k => (List.range k).all fun j => !(Nat.beq (order.getD j 0) (order.getD k 0)) &&
    (!Nat.blt 0 (kinds.getD j 0) || waitsB ops (order.getD k 0) (order.getD j 0)) && (!Nat.blt 1 (kinds.getD k 0) || (waitsB ops (order.getD k 0) (order.getD j 0) || cm j k)) &&
    match ops[order.getD j 0]?, ops[order.getD k 0]? with
    | some o, some o' => (match o.dst with | some d => o'.dst != some d | none => true) && (!seesB ops o o' || Region.waitsFor .any ops (order.getD k 0) (order.getD j 0))
    | _, _ => true
theorem canonB_ok {ops : Array Oper} {order kinds : List Nat} {cm : Nat → Nat → Bool} (h : canonB ops order kinds cm = true) : Canon ops order.length (fun k => order.getD k 0) (fun k => Nat.blt 0 (kinds.getD k 0)) ∧
    order.length = ops.size ∧ ∀ k, k < order.length → Nat.blt 1 (kinds.getD k 0) = true → ∀ j, j < k → waitsB ops (order.getD k 0) (order.getD j 0) = true ∨ cm j k = true := by
  simp only [canonB, Bool.and_eq_true] at h
  obtain ⟨⟨⟨⟨⟨h1, h2⟩, h3⟩, h4⟩, h5⟩, h6⟩ := h
  have hp : ∀ j k, j < k → k < order.length → _ := fun j k hjk hk => List.all_eq_true.1 (List.all_eq_true.1 h6 k (List.mem_range.2 hk)) j (List.mem_range.2 hjk)
  refine ⟨⟨h1, h2, fun k hk => ?_, fun j k hjk hk e => ?_, fun i hi => ?_, fun j k o o' d hjk hk ho ho' hd => ?_, fun j k o o' d hjk hk ho ho' hc => ?_, fun j k hjk hk hm => ?_⟩, Nat.eq_of_beq_eq_true h3, fun k hk hs j hjk => ?_⟩
  · have := List.all_eq_true.1 h5 (order.getD k 0) (by rw [List.getD_eq_getElem?_getD, List.getElem?_eq_getElem hk]; exact List.getElem_mem hk)
    exact Nat.le_of_ble_eq_true this
  · have := hp j k hjk hk
    simp only [Bool.and_eq_true] at this
    have h7 := this.1.1.1
    have e' : order.getD j 0 = order.getD k 0 := e
    rw [e'] at h7
    simp at h7
  · have := List.all_eq_true.1 h4 i (List.mem_range.2 hi)
    have hm : i ∈ order := by simpa using this
    obtain ⟨k, hk, he⟩ := List.getElem_of_mem hm
    exact ⟨k, hk, by rw [List.getD_eq_getElem?_getD, List.getElem?_eq_getElem hk]; exact he⟩
  · have := hp j k hjk hk
    simp only [Bool.and_eq_true, ho, ho'] at this
    have h7 := this.2.1
    simpa [hd] using h7
  · have := hp j k hjk hk
    simp only [Bool.and_eq_true, ho, ho'] at this
    have h7 := this.2.2
    have hs : seesB ops o o' = true := by
      unfold seesB
      rcases hc with ⟨hd, hm⟩ | ⟨hd, hm⟩
      · simp [hd, hm]
      · simp [hd, hm]
    simpa [hs] using h7
  · have := hp j k hjk hk
    simp only [Bool.and_eq_true] at this
    have h7 := this.1.1.2
    have hm' : Nat.blt 0 (kinds.getD j 0) = true := hm
    rw [hm'] at h7
    exact h7
  · have := hp j k hjk hk
    simp only [Bool.and_eq_true] at this
    have h7 := this.1.2
    rw [hs] at h7
    simpa using h7
end Go.Proofs.Yteebobbhhgmeiaa
