/- made by a program (rowgen.py): RowWrites: for every input the law returns true, and each argument reads behind the call as it read before. -/
import Derived.Test.YteebobbhhgmeiaaKRwa

namespace Go.Proofs.Yteebobbhhgmeiaa
open Go.RowKit
section canon
def UponV (P : Program) (K : Value → World → Prop) : Result Next → Prop
 | .ok (.value v) w' => K v w'
 | .ok .skip w' => K undef w'
 | .ok (.enter f args) w' => Calls P f args w' fun e w'' => ∃ v, e = .returned v ∧ K v w''
 | _ => False
theorem wp_uponV {P : Program} {o : Oper} {a : Act} {w : World} {K : Act → World → Prop} {Q : Exit → Act → World → Prop} (h : UponV P (fun v w' => K (a.put o.dst v) w') ((execOp a.eval o).run P w)) : o.wp P a w K Q := by
 unfold Oper.wp
 generalize (execOp a.eval o).run P w = r at *
 cases r with
 | halt x w => exact h.elim
 | ok n w =>
  cases n <;> simp only [UponV] at h <;> simp only [Oper.upon]
  case value u => exact h
  case skip => exact h
  case enter f args => exact h.mono fun e w'' ⟨v, he, hk⟩ => by subst he; exact hk
theorem uponV_mono {P : Program} {K K' : Value → World → Prop} {r : Result Next} (h : UponV P K r) (hk : ∀ v w, K v w → K' v w) : UponV P K' r := by
 cases r with
 | halt x w => exact h
 | ok n w =>
  cases n <;> first | exact h | (exact hk _ _ h) | skip
  case enter f args =>
   exact Calls.mono (P := P) h fun e w'' hh => by
    obtain ⟨v, he, hv⟩ := hh
    exact ⟨v, he, hk _ _ hv⟩
theorem wp_upon' {P : Program} {o : Oper} {a : Act} {R : World} {v : Value} {K : Act → World → Prop} {Q : Exit → Act → World → Prop} (h : Oper.quietUpon P (fun R' => Below R.heap.size R R') R v ((execOp a.eval o).run P R))
  (hk : ∀ R', Below R.heap.size R R' → K (a.put o.dst v) R') : o.wp P a R K Q := by
 have hr : Below R.heap.size R R := Below.refl _ _
 unfold Oper.wp
 generalize (execOp a.eval o).run P R = r at *
 cases r with
 | halt x w => exact h.elim
 | ok n w =>
  cases n <;> simp only [Oper.quietUpon] at h <;> simp only [Oper.upon]
  case value u =>
   obtain ⟨e1, e2⟩ := h
   rw [e1, e2]
   exact hk _ hr
  case skip =>
   obtain ⟨e1, e2⟩ := h
   rw [e1, ← e2]
   exact hk _ hr
  case enter f args =>
   obtain ⟨e1, hc⟩ := h
   rw [e1]
   exact hc.mono fun e w'' ⟨he, hw''⟩ => by subst he; exact hk _ hw''
def newB (seen : List Nat) : List Edge → List Nat
 | [] => []
 | e :: r => bif Region.binds .any e && !(seen.any (Nat.beq e.on)) then e.on :: newB seen r else newB seen r
def reachB (ops : Array Oper) : Nat → List Nat → List Nat → List Nat
 | 0, _, seen => seen
 | _ + 1, [], seen => seen
 | n + 1, i :: r, seen => match ops[i]? with
  | some o => reachB ops n (newB seen o.after.toList ++ r) (newB seen o.after.toList ++ seen)
  | none => reachB ops n r seen
def waitsB (ops : Array Oper) (i j : Nat) : Bool := Region.waitsFor .any ops i j || (reachB ops (ops.size + 2) [i] []).any (Nat.beq j)
theorem newB_mem {seen : List Nat} {k : Nat} : ∀ {l : List Edge}, k ∈ newB seen l → ∃ e ∈ l, Region.binds .any e = true ∧ e.on = k
 | [], h => by cases h
 | e :: r, h => by
  unfold newB at h
  cases hc : (Region.binds .any e && !(seen.any (Nat.beq e.on))) with
  | true =>
   rw [hc] at h
   rcases List.mem_cons.1 h with rfl | h
   ·exact ⟨e, List.mem_cons_self .., (Bool.and_eq_true_iff.1 hc).1, rfl⟩
   ·obtain ⟨e', h1, h2⟩ := newB_mem h
    exact ⟨e', List.mem_cons_of_mem _ h1, h2⟩
  | false =>
   rw [hc] at h
   obtain ⟨e', h1, h2⟩ := newB_mem h
   exact ⟨e', List.mem_cons_of_mem _ h1, h2⟩
theorem reachB_listed {ops : Array Oper} {m : Nat} {listed : Array Bool} (hi : HeadInv .any ops m listed) : ∀ (n : Nat) (fr seen : List Nat),
  (∀ k ∈ fr, ∀ o, ops[k]? = some o → ∀ e ∈ o.after, Region.binds .any e = true → listed.getD e.on false = true) → (∀ k ∈ seen, listed.getD k false = true) → ∀ k ∈ reachB ops n fr seen, listed.getD k false = true
 | 0, _, _, _, h2, k, hk => h2 k hk
 | _ + 1, [], _, _, h2, k, hk => h2 k hk
 | n + 1, i :: r, seen, h1, h2, k, hk => by
  unfold reachB at hk
  cases ho : ops[i]? with
  | none =>
   rw [ho] at hk
   exact reachB_listed hi n r seen (fun k hk => h1 k (List.mem_cons_of_mem _ hk)) h2 k hk
  | some o =>
   rw [ho] at hk
   have hnew : ∀ k ∈ newB seen o.after.toList, listed.getD k false = true := fun k hk => by
    obtain ⟨e, he, hb, rfl⟩ := newB_mem hk
    exact h1 i (List.mem_cons_self ..) o ho e (Array.mem_toList_iff.1 he) hb
   refine reachB_listed hi n _ _ (fun k hk o' ho' e he hb => ?_) (fun k hk => ?_) k hk
   ·rcases List.mem_append.1 hk with hk | hk
    ·exact hi.closed k o' ho' (hnew k hk) e he hb
    ·exact h1 k (List.mem_cons_of_mem _ hk) o' ho' e he hb
   ·rcases List.mem_append.1 hk with hk | hk
    ·exact hnew k hk
    ·exact h2 k hk
theorem waitsB_listed {ops : Array Oper} {m : Nat} {listed : Array Bool} (hi : HeadInv .any ops m listed) {i j : Nat} {o : Oper} (h : waitsB ops i j = true) (ho : ops[i]? = some o) (hall : ∀ e ∈ o.after, Region.binds .any e = true → listed.getD e.on false = true) : listed.getD j false = true := by
 rcases Bool.or_eq_true_iff.1 h with h1 | h1
 ·exact waits_listed h1 ho hall
 ·obtain ⟨k, hk, hb⟩ := List.any_eq_true.1 h1
  rw [Nat.eq_of_beq_eq_true hb]
  refine reachB_listed hi _ [i] [] (fun k hk o' ho' => ?_) (fun k hk => by cases hk) k hk
  obtain rfl := List.mem_singleton.1 hk
  obtain rfl := Option.some.inj (ho.symm.trans ho')
  exact hall
structure Canon (ops : Array Oper) (n : Nat) (ix : Nat → Nat) (M E : Nat → Bool) : Prop where
 back : backB ops = true
 nosel : Region.noSelect ops = true
 lt : ∀ k, k < n → ix k < ops.size
 inj : ∀ j k, j < k → k < n → ix j ≠ ix k
 sur : ∀ i, i < ops.size → ∃ k, k < n ∧ ix k = i
 dst : ∀ j k o o' d, j < k → k < n → ops[ix j]? = some o → ops[ix k]? = some o' → o.dst = some d → o'.dst ≠ some d
 ord : ∀ j k o o' d, j < k → k < n → ops[ix j]? = some o → ops[ix k]? = some o' → (o.dst = some d ∧ d ∈ o'.looksAt ops ∨ o'.dst = some d ∧ d ∈ o.looksAt ops) → Region.waitsFor .any ops (ix k) (ix j) = true
 mop : ∀ j k, j < k → k < n → M j = true → E k = false → waitsB ops (ix k) (ix j) = true
 em : ∀ k, k < n → E k = true → M k = true
variable {P : Program} {ops : Array Oper} {n : Nat} {ix : Nat → Nat} {M E : Nat → Bool} {a0 : Act}
def canA (ops : Array Oper) (ix : Nat → Nat) (a0 : Act) (V : Nat → Value) : Nat → Act
 | 0 => a0
 | k + 1 => (canA ops ix a0 V k).put ((ops[ix k]?).bind (·.dst)) (V k)
theorem canA_congr {V V' : Nat → Value} : ∀ {k}, (∀ j, j < k → V' j = V j) → canA ops ix a0 V' k = canA ops ix a0 V k
 | 0, _ => rfl
 | k + 1, h => by
  unfold canA
  rw [canA_congr fun j hj => h j (by omega), h k (by omega)]
theorem canA_size {V : Nat → Value} : ∀ k, (canA ops ix a0 V k).tmps.size = a0.tmps.size
 | 0 => rfl
 | k + 1 => by unfold canA; rw [put_size, canA_size k]
theorem canA_defers {V : Nat → Value} : ∀ k, (canA ops ix a0 V k).defers = a0.defers
 | 0 => rfl
 | k + 1 => by unfold canA; rw [put_defers', canA_defers k]
theorem canA_get (ok : Canon ops n ix M E) {V : Nat → Value} {t : Nat} : ∀ k, k ≤ n →
  (∀ j o, j < k → ops[ix j]? = some o → o.dst = some t → t < a0.tmps.size → (canA ops ix a0 V k).tmps.getD t undef = V j) ∧
  ((∀ j o, j < k → ops[ix j]? = some o → o.dst ≠ some t) → (canA ops ix a0 V k).tmps.getD t undef = a0.tmps.getD t undef)
 | 0, _ => ⟨fun j _ hj => by omega, fun _ => rfl⟩
 | k + 1, hk => by
  obtain ⟨h1, h2⟩ := canA_get ok (V := V) (t := t) k (by omega)
  obtain ⟨ok', hok'⟩ : ∃ o, ops[ix k]? = some o := ⟨_, Array.getElem?_eq_getElem (ok.lt k (by omega))⟩
  have hstep : canA ops ix a0 V (k + 1) = (canA ops ix a0 V k).put ok'.dst (V k) := by
   show (canA ops ix a0 V k).put ((ops[ix k]?).bind (·.dst)) (V k) = _
   rw [hok']; rfl
  rw [hstep]
  refine ⟨fun j o hj ho hd hlt => ?_, fun hno => ?_⟩
  ·by_cases hjk : j = k
   ·subst hjk
    have : o = ok' := Option.some.inj (ho.symm.trans hok')
    subst this
    rw [hd, put_getD, if_pos ⟨rfl, by rw [canA_size]; exact hlt⟩]
   ·have hne := ok.dst j k o ok' t (by omega) (by omega) ho hok' hd
    rw [← h1 j o (by omega) ho hd hlt]
    cases hdk : ok'.dst with
    | none => rfl
    | some d =>
     rw [put_getD, if_neg]
     rintro ⟨rfl, _⟩
     exact hne hdk
  ·rw [← h2 fun j o hj ho => hno j o (by omega) ho]
   have hne := hno k ok' (by omega) hok'
   cases hdk : ok'.dst with
   | none => rfl
   | some d =>
    rw [put_getD, if_neg]
    rintro ⟨rfl, _⟩
    exact hne hdk
def Pend (P : Program) (ops : Array Oper) (ix : Nat → Nat) (a0 : Act) (V : Nat → Value) (w : World) (k : Nat) : Prop := ∀ o, ops[ix k]? = some o →
 (Region.wanted o (yielded ops (canA ops ix a0 V k).tmps) = true ∧ ∀ w', Below w.heap.size w w' → Oper.quietUpon P (fun w'' => Below w'.heap.size w' w'') w' (V k) ((execOp (canA ops ix a0 V k).eval o).run P w')) ∨
 (Region.wanted o (yielded ops (canA ops ix a0 V k).tmps) = false ∧ V k = undef)
theorem Pend.grow {V : Nat → Value} {w w1 : World} {k : Nat} (h : Pend P ops ix a0 V w k) (hb : Below w.heap.size w w1) : Pend P ops ix a0 V w1 k := fun o ho => by
 rcases h o ho with ⟨h1, h2⟩ | h1
 ·exact .inl ⟨h1, fun w' hw' => h2 w' (hb.trans (hw'.mono hb.size))⟩
 ·exact .inr h1
theorem Pend.congr {V V' : Nat → Value} {w : World} {k : Nat} (h : Pend P ops ix a0 V w k) (he : ∀ j, j ≤ k → V' j = V j) : Pend P ops ix a0 V' w k := by
 unfold Pend
 rw [canA_congr fun j hj => he j (by omega), he k (Nat.le_refl _)]
 exact h
abbrev Aside := Nat → Option Value
def Aside.set (X : Aside) (k : Nat) (v : Value) : Aside := fun j => if j = k then some v else X j
variable {S : Nat → Aside → Act → World → Prop}
variable (hq : ∀ k X A w, k < n → M k = false → S k X A w → ∀ o, ops[ix k]? = some o → ∃ v, S (k + 1) X (A.put o.dst v) w ∧
  ((Region.wanted o (yielded ops A.tmps) = true ∧ ∀ w', Below w.heap.size w w' → Oper.quietUpon P (fun w'' => Below w'.heap.size w' w'') w' v ((execOp A.eval o).run P w')) ∨ (Region.wanted o (yielded ops A.tmps) = false ∧ v = undef)))
 (hu : ∀ k X A w v, k < n → E k = true → X k = some v → S k X A w → ∀ o, ops[ix k]? = some o → S (k + 1) X (A.put o.dst v) w)
include hq hu
theorem canon_on (ok : Canon ops n ix M E) {w : World} {X : Aside} (L : Nat → Bool) : ∀ (m p : Nat) (V : Nat → Value), n - p = m → p ≤ n → (∀ k, p ≤ k → k < n → L k = true → E k = true ∧ X k = some (V k)) → S p X (canA ops ix a0 V p) w →
  ∃ p' V', p ≤ p' ∧ p' ≤ n ∧ (∀ j, j < p → V' j = V j) ∧ (∀ j, j < n → L j = true → V' j = V j) ∧ S p' X (canA ops ix a0 V' p') w ∧ (p' = n ∨ (p' < n ∧ M p' = true ∧ L p' = false)) ∧ ∀ k, p ≤ k → k < p' → L k = false → Pend P ops ix a0 V' w k
 | 0, p, V, hm, hp, _, hS => ⟨p, V, Nat.le_refl _, hp, fun _ _ => rfl, fun _ _ _ => rfl, hS, .inl (by omega), fun k h1 h2 => by omega⟩
 | m + 1, p, V, hm, hp, hL, hS => by
  have hpn : p < n := by omega
  obtain ⟨o, ho⟩ : ∃ o, ops[ix p]? = some o := ⟨_, Array.getElem?_eq_getElem (ok.lt p hpn)⟩
  cases hl : L p with
  | true =>
   obtain ⟨hE, hX⟩ := hL p (Nat.le_refl _) hpn hl
   have hS' := hu p X _ w _ hpn hE hX hS o ho
   have e4 : canA ops ix a0 V (p + 1) = (canA ops ix a0 V p).put o.dst (V p) := by
    show (canA ops ix a0 V p).put ((ops[ix p]?).bind (·.dst)) (V p) = _
    rw [ho]; rfl
   obtain ⟨p', V', h1, h2, h3, h3', h4, h5, h6⟩ := canon_on ok L m (p + 1) V (by omega) (by omega) (fun k hk => hL k (by omega)) (by rw [e4]; exact hS')
   refine ⟨p', V', by omega, h2, fun j hj => h3 j (by omega), h3', h4, h5, fun k hk1 hk2 hk3 => ?_⟩
   by_cases hkp : k = p
   ·subst hkp; rw [hl] at hk3; cases hk3
   ·exact h6 k (by omega) hk2 hk3
  | false =>
  cases hM : M p with
  | true => exact ⟨p, V, Nat.le_refl _, hp, fun _ _ => rfl, fun _ _ _ => rfl, hS, .inr ⟨hpn, hM, hl⟩, fun k h1 h2 => by omega⟩
  | false =>
   obtain ⟨v, hS', hv⟩ := hq p X _ w hpn hM hS o ho
   let V1 : Nat → Value := fun j => if j = p then v else V j
   have e1 : ∀ j, j ≠ p → V1 j = V j := fun j hj => if_neg hj
   have e2 : V1 p = v := if_pos rfl
   have e3 : canA ops ix a0 V1 p = canA ops ix a0 V p := canA_congr fun j hj => e1 j (by omega)
   have e4 : canA ops ix a0 V1 (p + 1) = (canA ops ix a0 V p).put o.dst v := by
    show (canA ops ix a0 V1 p).put ((ops[ix p]?).bind (·.dst)) (V1 p) = _
    rw [e3, e2, ho]; rfl
   obtain ⟨p', V', h1, h2, h3, h3', h4, h5, h6⟩ := canon_on ok L m (p + 1) V1 (by omega) (by omega) (fun k hk hkn hkl => by rw [e1 k (by omega)]; exact hL k (by omega) hkn hkl) (by rw [e4]; exact hS')
   refine ⟨p', V', by omega, h2, fun j hj => (h3 j (by omega)).trans (e1 j (by omega)), fun j hj hjl => (h3' j hj hjl).trans (e1 j fun e => by rw [e, hl] at hjl; cases hjl), h4, h5, fun k hk1 hk2 hk3 => ?_⟩
   by_cases hkp : k = p
   ·subst hkp
    have hpd : Pend P ops ix a0 V1 w k := fun o' ho' => by
     have : o' = o := Option.some.inj (ho'.symm.trans ho)
     subst this
     rw [e3, e2]
     exact hv
    exact hpd.congr fun j hj => h3 j (by omega)
   ·exact h6 k (by omega) hk2 hk3
omit hq hu
structure CInv (P : Program) (ops : Array Oper) (n : Nat) (ix : Nat → Nat) (M E : Nat → Bool) (S : Nat → Aside → Act → World → Prop) (a0 : Act) (listed : Array Bool) (a : Act) (w : World) (p : Nat) (V : Nat → Value) (X : Aside) : Prop where
 inv : HeadInv .any ops ops.size listed
 le : p ≤ n
 st : S p X (canA ops ix a0 V p) w
 next : p = n ∨ (p < n ∧ M p = true ∧ listed.getD (ix p) false = false)
 pend : ∀ k, k < p → listed.getD (ix k) false = false → Pend P ops ix a0 V w k
 rest : ∀ k, p ≤ k → k < n → listed.getD (ix k) false = true → E k = true ∧ X k = some (V k)
 defers : a.defers = a0.defers
 size : a.tmps.size = a0.tmps.size
 s1 : ∀ k o d, k < n → ops[ix k]? = some o → o.dst = some d → d < a0.tmps.size → listed.getD (ix k) false = true → a.tmps.getD d undef = V k
 s2 : ∀ d, (∀ k o, k < n → ops[ix k]? = some o → listed.getD (ix k) false = true → o.dst ≠ some d) → a.tmps.getD d undef = a0.tmps.getD d undef
variable {listed : Array Bool} {a : Act} {w : World} {p : Nat} {V : Nat → Value} {X : Aside}
theorem CInv.slot (ok : Canon ops n ix M E) (h : CInv P ops n ix M E S a0 listed a w p V X) {k : Nat} {o : Oper} (hk : k < n) (ho : ops[ix k]? = some o) (hun : listed.getD (ix k) false = false)
  (hall : ∀ e ∈ o.after, Region.binds .any e = true → listed.getD e.on false = true) {t : Nat} (ht : t ∈ o.looksAt ops) : a.tmps.getD t undef = (canA ops ix a0 V k).tmps.getD t undef := by
 obtain ⟨l1, l2⟩ := canA_get ok (V := V) (a0 := a0) (t := t) k (by omega)
 by_cases hw : ∃ j o', j < n ∧ ops[ix j]? = some o' ∧ o'.dst = some t
 ·obtain ⟨j, o', hj, ho', hd⟩ := hw
  have huniq : ∀ j' o'', j' < n → ops[ix j']? = some o'' → o''.dst = some t → j' = j := by
   intro j' o'' hj' ho'' hd''
   rcases Nat.lt_trichotomy j' j with hlt | heq | hgt
   ·exact absurd hd (ok.dst j' j o'' o' t hlt hj ho'' ho' hd'')
   ·exact heq
   ·exact absurd hd'' (ok.dst j j' o' o'' t hgt hj' ho' ho'' hd)
  rcases Nat.lt_or_ge j k with hlt | hge
  ·have hl := waits_listed (ok.ord j k o' o t hlt hk ho' ho (.inl ⟨hd, ht⟩)) ho hall
   by_cases hts : t < a0.tmps.size
   ·rw [h.s1 j o' t hj ho' hd hts hl, l1 j o' hlt ho' hd hts]
   ·have e1 : a.tmps.getD t undef = undef := by
     rw [Array.getD_eq_getD_getElem?, Array.getElem?_eq_none (by rw [h.size]; exact Nat.le_of_not_lt hts)]; rfl
    have e2 : (canA ops ix a0 V k).tmps.getD t undef = undef := by
     rw [Array.getD_eq_getD_getElem?, Array.getElem?_eq_none (by rw [canA_size]; exact Nat.le_of_not_lt hts)]; rfl
    rw [e1, e2]
  ·have hjl : listed.getD (ix j) false = false := by
    by_cases hjk : j = k
    ·subst hjk; exact hun
    ·cases hjl : listed.getD (ix j) false with
     | false => rfl
     | true =>
      have hwt := ok.ord k j o o' t (by omega) hj ho ho' (.inr ⟨hd, ht⟩)
      have := waits_listed hwt ho' (h.inv.closed (ix j) o' ho' hjl)
      rw [hun] at this
      cases this
   rw [h.s2 t fun j' o'' hj' ho'' hl' hd' => by
    obtain rfl := huniq j' o'' hj' ho'' hd'
    rw [hjl] at hl'
    cases hl']
   rw [l2 fun j' o'' hj' ho'' hd' => by
    have := huniq j' o'' (by omega) ho'' hd'
    omega]
 ·rw [h.s2 t fun j o' hj ho' _ hd => hw ⟨j, o', hj, ho', hd⟩]
  rw [l2 fun j o' hj ho' hd => hw ⟨j, o', by omega, ho', hd⟩]
theorem CInv.put (ok : Canon ops n ix M E) (h : CInv P ops n ix M E S a0 listed a w p V X) {k : Nat} {o : Oper} (hk : k < n) (ho : ops[ix k]? = some o) (hr : ix k ∈ Region.ready .any ops listed) {v : Value} {w' : World} {p' : Nat} {V' : Nat → Value} {X' : Aside}
  (hle : p' ≤ n) (hst : S p' X' (canA ops ix a0 V' p') w') (hV : ∀ j, j < n → j ≠ k → listed.getD (ix j) false = true → V' j = V j) (hv : V' k = v)
  (hnext : p' = n ∨ (p' < n ∧ M p' = true ∧ p' ≠ k ∧ listed.getD (ix p') false = false)) (hpend : ∀ j, j < p' → j ≠ k → listed.getD (ix j) false = false → Pend P ops ix a0 V' w' j)
  (hrest : ∀ j, p' ≤ j → j < n → j = k ∨ listed.getD (ix j) false = true → E j = true ∧ X' j = some (V' j)) :
  CInv P ops n ix M E S a0 (listed.setIfInBounds (ix k) true) (a.put o.dst v) w' p' V' X' := by
 have hin : ix k < listed.size := in_of_unlisted (mem_ready.1 hr).1
 have hix : ∀ j, j < n → ix j = ix k → j = k := fun j hj e => by
  rcases Nat.lt_trichotomy j k with hlt | heq | hgt
  ·exact absurd e (ok.inj j k hlt hk)
  ·exact heq
  ·exact absurd e.symm (ok.inj k j hgt hj)
 refine ⟨h.inv.set hr (ok.lt k hk), hle, hst, ?_, ?_, fun j h1 h2 hl => ?_, by rw [put_defers', h.defers], by rw [put_size, h.size], ?_, ?_⟩
 ·rcases hnext with hn | ⟨h1, h2, h3, h4⟩
  ·exact .inl hn
  ·exact .inr ⟨h1, h2, by rw [getD_set_ne false (fun e => h3 (hix p' h1 e.symm))]; exact h4⟩
 ·intro j hj hl
  have hjk : j ≠ k := fun e => by
   subst e
   rw [(getD_set_iff hin).2 (.inl rfl)] at hl
   cases hl
  refine hpend j hj hjk ?_
  cases hjl : listed.getD (ix j) false with
  | false => rfl
  | true => rw [(getD_set_iff hin).2 (.inr hjl)] at hl; cases hl
 ·rcases (getD_set_iff hin).1 hl with e | e
  ·exact hrest j h1 h2 (.inl (hix j h2 e))
  ·exact hrest j h1 h2 (.inr e)
 ·intro j oj d hj hoj hd hlt hl
  by_cases hjk : j = k
  ·subst hjk
   have : oj = o := Option.some.inj (hoj.symm.trans ho)
   subst this
   rw [hd, put_getD, if_pos ⟨rfl, by rw [h.size]; exact hlt⟩, hv]
  ·have hl' := ((getD_set_iff hin).1 hl).resolve_left fun e => hjk (hix j hj e)
   have hne : o.dst ≠ some d := by
    rcases Nat.lt_or_ge j k with hlt' | hge
    ·exact ok.dst j k oj o d hlt' hk hoj ho hd
    ·intro hdi
     exact ok.dst k j o oj d (by omega) hj ho hoj hdi hd
   have hx : (a.put o.dst v).tmps.getD d undef = a.tmps.getD d undef := by
    cases hdi : o.dst with
    | none => rfl
    | some e =>
     rw [put_getD, if_neg]
     rintro ⟨rfl, _⟩
     exact hne hdi
   rw [hx, h.s1 j oj d hj hoj hd hlt hl', hV j hj hjk hl']
 ·intro d hno
  have hne : o.dst ≠ some d := hno k o hk ho ((getD_set_iff hin).2 (.inl rfl))
  have hx : (a.put o.dst v).tmps.getD d undef = a.tmps.getD d undef := by
   cases hdi : o.dst with
   | none => rfl
   | some e =>
    rw [put_getD, if_neg]
    rintro ⟨rfl, _⟩
    exact hne hdi
  rw [hx]
  exact h.s2 d fun j oj hj hoj hl => hno j oj hj hoj ((getD_set_iff hin).2 (.inr hl))
theorem act_ext {a b : Act} (hd : a.defers = b.defers) (hz : a.tmps.size = b.tmps.size) (ht : ∀ t, a.tmps.getD t undef = b.tmps.getD t undef) : a = b := by
 have : a.tmps = b.tmps := by
  apply Array.ext hz
  intro i h1 h2
  have := ht i
  simp only [Array.getD_eq_getD_getElem?, Array.getElem?_eq_getElem h1, Array.getElem?_eq_getElem h2, Option.getD_some] at this
  exact this
 cases a; cases b
 simp only at this hd
 subst this hd
 rfl
theorem wp_canon {id : Nat} {a : Act} {w : World} {Q : Exit → Act → World → Prop} (hm : P.follows .mixedOrders = true) (ok : Canon ops n ix M E)
  (hq : ∀ k X A w, k < n → M k = false → S k X A w → ∀ o, ops[ix k]? = some o → ∃ v, S (k + 1) X (A.put o.dst v) w ∧
   ((Region.wanted o (yielded ops A.tmps) = true ∧ ∀ w', Below w.heap.size w w' → Oper.quietUpon P (fun w'' => Below w'.heap.size w' w'') w' v ((execOp A.eval o).run P w')) ∨ (Region.wanted o (yielded ops A.tmps) = false ∧ v = undef)))
  (hu : ∀ k X A w v, k < n → E k = true → X k = some v → S k X A w → ∀ o, ops[ix k]? = some o → S (k + 1) X (A.put o.dst v) w)
  (he : ∀ p k X A w, p ≤ k → k < n → E k = true → S p X A w → ∀ o, ops[ix k]? = some o → ∀ A' : Act, Region.wanted o (yielded ops A'.tmps) = true ∧ UponV P (fun v w' => Below w.heap.size w w' ∧ S p (X.set k v) A w') ((execOp A'.eval o).run P w))
  (hmop : ∀ k X A w, k < n → M k = true → E k = false → S k X A w → ∀ o, ops[ix k]? = some o → (Region.wanted o (yielded ops A.tmps) = true ∧ UponV P (fun v w' => (Below w.heap.size w w' ∨ ∀ j, j < k → waitsB ops (ix k) (ix j) = true ∨ ∀ V, canA ops ix a V k = A → Pend P ops ix a V w j → Pend P ops ix a V w' j) ∧ S (k + 1) X (A.put o.dst v) w') ((execOp A.eval o).run P w)) ∨
   (Region.wanted o (yielded ops A.tmps) = false ∧ S (k + 1) X (A.put o.dst undef) w))
  (hg : ∀ k X A w w', S k X A w → Below w.heap.size w w' → S k X A w')
  (h0 : S 0 (fun _ => none) a w) (hF : ∀ X A w', S n X A w' → Q .normal A w') : (Code.region id ops true).wp P Q a w := by
 have hsel := Region.noSelect_spec ok.nosel
 refine wp_region_inv (Inv := fun listed a' w' => ∃ p V X, CInv P ops n ix M E S a listed a' w' p V X) hm ?_ ?_ ?_
 ·have h0' : S 0 (fun _ => none) (canA ops ix a (fun _ => undef) 0) { w with drawn := w.drawn + 1 } := hg _ _ _ _ _ h0 ⟨rfl, rfl, rfl, Nat.le_refl _, fun _ _ => rfl⟩
  obtain ⟨p, V, _, h2, _, _, h4, h5, h6⟩ := canon_on hq hu ok (fun _ => false) n 0 (fun _ => undef) rfl (Nat.zero_le _) (fun k _ _ hl => by cases hl) h0'
  refine ⟨p, V, _, ⟨⟨by simp, fun j oj _ hl => (by rw [getD_replicate_false] at hl; cases hl), fun t _ ht => getD_in (by simpa using ht) (getD_replicate_false _ _)⟩, h2, h4, ?_, fun k hk _ => h6 k (Nat.zero_le _) hk rfl, fun k _ _ hl => (by rw [getD_replicate_false] at hl; cases hl), rfl, rfl, ?_, fun _ _ => rfl⟩⟩
  ·rcases h5 with h | ⟨h, h', _⟩
   ·exact .inl h
   ·exact .inr ⟨h, h', getD_replicate_false _ _⟩
  ·intro k o d _ _ _ _ hl
   rw [getD_replicate_false] at hl
   cases hl
 ·intro listed a' w' i hz hinv hr
  obtain ⟨p, V, X, h⟩ := hinv
  obtain ⟨hun, o, ho, hall⟩ := mem_ready.1 hr
  have hi : i < ops.size := (Array.getElem?_eq_some_iff.1 ho).1
  obtain ⟨k, hk, rfl⟩ := ok.sur i hi
  have hunk := getD_both hun
  have hslots : ∀ t ∈ o.looksAt ops, a'.tmps.getD t undef = (canA ops ix a V k).tmps.getD t undef := fun t ht => h.slot ok hk ho hunk hall ht
  have hex : execOp a'.eval o = execOp (canA ops ix a V k).eval o := execOp_slots o (fun cs b => hsel (ix k) o cs b ho) hslots
  have hwn := wanted_slots (ops := ops) o (by rw [h.size, canA_size] : a'.tmps.size = (canA ops ix a V k).tmps.size) hslots
  unfold wpOp
  simp only [ho]
  -- what is left when the next one comes up
  have onward : ∀ v X' w'', (∀ j, j < n → X' j = X j ∨ j = k) → k = p → ((∀ j, j < k → listed.getD (ix j) false = false → ∀ V1, canA ops ix a V1 k = canA ops ix a V k → Pend P ops ix a V1 w' j → Pend P ops ix a V1 w'' j)) → S (k + 1) X' ((canA ops ix a V k).put o.dst v) w'' → ∃ p' V' X', CInv P ops n ix M E S a (listed.setIfInBounds (ix k) true) (a'.put o.dst v) w'' p' V' X' := fun v X' w'' hX' hkp hb hS => by
   let V1 : Nat → Value := fun j => if j = k then v else V j
   have e1 : ∀ j, j ≠ k → V1 j = V j := fun j hj => if_neg hj
   have e2 : V1 k = v := if_pos rfl
   have e3 : canA ops ix a V1 k = canA ops ix a V k := canA_congr fun j hj => e1 j (by omega)
   have e4 : canA ops ix a V1 (k + 1) = (canA ops ix a V k).put o.dst v := by
    show (canA ops ix a V1 k).put ((ops[ix k]?).bind (·.dst)) (V1 k) = _
    rw [e3, e2, ho]; rfl
   have hL : ∀ j, k + 1 ≤ j → j < n → listed.getD (ix j) false = true → E j = true ∧ X' j = some (V1 j) := fun j h1 h2 h3 => by
    obtain ⟨q1, q2⟩ := h.rest j (by omega) h2 h3
    rcases hX' j h2 with q | q
    ·exact ⟨q1, by rw [q, e1 j (by omega)]; exact q2⟩
    ·omega
   obtain ⟨p', V', g1, g2, g3, g3', g4, g5, g6⟩ := canon_on hq hu ok (fun j => listed.getD (ix j) false) (n - (k + 1)) (k + 1) V1 rfl (by omega) hL (by rw [e4]; exact hS)
   refine ⟨p', V', X', h.put ok hk ho hr g2 g4 (fun j hj hne hl => (g3' j hj hl).trans (e1 j hne)) ((g3 k (by omega)).trans e2) ?_ (fun j hj hne hl => ?_) (fun j h1 h2 h3 => ?_)⟩
   ·rcases g5 with h1 | ⟨h1, h2, h3⟩
    ·exact .inl h1
    ·exact .inr ⟨h1, h2, by omega, h3⟩
   ·rcases Nat.lt_or_ge j k with hlt | hge
    ·exact (hb j hlt hl V rfl (h.pend j (by omega) hl)).congr fun j' hj' => (g3 j' (by omega)).trans (e1 j' (by omega))
    ·exact g6 j (by omega) hj hl
   ·rcases h3 with h3 | h3
    ·omega
    ·obtain ⟨q1, q2⟩ := hL j (by omega) h2 h3
     exact ⟨q1, by rw [g3' j h2 h3]; exact q2⟩
  rcases Nat.lt_trichotomy k p with hlt | heq | hgt
  ·have hdone : ∀ w'', Below w'.heap.size w' w'' → ∃ p' V' X', CInv P ops n ix M E S a (listed.setIfInBounds (ix k) true) (a'.put o.dst (V k)) w'' p' V' X' := fun w'' hb =>
    ⟨p, V, X, h.put ok hk ho hr h.le (hg _ _ _ _ _ h.st hb) (fun _ _ _ _ => rfl) rfl (by
     rcases h.next with h1 | ⟨h1, h2, h3⟩
     ·exact .inl h1
     ·exact .inr ⟨h1, h2, by omega, h3⟩) (fun j hj hne hl => (h.pend j hj hl).grow hb) fun j h1 h2 h3 => h.rest j h1 h2 (h3.resolve_left (by omega))⟩
   rcases h.pend k hlt hunk o ho with ⟨h1, h2⟩ | ⟨h1, h2⟩
   ·rw [if_pos (hwn.trans h1)]
    left
    refine wp_upon' (v := V k) ?_ hdone
    rw [hex]
    exact h2 w' (Below.refl _ _)
   ·rw [if_neg (by rw [hwn, h1]; exact Bool.false_ne_true)]
    have := hdone w' (Below.refl _ _)
    rw [h2] at this
    exact this
  ·subst heq
   have hMk : M k = true := by
    rcases h.next with h1 | ⟨_, h2, _⟩
    ·omega
    ·exact h2
   cases hEk : E k with
   | false =>
    have main : ∀ v w'', (Below w'.heap.size w' w'' ∨ ∀ j, j < k → waitsB ops (ix k) (ix j) = true ∨ ∀ V1, canA ops ix a V1 k = canA ops ix a V k → Pend P ops ix a V1 w' j → Pend P ops ix a V1 w'' j) → S (k + 1) X ((canA ops ix a V k).put o.dst v) w'' → ∃ p' V' X', CInv P ops n ix M E S a (listed.setIfInBounds (ix k) true) (a'.put o.dst v) w'' p' V' X' := fun v w'' hb hS =>
     onward v X w'' (fun _ _ => .inl rfl) rfl (fun j hj hl V1 hV1 hpd => by
      rcases hb with hb | hb
      ·exact hpd.grow hb
      ·rcases hb j hj with hb | hb
       ·have := waitsB_listed h.inv hb ho hall
        rw [hl] at this
        cases this
       ·exact hb V1 hV1 hpd) hS
    rcases hmop k X _ w' hk hMk hEk h.st o ho with ⟨h1, h2⟩ | ⟨h1, h2⟩
    ·rw [if_pos (hwn.trans h1)]
     left
     refine wp_uponV ?_
     rw [hex]
     exact uponV_mono h2 fun v w'' ⟨hb, hS⟩ => main v w'' hb hS
    ·rw [if_neg (by rw [hwn, h1]; exact Bool.false_ne_true)]
     exact main undef w' (.inl (Below.refl _ _)) h2
   | true =>
    obtain ⟨h1, h2⟩ := he k k X _ w' (Nat.le_refl _) hk hEk h.st o ho a'
    rw [if_pos h1]
    left
    refine wp_uponV (uponV_mono h2 fun v w'' ⟨hb, hS⟩ => onward v (X.set k v) w'' (fun j _ => ?_) rfl (fun j _ _ V1 _ hpd => hpd.grow hb) (hu k (X.set k v) _ w'' v hk hEk (if_pos rfl) hS o ho))
    by_cases e : j = k
    ·exact .inr e
    ·exact .inl (if_neg e)
  ·have hnext : p < n ∧ M p = true ∧ listed.getD (ix p) false = false := by
    rcases h.next with h1 | h1
    ·omega
    ·exact h1
   cases hEk : E k with
   | false =>
    exfalso
    have := waitsB_listed h.inv (ok.mop p k hgt hk hnext.2.1 hEk) ho hall
    rw [hnext.2.2] at this
    cases this
   | true =>
    obtain ⟨h1, h2⟩ := he p k X _ w' (Nat.le_of_lt hgt) hk hEk h.st o ho a'
    rw [if_pos h1]
    left
    refine wp_uponV (uponV_mono h2 fun v w'' ⟨hb, hS⟩ => ?_)
    let V1 : Nat → Value := fun j => if j = k then v else V j
    have e1 : ∀ j, j ≠ k → V1 j = V j := fun j hj => if_neg hj
    have e2 : V1 k = v := if_pos rfl
    have e3 : canA ops ix a V1 p = canA ops ix a V p := canA_congr fun j hj => e1 j (by omega)
    refine ⟨p, V1, X.set k v, h.put ok hk ho hr h.le (by rw [e3]; exact hS) (fun j _ hne _ => e1 j hne) e2 (.inr ⟨hnext.1, hnext.2.1, by omega, hnext.2.2⟩) (fun j hj hne hl => ((h.pend j hj hl).grow hb).congr fun j' hj' => e1 j' (by omega)) fun j h1 h2 h3 => ?_⟩
    by_cases e : j = k
    ·subst e
     exact ⟨hEk, by rw [e2]; exact if_pos rfl⟩
    ·obtain ⟨q1, q2⟩ := h.rest j h1 h2 (h3.resolve_left e)
     exact ⟨q1, by rw [e1 j e]; exact (if_neg e).trans q2⟩
 ·intro listed a' w' hz hinv hr
  obtain ⟨p, V, X, h⟩ := hinv
  have hall := all_listed ok.back hz hr
  have hpn : p = n := by
   rcases h.next with h1 | ⟨h1, h2, h3⟩
   ·exact h1
   ·rw [hall (ix p) (ok.lt p h1)] at h3; cases h3
  subst hpn
  have : a' = canA ops ix a V p := act_ext (by rw [h.defers, canA_defers]) (by rw [h.size, canA_size]) fun t => by
   obtain ⟨l1, l2⟩ := canA_get ok (V := V) (a0 := a) (t := t) p (Nat.le_refl _)
   by_cases hw : ∃ j o', j < p ∧ ops[ix j]? = some o' ∧ o'.dst = some t
   ·obtain ⟨j, o', hj, ho', hd⟩ := hw
    by_cases hts : t < a.tmps.size
    ·rw [h.s1 j o' t hj ho' hd hts (hall _ (ok.lt j hj)), l1 j o' hj ho' hd hts]
    ·have e1 : a'.tmps.getD t undef = undef := by
      rw [Array.getD_eq_getD_getElem?, Array.getElem?_eq_none (by rw [h.size]; exact Nat.le_of_not_lt hts)]; rfl
     have e2 : (canA ops ix a V p).tmps.getD t undef = undef := by
      rw [Array.getD_eq_getD_getElem?, Array.getElem?_eq_none (by rw [canA_size]; exact Nat.le_of_not_lt hts)]; rfl
     rw [e1, e2]
   ·rw [h.s2 t fun j o' hj ho' _ hd => hw ⟨j, o', hj, ho', hd⟩, l2 fun j o' hj ho' hd => hw ⟨j, o', hj, ho', hd⟩]
  rw [this]
  exact hF _ _ _ h.st
end canon
def canonB (ops : Array Oper) (order : List Nat) (kinds : List Nat) (ea : Nat → Bool) (cm : Nat → Nat → Bool) : Bool :=
 backB ops && Region.noSelect ops && Nat.beq order.length ops.size && (List.range ops.size).all (fun i => order.contains i) && order.all (fun i => Nat.blt i ops.size) &&
 (List.range order.length).all (fun k => !(ea k) || Nat.blt 0 (kinds.getD k 0)) &&
 (List.range order.length).all fun k => (List.range k).all fun j => !(Nat.beq (order.getD j 0) (order.getD k 0)) &&
  (!Nat.blt 0 (kinds.getD j 0) || (ea k || waitsB ops (order.getD k 0) (order.getD j 0))) && (!Nat.blt 1 (kinds.getD k 0) || (waitsB ops (order.getD k 0) (order.getD j 0) || cm j k)) &&
  match ops[order.getD j 0]?, ops[order.getD k 0]? with
  | some o, some o' => (match o.dst with | some d => o'.dst != some d | none => true) && (!seesB ops o o' || Region.waitsFor .any ops (order.getD k 0) (order.getD j 0))
  | _, _ => true
theorem canonB_ok {ops : Array Oper} {order kinds : List Nat} {ea : Nat → Bool} {cm : Nat → Nat → Bool} (h : canonB ops order kinds ea cm = true) : Canon ops order.length (fun k => order.getD k 0) (fun k => Nat.blt 0 (kinds.getD k 0)) ea ∧
  order.length = ops.size ∧ ∀ k, k < order.length → Nat.blt 1 (kinds.getD k 0) = true → ∀ j, j < k → waitsB ops (order.getD k 0) (order.getD j 0) = true ∨ cm j k = true := by
 simp only [canonB, Bool.and_eq_true] at h
 obtain ⟨⟨⟨⟨⟨⟨h1, h2⟩, h3⟩, h4⟩, h5⟩, h55⟩, h6⟩ := h
 have hp : ∀ j k, j < k → k < order.length → _ := fun j k hjk hk => List.all_eq_true.1 (List.all_eq_true.1 h6 k (List.mem_range.2 hk)) j (List.mem_range.2 hjk)
 refine ⟨⟨h1, h2, fun k hk => ?_, fun j k hjk hk e => ?_, fun i hi => ?_, fun j k o o' d hjk hk ho ho' hd => ?_, fun j k o o' d hjk hk ho ho' hc => ?_, fun j k hjk hk hm he => ?_, fun k hk he => ?_⟩, Nat.eq_of_beq_eq_true h3, fun k hk hs j hjk => ?_⟩
 ·have := List.all_eq_true.1 h5 (order.getD k 0) (by rw [List.getD_eq_getElem?_getD, List.getElem?_eq_getElem hk]; exact List.getElem_mem hk)
  exact Nat.le_of_ble_eq_true this
 ·have := hp j k hjk hk
  simp only [Bool.and_eq_true] at this
  have h7 := this.1.1.1
  have e' : order.getD j 0 = order.getD k 0 := e
  rw [e'] at h7
  simp at h7
 ·have := List.all_eq_true.1 h4 i (List.mem_range.2 hi)
  have hm : i ∈ order := by simpa using this
  obtain ⟨k, hk, he⟩ := List.getElem_of_mem hm
  exact ⟨k, hk, by rw [List.getD_eq_getElem?_getD, List.getElem?_eq_getElem hk]; exact he⟩
 ·have := hp j k hjk hk
  simp only [Bool.and_eq_true, ho, ho'] at this
  have h7 := this.2.1
  simpa [hd] using h7
 ·have := hp j k hjk hk
  simp only [Bool.and_eq_true, ho, ho'] at this
  have h7 := this.2.2
  have hs : seesB ops o o' = true := by
   unfold seesB
   rcases hc with ⟨hd, hm⟩ | ⟨hd, hm⟩
   ·simp [hd, hm]
   ·simp [hd, hm]
  simpa [hs] using h7
 ·have := hp j k hjk hk
  simp only [Bool.and_eq_true] at this
  have h7 := this.1.1.2
  have hm' : Nat.blt 0 (kinds.getD j 0) = true := hm
  rw [hm', he] at h7
  exact h7
 ·have h7 := List.all_eq_true.1 h55 k (List.mem_range.2 hk)
  rw [he] at h7
  exact h7
 ·have := hp j k hjk hk
  simp only [Bool.and_eq_true] at this
  have h7 := this.1.2
  rw [hs] at h7
  simpa using h7
end Go.Proofs.Yteebobbhhgmeiaa
namespace Go.Proofs.Yteebobbhhgmeiaa
open Go.RowKit
structure Eff where
 x : A
 nx : Nat
 o : Objs
 k : Nat
 ps : List Prop
def EK (F : Nat → Prop) (N : Nm) (nx : Nat) (o : Objs) (R : World) (f : Eff) (v : Value) (R' : World) : Prop :=
 ∃ F' N', HRel F' N' f.nx f.o R' ∧ Step F N nx o R F' N' f.nx f.o R' ∧ Hv F' N' f.nx R' f.x v ∧ (f.k ≤ 1 → Below R.heap.size R R')
section
variable {F : Nat → Prop} {N : Nm} {nx : Nat} {o : Objs} {R R' : World}
theorem below_alloc (ob : Obj) : Below R.heap.size R (R.alloc ob) := (Below.refl _ _).alloc (Nat.le_refl _) _
theorem HL.up {N' : Nm} {nx' : Nat} {xs : List A} {vs : List Value} (st : Ext F N nx R F N' nx' R') (h : HL F N nx R xs vs) : HL F N' nx' R' xs vs := h.step st
theorem ek_new (h : HRel F N nx o R) {ob : Ob} {B : Obj} {k : Nat} {ps : List Prop} {x : A} {v : Value} (hfoot : ∀ N' g, foot N' nx ob g → g = N'.b nx)
  (hob : Ext F N nx R F (N.setB nx R.heap.size) (nx + 1) (R.alloc B) → (R.alloc B).heap[(N.setB nx R.heap.size).b nx]? = some B → ObR F (N.setB nx R.heap.size) (nx + 1) (R.alloc B) nx ob)
  (hx : Hv F (N.setB nx R.heap.size) (nx + 1) (R.alloc B) x v) :
  EK F N nx o R ⟨x, nx + 1, (nx, some ob) :: o, k, ps⟩ v (R.alloc B) := by
 have hb : (R.alloc B).heap[(N.setB nx R.heap.size).b nx]? = some B := by
  show (R.alloc B).heap[setF N.b nx R.heap.size nx]? = _
  rw [setF_same]
  exact heap_alloc_new R _
 have hne : ∀ i, i < nx → (N.setB nx R.heap.size).b i = N.b i := fun i hi => setF_ne _ _ (by omega)
 obtain ⟨h1, h2⟩ := h.upd (R' := R.alloc B) (N' := N.setB nx R.heap.size) (nx' := nx + 1) (o' := (nx, some ob) :: o) (i0 := nx) (ob0 := ob) (T := fun _ => False) rfl rfl rfl (by simp)
  (fun g hg => hg.elim) (fun g hg _ => Below.heap_alloc R _ g hg) (by omega) hne (fun _ _ => rfl)
  (fun i ob' hi hl => by rw [lookO_cons, if_neg hi] at hl; exact ⟨hl, fun _ _ hf => hf.elim⟩)
  (fun ob' hl => by rw [lookO_cons, if_pos rfl] at hl; exact (Option.some.inj hl).symm) (by omega) (fun st => hob st hb)
  (fun g hg => .inl (by rw [hfoot _ g hg]; show R.heap.size ≤ setF N.b nx R.heap.size nx; rw [setF_same]; exact Nat.le_refl _))
 exact ⟨F, N.setB nx R.heap.size, h1, h2, hx, fun _ => below_alloc _⟩
theorem ek_upd (h : HRel F N nx o R) {i : Nat} {ob ob' : Ob} {B B0 : Obj} {ps : List Prop} {x : A} {v : Value} (hl : lookO i o = some ob) (hf : foot N i ob (N.b i)) (hf' : ∀ g, foot N i ob' g → g = N.b i) (hb : R.heap[N.b i]? = some B0)
  (hob : { R with heap := R.heap.setIfInBounds (N.b i) B }.heap[N.b i]? = some B → ObR F N nx { R with heap := R.heap.setIfInBounds (N.b i) B } i ob') (hx : Hv F N nx { R with heap := R.heap.setIfInBounds (N.b i) B } x v) :
  EK F N nx o R ⟨x, nx, (i, some ob') :: o, 2, ps⟩ v { R with heap := R.heap.setIfInBounds (N.b i) B } := by
 have hi := (h.ob i _ hl).1
 have hlt := blk_lt hb
 have hset : { R with heap := R.heap.setIfInBounds (N.b i) B }.heap[N.b i]? = some B := by simp [hlt]
 obtain ⟨h1, h2⟩ := h.upd (R' := { R with heap := R.heap.setIfInBounds (N.b i) B }) (N' := N) (nx' := nx) (o' := (i, some ob') :: o) (i0 := i) (ob0 := ob') (T := fun g => g = N.b i) rfl rfl rfl (by simp)
  (fun g hg => ⟨i, _, hl, by rw [show g = N.b i from hg]; exact hf⟩) (fun g _ hg => by have hne : ¬ N.b i = g := fun e => hg e.symm; simp [hne]) (Nat.le_refl _) (fun _ _ => rfl) (fun _ _ => rfl)
  (fun j ob2 hj hl' => by
   rw [lookO_cons, if_neg hj] at hl'
   refine ⟨hl', fun g hg e => hj ?_⟩
   have e' : g = N.b i := e
   subst e'
   exact h.sep j i ob2 _ _ hl' hl hg hf)
  (fun ob2 hl' => by rw [lookO_cons, if_pos rfl] at hl'; exact (Option.some.inj hl').symm) hi
  (fun _ => hob hset) (fun g hg => .inr (hf' g hg))
 exact ⟨F, N, h1, h2, hx, fun hk => by cases hk with | step hk => cases hk⟩
theorem ek_box (h : HRel F N nx o R) {cs : List A} {vs : List Value} (hc : HL F N nx R cs vs) (e : TypeId) (k : Nat) (ps : List Prop) :
  EK F N nx o R ⟨.own nx 0, nx + 1, (nx, some (.box e cs)) :: o, k, ps⟩ (.pointer (some ⟨R.heap.size, 0, none⟩)) (R.alloc (.cells vs.toArray e (0, 0))) := by
 refine ek_new h (fun N' g hg => hg) (fun st hb => ⟨vs, hc.step st, hb⟩) ?_
 have : (⟨R.heap.size, 0, none⟩ : Addr) = ⟨(N.setB nx R.heap.size).b nx, 0, none⟩ := by
  show _ = (⟨setF N.b nx R.heap.size nx, 0, none⟩ : Addr)
  rw [setF_same]
 rw [this]
 exact .own (by omega)
def dropO1 (o : Objs) : Option Nat → Objs
 | none => o
 | some i => (i, none) :: o
theorem lookO_drop1 {d : Option Nat} {i : Nat} {ob : Ob} (h : lookO i (dropO1 o d) = some ob) : lookO i o = some ob ∧ d ≠ some i := by
 cases d with
 | none => exact ⟨h, fun e => by cases e⟩
 | some j =>
  have h' : lookO i ((j, none) :: o) = some ob := h
  rw [lookO_cons] at h'
  by_cases e : i = j
  ·rw [if_pos e] at h'; cases h'
  ·rw [if_neg e] at h'; exact ⟨h', fun e' => e (Option.some.inj e').symm⟩
theorem ek_row (h : HRel F N nx o R) {d : Option Nat} {e : TypeId} {size : Nat} {els : Els} {zs : List Value} {v : Value} {k : Nat} {ps : List Prop}
  (hos : R'.os = R.os) (htape : R'.tape = R.tape) (hout : R'.output = R.output) (hsz : R.heap.size ≤ R'.heap.size)
  (hd : ∀ i, d = some i → ∃ e' s' els', lookO i o = some (.arr e' s' els'))
  (keep : ∀ g, g < R.heap.size → (∀ i, d = some i → blkOf (N.q i) ≠ some g) → R'.heap[g]? = R.heap[g]?)
  (hown : OwnR R' e size v els.n zs) (hels : RowHL F N nx R els size zs) (hnew : ∀ g, blkOf v = some g → R.heap.size ≤ g ∨ ∃ i, d = some i ∧ blkOf (N.q i) = some g) (hk : k ≤ 1 → d = none) :
  EK F N nx o R ⟨.sq nx, nx + 1, (nx, some (.arr e size els)) :: dropO1 o d, k, ps⟩ v R' := by
 let T : Nat → Prop := fun g => ∃ i, d = some i ∧ blkOf (N.q i) = some g
 have hq : (N.setQ nx v).q nx = v := setF_same _ _ _
 have hne : ∀ i, i < nx → (N.setQ nx v).q i = N.q i := fun i hi => setF_ne _ _ (by omega)
 have keep' : ∀ g, g < R.heap.size → ¬ T g → R'.heap[g]? = R.heap[g]? := fun g hg ht => keep g hg fun i hi hb => ht ⟨i, hi, hb⟩
 obtain ⟨h1, h2⟩ := h.upd (R' := R') (N' := N.setQ nx v) (nx' := nx + 1) (o' := (nx, some (.arr e size els)) :: dropO1 o d) (i0 := nx) (ob0 := .arr e size els) (T := T) hos htape hout hsz
  (fun g ⟨i, hi, hg⟩ => by obtain ⟨e', s', els', hl⟩ := hd i hi; exact ⟨i, _, hl, hg⟩) keep' (by omega) (fun _ _ => rfl) hne
  (fun i ob' hi hl => by
   rw [lookO_cons, if_neg hi] at hl
   obtain ⟨g1, g2⟩ := lookO_drop1 hl
   refine ⟨g1, fun g hg ⟨j, hj, hb⟩ => ?_⟩
   obtain ⟨e', s', els', hl'⟩ := hd j hj
   have := h.sep i j ob' _ g g1 hl' hg hb
   subst this
   exact g2 hj)
  (fun ob' hl => by rw [lookO_cons, if_pos rfl] at hl; exact (Option.some.inj hl).symm) (by omega)
  (fun st => ⟨zs, by rw [hq]; exact hown, (hels.step st).2⟩)
  (fun g hg => by
   have hg' : blkOf ((N.setQ nx v).q nx) = some g := hg
   rw [hq] at hg'
   exact hnew g hg')
 refine ⟨F, N.setQ nx v, h1, h2, ?_, fun hk' => ⟨hos, htape, hout, hsz, fun g hg => keep' g hg fun ⟨i, hi, _⟩ => by rw [hk hk'] at hi; cases hi⟩⟩
 have := Hv.sq (F := F) (N := N.setQ nx v) (nx := nx + 1) (R := R') (i := nx) (by omega)
 rwa [hq] at this
theorem ek_set (h : HRel F N nx o R) {i : Nat} {e : TypeId} {cs cs' : List A} {vs vs' : List Value} {ps : List Prop} (hl : lookO i o = some (.box e cs)) (hc' : HL F N nx R cs' vs') (hb : R.heap[N.b i]? = some (.cells vs.toArray e (0, 0))) :
  EK F N nx o R ⟨.v undef, nx, (i, some (.box e cs')) :: o, 2, ps⟩ undef (R.setRow (N.b i) vs'.toArray) := by
 have hi := (h.ob i _ hl).1
 obtain ⟨h1, h2⟩ := h.upd (R' := R.setRow (N.b i) vs'.toArray) (N' := N) (nx' := nx) (o' := (i, some (.box e cs')) :: o) (i0 := i) (ob0 := .box e cs') (T := fun g => g = N.b i) rfl rfl rfl (by simp)
  (fun g hg => ⟨i, _, hl, hg⟩) (fun g _ hg => setRow_other R _ g _ (fun e => hg e)) (Nat.le_refl _) (fun _ _ => rfl) (fun _ _ => rfl)
  (fun j ob' hj hl' => by
   rw [lookO_cons, if_neg hj] at hl'
   refine ⟨hl', fun g hg e => hj ?_⟩
   subst e
   exact h.sep j i ob' _ _ hl' hl hg rfl)
  (fun ob' hl' => by rw [lookO_cons, if_pos rfl] at hl'; exact (Option.some.inj hl').symm) hi
  (fun st => ⟨vs', hc'.step st, setRow_heap R _ _ _ e _ hb⟩) (fun g hg => .inr hg)
 exact ⟨F, N, h1, h2, .v _, fun hk => by cases hk with | step hk => cases hk⟩
theorem ek_put (h : HRel F N nx o R) {i : Nat} {e : TypeId} {size : Nat} {els els' : Els} {zs' : List Value} {ps : List Prop} (hl : lookO i o = some (.arr e size els))
  (hos : R'.os = R.os) (htape : R'.tape = R.tape) (hout : R'.output = R.output) (hsz : R.heap.size ≤ R'.heap.size)
  (keep : ∀ g, g < R.heap.size → blkOf (N.q i) ≠ some g → R'.heap[g]? = R.heap[g]?) (hown : OwnR R' e size (N.q i) els'.n zs') (hels : RowHL F N nx R els' size zs') {v : Value} {x : A} (hx : ∀ F' N', Hv F' N' nx R' x v) :
  EK F N nx o R ⟨x, nx, (i, some (.arr e size els')) :: o, 2, ps⟩ v R' := by
 have hi := (h.ob i _ hl).1
 obtain ⟨h1, h2⟩ := h.upd (R' := R') (N' := N) (nx' := nx) (o' := (i, some (.arr e size els')) :: o) (i0 := i) (ob0 := .arr e size els') (T := fun g => blkOf (N.q i) = some g) hos htape hout hsz
  (fun g hg => ⟨i, _, hl, hg⟩) keep (Nat.le_refl _) (fun _ _ => rfl) (fun _ _ => rfl)
  (fun j ob' hj hl' => by
   rw [lookO_cons, if_neg hj] at hl'
   exact ⟨hl', fun g hg e => hj (h.sep j i ob' _ g hl' hl hg e)⟩)
  (fun ob' hl' => by rw [lookO_cons, if_pos rfl] at hl'; exact (Option.some.inj hl').symm) hi
  (fun st => ⟨zs', hown, (hels.step st).2⟩) (fun g hg => .inr hg)
 exact ⟨F, N, h1, h2, hx F N, fun hk => by cases hk with | step hk => cases hk⟩
theorem ek_frozen (h : HRel F N nx o R) (hb : Below R.heap.size R R') {x : A} {v : Value} {k : Nat} {ps : List Prop} (hlt : R.heap.size < R'.heap.size)
  (hx : Hv (fun g => F g ∨ g = R.heap.size) N nx R' x v) : EK F N nx o R ⟨x, nx, o, k, ps⟩ v R' := by
 have st : Step F N nx o R (fun g => F g ∨ g = R.heap.size) N nx o R' :=
  ⟨Nat.le_refl _, fun _ _ => rfl, fun _ _ => rfl, fun _ h => .inl h, fun g hg => by
   rcases hg with hg | hg
   ·exact .inl hg
   ·exact .inr (.inr (by omega)), fun _ h => .inl h, hb.os, hb.tape, hb.output, hb.size, fun g hg _ => hb.block g hg⟩
 have hx2 := st.ext h
 refine ⟨_, N, ⟨fun g hg => ?_, fun i ob hi => ⟨(h.ob i ob hi).1, (h.ob i ob hi).2.step hx2 (h.ob i ob hi).1 fun g hg => hb.block g ((h.ob i ob hi).2.lt hg)⟩, fun i ob g hi hg hf => ?_, h.sep⟩, st, hx, fun _ => hb⟩
 ·rcases hg with hg | hg
  ·exact Nat.lt_of_lt_of_le (h.flt g hg) hb.size
  ·omega
 ·rcases hf with hf | hf
  ·exact h.ff i ob g hi hg hf
  ·have := (h.ob i ob hi).2.lt hg; omega
end
end Go.Proofs.Yteebobbhhgmeiaa
namespace Go.Proofs.Yteebobbhhgmeiaa
open Go.RowKit
theorem put_slice {zs vs : List Value} {k size off : Nat} (h1 : off + vs.length ≤ size) (h2 : k * size + size ≤ zs.length) (j : Nat) :
  ((zs.take (k * size + off) ++ vs ++ zs.drop (k * size + off + vs.length)).drop (j * size)).take size =
   if j = k then ((zs.drop (k * size)).take size).take off ++ vs ++ ((zs.drop (k * size)).take size).drop (off + vs.length) else (zs.drop (j * size)).take size := by
 have get : ∀ m, (zs.take (k * size + off) ++ vs ++ zs.drop (k * size + off + vs.length))[m]? = if m < k * size + off then zs[m]? else if m < k * size + off + vs.length then vs[m - (k * size + off)]? else zs[m]? := fun m => by
  rw [List.append_assoc, List.getElem?_append, List.length_take, Nat.min_eq_left (by omega)]
  by_cases c1 : m < k * size + off
  ·rw [if_pos c1, if_pos c1, List.getElem?_take, if_pos c1]
  ·rw [if_neg c1, if_neg c1, List.getElem?_append]
   by_cases c2 : m < k * size + off + vs.length
   ·rw [if_pos (by omega), if_pos c2]
   ·rw [if_neg (by omega), if_neg c2, List.getElem?_drop]
    congr 1
    omega
 apply List.ext_getElem?
 intro m
 rw [List.getElem?_take, List.getElem?_drop]
 by_cases hm : m < size
 ·rw [if_pos hm, get]
  by_cases hj : j = k
  ·subst hj
   rw [if_pos rfl, List.append_assoc, List.getElem?_append, List.length_take, List.length_take, List.length_drop]
   have hlen : min off (min size (zs.length - j * size)) = off := by omega
   rw [hlen]
   by_cases c1 : m < off
   ·rw [if_pos (by omega), if_pos c1, List.getElem?_take, if_pos c1, List.getElem?_take, if_pos hm, List.getElem?_drop]
   ·rw [if_neg (by omega), if_neg c1, List.getElem?_append]
    by_cases c2 : m < off + vs.length
    ·rw [if_pos (by omega), if_pos (by omega)]
     congr 1
     omega
    ·rw [if_neg (by omega), if_neg (by omega), List.getElem?_drop, List.getElem?_take, if_pos (by omega), List.getElem?_drop]
     congr 1
     omega
  ·rw [if_neg hj, List.getElem?_take, if_pos hm, List.getElem?_drop]
   rcases Nat.lt_or_gt_of_ne hj with hlt | hgt
   ·have : j * size + size ≤ k * size := by rw [← Nat.succ_mul]; exact Nat.mul_le_mul_right _ hlt
    rw [if_pos (by omega)]
   ·have : k * size + size ≤ j * size := by rw [← Nat.succ_mul]; exact Nat.mul_le_mul_right _ hgt
    rw [if_neg (by omega), if_neg (by omega)]
 ·rw [if_neg hm]
  symm
  rw [List.getElem?_eq_none]
  by_cases hj : j = k
  ·rw [if_pos hj]
   simp only [List.length_append, List.length_take, List.length_drop]
   omega
  ·rw [if_neg hj, List.length_take]
   omega
def setEls (k off : Nat) (us : List A) : Els → Option (Els × List Prop)
 | .lst cs => some (.lst (cs.set k (putL off us (nthL cs k))), [])
 | .ty c l => match dec c (putL off us (enc c (l.getD k (dflt c)))) with
  | some (d, ps) => some (.ty c (l.set k d), ps)
  | none => none
section
variable {F : Nat → Prop} {N : Nm} {nx : Nat} {R : World} {size : Nat}
theorem setEls_ok {k off : Nat} {us : List A} {vs : List Value} {els els' : Els} {ps : List Prop} {zs : List Value} (he : setEls k off us els = some (els', ps)) (hp : ∀ p ∈ ps, p) (hr : RowHL F N nx R els size zs) (hu : HL F N nx R us vs)
  (hk : k < els.n) (ho : off + vs.length ≤ size) : els'.n = els.n ∧ RowHL F N nx R els' size (zs.take (k * size + off) ++ vs ++ zs.drop (k * size + off + vs.length)) := by
 have hle : k * size + size ≤ zs.length := by rw [hr.1, ← Nat.succ_mul]; exact Nat.mul_le_mul_right _ hk
 have hlen : (zs.take (k * size + off) ++ vs ++ zs.drop (k * size + off + vs.length)).length = zs.length := by
  simp only [List.length_append, List.length_take, List.length_drop]
  omega
 have hput := HL.put (off := off) hu (hr.2 k hk)
 have main : els'.n = els.n → (∀ j, j < els.n → j ≠ k → els'.nth j = els.nth j) → HL F N nx R (els'.nth k) (((zs.drop (k * size)).take size).take off ++ vs ++ ((zs.drop (k * size)).take size).drop (off + vs.length)) →
   els'.n = els.n ∧ RowHL F N nx R els' size (zs.take (k * size + off) ++ vs ++ zs.drop (k * size + off + vs.length)) := fun hn hj hkk => by
  refine ⟨hn, by rw [hlen, hr.1, hn], fun j hjn => ?_⟩
  rw [hn] at hjn
  rw [put_slice ho hle]
  by_cases e : j = k
  ·subst e
   rw [if_pos rfl]
   exact hkk
  ·rw [if_neg e, hj j hjn e]
   exact hr.2 j hjn
 unfold setEls at he
 split at he
 ·rename_i cs
  cases he
  refine main (by simp [Els.n]) (fun j hj e => ?_) ?_
  ·show nthL _ j = nthL _ j
   simp only [nthL_get, List.getD_eq_getElem?_getD]
   rw [List.getElem?_set_ne (fun e' => e e'.symm)]
  ·show HL F N nx R (nthL _ k) _
   have hk' : k < cs.length := hk
   rw [nthL_get, List.getD_eq_getElem?_getD, List.getElem?_set_self hk']
   exact hput
 ·rename_i c l
  split at he <;> first | (cases he; done) | skip
  rename_i d qs hd
  cases he
  refine main (by simp [Els.n]) (fun j hj e => ?_) ?_
  ·show enc c _ = enc c _
   rw [List.getD_eq_getElem?_getD, List.getD_eq_getElem?_getD, List.getElem?_set_ne (fun e' => e e'.symm)]
  ·show HL F N nx R (enc c _) _
   have hk' : k < l.length := hk
   rw [List.getD_eq_getElem?_getD, List.getElem?_set_self hk']
   exact dec_ok hd hp _ hput
end
section
variable {P : Program} {w : World}
theorem own_blk {e : TypeId} {size n : Nat} {v : Value} {zs : List Value} (h : OwnR w e size v n zs) (hn : 0 < n) : ∃ g cap cur, v = .slice (some ⟨g, 0, none⟩) n (cap + 1) ∧ w.heap[g]? = some (.cells cur e (0, 0)) ∧ n ≤ cap + 1 ∧ cap + 1 ≤ maxLen ∧ cur.size = (cap + 1) * size ∧ cur.toList.take (n * size) = zs := by
 rcases h.2 with ⟨_, _, h0⟩ | h2
 ·omega
 ·exact h2
theorem own_put {e : TypeId} {size n g cap o : Nat} {cur : Array Value} {zs vs : List Value} (hz : zs.length = n * size) (hg : w.heap[g]? = some (.cells cur e (0, 0))) (hn : n ≤ cap + 1) (hm : cap + 1 ≤ maxLen) (hs : cur.size = (cap + 1) * size) (ht : cur.toList.take (n * size) = zs) (ho : o + vs.length ≤ n * size) :
  OwnR (w.setRow g (cur.toList.take o ++ vs ++ cur.toList.drop (o + vs.length)).toArray) e size (.slice (some ⟨g, 0, none⟩) n (cap + 1)) n (zs.take o ++ vs ++ zs.drop (o + vs.length)) := by
 have hle : n * size ≤ cur.toList.length := by rw [Array.length_toList, hs]; exact Nat.mul_le_mul_right _ hn
 refine ⟨?_, .inr ⟨g, cap, _, rfl, setRow_heap w g cur _ e _ hg, hn, hm, ?_, ?_⟩⟩
 ·simp only [List.length_append, List.length_take, List.length_drop]
  omega
 ·simp only [List.size_toArray, List.length_append, List.length_take, List.length_drop, Array.length_toList]
  rw [Array.length_toList] at hle
  omega
 ·show List.take (n * size) (cur.toList.take o ++ vs ++ cur.toList.drop (o + vs.length)) = _
  rw [← ht, List.append_assoc, List.append_assoc, List.take_append, List.take_take, List.length_take, Nat.min_eq_left (by omega : o ≤ cur.toList.length), Nat.min_eq_right (by omega : o ≤ n * size)]
  rw [List.take_append, List.take_of_length_le (by omega : vs.length ≤ n * size - o), List.take_take, Nat.min_eq_left (by omega : o ≤ n * size)]
  congr 2
  rw [List.take_drop, List.drop_take]
  congr 1
  rw [List.drop_take]
  congr 1
  omega
theorem run_copy_some {dT sT ty e : TypeId} {i : TypeInfo} (hu : P.underlying dT = some (.slice e)) (hi : P.info? e = some i) {g o dLen dCap m : Nat} {x : Value} {cur : Array Value} {t : TypeId} {cs : List Value}
  (hlen : (Builtin.lenOf x).run P w = .ok m w) (hnew : (Builtin.firstCells i.size (Nat.min m dLen) x).run P w = .ok cs.toArray w) (hg : w.heap[g]? = some (.cells cur t (0, 0)))
  (hfit : o + cs.length ≤ cur.size) (h1 : ∀ v ∈ cs, v.oneCell' = true) :
  (Builtin.copy_ #[dT, sT] ty #[.slice (some ⟨g, o, none⟩) dLen dCap, x]).run P w = .ok (goInt (Nat.min m dLen)) (w.setRow g (cur.toList.take o ++ cs ++ cur.toList.drop (o + cs.length)).toArray) := by
 have hst := run_storeCells_at (P := P) g o t cs 0 cur w hg (by simpa using hfit) h1
 simp only [Nat.add_zero] at hst
 have hst' : ∀ A : Array Value, A = cs.toArray → (storeCells ⟨g, o, none⟩ A.toList).run P w = .ok () (w.setRow g (cur.toList.take o ++ cs ++ cur.toList.drop (o + cs.length)).toArray) := fun A hA => by
  subst hA
  simpa [storeCells] using hst
 simp [Builtin.copy_, run_underlying hu, hlen, sizeOf, typeInfo, hi, hnew, hst' _ rfl]
theorem run_copy_zero {dT sT ty e : TypeId} {i : TypeInfo} (hu : P.underlying dT = some (.slice e)) (hi : P.info? e = some i) {d : Option Addr} {dLen dCap m : Nat} {x : Value}
  (hlen : (Builtin.lenOf x).run P w = .ok m w) (h0 : Nat.min m dLen = 0) (hnew : (Builtin.firstCells i.size 0 x).run P w = .ok #[] w) :
  (Builtin.copy_ #[dT, sT] ty #[.slice d dLen dCap, x]).run P w = .ok (goInt 0) w := by
 cases d <;> simp [Builtin.copy_, run_underlying hu, hlen, sizeOf, typeInfo, hi, h0, hnew, storeCells]
theorem src_read {y : Value} {size m : Nat} {us : List Value} (h : FlatR w y size m us) {w' : World} (hc : ∀ ad v, w.cell? ad = some v → w'.cell? ad = some v) : (Builtin.lenOf y).run P w' = .ok m w' ∧ ∀ k, k ≤ m → (Builtin.firstCells size k y).run P w' = .ok (us.take (k * size)).toArray w' := by
 obtain ⟨A, c, rfl, h1⟩ := h.val
 refine ⟨rfl, fun k hk => ?_⟩
 have hl := h.len
 cases A with
 | none =>
  have hm : m = 0 ∨ 0 < m := by omega
  rcases hm with hm | hm
  ·subst hm
   have : us = [] := List.eq_nil_of_length_eq_zero (by simpa using hl)
   subst this
   simp [Builtin.firstCells]
  ·obtain ⟨ad, e, _⟩ := h.cells _ _ _ rfl hm
   cases e
 | some ad =>
  have hle : k * size ≤ us.length := by rw [hl]; exact Nat.mul_le_mul_right _ hk
  have hread := run_loadCells_list (P := P) w' ad (us.take (k * size)) (fun j u hj => by
   have hm : 0 < m := by
    rcases Nat.eq_zero_or_pos m with h0 | h0
    ·subst h0
     have : us = [] := List.eq_nil_of_length_eq_zero (by simpa using hl)
     subst this
     rw [List.take_nil] at hj
     cases j <;> cases hj
    ·exact h0
   obtain ⟨ad', e, hcell⟩ := h.cells _ _ _ rfl hm
   cases e
   rw [List.getElem?_take] at hj
   split at hj <;> first | (cases hj; done) | skip
   exact hc _ _ (hcell j u hj))
  rw [List.length_take, Nat.min_eq_left hle] at hread
  simp [Builtin.firstCells, hread]
end
end Go.Proofs.Yteebobbhhgmeiaa
namespace Go.Proofs.Yteebobbhhgmeiaa
open Go.RowKit
def chunks (size : Nat) : Nat → List A → List (List A)
 | 0, _ => []
 | n + 1, l => l.take size :: chunks size n (l.drop size)
theorem chunks_length (size : Nat) : ∀ (n : Nat) (l : List A), (chunks size n l).length = n
 | 0, _ => rfl
 | n + 1, l => by unfold chunks; rw [List.length_cons, chunks_length size n]
theorem chunks_nth (size : Nat) : ∀ (n : Nat) (l : List A) (k : Nat), k < n → nthL (chunks size n l) k = (l.drop (k * size)).take size
 | 0, _, _, h => by cases h
 | n + 1, l, 0, _ => by unfold chunks; simp [nthL]
 | n + 1, l, k + 1, h => by
  unfold chunks
  show nthL (chunks size n (l.drop size)) k = _
  rw [chunks_nth size n _ k (by omega), List.drop_drop, Nat.succ_mul, Nat.add_comm]
def sideB (P : Program) (e : TypeId) (sz : Nat) : Bool := match P.info? e with
 | some i => match i.zero with
  | some z => Nat.beq i.size sz && (Nat.beq z.cells.size sz && (Nat.ble 1 sz && Nat.ble i.bytes 256))
  | none => false
 | none => false
theorem sideB_ok {P : Program} {e : TypeId} {sz : Nat} (h : sideB P e sz = true) : ∃ i z, P.info? e = some i ∧ i.zero = some z ∧ i.size = sz ∧ z.cells.size = sz ∧ 0 < sz ∧ i.bytes ≤ 256 := by
 unfold sideB at h
 split at h <;> first | (cases h; done) | skip
 rename_i i hi
 split at h <;> first | (cases h; done) | skip
 rename_i z hz
 simp only [Bool.and_eq_true] at h
 obtain ⟨h1, h2, h3, h4⟩ := h
 exact ⟨i, z, hi, hz, Nat.eq_of_beq_eq_true h1, Nat.eq_of_beq_eq_true h2, Nat.le_of_ble_eq_true h3, Nat.le_of_ble_eq_true h4⟩
def cellsOf (s : St) (G : Guards) (v : Operand) : Option (List A) := match s.ev G v with
 | some x => match cellsA x with
  | some us => bif sqOk s.o us then (bif oneA us then some us else none) else none
  | none => none
 | none => none
def boundP (n : Nat) : Prop := n ≤ 549755813888
instance (n : Nat) : Decidable (boundP n) := inferInstanceAs (Decidable (n ≤ 549755813888))
def allocE (E : Env) (s : St) (e : TypeId) : Option Eff := match (E.P.info? e).bind (·.zero) with
 | some z => some ⟨.own s.nx 0, s.nx + 1, (s.nx, some (.box e (toL z.cells.toList))) :: s.o, 1, []⟩
 | none => none
def boxE (s : St) (G : Guards) (e : TypeId) (v : Operand) : Option Eff := match s.ev G v with
 | some x => match cellsA x with
  | some us => bif sqOk s.o us then some ⟨.own s.nx 0, s.nx + 1, (s.nx, some (.box e us)) :: s.o, 1, []⟩ else none
  | none => none
 | none => none
def setE (E : Env) (s : St) (G : Guards) (t : TypeId) (x v : Operand) : Option Eff :=
 match cellsOf s G v with
 | some us => match sizeP E.P t with
  | some n => bif Nat.beq n us.length then (match s.ev G x with
   | some (.own i off) => match lookO i s.o with
    | some (.box e cs) => bif Nat.ble (off + n) cs.length then some ⟨.v undef, s.nx, (i, some (.box e (putL off us cs))) :: s.o, 2, []⟩ else none
    | _ => none
   | some (.ownx i base len k) => match lookO i s.o with
    | some (.box e cs) => match us with
     | [u] => bif Nat.ble (base + len) cs.length then some ⟨.v undef, s.nx, (i, some (.box e (putL base (setA k u 0 ((cs.drop base).take len)) cs))) :: s.o, 2, [k < len]⟩ else none
     | _ => none
    | _ => none
   | some (.el i k sz off) => match lookO i s.o with
    | some (.arr e size els) => bif Nat.beq size sz then (bif Nat.ble (off + n) size then (match setEls k off us els with
     | some (els', ps) => some ⟨.v undef, s.nx, (i, some (.arr e size els')) :: s.o, 2, (k < els.n) :: ps⟩
     | none => none) else none) else none
    | _ => none
   | _ => none) else none
  | none => none
 | none => none
def repL (z : List A) : Nat → List A
 | 0 => []
 | n + 1 => z ++ repL z n
def buildSlE (E : Env) (s : St) (G : Guards) (t : TypeId) (len : Nat) (parts : List (Nat × Operand)) : Option Eff :=
 match E.P.underlying t with
 | some (.slice e) => match E.P.info? e with
  | some i => match i.zero with
   | some z => match partsE s G parts with
    | some ps => bif Nat.ble (len * i.size) 16777216 then (bif Nat.beq z.cells.size i.size then (bif Nat.ble 1 i.size then
      (match fillA (fun k => some (k * i.size, i.size)) (repL (toL z.cells.toList) len) ps with
      | some cs => bif oneEls s.o (.lst (chunks i.size len cs)) then some ⟨.sq s.nx, s.nx + 1, (s.nx, some (.arr e i.size (.lst (chunks i.size len cs)))) :: s.o, 1, []⟩ else none
      | none => none) else none) else none) else none
    | none => none
   | none => none
  | none => none
 | _ => none
def makeSlE (E : Env) (s : St) (G : Guards) (t : TypeId) (len cap : Operand) : Option Eff :=
 match E.P.underlying t with
 | some (.slice e) => match E.tc e with
  | some c => match s.raw G len, s.raw G cap with
   | some (.int _ l), some (.int _ m) => bif sideB E.P e (size c) then
     some ⟨.sq s.nx, s.nx + 1, (s.nx, some (.arr e (size c) (.ty c (List.replicate l.toNat (dflt c))))) :: s.o, 1, [0 ≤ l ∧ l ≤ m ∧ m ≤ 549755813888]⟩ else none
   | _, _ => none
  | none => none
 | _ => none
def destE (o : Objs) (e : TypeId) (sz : Nat) : A → Option (Option Nat × Els)
 | .sq i => match lookO i o with
  | some (.arr e' size els) => bif Nat.beq e' e then (bif Nat.beq size sz then some (some i, els) else none) else none
  | _ => none
 | .nl => some (none, .lst [])
 | .v x => bif isNilV x then some (none, .lst []) else none
 | _ => none
def isStr (d : Option TypeDesc) : Bool := match d with
 | some .string => true
 | _ => false
def isSl (d : Option TypeDesc) : Bool := match d with
 | some (.slice _) => true
 | _ => false
def moreE (E : Env) (s : St) (G : Guards) (u : TypeId) (sz : Nat) (y : Operand) : Option (Els × List Prop) :=
 bif isStr (E.P.underlying u) then (match s.raw G y with
  | some (.string b) => bif Nat.beq sz 1 then some (.ty .u8 b.data.toList, []) else none
  | _ => none)
 else bif isSl (E.P.underlying u) then (match s.ev G y with
  | some y' => srcE s.o sz y'
  | none => none) else none
def appE (E : Env) (s : St) (G : Guards) (t u : TypeId) (x y : Operand) : Option Eff :=
 match E.P.underlying t with
 | some (.slice e) => match sizeP E.P e with
  | some sz => bif sideB E.P e sz then (match moreE E s G u sz y with
   | some (b, ps) => match s.ev G x with
    | some (.vw i z lo n true) => match lookO i s.o with
     | some (.arr _ size els) => bif Nat.beq z sz then (bif Nat.beq size sz then (match catEls (subEls lo n els) b with
      | some (r, qs) => match r.norm (E.tc e) with
       | (r', rs) => some ⟨.sq s.nx, s.nx + 1, (s.nx, some (.arr e sz r')) :: s.o, 1, (lo + n ≤ els.n ∧ 0 < b.n ∧ boundP (n + b.n)) :: (ps ++ (qs ++ rs))⟩
      | none => none) else none) else none
     | _ => none
    | some x' => match destE s.o e sz x' with
     | some (d, a) => match catEls a b with
      | some (r, qs) => match r.norm (E.tc e) with
       | (r', rs) => some ⟨.sq s.nx, s.nx + 1, (s.nx, some (.arr e sz r')) :: dropO1 s.o d, bif d.isSome then 2 else 1, boundP (a.n + b.n) :: (ps ++ (qs ++ rs))⟩
      | none => none
     | none => none
    | none => none
   | none => none) else none
  | none => none
 | _ => none
def midE (lo n : Nat) (els b : Els) : Option (Els × List Prop) := match els with
 | .ty c l => match elsTy c b with
  | some (m, ps) => some (.ty c (l.take lo ++ (m.take n ++ l.drop (lo + Nat.min n m.length))), ps)
  | none => none
 | .lst _ => none
def copyE (E : Env) (s : St) (G : Guards) (t u : TypeId) (x y : Operand) : Option Eff :=
 match E.P.underlying t with
 | some (.slice e) => match sizeP E.P e with
  | some sz => bif sideB E.P e sz then (match moreE E s G u sz y with
   | some (b, ps) => match s.ev G x with
    | some (.sq i) => match lookO i s.o with
     | some (.arr e' size els) => bif Nat.beq size sz then (match midE 0 els.n els b with
      | some (r, qs) => some ⟨.v (.int .i64 (Nat.min b.n els.n : Nat)), s.nx, (i, some (.arr e' size r)) :: s.o, 2, ps ++ qs⟩
      | none => none) else none
     | _ => none
    | some (.vw i z lo n _) => match lookO i s.o with
     | some (.arr e' size els) => bif Nat.beq z sz then (bif Nat.beq size sz then (match midE lo n els b with
      | some (r, qs) => some ⟨.v (.int .i64 (Nat.min b.n n : Nat)), s.nx, (i, some (.arr e' size r)) :: s.o, 2, (lo + n ≤ els.n) :: (ps ++ qs)⟩
      | none => none) else none) else none
     | _ => none
    | _ => none
   | none => none) else none
  | none => none
 | _ => none
def strBytesE (E : Env) (s : St) (G : Guards) (src dst : TypeId) (x : Operand) : Option Eff :=
 match E.P.underlying src, E.P.underlying dst with
 | some .string, some (.slice e) => match E.P.underlying e, s.raw G x with
  | some (.int .u8), some (.string b) => some ⟨.sl .u8 b.data.toList, s.nx, s.o, 1, []⟩
  | _, _ => none
 | _, _ => none
def callEff (E : Env) (s : St) (G : Guards) (f : Operand) (args : List Operand) : Option Eff := match callR E s G f args with
 | some (k, x, nx', o', ps) => some ⟨x, nx', o', bif Nat.ble k 1 then 1 else 2, ps⟩
 | none => none
def rangeE (E : Env) (s : St) (G : Guards) (t : TypeId) (x : Operand) : Option Eff := match E.P.underlying t, s.raw G x with
 | some .string, some (.string b) => some ⟨.own s.nx 0, s.nx + 1, (s.nx, some (.sit b 0)) :: s.o, 1, []⟩
 | _, _ => none
def nextE (s : St) (G : Guards) (it : Operand) : Option Eff := match s.ev G it with
 | some (.own i off) => bif Nat.beq off 0 then (match lookO i s.o with
  | some (.sit b pos) => some ⟨.it (decide (pos < b.size)) [.int .i64 (pos : Nat), .int .i32 ((Utf8.decode b pos).1 : Nat)], s.nx, (i, some (.sit b (bif decide (pos < b.size) then pos + (Utf8.decode b pos).2 else pos))) :: s.o, 2, []⟩
  | _ => none) else none
 | _ => none
def mkMapE (E : Env) (s : St) (t : TypeId) : Option Eff := bif keyB E t then some ⟨.mp s.nx, s.nx + 1, (s.nx, some (.map .str .i64 [])) :: s.o, 1, []⟩ else none
def mapUpE (E : Env) (s : St) (G : Guards) (t : TypeId) (m k x : Operand) : Option Eff := match s.ev G m, s.raw G k, s.raw G x with
 | some y, some (.string b), some (.int .i64 n) => match mapI s.o y with
  | some (i, l) => bif keyB E t then some ⟨.v undef, s.nx, (i, some (.map .str .i64 (updM l b n))) :: s.o, 2, []⟩ else none
  | none => none
 | _, _, _ => none
def effE (E : Env) (s : St) (G : Guards) (o : Oper) : Option Eff :=
 match o.op with
 | .alloc e => allocE E s e
 | .box e v => boxE s G e v
 | .store t x v => setE E s G t x v
 | .buildSlice t len parts => buildSlE E s G t len parts.toList
 | .makeSlice t len cap => makeSlE E s G t len cap
 | .convert src dst x => strBytesE E s G src dst x
 | .call { callee := .builtin .append, args, argTypes } => match args.toList, argTypes.toList with
  | [x, y], [t, u] => appE E s G t u x y
  | _, _ => none
 | .call { callee := .builtin .copy, args, argTypes } => match args.toList, argTypes.toList with
  | [x, y], [t, u] => copyE E s G t u x y
  | _, _ => none
 | .call { callee := .value f, args, .. } => callEff E s G f args.toList
 | .range t x => rangeE E s G t x
 | .next it true => nextE s G it
 | .makeMap t none => mkMapE E s t
 | .mapUpdate t m k x => mapUpE E s G t m k x
 | _ => none
def loudB : Op → Bool
 | .alloc _ => true
 | .box _ _ => true
 | .store _ _ _ => true
 | .buildSlice _ _ _ => true
 | .makeSlice _ _ _ => true
 | .call { callee := .builtin .append, .. } => true
 | .call { callee := .builtin .copy, .. } => true
 | .range _ _ => true
 | .next _ _ => true
 | .makeMap _ _ => true
 | .mapUpdate _ _ _ _ => true
 | _ => false
def opE (E : Env) (s : St) (G : Guards) (o : Oper) : Option Eff :=
 bif loudB o.op then effE E s G o else match valE E s G o with
  | some (x, ps) => some ⟨x, s.nx, s.o, 0, ps⟩
  | none => effE E s G o
section
variable {E : Env} {Z : Base} {F : Nat → Prop} {N : Nm} {s : St} {a : Act} {R : World} {G : Guards}
theorem cellsOf_ok (h : Rel Z F N s a R) (hG : GOk (tmOf a) G) {v : Operand} {us : List A} (he : cellsOf s G v = some us) : HL F N s.nx R us (a.eval v).cells.toList ∧ ∀ c ∈ (a.eval v).cells.toList, c.oneCell' = true := by
 unfold cellsOf at he
 split at he <;> first | (cases he; done) | skip
 rename_i x hx
 split at he <;> first | (cases he; done) | skip
 rename_i us' hc
 cases h1 : sqOk s.o us' with
 | false => rw [h1] at he; cases he
 | true =>
  cases h2 : oneA us' with
  | false => rw [h1, h2] at he; cases he
  | true =>
   rw [h1, h2] at he
   cases he
   have := cellsA_ok h.hp hc h1 (ev_ok h hG hx).2
   exact ⟨this, one_list h.hp h2 h1 this⟩
theorem set_ok (h : Rel Z F N s a R) (hG : GOk (tmOf a) G) {t : TypeId} {x v : Operand} {f : Eff} (he : setE E s G t x v = some f) (hp : ∀ p ∈ f.ps, p) :
  ∃ R', (Instr.storeAt t (a.eval x) (a.eval v)).run E.P R = .ok () R' ∧ EK F N s.nx s.o R f undef R' := by
 unfold setE at he
 split at he <;> first | (cases he; done) | skip
 rename_i us hus
 obtain ⟨hu, h1⟩ := cellsOf_ok h hG hus
 have hlen := hu.length
 split at he <;> first | (cases he; done) | skip
 rename_i n hn
 cases hb : Nat.beq n us.length with
 | false => rw [hb] at he; cases he
 | true =>
  rw [hb] at he
  obtain rfl := Nat.eq_of_beq_eq_true hb
  simp only [cond_true] at he
  rw [← hlen] at hn
  split at he <;> first | (cases he; done) | skip
  ·rename_i i off hx
   have hx' := (ev_ok h hG hx).2.own_inv
   split at he <;> first | (cases he; done) | skip
   rename_i e cs hl
   cases hb2 : Nat.ble (off + us.length) cs.length with
   | false => rw [hb2] at he; cases he
   | true =>
    rw [hb2] at he
    cases he
    have hle := Nat.le_of_ble_eq_true hb2
    obtain ⟨_, vs, g1, g2⟩ := h.hp.ob i _ hl
    have hvl := g1.length
    refine ⟨_, run_storeAt hx'.2 g2 hn (by omega) h1, ek_set h.hp hl (HL.put hu g1) g2⟩
  ·rename_i i base len k hx
   have hx' := (ev_ok h hG hx).2.ownx_inv
   split at he <;> first | (cases he; done) | skip
   rename_i e cs hl
   split at he <;> first | (cases he; done) | skip
   rename_i u
   cases hb2 : Nat.ble (base + len) cs.length with
   | false => rw [hb2] at he; cases he
   | true =>
    rw [hb2] at he
    cases he
    have hle := Nat.le_of_ble_eq_true hb2
    have hk : k < len := hp _ (List.mem_singleton.2 rfl)
    obtain ⟨_, vs, g1, g2⟩ := h.hp.ob i _ hl
    have hvl := g1.length
    obtain ⟨y, ys, hy, hu1, hu2⟩ := hu.inv
    have hys := hu2.inv0
    subst hys
    have hsel := setA_ok hu1 ((g1.drop base).take len) (Nat.zero_le k) (by rw [List.length_take, List.length_drop]; omega)
    have hput := HL.put (off := base) hsel g1
    rw [Nat.sub_zero] at hput
    have hl2 : (((vs.drop base).take len).take k ++ [y] ++ ((vs.drop base).take len).drop (k + 1)).length = len := by
     simp only [List.length_append, List.length_take, List.length_drop, List.length_cons, List.length_nil]
     omega
    rw [hl2] at hput
    have hrun := run_storeAt (P := E.P) hx'.2 g2 hn (by rw [hy]; simp; omega) h1
    rw [hy] at hrun
    have e1 : vs.take (base + k) ++ [y] ++ vs.drop (base + k + [y].length) = vs.take base ++ (((vs.drop base).take len).take k ++ [y] ++ ((vs.drop base).take len).drop (k + 1)) ++ vs.drop (base + len) := by
     rw [List.take_take, Nat.min_eq_left (by omega), List.drop_take, List.drop_drop]
     have e2 : vs.take (base + k) = vs.take base ++ (vs.drop base).take k := by rw [List.take_add]
     have e3 : vs.drop (base + (k + 1)) = (vs.drop (base + (k + 1))).take (len - (k + 1)) ++ vs.drop (base + len) := by
      have := (List.take_append_drop (len - (k + 1)) (vs.drop (base + (k + 1)))).symm
      rwa [List.drop_drop, show base + (k + 1) + (len - (k + 1)) = base + len by omega] at this
     rw [e2, show base + k + [y].length = base + (k + 1) by simp; omega]
     conv => lhs; rw [e3]
     simp [List.append_assoc]
    rw [e1] at hrun
    exact ⟨_, hrun, ek_set h.hp hl hput g2⟩
  ·rename_i i k sz off hx
   have hx' := (ev_ok h hG hx).2.el_inv
   split at he <;> first | (cases he; done) | skip
   rename_i e size els hl
   cases hb2 : Nat.beq size sz with
   | false => rw [hb2] at he; cases he
   | true =>
   cases hb3 : Nat.ble (off + us.length) size with
   | false => rw [hb2, hb3] at he; cases he
   | true =>
    rw [hb2, hb3] at he
    simp only [cond_true] at he
    split at he <;> first | (cases he; done) | skip
    rename_i els' qs hels
    cases he
    obtain rfl := Nat.eq_of_beq_eq_true hb2
    have hle := Nat.le_of_ble_eq_true hb3
    have hk : k < els.n := hp _ (List.mem_cons_self ..)
    obtain ⟨_, zs, g1, g2⟩ := h.hp.ob i _ hl
    have hr : RowHL F N s.nx R els size zs := ⟨g1.1, g2⟩
    obtain ⟨r1, r2⟩ := setEls_ok hels (fun p hm => hp p (List.mem_cons_of_mem _ hm)) hr hu hk (by omega)
    obtain ⟨g, cap, cur, q1, q2, q3, q4, q5, q6⟩ := own_blk g1 (by omega)
    have hkk : k * size + size ≤ els.n * size := by rw [← Nat.succ_mul]; exact Nat.mul_le_mul_right _ hk
    have hown := own_put (w := R) (o := k * size + off) (vs := (a.eval v).cells.toList) g1.1 q2 q3 q4 q5 q6 (by omega)
    rw [← q1, ← r1] at hown
    have hcur : els.n * size ≤ cur.toList.length := by rw [Array.length_toList, q5]; exact Nat.mul_le_mul_right _ q3
    have hpl : a.eval x = .pointer (some ⟨g, k * size + off, none⟩) := by
     rw [hx'.2]
     show Value.pointer (some ((placeOf (N.q i)).add _)) = _
     rw [q1]
     show Value.pointer (some ((⟨g, 0, none⟩ : Addr).add _)) = _
     rw [add_mk, Nat.zero_add]
    have hrun := run_storeAt (P := E.P) (R := R) (cs := cur.toList) hpl (by simpa using q2) hn (by omega) h1
    refine ⟨_, hrun, ek_put (R' := R.setRow g (cur.toList.take (k * size + off) ++ (a.eval v).cells.toList ++ cur.toList.drop (k * size + off + (a.eval v).cells.toList.length)).toArray) h.hp hl rfl rfl rfl (by simp) (fun g' _ hg' => setRow_other R _ g' _ (fun e => ?_)) hown r2 fun _ _ => .v _⟩
    subst e
    rw [q1] at hg'
    exact hg' rfl
theorem repL_ok {F : Nat → Prop} {N : Nm} {nx : Nat} {R : World} {z : List A} {zs : List Value} (h : HL F N nx R z zs) : ∀ n, HL F N nx R (repL z n) ((List.replicate n zs).flatten)
 | 0 => HL.nil
 | n + 1 => by
  unfold repL
  rw [List.replicate_succ, List.flatten_cons]
  exact h.append (repL_ok h n)
theorem madeCells_rep (z : Array Value) : ∀ n, (madeCells z (n * z.size)).toList = (List.replicate n z.toList).flatten := fun n => by
 apply List.ext_getElem?
 intro m
 by_cases hm : m < n * z.size
 ·have hz : 0 < z.size := by
   rcases Nat.eq_zero_or_pos z.size with h0 | h0
   ·rw [h0] at hm; simp at hm
   ·exact h0
  have hmod := Nat.mod_lt m hz
  have e1 : (madeCells z (n * z.size)).toList[m]? = some z[m % z.size] := by
   have : (madeCells z (n * z.size))[m]? = some (z[m % z.size]!) := by simp [madeCells, hm]
   rw [Array.getElem?_toList, this]
   simp [hmod]
  rw [e1]
  have key : ∀ (k i : Nat), i < k * z.size → ((List.replicate k z.toList).flatten)[i]? = some (z[i % z.size]'(Nat.mod_lt _ hz)) := by
   intro k
   induction k with
   | zero => intro i hi; simp at hi
   | succ k ih =>
    intro i hi
    rw [List.replicate_succ, List.flatten_cons, List.getElem?_append]
    by_cases hlt : i < z.toList.length
    ·rw [if_pos hlt]
     have hlt' : i < z.size := by simpa using hlt
     simp [hlt', Nat.mod_eq_of_lt hlt']
    ·rw [if_neg hlt]
     have hge : z.size ≤ i := by simpa using hlt
     rw [Nat.succ_mul] at hi
     rw [show z.toList.length = z.size by simp, ih (i - z.size) (by omega)]
     congr 1
     have : (i - z.size) % z.size = i % z.size := by
      conv => rhs; rw [show i = (i - z.size) + z.size by omega, Nat.add_mod_right]
     simp only [this]
  exact (key n m hm).symm
 ·rw [List.getElem?_eq_none (by rw [Array.length_toList, size_madeCells]; omega), List.getElem?_eq_none]
  simp only [List.length_flatten, List.map_replicate, Array.length_toList, List.sum_replicate_nat]
  omega
theorem run_buildSl {P : Program} {t e : TypeId} {i : TypeInfo} {z : Value} {len : Nat} {parts : List (Nat × Value)} (hu : P.underlying t = some (.slice e)) (hi : P.info? e = some i) (hz : i.zero = some z) (hs : len * i.size ≤ 16777216)
  {arr : Array Value} (hf : Instr.fill (fun k => some (k * i.size, i.size)) (madeCells z.cells (len * i.size)) parts = some arr) (R : World) :
  (Instr.buildSlice t len parts.toArray).run P R = .ok (.slice (some ⟨R.heap.size, 0, none⟩) len len) (R.alloc (.cells arr e (0, 0))) := by
 have g1 : ¬ len * i.size > 2 ^ 24 := by omega
 have hf' : Instr.fill (fun k => some (k * i.size, i.size)) (Array.map (fun k => z.cells[k % z.cells.size]!) (Array.range (len * i.size))) parts = some arr := hf
 by_cases g2 : len * i.size = 0
 ·have hz0 : ∀ f : Nat → Value, Array.map f (Array.range 0) = #[] := fun f => Array.eq_empty_of_size_eq_zero (by simp)
  rw [g2, hz0] at hf'
  simp [Instr.buildSlice, run_underlying hu, sizeOf, typeInfo, hi, g2, hz0, hf', newRow]
 ·simp only [Instr.buildSlice, Sem.run_bind, run_underlying hu, Result.andThen_ok, sizeOf, typeInfo, run_program, hi, Sem.run_pure, g1, g2, if_false, zeroValue, hz, hf']
  simp [newRow]
theorem moreE_ok (h : Rel Z F N s a R) (hG : GOk (tmOf a) G) {u : TypeId} {sz : Nat} {y : Operand} {b : Els} {ps : List Prop} (he : moreE E s G u sz y = some (b, ps)) (hp : ∀ p ∈ ps, p) (hs : 0 < sz) :
  (∃ e', E.P.underlying u = some (.slice e') ∨ E.P.underlying u = some .string) ∧ ∃ us, RowHL F N s.nx R b sz us ∧ (∀ v ∈ us, v.oneCell' = true) ∧
   ∀ R', (∀ ad v, R.cell? ad = some v → R'.cell? ad = some v) → (Builtin.lenOf (a.eval y)).run E.P R' = .ok b.n R' ∧ ∀ k, k ≤ b.n → (Builtin.firstCells sz k (a.eval y)).run E.P R' = .ok (us.take (k * sz)).toArray R' := by
 unfold moreE at he
 cases h1 : isStr (E.P.underlying u) with
 | true =>
  rw [h1] at he
  simp only [cond_true] at he
  split at he <;> first | (cases he; done) | skip
  rename_i bs hb
  cases hb1 : Nat.beq sz 1 with
  | false => rw [hb1] at he; cases he
  | true =>
   rw [hb1] at he
   cases he
   obtain rfl := Nat.eq_of_beq_eq_true hb1
   have hu : E.P.underlying u = some .string := by
    unfold isStr at h1
    split at h1 <;> first | (cases h1; done) | skip
    rename_i hh
    exact hh
   refine ⟨⟨0, .inr hu⟩, bs.data.toList.map byteV, ⟨by simp [Els.n], fun k hk => ?_⟩, fun v hv => ?_, fun R' _ => ?_⟩
   ·have hk' : k < bs.data.toList.length := hk
    show HL F N s.nx R (enc .u8 (bs.data.toList.getD k 0)) _
    rw [Nat.mul_one]
    have e1 : ((bs.data.toList.map byteV).drop k).take 1 = [byteV (bs.data.toList.getD k 0)] := by
     rw [List.drop_eq_getElem_cons (by simpa using hk'), List.take_succ_cons, List.take_zero, List.getElem_map, List.getD_eq_getElem?_getD, List.getElem?_eq_getElem hk']
     rfl
    rw [e1]
    exact HL.cons (.v _) HL.nil
   ·obtain ⟨b, _, rfl⟩ := List.mem_map.1 hv
    rfl
   ·rw [raw_ok h hG hb]
    refine ⟨by simp only [Builtin.lenOf, Sem.run_pure]; rfl, fun k hk => ?_⟩
    have hk' : k ≤ bs.data.toList.length := hk
    simp only [Builtin.firstCells, Sem.run_pure]
    congr 1
    apply Array.ext'
    rw [Nat.mul_one, Array.toList_map]
    have : (bs.extract 0 k).data.toList = bs.data.toList.take k := by
     rw [ByteArray.data_extract, Array.toList_extract, List.extract_eq_take_drop]
     simp
    rw [this, List.map_take]
    rfl
 | false =>
  rw [h1] at he
  simp only [cond_false] at he
  cases h2 : isSl (E.P.underlying u) with
  | false => rw [h2] at he; cases he
  | true =>
   rw [h2] at he
   simp only [cond_true] at he
   split at he <;> first | (cases he; done) | skip
   rename_i y' hy
   have hu : ∃ e', E.P.underlying u = some (.slice e') := by
    unfold isSl at h2
    split at h2 <;> first | (cases h2; done) | skip
    rename_i e' hh
    exact ⟨e', hh⟩
   obtain ⟨e', hu⟩ := hu
   obtain ⟨us, g1, g2, g3⟩ := srcE_ok h.hp he hp (ev_ok h hG hy).2 hs
   exact ⟨⟨e', .inl hu⟩, us, g2, g3, fun R' hc => src_read g1 hc⟩
end
end Go.Proofs.Yteebobbhhgmeiaa
namespace Go.Proofs.Yteebobbhhgmeiaa
open Go.RowKit
section
variable {E : Env} {Z : Base} {F : Nat → Prop} {N : Nm} {s : St} {a : Act} {R : World} {G : Guards}
theorem own_made {w : World} {e : TypeId} {sz n cap : Nat} {cur : Array Value} {zs : List Value} (hz : zs.length = n * sz) (hc : cur.size = cap * sz) (hm : cap ≤ maxLen) (hn : n ≤ cap) (ht : cur.toList.take (n * sz) = zs) {g : Nat} (hg : w.heap[g]? = some (.cells cur e (0, 0))) :
  OwnR w e sz (.slice (some ⟨g, 0, none⟩) n cap) n zs := by
 cases cap with
 | zero =>
  have : n = 0 := by omega
  subst this
  exact ⟨hz, .inl ⟨_, rfl, rfl⟩⟩
 | succ c => exact ⟨hz, .inr ⟨g, c, cur, rfl, hg, hn, hm, hc, ht⟩⟩
theorem app_grow {t u ty e e' : TypeId} {i : TypeInfo} {z : Value} (ht : E.P.underlying t = some (.slice e)) (hu : E.P.underlying u = some (.slice e') ∨ E.P.underlying u = some .string) (hi : E.P.info? e = some i) (hz : i.zero = some z) (hzs : z.cells.size = i.size) (hby : i.bytes ≤ 256)
  {b : Option Addr} {n cap m : Nat} {x : Value} {zs us : List Value} (hzl : zs.length = n * i.size) (hul : us.length = m * i.size) (hold : (Builtin.firstCells i.size n (.slice b n cap)).run E.P R.drew = .ok zs.toArray R.drew)
  (hlen : (Builtin.lenOf x).run E.P R = .ok m R) (hnew : (Builtin.firstCells i.size m x).run E.P R.drew = .ok us.toArray R.drew) (hg : cap < n + m) (hbd : boundP (n + m)) :
  ∃ v' R', (Builtin.append_ #[t, u] ty #[.slice b n cap, x]).run E.P R = .ok v' R' ∧ OwnR R' e i.size v' (n + m) (zs ++ us) ∧ Below R.heap.size R R' ∧ ∀ g, blkOf v' = some g → R.heap.size ≤ g := by
 have hbd' : n + m ≤ 549755813888 := hbd
 have hb2 : (n + m) * i.bytes ≤ 140737488355328 := Nat.le_trans (Nat.mul_le_mul hbd' hby) (by decide)
 have hrun := run_app_grow (P := E.P) (w := R) t u ty e i z ht hu hi hz b n cap m x zs us hold hlen hnew hg (by omega) (growslice_fits hg hb2)
 refine ⟨_, _, hrun, ?_, ((Below.refl _ R).drew).trans ⟨rfl, rfl, rfl, by simp, fun k hk => Below.heap_alloc R.drew _ k hk⟩, fun g hg => ?_⟩
 ·have hge := grownCap_ge R (n + m) cap e
  have hmx : maxLen = 9223372036854775807 := rfl
  have hcm : grownCap R (n + m) cap e ≤ maxLen := grownCap_le_maxLen R (n + m) cap e (by omega)
  refine own_made (cur := zs.toArray ++ us.toArray ++ Builtin.zeroCells z.cells (grownCap R (n + m) cap e - (n + m))) ?_ ?_ hcm hge ?_ (heap_alloc_new R.drew _)
  ·rw [List.length_append, hzl, hul, Nat.add_mul]
  ·simp only [Array.size_append, List.size_toArray, size_zeroCells, hzs, hzl, hul, ← Nat.add_mul]
   congr 1
   omega
  ·simp only [Array.toList_append]
   have : (n + m) * i.size = (zs ++ us).length := by rw [List.length_append, hzl, hul, Nat.add_mul]
   rw [this]
   exact List.take_left
 ·generalize grownCap R (n + m) cap e = c at hg
  cases c with
  | zero => cases hg
  | succ c => cases hg; exact Nat.le_refl _
theorem drew_cell {ad : Addr} {v : Value} (h : R.cell? ad = some v) : R.drew.cell? ad = some v := h
def AppRes (E : Env) (R : World) (t u ty e : TypeId) (sz : Nat) (v0 x : Value) (k : Nat) (zs : List Value) : Prop := ∃ v' R', (Builtin.append_ #[t, u] ty #[v0, x]).run E.P R = .ok v' R' ∧ OwnR R' e sz v' k zs ∧ R'.os = R.os ∧ R'.tape = R.tape ∧ R'.output = R.output ∧ R.heap.size ≤ R'.heap.size ∧
   (∀ g, g < R.heap.size → blkOf v0 ≠ some g → R'.heap[g]? = R.heap[g]?) ∧ ∀ g, blkOf v' = some g → R.heap.size ≤ g ∨ blkOf v0 = some g
theorem app_own {t u ty e e' : TypeId} {i : TypeInfo} {z : Value} (ht : E.P.underlying t = some (.slice e)) (hu : E.P.underlying u = some (.slice e') ∨ E.P.underlying u = some .string) (hi : E.P.info? e = some i) (hz : i.zero = some z) (hzs : z.cells.size = i.size) (hby : i.bytes ≤ 256)
  {v0 : Value} {n m : Nat} {x : Value} {zs us : List Value} (h0 : OwnR R e i.size v0 n zs) (hul : us.length = m * i.size) (h1 : ∀ v ∈ us, v.oneCell' = true)
  (hx : ∀ R', (∀ ad v, R.cell? ad = some v → R'.cell? ad = some v) → (Builtin.lenOf x).run E.P R' = .ok m R' ∧ ∀ k, k ≤ m → (Builtin.firstCells i.size k x).run E.P R' = .ok (us.take (k * i.size)).toArray R') (hbd : boundP (n + m)) :
  AppRes E R t u ty e i.size v0 x (n + m) (zs ++ us) := by
 obtain ⟨hl1, hf1⟩ := hx R fun _ _ h => h
 obtain ⟨_, hf2⟩ := hx R.drew fun _ _ h => drew_cell h
 have hfull : us.take (m * i.size) = us := by rw [← hul]; exact List.take_length
 have hf1' := hf1 m (Nat.le_refl _)
 have hf2' := hf2 m (Nat.le_refl _)
 rw [hfull] at hf1' hf2'
 have grow : ∀ b cap, v0 = .slice b n cap → (Builtin.firstCells i.size n (.slice b n cap)).run E.P R.drew = .ok zs.toArray R.drew → cap < n + m → AppRes E R t u ty e i.size v0 x (n + m) (zs ++ us) := fun b cap e0 hold hlt => by
  obtain ⟨v', R', g1, g2, g3, g4⟩ := app_grow (R := R) (E := E) (ty := ty) ht hu hi hz hzs hby h0.1 hul hold hl1 hf2' hlt hbd
  rw [← e0] at g1
  exact ⟨v', R', g1, g2, g3.os, g3.tape, g3.output, g3.size, fun g hg _ => g3.block g hg, fun g hg => .inl (g4 g hg)⟩
 have hrd := (src_read (P := E.P) (flat_own h0) (w' := R.drew) fun _ _ h => drew_cell h).2 n (Nat.le_refl _)
 have hzfull : zs.take (n * i.size) = zs := by rw [← h0.1]; exact List.take_length
 rw [hzfull] at hrd
 rcases h0.2 with ⟨b, e0, n0⟩ | ⟨g, cap, cur, e0, q2, q3, q4, q5, q6⟩
 ·subst n0
  by_cases hm : m = 0
  ·subst hm
   have hus : us = [] := List.eq_nil_of_length_eq_zero (by simpa using hul)
   subst hus
   have := run_app_none (P := E.P) (w := R) t u ty e i ht hu hi b x hl1 (by simpa using hf1 0 (Nat.le_refl _))
   rw [← e0] at this
   exact ⟨v0, R, this, by simpa using h0, rfl, rfl, rfl, Nat.le_refl _, fun _ _ _ => rfl, fun g hg => .inr hg⟩
  ·rw [e0] at hrd
   exact grow b 0 e0 hrd (by omega)
 ·by_cases hroom : n + m ≤ cap + 1
  ·have hfit : n * i.size + us.length ≤ cur.size := by rw [hul, q5, ← Nat.add_mul]; exact Nat.mul_le_mul_right _ hroom
   have hrun := run_app_room (P := E.P) (w := R) t u ty e i ht hu hi g n (cap + 1) m x cur q2 us hl1 hf1' h1 hroom hfit
   rw [← e0] at hrun
   refine ⟨_, _, hrun, ?_, rfl, rfl, rfl, by simp, fun g' _ hg' => setRow_other R _ g' _ (fun e => hg' (by subst e; rw [e0]; rfl)), fun g' hg' => .inr (by rw [e0]; exact hg')⟩
   refine own_made (by rw [List.length_append, h0.1, hul, Nat.add_mul]) ?_ q4 hroom ?_ (setRow_heap R g cur _ e _ q2)
   ·simp only [List.size_toArray, List.length_append, List.length_take, List.length_drop, Array.length_toList]
    omega
   ·show List.take ((n + m) * i.size) (cur.toList.take (n * i.size) ++ us ++ cur.toList.drop (n * i.size + us.length)) = _
    rw [q6]
    have : (n + m) * i.size = (zs ++ us).length := by rw [List.length_append, h0.1, hul, Nat.add_mul]
    rw [this]
    exact List.take_left
  ·rw [e0] at hrd
   exact grow _ _ e0 hrd (by omega)
theorem dest_ok (h : HRel F N s.nx s.o R) {e : TypeId} {sz : Nat} {x : A} {v : Value} {d : Option Nat} {els : Els} (he : destE s.o e sz x = some (d, els)) (hx : Hv F N s.nx R x v) :
  ∃ zs, OwnR R e sz v els.n zs ∧ RowHL F N s.nx R els sz zs ∧ (∀ i, d = some i → (∃ e' s' els', lookO i s.o = some (.arr e' s' els')) ∧ v = N.q i) ∧ (d = none → blkOf v = none) := by
 unfold destE at he
 split at he <;> first | (cases he; done) | skip
 ·rename_i i
  split at he <;> first | (cases he; done) | skip
  rename_i e' size els' hl
  cases hb : Nat.beq e' e with
  | false => rw [hb] at he; cases he
  | true =>
   cases hb2 : Nat.beq size sz with
   | false => rw [hb, hb2] at he; cases he
   | true =>
    rw [hb, hb2] at he
    cases he
    obtain rfl := Nat.eq_of_beq_eq_true hb
    obtain rfl := Nat.eq_of_beq_eq_true hb2
    obtain ⟨_, zs, g1, g2⟩ := h.ob i _ hl
    rw [hx.sq_inv.2]
    exact ⟨zs, g1, ⟨g1.1, g2⟩, (fun j hj => by cases hj; exact ⟨⟨_, _, _, hl⟩, rfl⟩), fun e => by cases e⟩
 ·cases he
  obtain ⟨b, rfl⟩ := hx.nl_inv
  exact ⟨[], ⟨by simp [Els.n], .inl ⟨b, rfl, rfl⟩⟩, .nil, (fun j hj => by cases hj), fun _ => by cases b <;> rfl⟩
 ·rename_i x
  cases hb : isNilV x with
  | false => rw [hb] at he; cases he
  | true =>
   rw [hb] at he
   cases he
   rw [hx.v_inv, isNilV_ok hb]
   exact ⟨[], ⟨by simp [Els.n], .inl ⟨none, rfl, rfl⟩⟩, .nil, (fun j hj => by cases hj), fun _ => rfl⟩
theorem app_ok (h : Rel Z F N s a R) (hG : GOk (tmOf a) G) {t u ty : TypeId} {x y : Operand} {f : Eff} (he : appE E s G t u x y = some f) (hp : ∀ p ∈ f.ps, p) :
  ∃ v R', (Builtin.append_ #[t, u] ty #[a.eval x, a.eval y]).run E.P R = .ok v R' ∧ EK F N s.nx s.o R f v R' := by
 unfold appE at he
 split at he <;> first | (cases he; done) | skip
 rename_i e ht
 split at he <;> first | (cases he; done) | skip
 rename_i sz hsz
 cases hsd : sideB E.P e sz with
 | false => rw [hsd] at he; cases he
 | true =>
  rw [hsd] at he
  simp only [cond_true] at he
  obtain ⟨i, z, hi, hz, rfl, hzs, hpos, hby⟩ := sideB_ok hsd
  split at he <;> first | (cases he; done) | skip
  rename_i b ps hb
  split at he
  ·rename_i j z' lo n hx
   obtain ⟨_, aa, cap, q1, q2, q3, q4⟩ := (ev_ok h hG hx).2.vw_inv
   split at he <;> first | (cases he; done) | skip
   rename_i e0 size els hl
   cases hb0 : Nat.beq z' i.size with
   | false => rw [hb0] at he; cases he
   | true =>
   cases hb1 : Nat.beq size i.size with
   | false => rw [hb0, hb1] at he; cases he
   | true =>
    rw [hb0, hb1] at he
    simp only [cond_true] at he
    split at he <;> first | (cases he; done) | skip
    rename_i r qs hcat
    cases he
    generalize hnorm : r.norm (E.tc e) = nn at *
    obtain ⟨r', rs⟩ := nn
    obtain rfl := Nat.eq_of_beq_eq_true hb0
    obtain rfl := Nat.eq_of_beq_eq_true hb1
    obtain ⟨hle, hm0, hbd⟩ := hp _ (List.mem_cons_self ..)
    have hp1 : ∀ p ∈ ps, p := fun p hm => hp p (List.mem_cons_of_mem _ (List.mem_append.2 (.inl hm)))
    have hp2 : ∀ p ∈ qs, p := fun p hm => hp p (List.mem_cons_of_mem _ (List.mem_append.2 (.inr (List.mem_append.2 (.inl hm)))))
    have hp3 : ∀ p ∈ rs, p := fun p hm => hp p (List.mem_cons_of_mem _ (List.mem_append.2 (.inr (List.mem_append.2 (.inr hm)))))
    obtain ⟨⟨e', hu⟩, us, g1, g2, g3⟩ := moreE_ok h hG hb hp1 hpos
    obtain ⟨_, zs, r1, r2⟩ := h.hp.ob j _ hl
    have hr : RowHL F N s.nx R els i.size zs := ⟨r1.1, r2⟩
    have hsub := hr.sub hle
    obtain ⟨c1, c2⟩ := catEls_ok hcat hp2 hsub g1
    obtain ⟨d1, d2⟩ := norm_ok hnorm hp3 c2
    rw [sub_n hle] at c1
    obtain ⟨hl1, _⟩ := g3 R fun _ _ h => h
    obtain ⟨_, hf2⟩ := g3 R.drew fun _ _ h => drew_cell h
    have hful : us.take (b.n * i.size) = us := by rw [← g1.1]; exact List.take_length
    have hf2' := hf2 b.n (Nat.le_refl _)
    rw [hful] at hf2'
    have hflat : FlatR R (.slice aa n cap) i.size n ((zs.drop (lo * i.size)).take (n * i.size)) := ⟨by rw [hsub.1, sub_n hle], ⟨aa, cap, rfl, q2⟩, fun A m c e hn => by
     cases e
     refine ⟨_, q4 hn, fun k v hv => ?_⟩
     obtain ⟨g, c2, p1, _, p3, _, p5⟩ := row_place r1 (by omega)
     rw [p3, add_mk, add_mk, Nat.zero_add]
     rw [List.getElem?_take] at hv
     split at hv <;> first | (cases hv; done) | skip
     rw [List.getElem?_drop] at hv
     exact p5 _ v hv⟩
    have hrd := (src_read (P := E.P) hflat (w' := R.drew) fun _ _ h => drew_cell h).2 n (Nat.le_refl _)
    rw [List.take_take, Nat.min_self] at hrd
    have hcap : cap = n := q3 rfl
    obtain ⟨v', R', k1, k2, k3, k4⟩ := app_grow (R := R) (E := E) (ty := ty) ht hu hi hz hzs hby hflat.len g1.1 hrd hl1 hf2' (by omega) hbd
    rw [q1]
    refine ⟨v', R', k1, ?_⟩
    have hrow := ek_row (k := 1) (ps := (lo + n ≤ els.n ∧ 0 < b.n ∧ boundP (n + b.n)) :: (ps ++ (qs ++ rs))) (d := none) (e := e) (els := r') (v := v') h.hp k3.os k3.tape k3.output k3.size (fun _ e => by cases e) (fun g hg _ => k3.block g hg) (by rw [d1, c1]; exact k2) d2 (fun g hg => .inl (k4 g hg)) (fun _ => rfl)
    exact hrow
  ·rename_i x' hnv hx
   split at he <;> first | (cases he; done) | skip
   rename_i d els hd
   split at he <;> first | (cases he; done) | skip
   rename_i r qs hcat
   cases he
   generalize hnorm : r.norm (E.tc e) = nn at *
   obtain ⟨r', rs⟩ := nn
   have hbd : boundP (els.n + b.n) := hp _ (List.mem_cons_self ..)
   have hp1 : ∀ p ∈ ps, p := fun p hm => hp p (List.mem_cons_of_mem _ (List.mem_append.2 (.inl hm)))
   have hp2 : ∀ p ∈ qs, p := fun p hm => hp p (List.mem_cons_of_mem _ (List.mem_append.2 (.inr (List.mem_append.2 (.inl hm)))))
   have hp3 : ∀ p ∈ rs, p := fun p hm => hp p (List.mem_cons_of_mem _ (List.mem_append.2 (.inr (List.mem_append.2 (.inr hm)))))
   obtain ⟨⟨e', hu⟩, us, g1, g2, g3⟩ := moreE_ok h hG hb hp1 hpos
   obtain ⟨zs, r1, r2, r3, r4⟩ := dest_ok h.hp hd (ev_ok h hG hx).2
   obtain ⟨c1, c2⟩ := catEls_ok hcat hp2 r2 g1
   obtain ⟨d1, d2⟩ := norm_ok hnorm hp3 c2
   obtain ⟨v', R', k1, k2, k3, k4, k5, k6, k7, k8⟩ := app_own (E := E) (ty := ty) ht hu hi hz hzs hby r1 g1.1 g2 g3 hbd
   refine ⟨v', R', k1, ek_row h.hp k3 k4 k5 k6 (fun j hj => (r3 j hj).1) (fun g hg hn => k7 g hg fun e => ?_) (by rw [d1, c1]; exact k2) d2 (fun g hg => ?_) (fun hk => ?_)⟩
   ·cases d with
    | none => rw [r4 rfl] at e; cases e
    | some j =>
     rw [(r3 j rfl).2] at e
     exact hn j rfl e
   ·rcases k8 g hg with h1 | h1
    ·exact .inl h1
    ·cases d with
     | none => rw [r4 rfl] at h1; cases h1
     | some j => exact .inr ⟨j, rfl, by rw [← (r3 j rfl).2]; exact h1⟩
   ·cases d with
    | none => rfl
    | some j => cases hk with | step hk => cases hk
  ·cases he
theorem buildSl_ok (h : Rel Z F N s a R) (hG : GOk (tmOf a) G) {t : TypeId} {len : Nat} {parts : Array (Nat × Operand)} {f : Eff} (he : buildSlE E s G t len parts.toList = some f) :
  ∃ v R', (Instr.buildSlice t len (parts.map fun (i, x) => (i, a.eval x))).run E.P R = .ok v R' ∧ EK F N s.nx s.o R f v R' := by
 unfold buildSlE at he
 split at he <;> first | (cases he; done) | skip
 rename_i e hu
 split at he <;> first | (cases he; done) | skip
 rename_i i hi
 split at he <;> first | (cases he; done) | skip
 rename_i z hz
 split at he <;> first | (cases he; done) | skip
 rename_i ps hps
 cases h1 : Nat.ble (len * i.size) 16777216 with
 | false => rw [h1] at he; cases he
 | true =>
 cases h2 : Nat.beq z.cells.size i.size with
 | false => rw [h1, h2] at he; cases he
 | true =>
 cases h3 : Nat.ble 1 i.size with
 | false => rw [h1, h2, h3] at he; cases he
 | true =>
  rw [h1, h2, h3] at he
  simp only [cond_true] at he
  split at he <;> first | (cases he; done) | skip
  rename_i cs hcs
  cases h4 : oneEls s.o (.lst (chunks i.size len cs)) with
  | false => rw [h4] at he; cases he
  | true =>
   rw [h4] at he
   cases he
   have g1 := Nat.le_of_ble_eq_true h1
   have g2 := Nat.eq_of_beq_eq_true h2
   have g3 : 0 < i.size := Nat.le_of_ble_eq_true h3
   have hparts := partsE_ok h hG hps
   have hz0 : HL F N s.nx R (repL (toL z.cells.toList) len) (madeCells z.cells (len * i.size)).toList := by
    rw [← g2, madeCells_rep]
    exact repL_ok (HL.toL _) len
   obtain ⟨arr, q1, q2⟩ := fillA_ok hcs hparts hz0
   have hl : (parts.map fun (i, x) => (i, a.eval x)) = (parts.toList.map fun (i, x) => (i, a.eval x)).toArray := by rw [← Array.toList_map, Array.toArray_toList]
   have hrun := run_buildSl hu hi hz g1 q1 R
   rw [← hl] at hrun
   refine ⟨_, _, hrun, ?_⟩
   have hsize : ∀ {A0 arr : Array Value} {ps : List (Nat × Value)} {pl}, Instr.fill pl A0 ps = some arr → arr.size = A0.size := fun {A0 arr ps pl} hf => by
    induction ps generalizing A0 with
    | nil => simp only [Instr.fill] at hf; cases hf; rfl
    | cons p r ih =>
     obtain ⟨k, v⟩ := p
     unfold Instr.fill at hf
     split at hf <;> first | (cases hf; done) | skip
     split at hf
     ·cases hf
     ·rw [ih hf]
      have key : ∀ (l : List (Value × Nat)) (off : Nat) (c : Array Value), (l.foldl (fun (c : Array Value) (p : Value × Nat) => c.setIfInBounds (off + p.2) p.1) c).size = c.size := by
       intro l
       induction l with
       | nil => intro off c; rfl
       | cons p r ih => intro off c; rw [List.foldl_cons, ih]; simp
      rw [← Array.foldl_toList]
      exact key _ _ _
   have hasz : arr.size = len * i.size := by rw [hsize q1, size_madeCells]
   have hrow : RowHL F N s.nx R (.lst (chunks i.size len cs)) i.size arr.toList := by
    have hn : (Els.lst (chunks i.size len cs)).n = len := chunks_length _ _ _
    refine ⟨by rw [hn, Array.length_toList, hasz], fun k hk => ?_⟩
    rw [hn] at hk
    show HL F N s.nx R (nthL (chunks i.size len cs) k) _
    rw [chunks_nth _ _ _ _ hk]
    exact (q2.drop _).take _
   have hn : (Els.lst (chunks i.size len cs)).n = len := chunks_length _ _ _
   have hmx : len ≤ maxLen := by
    have h5 : len ≤ len * i.size := Nat.le_mul_of_pos_right _ g3
    have hmx : maxLen = 9223372036854775807 := rfl
    omega
   refine ek_row (d := none) (v := .slice (some ⟨R.heap.size, 0, none⟩) len len) h.hp rfl rfl rfl (by simp) (fun _ e => by cases e) (fun g hg _ => Below.heap_alloc R _ g hg) ?_ hrow (fun g hg => .inl ?_) (fun _ => rfl)
   ·rw [hn]
    exact own_made (by rw [Array.length_toList, hasz]) hasz hmx (Nat.le_refl _) (List.take_of_length_le (by rw [Array.length_toList, hasz]; exact Nat.le_refl _)) (heap_alloc_new R _)
   ·cases len with
    | zero => cases hg
    | succ n => cases hg; exact Nat.le_refl _
theorem makeSl_ok (ok : EnvOk E) (h : Rel Z F N s a R) (hG : GOk (tmOf a) G) {t : TypeId} {len cap : Operand} {f : Eff} (he : makeSlE E s G t len cap = some f) (hp : ∀ p ∈ f.ps, p) :
  ∃ v R', (Instr.makeSlice t (a.eval len) (a.eval cap)).run E.P R = .ok v R' ∧ EK F N s.nx s.o R f v R' := by
 unfold makeSlE at he
 split at he <;> first | (cases he; done) | skip
 rename_i e hu
 split at he <;> first | (cases he; done) | skip
 rename_i c hc
 split at he <;> first | (cases he; done) | skip
 rename_i k1 l k2 m hl hm
 cases hsd : sideB E.P e (size c) with
 | false => rw [hsd] at he; cases he
 | true =>
  rw [hsd] at he
  cases he
  obtain ⟨i, z, hi, hz, hs1, hzs, hpos, hby⟩ := sideB_ok hsd
  obtain ⟨i', hi', _, _, z', hz', hzc⟩ := ok.tc e c hc
  rw [hi] at hi'
  cases hi'
  rw [hz] at hz'
  cases hz'
  obtain ⟨h0, h1, h2⟩ := hp _ (List.mem_singleton.2 rfl)
  have hbm : (i.bytes : Int) * m ≤ 281474976710656 := by
   have a1 : (i.bytes : Int) * m ≤ 256 * m := Int.mul_le_mul_of_nonneg_right (by omega) (by omega)
   omega
  have hrun := run_make (P := E.P) R t e i z hu hi hz k1 k2 l m h0 h1 hbm (by omega)
  rw [raw_ok h hG hl, raw_ok h hG hm]
  refine ⟨_, _, hrun, ?_⟩
  have hn : (Els.ty c (List.replicate l.toNat (dflt c))).n = l.toNat := by simp [Els.n]
  have hzl : z.cells.toList.length = size c := by rw [Array.length_toList, hzs]
  have hmade : ∀ n, (madeCells z.cells (n * i.size)).toList = (List.replicate n z.cells.toList).flatten := fun n => by
   rw [hs1, ← hzs]
   exact madeCells_rep _ _
  have hflen : ∀ n, ((List.replicate n z.cells.toList).flatten).length = n * size c := fun n => by
   simp only [List.length_flatten, List.map_replicate, hzl, List.sum_replicate_nat]
  have htake : ∀ (k n : Nat), k ≤ n → ((List.replicate n z.cells.toList).flatten).take (k * size c) = (List.replicate k z.cells.toList).flatten := fun k n hkn => by
   have : List.replicate n z.cells.toList = List.replicate k z.cells.toList ++ List.replicate (n - k) z.cells.toList := by rw [List.replicate_append_replicate]; congr 1; omega
   rw [this, List.flatten_append]
   have e1 : k * size c = ((List.replicate k z.cells.toList).flatten).length := (hflen k).symm
   rw [e1]
   exact List.take_left
  have hdrop : ∀ (k n : Nat), k ≤ n → ((List.replicate n z.cells.toList).flatten).drop (k * size c) = (List.replicate (n - k) z.cells.toList).flatten := fun k n hkn => by
   have : List.replicate n z.cells.toList = List.replicate k z.cells.toList ++ List.replicate (n - k) z.cells.toList := by rw [List.replicate_append_replicate]; congr 1; omega
   rw [this, List.flatten_append]
   have e1 : k * size c = ((List.replicate k z.cells.toList).flatten).length := (hflen k).symm
   rw [e1]
   exact List.drop_left
  have hrow : RowHL F N s.nx R (.ty c (List.replicate l.toNat (dflt c))) (size c) ((List.replicate l.toNat z.cells.toList).flatten) := by
   refine ⟨by rw [hn, hflen], fun k hk => ?_⟩
   rw [hn] at hk
   rw [hdrop k _ (by omega), show l.toNat - k = (l.toNat - k - 1) + 1 by omega, List.replicate_succ, List.flatten_cons, show size c = z.cells.toList.length from hzl.symm, List.take_left]
   show HL F N s.nx R (enc c _) _
   rw [List.getD_eq_getElem?_getD, List.getElem?_replicate, if_pos hk]
   exact hzc F N s.nx R
  refine ek_row (d := none) (v := .slice (some ⟨R.heap.size, 0, none⟩) l.toNat m.toNat) h.hp rfl rfl rfl (by simp) (fun _ e => by cases e) (fun g hg _ => Below.heap_alloc R _ g hg) ?_ hrow (fun g hg => .inl ?_) (fun _ => rfl)
  ·rw [hn]
   have hmx : maxLen = 9223372036854775807 := rfl
   refine own_made (cur := madeCells z.cells (m.toNat * i.size)) (hflen _) (by rw [size_madeCells, hs1]) (by omega) (by omega) ?_ (heap_alloc_new R _)
   rw [hmade]
   exact htake _ _ (by omega)
  ·generalize m.toNat = c at hg
   cases c with
   | zero => cases hg
   | succ n => cases hg; exact Nat.le_refl _
end
end Go.Proofs.Yteebobbhhgmeiaa
namespace Go.Proofs.Yteebobbhhgmeiaa
open Go.RowKit Go.MapKept
section
variable {F : Nat → Prop} {N : Nm} {nx : Nat} {R : World} {size : Nat}
theorem ty_mid {c : TC} {l m : List (U c)} {lo n : Nat} (hlo : lo + Nat.min n m.length ≤ l.length) :
  (Els.ty c (l.take lo ++ (m.take n ++ l.drop (lo + Nat.min n m.length)))).n = l.length ∧
  ∀ j, j < l.length → (Els.ty c (l.take lo ++ (m.take n ++ l.drop (lo + Nat.min n m.length)))).nth j = if lo ≤ j ∧ j < lo + Nat.min n m.length then (Els.ty c m).nth (j - lo) else (Els.ty c l).nth j := by
 have hmin : Nat.min n m.length = min n m.length := rfl
 refine ⟨?_, fun j hj => ?_⟩
 ·show (l.take lo ++ (m.take n ++ l.drop _)).length = _
  rw [List.length_append, List.length_append, List.length_take, List.length_take, List.length_drop]
  omega
 ·show enc c ((l.take lo ++ (m.take n ++ l.drop _)).getD j (dflt c)) = _
  rw [List.getD_eq_getElem?_getD, List.getElem?_append, List.length_take]
  by_cases c1 : j < lo
  ·rw [if_pos (by omega), if_neg (by omega), List.getElem?_take, if_pos c1]
   show _ = enc c (l.getD j _)
   rw [List.getD_eq_getElem?_getD]
  ·rw [if_neg (by omega), List.getElem?_append, List.length_take]
   by_cases c2 : j < lo + Nat.min n m.length
   ·rw [if_pos (by omega), if_pos ⟨by omega, c2⟩, List.getElem?_take, if_pos (by omega)]
    show _ = enc c (m.getD (j - lo) _)
    rw [List.getD_eq_getElem?_getD]
    congr 3
    omega
   ·rw [if_neg (by omega), if_neg (by omega), List.getElem?_drop]
    show _ = enc c (l.getD j _)
    rw [List.getD_eq_getElem?_getD]
    congr 3
    omega
theorem mid_ok {lo n : Nat} {els b r : Els} {ps : List Prop} {zs us : List Value} (he : midE lo n els b = some (r, ps)) (hp : ∀ p ∈ ps, p) (h1 : RowHL F N nx R els size zs) (h2 : RowHL F N nx R b size us) (hle : lo + n ≤ els.n) :
  r.n = els.n ∧ RowHL F N nx R r size (zs.take (lo * size) ++ us.take (Nat.min b.n n * size) ++ zs.drop (lo * size + (us.take (Nat.min b.n n * size)).length)) := by
 unfold midE at he
 split at he <;> first | (cases he; done) | skip
 rename_i c l
 split at he <;> first | (cases he; done) | skip
 rename_i m qs hm
 cases he
 have h3 := h2.ty hm hp
 have hbn : m.length = b.n := (elsTy_ok (F := F) (N := N) (nx := nx) (R := R) hm hp).1
 have hmin : Nat.min b.n n = min b.n n := rfl
 have hmin2 : Nat.min n m.length = min n m.length := rfl
 have hle' : lo + n ≤ l.length := hle
 obtain ⟨k1, k2⟩ := ty_mid (m := m) (l := l) (lo := lo) (n := n) (by omega)
 have hz : zs.length = l.length * size := h1.1
 have hu : us.length = m.length * size := h3.1
 have hul : (us.take (Nat.min b.n n * size)).length = Nat.min b.n n * size := by
  rw [List.length_take, hu, hbn]
  exact Nat.min_eq_left (Nat.mul_le_mul_right _ (by omega))
 have hlm : lo * size + Nat.min b.n n * size ≤ zs.length := by rw [hz, ← Nat.add_mul]; exact Nat.mul_le_mul_right _ (by omega)
 refine ⟨k1, ?_, fun j hj => ?_⟩
 ·rw [k1, List.length_append, List.length_append, hul, List.length_take, List.length_drop, ← hz]
  omega
 ·rw [k1] at hj
  rw [k2 j hj]
  have hjs : j * size + size ≤ zs.length := by rw [hz, ← Nat.succ_mul]; exact Nat.mul_le_mul_right _ hj
  by_cases c1 : j < lo
  ·rw [if_neg (by omega)]
   have : j * size + size ≤ lo * size := by rw [← Nat.succ_mul]; exact Nat.mul_le_mul_right _ c1
   rw [List.append_assoc, List.drop_append_of_le_length (by rw [List.length_take]; omega), List.take_append_of_le_length (by rw [List.length_drop, List.length_take]; omega), List.drop_take, List.take_take, Nat.min_eq_left (by omega)]
   exact h1.2 j hj
  ·by_cases c2 : j < lo + Nat.min n m.length
   ·rw [if_pos ⟨by omega, c2⟩]
    have hk : j - lo < b.n := by omega
    have e1 : j * size = lo * size + (j - lo) * size := by rw [← Nat.add_mul]; congr 1; omega
    have hks : (j - lo) * size + size ≤ Nat.min b.n n * size := by rw [← Nat.succ_mul]; exact Nat.mul_le_mul_right _ (by omega)
    rw [List.append_assoc, List.drop_append, List.drop_eq_nil_of_le (by rw [List.length_take]; omega), List.nil_append, List.length_take, Nat.min_eq_left (by omega), e1, Nat.add_sub_cancel_left,
     List.drop_append_of_le_length (by omega), List.take_append_of_le_length (by rw [List.length_drop]; omega), List.drop_take, List.take_take, Nat.min_eq_left (by omega)]
    exact h3.2 (j - lo) (by rw [show (Els.ty c m).n = m.length from rfl, hbn]; exact hk)
   ·rw [if_neg (by omega)]
    have : lo * size + Nat.min b.n n * size ≤ j * size := by rw [← Nat.add_mul]; exact Nat.mul_le_mul_right _ (by omega)
    rw [List.drop_append, List.drop_eq_nil_of_le (by rw [List.length_append, List.length_take, hul]; omega), List.nil_append, List.length_append, List.length_take, hul, List.drop_drop]
    have e2 : lo * size + Nat.min b.n n * size + (j * size - (min (lo * size) zs.length + Nat.min b.n n * size)) = j * size := by omega
    rw [e2]
    exact h1.2 j hj
end
section
variable {E : Env} {Z : Base} {F : Nat → Prop} {N : Nm} {s : St} {a : Act} {R : World} {G : Guards}
theorem copy_ok (h : Rel Z F N s a R) (hG : GOk (tmOf a) G) {t u ty : TypeId} {x y : Operand} {f : Eff} (he : copyE E s G t u x y = some f) (hp : ∀ p ∈ f.ps, p) :
  ∃ v R', (Builtin.copy_ #[t, u] ty #[a.eval x, a.eval y]).run E.P R = .ok v R' ∧ EK F N s.nx s.o R f v R' := by
 unfold copyE at he
 split at he <;> first | (cases he; done) | skip
 rename_i e ht
 split at he <;> first | (cases he; done) | skip
 rename_i sz hsz
 cases hsd : sideB E.P e sz with
 | false => rw [hsd] at he; cases he
 | true =>
  rw [hsd] at he
  simp only [cond_true] at he
  obtain ⟨i, z, hi, hz, rfl, hzs, hpos, hby⟩ := sideB_ok hsd
  split at he <;> first | (cases he; done) | skip
  rename_i b ps hb
  have main : ∀ (j lo n : Nat) (e' : TypeId) (els r : Els) (qs : List Prop) (aa : Option Addr) (cap : Nat) (k0 : List Prop), lookO j s.o = some (.arr e' i.size els) → midE lo n els b = some (r, qs) → (∀ p ∈ ps, p) → (∀ p ∈ qs, p) → lo + n ≤ els.n →
    a.eval x = .slice aa n cap → (0 < n → aa = some ((placeOf (N.q j)).add (lo * i.size))) →
    ∃ v R', (Builtin.copy_ #[t, u] ty #[a.eval x, a.eval y]).run E.P R = .ok v R' ∧ EK F N s.nx s.o R ⟨.v (.int .i64 (Nat.min b.n n : Nat)), s.nx, (j, some (.arr e' i.size r)) :: s.o, 2, k0⟩ v R' := by
   intro j lo n e' els r qs aa cap k0 hl hmid hp1 hp2 hle hxv haa
   obtain ⟨_, us, g1, g2, g3⟩ := moreE_ok h hG hb hp1 hpos
   obtain ⟨_, zs, r1, r2⟩ := h.hp.ob j _ hl
   obtain ⟨d1, d2⟩ := mid_ok hmid hp2 ⟨r1.1, r2⟩ g1 hle
   obtain ⟨hl1, hf1⟩ := g3 R fun _ _ h => h
   have hmin : Nat.min b.n n = min b.n n := rfl
   have hlen : (us.take (Nat.min b.n n * i.size)).length = Nat.min b.n n * i.size := by
    rw [List.length_take, g1.1]
    exact Nat.min_eq_left (Nat.mul_le_mul_right _ (by omega))
   by_cases hn : 0 < n
   ·obtain ⟨g, c, cur, q1, q2, q3, q4, q5, q6⟩ := own_blk r1 (by omega)
    have hpl : aa = some ⟨g, lo * i.size, none⟩ := by
     rw [haa hn, q1]
     show some ((⟨g, 0, none⟩ : Addr).add _) = _
     rw [add_mk, Nat.zero_add]
    have hfit : lo * i.size + (us.take (Nat.min b.n n * i.size)).length ≤ els.n * i.size := by
     rw [hlen, ← Nat.add_mul]
     exact Nat.mul_le_mul_right _ (by omega)
    have hcur : els.n * i.size ≤ cur.size := by rw [q5]; exact Nat.mul_le_mul_right _ q3
    have hrun := run_copy_some (P := E.P) (w := R) (ty := ty) (sT := u) ht hi (g := g) (o := lo * i.size) (dLen := n) (dCap := cap) hl1 (hf1 (Nat.min b.n n) (by omega)) q2 (by omega) (fun v hv => g2 v (List.mem_of_mem_take hv))
    rw [hxv, hpl]
    refine ⟨_, _, hrun, ?_⟩
    have hown := own_put (w := R) (o := lo * i.size) (vs := us.take (Nat.min b.n n * i.size)) r1.1 q2 q3 q4 q5 q6 hfit
    rw [← q1, ← d1] at hown
    refine ek_put (R' := R.setRow g (cur.toList.take (lo * i.size) ++ us.take (Nat.min b.n n * i.size) ++ cur.toList.drop (lo * i.size + (us.take (Nat.min b.n n * i.size)).length)).toArray) h.hp hl rfl rfl rfl (by simp) (fun g' _ hg' => setRow_other R _ g' _ (fun e => ?_)) hown d2 fun _ _ => .v _
    subst e
    rw [q1] at hg'
    exact hg' rfl
   ·have h0 : Nat.min b.n n = 0 := by omega
    have hrun := run_copy_zero (P := E.P) (w := R) (ty := ty) (sT := u) ht hi (d := aa) (dLen := n) (dCap := cap) hl1 h0 (by simpa using hf1 0 (Nat.zero_le _))
    rw [hxv]
    refine ⟨_, _, hrun, ?_⟩
    rw [h0, Nat.zero_mul] at d2
    rw [h0]
    have d2' : RowHL F N s.nx R r i.size zs := by simpa using d2
    exact ek_put (R' := R) h.hp hl rfl rfl rfl (Nat.le_refl _) (fun _ _ _ => rfl) (by rw [d1]; exact r1) d2' fun _ _ => .v _
  split at he <;> first | (cases he; done) | skip
  ·rename_i j hx
   split at he <;> first | (cases he; done) | skip
   rename_i e' size els hl
   cases hb1 : Nat.beq size i.size with
   | false => rw [hb1] at he; cases he
   | true =>
    rw [hb1] at he
    simp only [cond_true] at he
    split at he <;> first | (cases he; done) | skip
    rename_i r qs hmid
    cases he
    obtain rfl := Nat.eq_of_beq_eq_true hb1
    obtain ⟨_, zs, r1, _⟩ := h.hp.ob j _ hl
    obtain ⟨aa, cap, e1, _⟩ := r1.form
    refine main j 0 els.n e' els r qs aa cap _ hl hmid (fun p hm => hp p (List.mem_append.2 (.inl hm))) (fun p hm => hp p (List.mem_append.2 (.inr hm))) (by omega) (by rw [(ev_ok h hG hx).2.sq_inv.2, e1]) fun hn => ?_
    obtain ⟨g, c, q1, _, q3, _, _⟩ := row_place r1 hn
    rw [q1] at e1
    cases e1
    rw [q3, Nat.zero_mul, add_zero]
  ·rename_i j z' lo n f hx
   split at he <;> first | (cases he; done) | skip
   rename_i e' size els hl
   cases hb0 : Nat.beq z' i.size with
   | false => rw [hb0] at he; cases he
   | true =>
   cases hb1 : Nat.beq size i.size with
   | false => rw [hb0, hb1] at he; cases he
   | true =>
    rw [hb0, hb1] at he
    simp only [cond_true] at he
    split at he <;> first | (cases he; done) | skip
    rename_i r qs hmid
    cases he
    obtain rfl := Nat.eq_of_beq_eq_true hb0
    obtain rfl := Nat.eq_of_beq_eq_true hb1
    obtain ⟨_, aa, cap, e1, _, _, e4⟩ := (ev_ok h hG hx).2.vw_inv
    exact main j lo n e' els r qs aa cap _ hl hmid (fun p hm => hp p (List.mem_cons_of_mem _ (List.mem_append.2 (.inl hm)))) (fun p hm => hp p (List.mem_cons_of_mem _ (List.mem_append.2 (.inr hm)))) (hp _ (List.mem_cons_self ..)) e1 e4
theorem strBytes_ok (h : Rel Z F N s a R) (hG : GOk (tmOf a) G) {src dst : TypeId} {x : Operand} {f : Eff} (he : strBytesE E s G src dst x = some f) :
  ∃ v R', (convert src dst (a.eval x)).run E.P R = .ok v R' ∧ EK F N s.nx s.o R f v R' := by
 unfold strBytesE at he
 split at he <;> first | (cases he; done) | skip
 rename_i e hs hd
 split at he <;> first | (cases he; done) | skip
 rename_i b hu hx
 cases he
 have hrun := run_bytes_of_string (P := E.P) R src dst e b hs hd hu
 rw [raw_ok h hG hx]
 refine ⟨_, _, hrun, ek_frozen (R' := R.drew.alloc _) h.hp (((Below.refl _ R).drew).trans ⟨rfl, rfl, rfl, by simp, fun k hk => Below.heap_alloc R.drew _ k hk⟩) (by simp) ?_⟩
 have hlen : b.data.toList.length = b.size := by simp
 have hge := grownCap_ge R b.size 0 e
 have main : Hv (fun g => F g ∨ g = R.heap.size) N s.nx (R.drew.alloc (.cells (bytesRow b (grownCap R b.size 0 e)) e ((bytesRow b (grownCap R b.size 0 e)).size, (bytesRow b (grownCap R b.size 0 e)).size + 1))) (.sl .u8 b.data.toList) (.slice (some ⟨R.heap.size, 0, none⟩) b.data.toList.length (grownCap R b.size 0 e)) := by
  refine Hv.of_sl (by rw [hlen]; exact hge) fun hn => ⟨_, rfl, .inr rfl, fun k d hd => ?_⟩
  refine HC.cons.2 ⟨⟨byteV d, ?_, .v _⟩, HC.nil⟩
  rw [add_mk, show size .u8 = 1 from rfl, Nat.mul_one, Nat.zero_add]
  have hk : k < b.data.toList.length := (List.getElem?_eq_some_iff.1 hd).1
  have hblk : (R.drew.alloc (.cells (bytesRow b (grownCap R b.size 0 e)) e ((bytesRow b (grownCap R b.size 0 e)).size, (bytesRow b (grownCap R b.size 0 e)).size + 1))).heap[R.heap.size]? = some (.cells (bytesRow b (grownCap R b.size 0 e)) e ((bytesRow b (grownCap R b.size 0 e)).size, (bytesRow b (grownCap R b.size 0 e)).size + 1)) := heap_alloc_new R.drew _
  unfold World.cell?
  simp only [hblk]
  have e1 : (bytesRow b (grownCap R b.size 0 e))[k]? = some (byteV d) := by
   unfold bytesRow
   rw [Array.getElem?_append_left (by rw [hlen] at hk; simpa using hk), Array.getElem?_map]
   have : b.data[k]? = some d := by rw [← Array.getElem?_toList]; exact hd
   rw [this]
   rfl
  simpa using e1
 rw [hlen] at main
 exact main
theorem callEff_ok (ok : EnvOk E) (h : Rel Z F N s a R) (hG : GOk (tmOf a) G) {o : Oper} {g : Operand} {args : Array Operand} {ts : Array TypeId} (ho : o.op = .call { callee := .value g, args, argTypes := ts }) {f : Eff} (he : callEff E s G g args.toList = some f) (hp : ∀ p ∈ f.ps, p) :
  UponV E.P (fun v R' => EK F N s.nx s.o R f v R') ((execOp a.eval o).run E.P R) := by
 unfold callEff at he
 split at he <;> first | (cases he; done) | skip
 rename_i k x nx' o' ps hr
 cases he
 obtain ⟨fn, xs, vs, h1, h2, h3⟩ := callR_ok h hG ho hr
 rw [h3 R]
 refine (ok.C fn xs s.nx s.o _ _ _ _ _ h1 hp F N R vs h.hp h2).mono fun e R' ⟨y, F', N', e1, e2, e3, e4, e5⟩ => ⟨y, e1, F', N', e2, e3, e4, fun hk => e5 ?_⟩
 cases hb : Nat.ble k 1 with
 | true => exact Nat.le_of_ble_eq_true hb
 | false =>
  have hk' : (bif Nat.ble k 1 then 1 else 2) ≤ 1 := hk
  rw [hb] at hk'
  cases hk' with | step hk' => cases hk'
theorem run_lift2 {α : Type} {P : Program} {R R' : World} {m : Sem α} {f : α → Next} {x : α} (h : m.run P R = .ok x R') : ((do pure (f (← m)) : Sem Next)).run P R = .ok (f x) R' := by
 simp [h]
theorem upon_of {P : Program} {K : Value → World → Prop} {v : Value} {R' : World} {r : Result Next} (h : r = .ok (.value v) R') (hk : K v R') : UponV P K r := by
 rw [h]
 exact hk
theorem range_ok (h : Rel Z F N s a R) (hG : GOk (tmOf a) G) {t : TypeId} {x : Operand} {f : Eff} (he : rangeE E s G t x = some f) :
  ∃ v R', (Instr.range t (a.eval x)).run E.P R = .ok v R' ∧ EK F N s.nx s.o R f v R' := by
 unfold rangeE at he
 split at he <;> first | (cases he; done) | skip
 rename_i b hu hx
 cases he
 have e := raw_ok h hG hx
 refine ⟨.pointer (some ⟨R.heap.size, 0, none⟩), R.alloc (.stringIter b 0), ?_, ?_⟩
 ·rw [e]
  simp [Instr.range, run_underlying hu]
 ·refine ek_new h.hp (fun N' g hg => hg) (fun _ hb => hb) ?_
  have : (⟨R.heap.size, 0, none⟩ : Addr) = ⟨(N.setB s.nx R.heap.size).b s.nx, 0, none⟩ := by
   show _ = (⟨setF N.b s.nx R.heap.size s.nx, 0, none⟩ : Addr)
   rw [setF_same]
  rw [this]
  exact .own (by omega)
theorem next_ok (h : Rel Z F N s a R) (hG : GOk (tmOf a) G) {it : Operand} {ty : TypeId} {f : Eff} (he : nextE s G it = some f) :
  ∃ v R', (Instr.next (a.eval it) true ty).run E.P R = .ok v R' ∧ EK F N s.nx s.o R f v R' := by
 unfold nextE at he
 split at he <;> first | (cases he; done) | skip
 rename_i i off hx
 have hx' := (ev_ok h hG hx).2.own_inv
 cases h0 : Nat.beq off 0 with
 | false => rw [h0] at he; cases he
 | true =>
  rw [h0] at he
  simp only [cond_true] at he
  obtain rfl := Nat.eq_of_beq_eq_true h0
  split at he <;> first | (cases he; done) | skip
  rename_i b pos hl
  cases he
  have hb : R.heap[N.b i]? = some (.stringIter b pos) := (h.hp.ob _ _ hl).2
  by_cases hp : pos < b.size
  ·refine ⟨.tuple #[.bool true, .int .i64 (pos : Nat), .int .i32 ((Utf8.decode b pos).1 : Nat)], { R with heap := R.heap.setIfInBounds (N.b i) (.stringIter b (pos + (Utf8.decode b pos).2)) }, ?_, ?_⟩
   ·rw [hx'.2]
    simp [Instr.next, getObj, setObj, Sem.run, hb, hp, goInt]
   ·rw [decide_eq_true hp]
    exact ek_upd h.hp hl rfl (fun g hg => hg) hb (fun hs => hs) (.it true _ _ rfl)
  ·refine ⟨.tuple #[.bool false], { R with heap := R.heap.setIfInBounds (N.b i) (.stringIter b pos) }, ?_, ?_⟩
   ·have hsame : R.heap.setIfInBounds (N.b i) (.stringIter b pos) = R.heap := by
     have hlt := blk_lt hb
     have hv : R.heap[N.b i] = .stringIter b pos := (Array.getElem?_eq_some_iff.1 hb).2
     apply Array.ext_getElem?
     intro j
     by_cases hj : N.b i = j
     ·subst hj; simp [hlt, hv]
     ·simp [hj]
    rw [hx'.2, hsame]
    simp [Instr.next, getObj, Sem.run, hb, hp]
   ·rw [decide_eq_false hp]
    exact ek_upd h.hp hl rfl (fun g hg => hg) hb (fun hs => hs) (.it false _ _ rfl)
theorem mkMap_ok (h : Rel Z F N s a R) {t : TypeId} {f : Eff} (he : mkMapE E s t = some f) : ∃ v R', (Instr.makeMap t none).run E.P R = .ok v R' ∧ EK F N s.nx s.o R f v R' := by
 unfold mkMapE at he
 cases hk : keyB E t with
 | false => rw [hk] at he; cases he
 | true =>
  rw [hk] at he
  cases he
  refine ⟨.map (some R.heap.size), R.alloc (.map #[] 0), by simp [Instr.makeMap], ?_⟩
  refine ek_new h.hp (fun N' g hg => hg) (fun _ hb => ⟨[], 0, hb, rfl, fun j p e hp => by cases hp⟩) ?_
  have : (some R.heap.size : Option Nat) = some ((N.setB s.nx R.heap.size).b s.nx) := by
   show _ = some (setF N.b s.nx R.heap.size s.nx)
   rw [setF_same]
  rw [this]
  exact .mp (by omega)
theorem mapUp_ok (h : Rel Z F N s a R) (hG : GOk (tmOf a) G) {t : TypeId} {m k x : Operand} {f : Eff} (he : mapUpE E s G t m k x = some f) :
  ∃ R', (Instr.mapUpdate t (a.eval m) (a.eval k) (a.eval x)).run E.P R = .ok () R' ∧ EK F N s.nx s.o R f undef R' := by
 unfold mapUpE at he
 split at he <;> first | (cases he; done) | skip
 rename_i y b n hm hk hx
 split at he <;> first | (cases he; done) | skip
 rename_i i l hi
 cases hq : keyB E t with
 | false => rw [hq] at he; cases he
 | true =>
  rw [hq] at he
  cases he
  obtain ⟨e1, hl, es, clock, e2, e3⟩ := mapI_ok h.hp hi (ev_ok h hG hm).2
  obtain ⟨kt, vt, q1, q2, q3⟩ := keyB_ok hq
  have hkk : IsKey .string (.string b) := trivial
  rw [e1, raw_ok h hG hk, raw_ok h hG hx]
  have mk : ∀ {es' : List MapEntry} {c : Nat}, MapR (updM l b n) es' → EK F N s.nx s.o R ⟨.v undef, s.nx, (i, some (.map .str .i64 (updM l b n))) :: s.o, 2, []⟩ undef { R with heap := R.heap.setIfInBounds (N.b i) (.map es'.toArray c) } := fun {es' c} hr =>
   ek_upd h.hp hl rfl (fun g hg => hg) e2 (fun hs => by
    obtain ⟨g1, g2⟩ := mapR_to (F := F) (N := N) (R := { R with heap := R.heap.setIfInBounds (N.b i) (.map es'.toArray c) }) (nx := s.nx) hr
    exact ⟨es', c, hs, g1, g2⟩) (.v _)
  rcases mapR_find b 0 e3 with ⟨g1, _, g3⟩ | ⟨j, e, g1, g2, g3, g4⟩
  ·refine ⟨_, ?_, mk (g3 n clock) (c := clock + 1)⟩
   simp [Instr.mapUpdate, run_underlying q1, MapKept.run_getObj_map e2, run_checkKey q2 hkk, run_findKey q2 g1, run_setObj_map _ e2]
  ·refine ⟨_, ?_, mk (g4 n) (c := clock)⟩
   have hj : es[0 + j]? = some e := by rw [Nat.zero_add]; exact g2
   simp [Instr.mapUpdate, run_underlying q1, MapKept.run_getObj_map e2, run_checkKey q2 hkk, run_findKey q2 g1, g2, g3, run_keyThatStays hkk, run_setObj_map _ e2]
theorem eff_ok (ok : EnvOk E) (h : Rel Z F N s a R) (hG : GOk (tmOf a) G) {o : Oper} {f : Eff} (he : effE E s G o = some f) (hp : ∀ p ∈ f.ps, p) :
  UponV E.P (fun v R' => EK F N s.nx s.o R f v R') ((execOp a.eval o).run E.P R) := by
 have hcall := fun {g args ts} (ho : o.op = .call { callee := .value g, args, argTypes := ts }) => callEff_ok (f := f) ok h hG ho
 obtain ⟨dst, op, type, pos, after, guard⟩ := o
 unfold effE at he
 simp only at he
 split at he
 ·rename_i e
  unfold allocE at he
  split at he <;> first | (cases he; done) | skip
  rename_i z hz
  cases he
  exact upon_of (run_lift2 (run_allocAt hz)) (ek_box h.hp (HL.toL _) e 1 [])
 ·rename_i e v
  unfold boxE at he
  split at he <;> first | (cases he; done) | skip
  rename_i x hx
  split at he <;> first | (cases he; done) | skip
  rename_i us hus
  cases hs : sqOk s.o us with
  | false => rw [hs] at he; cases he
  | true =>
   rw [hs] at he
   cases he
   exact upon_of (run_lift2 run_boxAt) (ek_box h.hp (cellsA_ok h.hp hus hs (ev_ok h hG hx).2) e 1 [])
 ·rename_i t x v
  obtain ⟨R', h1, h2⟩ := set_ok h hG he hp
  have : (execOp a.eval { dst, op := .store t x v, type, pos, after, guard }).run E.P R = .ok .skip R' := by
   show (do Instr.storeAt t (a.eval x) (a.eval v); pure Next.skip : Sem Next).run E.P R = _
   simp [h1]
  rw [this]
  exact h2
 ·rename_i t len parts
  obtain ⟨v, R', h1, h2⟩ := buildSl_ok h hG he
  exact upon_of (run_lift2 h1) h2
 ·rename_i t len cap
  obtain ⟨v, R', h1, h2⟩ := makeSl_ok ok h hG he hp
  exact upon_of (run_lift2 h1) h2
 ·rename_i src dst' x
  obtain ⟨v, R', h1, h2⟩ := strBytes_ok h hG he
  exact upon_of (run_lift2 h1) h2
 ·rename_i args ts
  split at he <;> first | (cases he; done) | skip
  rename_i x y t u ha ht
  have ha' : args = #[x, y] := by rw [← Array.toArray_toList (xs := args), ha]
  have ht' : ts = #[t, u] := by rw [← Array.toArray_toList (xs := ts), ht]
  subst ha' ht'
  obtain ⟨v, R', h1, h2⟩ := app_ok (ty := type) h hG he hp
  refine upon_of ?_ h2
  show (do let d ← resolve a.eval _ type; invoke d.target d.args : Sem Next).run E.P R = _
  simp [resolve, invoke, builtin, h1]
 ·rename_i args ts
  split at he <;> first | (cases he; done) | skip
  rename_i x y t u ha ht
  have ha' : args = #[x, y] := by rw [← Array.toArray_toList (xs := args), ha]
  have ht' : ts = #[t, u] := by rw [← Array.toArray_toList (xs := ts), ht]
  subst ha' ht'
  obtain ⟨v, R', h1, h2⟩ := copy_ok (ty := type) h hG he hp
  refine upon_of ?_ h2
  show (do let d ← resolve a.eval _ type; invoke d.target d.args : Sem Next).run E.P R = _
  simp [resolve, invoke, builtin, h1]
 ·rename_i g args ts
  exact hcall rfl he hp
 ·rename_i t x
  obtain ⟨v, R', h1, h2⟩ := range_ok h hG he
  exact upon_of (run_lift2 h1) h2
 ·rename_i it
  obtain ⟨v, R', h1, h2⟩ := next_ok (E := E) (ty := type) h hG he
  exact upon_of (run_lift2 h1) h2
 ·rename_i t
  obtain ⟨v, R', h1, h2⟩ := mkMap_ok h he
  exact upon_of (run_lift2 h1) h2
 ·rename_i t m k x
  obtain ⟨R', h1, h2⟩ := mapUp_ok h hG he
  have : (execOp a.eval { dst, op := .mapUpdate t m k x, type, pos, after, guard }).run E.P R = .ok .skip R' := by
   show (do Instr.mapUpdate t (a.eval m) (a.eval k) (a.eval x); pure Next.skip : Sem Next).run E.P R = _
   simp [h1]
  rw [this]
  exact h2
 ·cases he
theorem op_ok (ok : EnvOk E) (h : Rel Z F N s a R) (hG : GOk (tmOf a) G) {o : Oper} {f : Eff} (he : opE E s G o = some f) (hp : ∀ p ∈ f.ps, p) :
  UponV E.P (fun v R' => EK F N s.nx s.o R f v R') ((execOp a.eval o).run E.P R) := by
 unfold opE at he
 cases hl : loudB o.op with
 | true => rw [hl] at he; exact eff_ok ok h hG he hp
 | false =>
  rw [hl] at he
  simp only [cond_false] at he
  split at he
  ·rename_i x ps hv
   cases he
   obtain ⟨v, h1, h2⟩ := val_ok ok h hG hv hp
   have h3 := h2 R (Below.refl _ _)
   have fin : ∀ R', Below R.heap.size R R' → EK F N s.nx s.o R ⟨x, s.nx, s.o, 0, ps⟩ v R' := fun R' hb => by
    obtain ⟨g1, g2⟩ := h.hp.grow hb
    exact ⟨F, N, g1, Step.of_below hb, h1.step g2, fun _ => hb⟩
   generalize (execOp a.eval o).run E.P R = r at *
   cases r with
   | halt x w => exact h3.elim
   | ok n w =>
    cases n <;> simp only [Oper.quietUpon] at h3 <;> simp only [UponV]
    case value u =>
     obtain ⟨e1, e2⟩ := h3
     rw [e1, e2]
     exact fin R (Below.refl _ _)
    case skip =>
     obtain ⟨e1, e2⟩ := h3
     rw [e1, ← e2]
     exact fin R (Below.refl _ _)
    case enter f args =>
     obtain ⟨e1, hc⟩ := h3
     rw [e1]
     exact hc.mono fun e w'' ⟨he, hw''⟩ => ⟨v, he, fin _ hw''⟩
  ·exact eff_ok ok h hG he hp
end
end Go.Proofs.Yteebobbhhgmeiaa
namespace Go.Proofs.Yteebobbhhgmeiaa
open Go.RowKit
mutual
def fzA (i : Nat) (c : TC) (l : List (U c)) : A → A
 | .sq j => bif Nat.beq j i then .sl c l else .sq j
 | .vw j sz lo n f => bif Nat.beq j i then (bif Nat.beq sz (size c) then .sl c ((l.drop lo).take n) else .dead) else .vw j sz lo n f
 | .el j k sz off => bif Nat.beq j i then .dead else .el j k sz off
 | .fn f xs ys => .fn f (fzL i c l xs) (fzL i c l ys)
 | .agg xs => .agg (fzL i c l xs)
 | .tup xs => .tup (fzL i c l xs)
 | .ref xs => .ref (fzL i c l xs)
 | .opt u b x => .opt u b (fzA i c l x)
 | .v x => .v x
 | .sl c' l' => .sl c' l'
 | .own j o => .own j o
 | .ownx j b n k => .ownx j b n k
 | .mp j => .mp j
 | .nl => .nl
 | .it q vs => .it q vs
 | .dead => .dead
def fzL (i : Nat) (c : TC) (l : List (U c)) : List A → List A
 | [] => []
 | x :: r => fzA i c l x :: fzL i c l r
end
mutual
def inA (i n : Nat) : A → List Prop
 | .vw j _ lo m _ => bif Nat.beq j i then [lo + m ≤ n] else []
 | .fn _ xs ys => inL i n xs ++ inL i n ys
 | .agg xs => inL i n xs
 | .tup xs => inL i n xs
 | .ref xs => inL i n xs
 | .opt _ _ x => inA i n x
 | _ => []
def inL (i n : Nat) : List A → List Prop
 | [] => []
 | x :: r => inA i n x ++ inL i n r
end
theorem fzL_get {i : Nat} {c : TC} {l : List (U c)} : ∀ {xs : List A} {j : Nat} {x : A}, (fzL i c l xs)[j]? = some x → ∃ y, xs[j]? = some y ∧ x = fzA i c l y
 | [], j, x, h => by unfold fzL at h; cases j <;> cases h
 | y :: r, 0, x, h => by unfold fzL at h; cases h; exact ⟨y, rfl, rfl⟩
 | y :: r, j + 1, x, h => by unfold fzL at h; exact fzL_get (xs := r) h
theorem fzL_length {i : Nat} {c : TC} {l : List (U c)} : ∀ xs : List A, (fzL i c l xs).length = xs.length
 | [] => by unfold fzL; rfl
 | y :: r => by unfold fzL; rw [List.length_cons, List.length_cons, fzL_length r]
theorem inL_get {i n : Nat} : ∀ {xs : List A} {j : Nat} {x : A}, xs[j]? = some x → ∀ p ∈ inA i n x, p ∈ inL i n xs
 | [], j, x, h => by cases j <;> cases h
 | y :: r, 0, x, h => by cases h; intro p hp; unfold inL; exact List.mem_append.2 (.inl hp)
 | y :: r, j + 1, x, h => by intro p hp; unfold inL; exact List.mem_append.2 (.inr (inL_get (xs := r) h p hp))
theorem enc_fz {i : Nat} {c : TC} {l : List (U c)} (c' : TC) (d : U c') : ∀ x ∈ enc c' d, fzA i c l x = x := fun x hx => by
 have := enc_plain c' d x hx
 cases x <;> first | (unfold fzA; rfl) | exact this.elim
theorem enc_in {i n : Nat} (c' : TC) (d : U c') : ∀ x ∈ enc c' d, inA i n x = [] := fun x hx => by
 have := enc_plain c' d x hx
 cases x <;> first | (unfold inA; rfl) | exact this.elim
section
variable {F F' : Nat → Prop} {N : Nm} {nx : Nat} {R : World}
theorem Ext.wide (h : ∀ g, F g → F' g) : Ext F N nx R F' N nx R := ⟨Nat.le_refl _, fun _ _ => rfl, fun _ _ => rfl, h, fun _ _ => rfl⟩
theorem fzA_ok {i : Nat} {c : TC} {l : List (U c)} (hrow : Hv F' N nx R (.sl c l) (N.q i)) (hpl : 0 < l.length → ∃ ad, ad = placeOf (N.q i) ∧ F' ad.block ∧ ∀ (k : Nat) (d : U c), l[k]? = some d → HC F' N nx R (enc c d) (ad.add (k * size c)))
  (hF : ∀ g, F g → F' g) {x : A} {y : Value} (h : Hv F N nx R x y) : (∀ p ∈ inA i l.length x, p) → Hv F' N nx R (fzA i c l x) y := by
 induction h with
 | v x => intro _; unfold fzA; exact .v x
 | @sl c' l' a cap ad h1 h2 h3 h4 ih =>
  intro _
  unfold fzA
  refine .sl ad h1 (fun hn => ⟨(h2 hn).1, hF _ (h2 hn).2⟩) h3 (fun k d j x y hd hx hy => ?_)
  have hm := List.mem_of_getElem? hx
  have := ih k d j x y hd hx hy (fun p hp => by rw [enc_in c' d x hm] at hp; cases hp)
  rwa [enc_fz c' d x hm] at this
 | @ref xs ad h1 h2 h3 ih =>
  intro hp
  unfold fzA
  unfold inA at hp
  refine .ref ad (hF _ h1) (fun j x hx => ?_) (fun j x y hx hy => ?_)
  ·obtain ⟨z, hz, rfl⟩ := fzL_get hx; exact h2 j z hz
  ·obtain ⟨z, hz, rfl⟩ := fzL_get hx; exact ih j z y hz hy fun p hm => hp p (inL_get hz p hm)
 | own h => intro _; unfold fzA; exact .own h
 | ownx h => intro _; unfold fzA; exact .ownx h
 | @sq j h =>
  intro _
  unfold fzA
  cases hb : Nat.beq j i with
  | true => obtain rfl := Nat.eq_of_beq_eq_true hb; exact hrow
  | false => exact .sq h
 | @vw j sz lo n f a cap h h1 h2 h3 =>
  intro hp
  unfold fzA
  cases hb : Nat.beq j i with
  | false => exact .vw h h1 h2 h3
  | true =>
   obtain rfl := Nat.eq_of_beq_eq_true hb
   cases hb2 : Nat.beq sz (size c) with
   | false => exact .dead _
   | true =>
    obtain rfl := Nat.eq_of_beq_eq_true hb2
    unfold inA at hp
    rw [hb] at hp
    have hle : lo + n ≤ l.length := hp _ (List.mem_singleton.2 rfl)
    have hlen : ((l.drop lo).take n).length = n := by rw [List.length_take, List.length_drop]; omega
    have main : Hv F' N nx R (.sl c ((l.drop lo).take n)) (.slice a ((l.drop lo).take n).length cap) := by
     refine Hv.of_sl (by omega) fun hn => ?_
     rw [hlen] at hn
     obtain ⟨ad, e1, e2, e3⟩ := hpl (by omega)
     refine ⟨ad.add (lo * size c), by rw [h3 hn, e1], by rw [add_block]; exact e2, fun k d hd => ?_⟩
     rw [add_add, ← Nat.add_mul]
     refine e3 (lo + k) d ?_
     rw [List.getElem?_take] at hd
     split at hd <;> first | (cases hd; done) | skip
     rwa [List.getElem?_drop] at hd
    rw [hlen] at main
    exact main
 | @el j k sz off h =>
  intro _
  unfold fzA
  cases hb : Nat.beq j i with
  | false => exact .el h
  | true => exact .dead _
 | mp h => intro _; unfold fzA; exact .mp h
 | nl a => intro _; unfold fzA; exact .nl a
 | it q vs y h => intro _; unfold fzA; exact .it q vs y h
 | fn vs us h1 _ h3 _ ih2 ih4 =>
  intro hp
  unfold fzA
  unfold inA at hp
  exact .fn vs us (by rw [fzL_length]; exact h1) (fun j x v hx hv => by obtain ⟨z, hz, rfl⟩ := fzL_get hx; exact ih2 j z v hz hv fun p hm => hp p (List.mem_append.2 (.inl (inL_get hz p hm)))) (by rw [fzL_length]; exact h3)
   (fun j x v hx hv => by obtain ⟨z, hz, rfl⟩ := fzL_get hx; exact ih4 j z v hz hv fun p hm => hp p (List.mem_append.2 (.inr (inL_get hz p hm))))
 | agg vs h1 _ ih =>
  intro hp
  unfold fzA
  unfold inA at hp
  exact .agg vs (by rw [fzL_length]; exact h1) (fun j x v hx hv => by obtain ⟨z, hz, rfl⟩ := fzL_get hx; exact ih j z v hz hv fun p hm => hp p (inL_get hz p hm))
 | tup vs h1 _ ih =>
  intro hp
  unfold fzA
  unfold inA at hp
  exact .tup vs (by rw [fzL_length]; exact h1) (fun j x v hx hv => by obtain ⟨z, hz, rfl⟩ := fzL_get hx; exact ih j z v hz hv fun p hm => hp p (inL_get hz p hm))
 | dead y => intro _; unfold fzA; exact .dead y
theorem fzL_ok {i : Nat} {c : TC} {l : List (U c)} {n : Nat} (hf : ∀ {x : A} {y : Value}, Hv F N nx R x y → (∀ p ∈ inA i n x, p) → Hv F' N nx R (fzA i c l x) y) : ∀ {xs : List A} {vs : List Value}, HL F N nx R xs vs → (∀ p ∈ inL i n xs, p) → HL F' N nx R (fzL i c l xs) vs
 | [], _, h, _ => by unfold fzL; exact h
 | x :: r, _, ⟨v, vs, h1, h2, h3⟩, hp => by
  unfold fzL
  unfold inL at hp
  exact ⟨v, vs, h1, hf h2 fun p hm => hp p (List.mem_append.2 (.inl hm)), fzL_ok hf h3 fun p hm => hp p (List.mem_append.2 (.inr hm))⟩
end
section
variable {F F' : Nat → Prop} {N : Nm} {nx : Nat} {R : World} {tm : Nat → Value}
theorem fzS_ok {i : Nat} {c : TC} {l : List (U c)} {n : Nat} (fz : ∀ {x : A} {y : Value}, Hv F N nx R x y → (∀ p ∈ inA i n x, p) → Hv F' N nx R (fzA i c l x) y) : ∀ {x : A} {y : Value}, HS F N nx R tm x y → (∀ p ∈ inA i n x, p) → HS F' N nx R tm (fzA i c l x) y
 | .opt u b x, _, h, hp => by
  unfold inA at hp
  unfold fzA
  simp only [HS] at h ⊢
  exact ⟨fun hb => fzS_ok fz (h.1 hb) hp, h.2⟩
 | .sq j, _, h, hp => (HS_plain (by unfold fzA; cases Nat.beq j i <;> rfl)).2 (fz ((HS_plain rfl).1 h) hp)
 | .vw j z _ _ _, _, h, hp => (HS_plain (by unfold fzA; cases Nat.beq j i <;> first | rfl | (cases Nat.beq z (size c) <;> rfl))).2 (fz ((HS_plain rfl).1 h) hp)
 | .el j _ _ _, _, h, hp => (HS_plain (by unfold fzA; cases Nat.beq j i <;> rfl)).2 (fz ((HS_plain rfl).1 h) hp)
 | .v _, _, h, hp => (HS_plain (by unfold fzA; rfl)).2 (fz ((HS_plain rfl).1 h) hp)
 | .sl _ _, _, h, hp => (HS_plain (by unfold fzA; rfl)).2 (fz ((HS_plain rfl).1 h) hp)
 | .ref _, _, h, hp => (HS_plain (by unfold fzA; rfl)).2 (fz ((HS_plain rfl).1 h) hp)
 | .own _ _, _, h, hp => (HS_plain (by unfold fzA; rfl)).2 (fz ((HS_plain rfl).1 h) hp)
 | .ownx _ _ _ _, _, h, hp => (HS_plain (by unfold fzA; rfl)).2 (fz ((HS_plain rfl).1 h) hp)
 | .mp _, _, h, hp => (HS_plain (by unfold fzA; rfl)).2 (fz ((HS_plain rfl).1 h) hp)
 | .nl, _, h, hp => (HS_plain (by unfold fzA; rfl)).2 (fz ((HS_plain rfl).1 h) hp)
 | .it _ _, _, h, hp => (HS_plain (by unfold fzA; rfl)).2 (fz ((HS_plain rfl).1 h) hp)
 | .fn _ _ _, _, h, hp => (HS_plain (by unfold fzA; rfl)).2 (fz ((HS_plain rfl).1 h) hp)
 | .agg _, _, h, hp => (HS_plain (by unfold fzA; rfl)).2 (fz ((HS_plain rfl).1 h) hp)
 | .tup _, _, h, hp => (HS_plain (by unfold fzA; rfl)).2 (fz ((HS_plain rfl).1 h) hp)
 | .dead, _, h, hp => (HS_plain (by unfold fzA; rfl)).2 (fz ((HS_plain rfl).1 h) hp)
end
def fzT (i : Nat) (c : TC) (l : List (U c)) : Slots → Slots
 | [] => []
 | (k, x) :: r => (k, fzA i c l x) :: fzT i c l r
def inT (i n : Nat) : Slots → List Prop
 | [] => []
 | (_, x) :: r => inA i n x ++ inT i n r
def fzLL (i : Nat) (c : TC) (l : List (U c)) : List (List A) → List (List A)
 | [] => []
 | x :: r => fzL i c l x :: fzLL i c l r
def inLL (i n : Nat) : List (List A) → List Prop
 | [] => []
 | x :: r => inL i n x ++ inLL i n r
def fzOb (i : Nat) (c : TC) (l : List (U c)) : Ob → Ob
 | .box e cs => .box e (fzL i c l cs)
 | .arr e sz (.lst cs) => .arr e sz (.lst (fzLL i c l cs))
 | .arr e sz (.ty c' l') => .arr e sz (.ty c' l')
 | .map k v m => .map k v m
 | .sit s p => .sit s p
def inOb (i n : Nat) : Ob → List Prop
 | .box _ cs => inL i n cs
 | .arr _ _ (.lst cs) => inLL i n cs
 | _ => []
def fzO (i : Nat) (c : TC) (l : List (U c)) : Objs → Objs
 | [] => []
 | (k, x) :: r => (k, bif Nat.beq k i then none else (match x with
  | some ob => some (fzOb i c l ob)
  | none => none)) :: fzO i c l r
def inO (i n : Nat) : Objs → List Prop
 | [] => []
 | (_, some ob) :: r => inOb i n ob ++ inO i n r
 | (_, none) :: r => inO i n r
def keysO : Objs → List Nat
 | [] => []
 | (k, _) :: r => k :: keysO r
theorem lookO_none {i : Nat} : ∀ {A B : Objs}, i ∉ keysO A → lookO i (A ++ B) = lookO i B
 | [], _, _ => rfl
 | (k, x) :: r, B, h => by
  have hk : Nat.beq k i = false := beq_ne fun e => h (by rw [e]; exact List.mem_cons_self ..)
  show (bif Nat.beq k i then x else lookO i (r ++ B)) = lookO i B
  rw [hk]
  exact lookO_none fun hm => h (List.mem_cons_of_mem _ hm)
theorem lookO_in {i : Nat} : ∀ {A B : Objs}, i ∈ keysO A → lookO i (A ++ B) = lookO i A
 | [], _, h => by cases h
 | (k, x) :: r, B, h => by
  show (bif Nat.beq k i then x else lookO i (r ++ B)) = (bif Nat.beq k i then x else lookO i r)
  cases hb : Nat.beq k i with
  | true => rfl
  | false =>
   rcases List.mem_cons.1 h with rfl | h
   ·simp at hb
   ·exact lookO_in h
theorem keysO_fz {i : Nat} {c : TC} {l : List (U c)} : ∀ {o : Objs}, keysO (fzO i c l o) = keysO o
 | [] => rfl
 | (k, x) :: r => by
  show k :: keysO (fzO i c l r) = k :: keysO r
  rw [keysO_fz]
def freezeS (E : Env) (i : Nat) (s : St) : Option (St × List Prop) := match lookO i s.o with
 | some (.arr e sz els) => match E.tc e with
  | some c => bif Nat.beq sz (size c) then (match elsTy c els with
   | some (l, ps) => some ({ s with t := fzT i c l s.t, o := fzO i c l s.o ++ s.o }, ps ++ (inT i l.length s.t ++ inO i l.length s.o))
   | none => none) else none
  | none => none
 | _ => none
theorem look_fzT {i : Nat} {c : TC} {l : List (U c)} {u : Nat} {x : A} : ∀ {t : Slots}, look u (fzT i c l t) = some x → ∃ y, look u t = some y ∧ x = fzA i c l y ∧ ∀ n, ∀ p ∈ inA i n y, p ∈ inT i n t
 | [], h => by cases h
 | (k, y) :: r, h => by
  have h' : (bif Nat.beq k u then some (fzA i c l y) else look u (fzT i c l r)) = some x := h
  show ∃ z, (bif Nat.beq k u then some y else look u r) = some z ∧ _ ∧ ∀ n, ∀ p ∈ inA i n z, p ∈ inA i n y ++ inT i n r
  cases hb : Nat.beq k u with
  | true => rw [hb] at h'; cases h'; exact ⟨y, rfl, rfl, fun n p hp => List.mem_append.2 (.inl hp)⟩
  | false =>
   rw [hb] at h'
   obtain ⟨z, h1, h2, h3⟩ := look_fzT h'
   exact ⟨z, h1, h2, fun n p hp => List.mem_append.2 (.inr (h3 n p hp))⟩
theorem lookO_fzO {i : Nat} {c : TC} {l : List (U c)} {j : Nat} {ob : Ob} : ∀ {o : Objs}, lookO j (fzO i c l o) = some ob → ∃ ob', lookO j o = some ob' ∧ ob = fzOb i c l ob' ∧ j ≠ i ∧ ∀ n, ∀ p ∈ inOb i n ob', p ∈ inO i n o
 | [], h => by cases h
 | (k, x) :: r, h => by
  have h' : (bif Nat.beq k j then (bif Nat.beq k i then none else (match x with | some ob => some (fzOb i c l ob) | none => none)) else lookO j (fzO i c l r)) = some ob := h
  show ∃ ob', (bif Nat.beq k j then x else lookO j r) = some ob' ∧ _ ∧ _ ∧ _
  cases hb : Nat.beq k j with
  | true =>
   rw [hb] at h'
   cases hi : Nat.beq k i with
   | true => rw [hi] at h'; cases h'
   | false =>
    rw [hi] at h'
    obtain rfl := Nat.eq_of_beq_eq_true hb
    cases x with
    | none => cases h'
    | some ob' =>
     cases h'
     exact ⟨ob', rfl, rfl, fun e => by subst e; simp at hi, fun n p hp => by show p ∈ inOb i n ob' ++ inO i n r; exact List.mem_append.2 (.inl hp)⟩
  | false =>
   rw [hb] at h'
   obtain ⟨ob', h1, h2, h3, h4⟩ := lookO_fzO h'
   refine ⟨ob', h1, h2, h3, fun n p hp => ?_⟩
   cases x with
   | none => exact h4 n p hp
   | some y => exact List.mem_append.2 (.inr (h4 n p hp))
theorem lookO_fz2 {i : Nat} {c : TC} {l : List (U c)} {j : Nat} {ob : Ob} {o : Objs} (h : lookO j (fzO i c l o ++ o) = some ob) : ∃ ob', lookO j o = some ob' ∧ ob = fzOb i c l ob' ∧ j ≠ i ∧ ∀ n, ∀ p ∈ inOb i n ob', p ∈ inO i n o := by
 by_cases hk : j ∈ keysO o
 ·rw [lookO_in (by rw [keysO_fz]; exact hk)] at h
  exact lookO_fzO h
 ·rw [lookO_none (by rw [keysO_fz]; exact hk)] at h
  have := lookO_none (A := o) (B := []) hk
  rw [List.append_nil] at this
  rw [this] at h
  cases h
theorem fzLL_nth {i : Nat} {c : TC} {l : List (U c)} : ∀ (cs : List (List A)) (k : Nat), nthL (fzLL i c l cs) k = fzL i c l (nthL cs k)
 | [], k => by unfold fzLL; cases k <;> (unfold nthL; unfold fzL; rfl)
 | x :: r, 0 => by unfold fzLL; rfl
 | x :: r, k + 1 => by unfold fzLL; exact fzLL_nth r k
theorem fzLL_length {i : Nat} {c : TC} {l : List (U c)} : ∀ (cs : List (List A)), (fzLL i c l cs).length = cs.length
 | [] => by unfold fzLL; rfl
 | x :: r => by unfold fzLL; rw [List.length_cons, List.length_cons, fzLL_length r]
theorem inLL_nth {i n : Nat} : ∀ (cs : List (List A)) (k : Nat), ∀ p ∈ inL i n (nthL cs k), p ∈ inLL i n cs
 | [], k, p, hp => by cases k <;> (unfold nthL at hp; unfold inL at hp; cases hp)
 | x :: r, 0, p, hp => by unfold inLL; exact List.mem_append.2 (.inl hp)
 | x :: r, k + 1, p, hp => by unfold inLL; exact List.mem_append.2 (.inr (inLL_nth r k p hp))
section
variable {E : Env} {Z : Base} {F : Nat → Prop} {N : Nm} {s s' : St} {a : Act} {R : World}
theorem freeze_sub {i : Nat} {ps : List Prop} (he : freezeS E i s = some (s', ps)) : s'.n = s.n ∧ ∃ d, s'.o = d ++ s.o := by
 unfold freezeS at he
 split at he <;> first | (cases he; done) | skip
 split at he <;> first | (cases he; done) | skip
 rename_i e sz els hl _ c hc
 cases hb : Nat.beq sz (size c) with
 | false => rw [hb] at he; cases he
 | true =>
  rw [hb] at he
  simp only [cond_true] at he
  split at he <;> first | (cases he; done) | skip
  cases he
  exact ⟨rfl, _, rfl⟩
theorem freeze_ok (h : Rel Z F N s a R) {i : Nat} {ps : List Prop} (he : freezeS E i s = some (s', ps)) (hp : ∀ p ∈ ps, p) : ∃ F', Rel Z F' N s' a R := by
 unfold freezeS at he
 split at he <;> first | (cases he; done) | skip
 rename_i e sz els hl
 split at he <;> first | (cases he; done) | skip
 rename_i c hc
 cases hb : Nat.beq sz (size c) with
 | false => rw [hb] at he; cases he
 | true =>
  rw [hb] at he
  simp only [cond_true] at he
  split at he <;> first | (cases he; done) | skip
  rename_i l qs hty
  cases he
  obtain rfl := Nat.eq_of_beq_eq_true hb
  have hp1 : ∀ p ∈ qs, p := fun p hm => hp p (List.mem_append.2 (.inl hm))
  have hp2 : ∀ p ∈ inT i l.length s.t, p := fun p hm => hp p (List.mem_append.2 (.inr (List.mem_append.2 (.inl hm))))
  have hp3 : ∀ p ∈ inO i l.length s.o, p := fun p hm => hp p (List.mem_append.2 (.inr (List.mem_append.2 (.inr hm))))
  obtain ⟨hi, zs, g1, g2⟩ := h.hp.ob i _ hl
  have hr : RowHL F N s.nx R (.ty c l) (size c) zs := (show RowHL F N s.nx R els (size c) zs from ⟨g1.1, g2⟩).ty hty hp1
  have hn : l.length = els.n := (elsTy_ok (F := F) (N := N) (nx := s.nx) (R := R) hty hp1).1
  let F' : Nat → Prop := fun g => F g ∨ blkOf (N.q i) = some g
  have hF : ∀ g, F g → F' g := fun g hg => .inl hg
  have hw : Ext F N s.nx R F' N s.nx R := Ext.wide hF
  have hpl : 0 < l.length → ∃ ad, ad = placeOf (N.q i) ∧ F' ad.block ∧ ∀ (k : Nat) (d : U c), l[k]? = some d → HC F' N s.nx R (enc c d) (ad.add (k * size c)) := fun hpos => by
   obtain ⟨g, cap, q1, _, q3, q4, q5⟩ := row_place g1 (by omega)
   refine ⟨_, rfl, by rw [q3]; exact .inr q4, fun k d hd => ?_⟩
   rw [q3, add_mk, Nat.zero_add]
   intro j x hx
   have hk : k < l.length := (List.getElem?_eq_some_iff.1 hd).1
   have hgd : l.getD k (dflt c) = d := by rw [List.getD_eq_getElem?_getD, hd]; rfl
   have h3 := hr.2 k hk
   have h4 : HL F N s.nx R (enc c d) ((zs.drop (k * size c)).take (size c)) := by
    have e1 : (Els.ty c l).nth k = enc c (l.getD k (dflt c)) := rfl
    rw [e1, hgd] at h3
    exact h3
   obtain ⟨v, hv, hx2⟩ := h4.get hx
   exact ⟨v, by rw [add_mk]; exact q5 _ v (slice_get hv), hx2.step hw⟩
  have hrow : Hv F' N s.nx R (.sl c l) (N.q i) := by
   obtain ⟨aa, cap, e1, e2⟩ := g1.form
   rw [e1, ← hn]
   refine Hv.of_sl (by omega) fun hpos => ?_
   obtain ⟨ad, q1, q2, q3⟩ := hpl hpos
   obtain ⟨g, cap', r1, _, r3, _, _⟩ := row_place g1 (by omega)
   refine ⟨ad, ?_, q2, q3⟩
   rw [e1] at r1
   cases r1
   rw [q1, e1]
   rfl
  have fz : ∀ {x : A} {y : Value}, Hv F N s.nx R x y → (∀ p ∈ inA i l.length x, p) → Hv F' N s.nx R (fzA i c l x) y := fun hx => fzA_ok hrow hpl hF hx
  have fzS : ∀ {x : A} {y : Value}, HS F N s.nx R (tmOf a) x y → (∀ p ∈ inA i l.length x, p) → HS F' N s.nx R (tmOf a) (fzA i c l x) y := fun hx hpp => fzS_ok fz hx hpp
  have hfoot : ∀ {j ob' g}, lookO j s.o = some ob' → foot N j (fzOb i c l ob') g → foot N j ob' g := fun {j ob' g} _ hg => by
   cases ob' with
   | arr e' s' els' => cases els' <;> exact hg
   | _ => exact hg
  have hst : Step F N s.nx s.o R F' N s.nx (fzO i c l s.o ++ s.o) R := ⟨Nat.le_refl _, fun _ _ => rfl, fun _ _ => rfl, hF, fun g hg => by
   rcases hg with hg | hg
   ·exact .inl hg
   ·exact .inr (.inl ⟨i, _, hl, hg⟩), fun g ⟨j, ob, h1, h2⟩ => by
   obtain ⟨ob', h3, rfl, _, _⟩ := lookO_fz2 h1
   exact .inl ⟨j, ob', h3, hfoot h3 h2⟩, rfl, rfl, rfl, Nat.le_refl _, fun _ _ _ => rfl⟩
  refine ⟨F', h.defers, h.size, fun u x hu => ?_, ⟨fun g hg => ?_, fun j ob hj => ?_, fun j ob g hj hg hf => ?_, fun j k x y g hj hk hx hy => ?_⟩, h.st.trans hst, h.tm⟩
  ·obtain ⟨y, h1, rfl, h3⟩ := look_fzT hu
   exact fzS (h.slots u y h1) fun p hm => hp2 p (h3 _ p hm)
  ·rcases hg with hg | hg
   ·exact h.hp.flt g hg
   ·exact g1.lt hg
  ·obtain ⟨ob', h1, rfl, h3, h4⟩ := lookO_fz2 hj
   obtain ⟨k1, k2⟩ := h.hp.ob j ob' h1
   refine ⟨k1, ?_⟩
   have hin : ∀ p ∈ inOb i l.length ob', p := fun p hm => hp3 p (h4 _ p hm)
   cases ob' with
   | box e' cs =>
    obtain ⟨vs, q1, q2⟩ := k2
    exact ⟨vs, fzL_ok (fun hx hpp => fz hx hpp) q1 hin, q2⟩
   | arr e' s' els' =>
    cases els' with
    | ty c' l' => exact k2.step hw k1 fun _ _ => rfl
    | lst cs =>
     obtain ⟨zs', q1, q2⟩ := k2
     refine ⟨zs', by simpa [Els.n, fzLL_length] using q1, fun k hk => ?_⟩
     have hk' : k < cs.length := by simpa [Els.n, fzLL_length] using hk
     show HL F' N s.nx R (nthL (fzLL i c l cs) k) _
     rw [fzLL_nth]
     exact fzL_ok (fun hx hpp => fz hx hpp) (q2 k hk') fun p hm => hin p (inLL_nth cs k p hm)
   | map k v m => exact k2.step hw k1 fun _ _ => rfl
   | sit st pos => exact k2
  ·obtain ⟨ob', h1, rfl, h3, _⟩ := lookO_fz2 hj
   have hg' := hfoot h1 hg
   rcases hf with hf | hf
   ·exact h.hp.ff j ob' g h1 hg' hf
   ·exact h3 (h.hp.sep j i ob' _ g h1 hl hg' hf)
  ·obtain ⟨x', h1, rfl, _, _⟩ := lookO_fz2 hj
   obtain ⟨y', h2, rfl, _, _⟩ := lookO_fz2 hk
   exact h.hp.sep j k x' y' g h1 h2 (hfoot h1 hx) (hfoot h2 hy)
end
end Go.Proofs.Yteebobbhhgmeiaa
namespace Go.Proofs.Yteebobbhhgmeiaa
open Go.RowKit
def gset (s : St) : Nat → Nat → Bool → Guards
 | 0, u, b => [(u, b)]
 | n + 1, u, b => (u, b) :: match s.get u with
  | some (.opt v c _) => gset s n v c
  | _ => []
def gprops (s : St) (G : Guards) : Guards → List Prop
 | [] => []
 | (u, b) :: r => match s.get u with
  | some x => match x.strip G with
   | some (.v (.bool g)) => (g = b) :: gprops s G r
   | _ => gprops s G r
  | none => gprops s G r
def gimp : List Prop → Prop → Prop
 | [], p => p
 | q :: r, p => q → gimp r p
def gimps (qs : List Prop) : List Prop → List Prop
 | [] => []
 | p :: r => gimp qs p :: gimps qs r
theorem gimp_ok : ∀ {qs : List Prop} {p : Prop}, gimp qs p → (∀ q ∈ qs, q) → p
 | [], _, h, _ => h
 | q :: r, _, h, hq => gimp_ok (h (hq q (by simp))) fun q' h' => hq q' (by simp [h'])
theorem gimps_ok {qs : List Prop} : ∀ {ps : List Prop}, (∀ p ∈ gimps qs ps, p) → (∀ q ∈ qs, q) → ∀ p ∈ ps, p
 | [], _, _, _, h => by cases h
 | p :: r, hp, hq, p', hm => by
  rcases List.mem_cons.1 hm with rfl | hm
  ·exact gimp_ok (hp _ (List.mem_cons_self ..)) hq
  ·exact gimps_ok (ps := r) (fun p h => hp p (List.mem_cons_of_mem _ h)) hq p' hm
section
variable {Z : Base} {F : Nat → Prop} {N : Nm} {s : St} {a : Act} {R : World}
theorem inG_cons {u v : Nat} {b c : Bool} {G : Guards} (h : inG u b ((v, c) :: G) = true) : (u = v ∧ b = c) ∨ inG u b G = true := by
 unfold inG at h
 cases hk : Nat.beq v u with
 | false => rw [hk] at h; exact .inr h
 | true =>
  rw [hk] at h
  simp only [cond_true] at h
  cases hb : beqB c b with
  | false => rw [hb] at h; exact .inr h
  | true => exact .inl ⟨(Nat.eq_of_beq_eq_true hk).symm, (beqB_eq hb).symm⟩
theorem opt_true (h : Rel Z F N s a R) {u v : Nat} {b c : Bool} {x : A} (hg : s.get u = some (.opt v c x)) (hu : tmOf a u = .bool b) : tmOf a v = .bool c := by
 have hh := h.slots u _ hg
 simp only [HS] at hh
 by_cases hc : tmOf a v = .bool c
 ·exact hc
 ·have := hh.2 hc
  rw [hu] at this
  cases this
theorem gset_ok (h : Rel Z F N s a R) : ∀ (n u : Nat) (b : Bool), tmOf a u = .bool b → GOk (tmOf a) (gset s n u b)
 | 0, u, b, hu, v, c, hv => by
  rcases inG_cons hv with ⟨rfl, rfl⟩ | h'
  ·exact hu
  ·cases h'
 | n + 1, u, b, hu, v, c, hv => by
  unfold gset at hv
  rcases inG_cons hv with ⟨rfl, rfl⟩ | h'
  ·exact hu
  ·split at h'
   ·rename_i v' c' x hg
    exact gset_ok h n v' c' (opt_true h hg hu) v c h'
   ·cases h'
theorem gprops_ok (h : Rel Z F N s a R) {G : Guards} (hG : GOk (tmOf a) G) : ∀ {l : Guards}, (∀ e ∈ l, tmOf a e.1 = .bool e.2) → ∀ q ∈ gprops s G l, q
 | [], _, _, hq => by cases hq
 | (u, b) :: r, hl, q, hq => by
  have hr : ∀ e ∈ r, tmOf a e.1 = .bool e.2 := fun e he => hl e (List.mem_cons_of_mem _ he)
  unfold gprops at hq
  split at hq
  ·rename_i x hx
   split at hq
   ·rename_i g hg
    rcases List.mem_cons.1 hq with rfl | hq
    ·obtain ⟨_, h2⟩ := strip_ok hG hg (h.slots u x hx)
     have h3 := hl (u, b) (List.mem_cons_self ..)
     rw [h2.v_inv] at h3
     injection h3
    ·exact gprops_ok h hG hr q hq
   ·exact gprops_ok h hG hr q hq
  ·exact gprops_ok h hG hr q hq
theorem gset_mem (h : Rel Z F N s a R) : ∀ (n u : Nat) (b : Bool), tmOf a u = .bool b → ∀ e ∈ gset s n u b, tmOf a e.1 = .bool e.2
 | 0, u, b, hu, e, he => by
  obtain rfl := List.mem_singleton.1 he
  exact hu
 | n + 1, u, b, hu, e, he => by
  unfold gset at he
  rcases List.mem_cons.1 he with rfl | he
  ·exact hu
  ·split at he
   ·rename_i v' c' x hg
    exact gset_mem h n v' c' (opt_true h hg hu) e he
   ·cases he
end
structure Mv where
 l : Option Nat
 r : Option Nat
 m : Nat
abbrev Mvs := List Mv
def isO (i : Nat) : Option Nat → Bool
 | some j => Nat.beq j i
 | none => false
theorem isO_ok {i : Nat} {o : Option Nat} (h : isO i o = true) : o = some i := by
 cases o with
 | none => cases h
 | some j => rw [Nat.eq_of_beq_eq_true h]
def usedL (i : Nat) : Mvs → Bool
 | [] => false
 | e :: r => bif isO i e.l then true else usedL i r
def usedR (i : Nat) : Mvs → Bool
 | [] => false
 | e :: r => bif isO i e.r then true else usedR i r
def isNone : Option Nat → Bool
 | none => true
 | _ => false
def findP (i j : Nat) : Mvs → Option Nat
 | [] => none
 | e :: r => bif isO i e.l && isO j e.r then some e.m else findP i j r
def findR (j : Nat) : Mvs → Option Nat
 | [] => none
 | e :: r => bif isNone e.l && isO j e.r then some e.m else findR j r
def findL (i : Nat) : Mvs → Option Nat
 | [] => none
 | e :: r => bif isO i e.l && isNone e.r then some e.m else findL i r
def isRow (o : Objs) (i : Nat) : Bool := match lookO i o with
 | some (.arr _ _ _) => true
 | _ => false
abbrev Coll := Mvs × Nat
def addP (o1 o2 : Objs) (i j : Nat) (c : Coll) : Coll := bif Nat.beq i j then c else
 bif usedL i c.1 || usedR j c.1 then c else bif isRow o1 i && isRow o2 j then (⟨some i, some j, c.2⟩ :: c.1, c.2 + 1) else c
def addR (o2 : Objs) (j : Nat) (c : Coll) : Coll := bif usedR j c.1 then c else bif isRow o2 j then (⟨none, some j, c.2⟩ :: c.1, c.2 + 1) else c
def addL (o1 : Objs) (i : Nat) (c : Coll) : Coll := bif usedL i c.1 then c else bif isRow o1 i then (⟨some i, none, c.2⟩ :: c.1, c.2 + 1) else c
def collLs (f : A → A → Coll → Coll) : List A → List A → Coll → Coll
 | x :: xs, y :: ys, c => collLs f xs ys (f x y c)
 | _, _, c => c
def collA (o1 o2 : Objs) : Nat → A → A → Coll → Coll
 | 0, _, _, c => c
 | d + 1, x, y, c => match x, y with
  | .sq i, .sq j => addP o1 o2 i j c
  | .v x, .sq j => bif isNilV x then addR o2 j c else c
  | .sq i, .v y => bif isNilV y then addL o1 i c else c
  | .agg xs, .agg ys => collLs (collA o1 o2 d) xs ys c
  | .tup xs, .tup ys => collLs (collA o1 o2 d) xs ys c
  | .fn _ xs us, .fn _ ys ws => collLs (collA o1 o2 d) us ws (collLs (collA o1 o2 d) xs ys c)
  | .v (.agg xs), .agg ys => collLs (collA o1 o2 d) (toL xs.toList) ys c
  | .agg xs, .v (.agg ys) => collLs (collA o1 o2 d) xs (toL ys.toList) c
  | .v (.tuple xs), .tup ys => collLs (collA o1 o2 d) (toL xs.toList) ys c
  | .tup xs, .v (.tuple ys) => collLs (collA o1 o2 d) xs (toL ys.toList) c
  | _, _ => c
def mergeX (M : Mvs) : Nat → Bool → A → A → A
 | 0, _, _, _ => .dead
 | d + 1, g, x, y => match (bif isMix x y then spread x else x), (bif isMix x y then spread y else y) with
  | .sq i, .sq j => bif Nat.beq i j then .sq i else match findP i j M with
   | some m => .sq m
   | none => .dead
  | .v x, .sq j => bif isNilV x then (match findR j M with
   | some m => .sq m
   | none => .dead) else .dead
  | .sq i, .v y => bif isNilV y then (match findL i M with
   | some m => .sq m
   | none => .dead) else .dead
  | .agg xs, .agg ys => aggA (mergeLs (mergeX M d g) g xs ys)
  | .tup xs, .tup ys => .tup (mergeLs (mergeX M d g) g xs ys)
  | .fn f xs us, .fn h ys ws => bif Nat.beq f h then .fn f (mergeLs (mergeX M d g) g xs ys) (mergeLs (mergeX M d g) g us ws) else .dead
  | .vw i sz lo n _, .vw j sz' lo' n' _ => bif Nat.beq i j then (bif Nat.beq sz sz' then .vw i sz (bif g then lo else lo') (bif g then n else n') false else .dead) else .dead
  | .el i k sz off, .el j k' sz' off' => bif Nat.beq i j then (bif Nat.beq sz sz' then (bif Nat.beq off off' then .el i (bif g then k else k') sz off else .dead) else .dead) else .dead
  | x, y => mergeA 4 g x y
def mergeM (M : Mvs) (g : Bool) (x y : A) : A := mergeX M 5 g x y
def MvOk (N : Nm) (nx : Nat) (sel : Mv → Option Nat) (M : Mvs) : Prop := ∀ e ∈ M, e.m < nx ∧ (∀ i, sel e = some i → i < nx ∧ N.q e.m = N.q i) ∧ (sel e = none → N.q e.m = .slice none 0 0)
def side (g : Bool) : Mv → Option Nat := bif g then Mv.l else Mv.r
section
variable {F : Nat → Prop} {N : Nm} {nx : Nat} {R : World} {g : Bool} {M : Mvs}
theorem findP_mem {i j m : Nat} : ∀ {M : Mvs}, findP i j M = some m → ∃ e ∈ M, e.l = some i ∧ e.r = some j ∧ e.m = m
 | [], h => by cases h
 | e :: r, h => by
  unfold findP at h
  cases hb : (isO i e.l && isO j e.r) with
  | true =>
   rw [hb] at h
   cases h
   rw [Bool.and_eq_true] at hb
   exact ⟨e, List.mem_cons_self .., isO_ok hb.1, isO_ok hb.2, rfl⟩
  | false =>
   rw [hb] at h
   obtain ⟨e', h1, h2⟩ := findP_mem (M := r) h
   exact ⟨e', List.mem_cons_of_mem _ h1, h2⟩
theorem isNone_ok {o : Option Nat} (h : isNone o = true) : o = none := by cases o <;> first | rfl | cases h
theorem findR_mem {j m : Nat} : ∀ {M : Mvs}, findR j M = some m → ∃ e ∈ M, e.l = none ∧ e.r = some j ∧ e.m = m
 | [], h => by cases h
 | e :: r, h => by
  unfold findR at h
  cases hb : (isNone e.l && isO j e.r) with
  | true =>
   rw [hb] at h
   cases h
   rw [Bool.and_eq_true] at hb
   exact ⟨e, List.mem_cons_self .., isNone_ok hb.1, isO_ok hb.2, rfl⟩
  | false =>
   rw [hb] at h
   obtain ⟨e', h1, h2⟩ := findR_mem (M := r) h
   exact ⟨e', List.mem_cons_of_mem _ h1, h2⟩
theorem findL_mem {i m : Nat} : ∀ {M : Mvs}, findL i M = some m → ∃ e ∈ M, e.l = some i ∧ e.r = none ∧ e.m = m
 | [], h => by cases h
 | e :: r, h => by
  unfold findL at h
  cases hb : (isO i e.l && isNone e.r) with
  | true =>
   rw [hb] at h
   cases h
   rw [Bool.and_eq_true] at hb
   exact ⟨e, List.mem_cons_self .., isO_ok hb.1, isNone_ok hb.2, rfl⟩
  | false =>
   rw [hb] at h
   obtain ⟨e', h1, h2⟩ := findL_mem (M := r) h
   exact ⟨e', List.mem_cons_of_mem _ h1, h2⟩
theorem Hv.sq_as {i m : Nat} {v : Value} (h : Hv F N nx R (.sq i) v) (hm : m < nx) (e : N.q m = N.q i) : Hv F N nx R (.sq m) v := by
 rw [h.sq_inv.2, ← e]
 exact .sq hm
theorem mergeX_ok (hM : MvOk N nx (side g) M) : ∀ (d : Nat) {x y : A} {v : Value}, Hv F N nx R (bif g then x else y) v → Hv F N nx R (mergeX M d g x y) v
 | 0, _, _, _, _ => .dead _
 | d + 1, x, y, v, h => by
  have ih : ∀ {x y v}, Hv F N nx R (bif g then x else y) v → Hv F N nx R (mergeX M d g x y) v := fun h => mergeX_ok hM d h
  have h' : Hv F N nx R (bif g then (bif isMix x y then spread x else x) else (bif isMix x y then spread y else y)) v := by
   cases isMix x y with
   | false => exact h
   | true => cases g <;> exact spread_ok h
  unfold mergeX
  generalize (bif isMix x y then spread x else x) = x' at *
  generalize (bif isMix x y then spread y else y) = y' at *
  clear h
  have h := h'
  clear h'
  split
  ·rename_i i j
   cases h1 : Nat.beq i j with
   | true =>
    obtain rfl := Nat.eq_of_beq_eq_true h1
    cases g <;> exact h
   | false =>
    simp only [cond_false]
    split
    ·rename_i m hm
     obtain ⟨e, h2, h3, h4, rfl⟩ := findP_mem hm
     obtain ⟨k1, k2, _⟩ := hM e h2
     cases g with
     | true => exact Hv.sq_as h k1 (k2 i h3).2
     | false => exact Hv.sq_as h k1 (k2 j h4).2
    ·exact .dead _
  ·rename_i x j
   cases hx : isNilV x with
   | false => exact .dead _
   | true =>
    obtain rfl := isNilV_ok hx
    simp only [cond_true]
    split
    ·rename_i m hm
     obtain ⟨e, h2, h3, h4, rfl⟩ := findR_mem hm
     obtain ⟨k1, k2, k3⟩ := hM e h2
     cases g with
     | true => rw [h.v_inv, ← k3 h3]; exact .sq k1
     | false => exact Hv.sq_as h k1 (k2 j h4).2
    ·exact .dead _
  ·rename_i i y
   cases hx : isNilV y with
   | false => exact .dead _
   | true =>
    obtain rfl := isNilV_ok hx
    simp only [cond_true]
    split
    ·rename_i m hm
     obtain ⟨e, h2, h3, h4, rfl⟩ := findL_mem hm
     obtain ⟨k1, k2, k3⟩ := hM e h2
     cases g with
     | true => exact Hv.sq_as h k1 (k2 i h3).2
     | false => rw [h.v_inv, ← k3 h4]; exact .sq k1
    ·exact .dead _
  ·rename_i xs ys
   have h' : Hv F N nx R (.agg (bif g then xs else ys)) v := by cases g <;> exact h
   obtain ⟨vs, rfl, h2⟩ := h'.agg_inv
   exact aggA_ok (mergeLs_ok ih h2)
  ·rename_i xs ys
   have h' : Hv F N nx R (.tup (bif g then xs else ys)) v := by cases g <;> exact h
   obtain ⟨vs, rfl, h2⟩ := h'.tup_inv
   exact Hv.of_tup (mergeLs_ok ih h2)
  ·rename_i f xs us h0 ys ws
   cases h1 : Nat.beq f h0 with
   | false => exact .dead _
   | true =>
    obtain rfl := Nat.eq_of_beq_eq_true h1
    have h' : Hv F N nx R (.fn f (bif g then xs else ys) (bif g then us else ws)) v := by cases g <;> exact h
    obtain ⟨vs, ks, rfl, h2, h3⟩ := h'.fn_inv
    exact Hv.of_fn (mergeLs_ok ih h2) (mergeLs_ok ih h3)
  ·rename_i i sz lo n f j sz' lo' n' f'
   cases h1 : Nat.beq i j with
   | false => exact .dead _
   | true =>
    cases h2 : Nat.beq sz sz' with
    | false => exact .dead _
    | true =>
     obtain rfl := Nat.eq_of_beq_eq_true h1
     obtain rfl := Nat.eq_of_beq_eq_true h2
     cases g with
     | true =>
      obtain ⟨k1, a, c, rfl, k2, _, k4⟩ := h.vw_inv
      exact .vw k1 k2 (fun e => by cases e) k4
     | false =>
      obtain ⟨k1, a, c, rfl, k2, _, k4⟩ := h.vw_inv
      exact .vw k1 k2 (fun e => by cases e) k4
  ·rename_i i k sz off j k' sz' off'
   cases h1 : Nat.beq i j with
   | false => exact .dead _
   | true =>
    cases h2 : Nat.beq sz sz' with
    | false => exact .dead _
    | true =>
     cases h3 : Nat.beq off off' with
     | false => exact .dead _
     | true =>
      obtain rfl := Nat.eq_of_beq_eq_true h1
      obtain rfl := Nat.eq_of_beq_eq_true h2
      obtain rfl := Nat.eq_of_beq_eq_true h3
      cases g <;> exact h
  ·exact mergeA_ok 4 h
theorem mergeM_ok (hM : MvOk N nx (side g) M) {x y : A} {v : Value} (h : Hv F N nx R (bif g then x else y) v) : Hv F N nx R (mergeM M g x y) v := by
 exact mergeX_ok hM 5 h
end
def mergeEls (M : Mvs) (g : Bool) : Els → Els → Option Els
 | .ty c l, .ty c' l' => match TC.same c' c with
  | some h => some (.ty c (bif g then l else castL h.down l'))
  | none => none
 | .lst cs, .ty c l => match decs c cs with
  | some (l', []) => some (.ty c (bif g then l' else l))
  | _ => none
 | .ty c l, .lst cs => match decs c cs with
  | some (l', []) => some (.ty c (bif g then l else l'))
  | _ => none
 | .lst xs, .lst ys => bif Nat.beq xs.length ys.length then some (.lst ((xs.zip ys).map fun p => mergeLs (mergeM M g) g p.1 p.2)) else none
def mergeOb (M : Mvs) (g : Bool) : Ob → Ob → Option Ob
 | .box e cs, .box e' cs' => bif Nat.beq e e' then some (.box e (mergeLs (mergeM M g) g cs cs')) else none
 | .arr e sz els, .arr e' sz' els' => bif Nat.beq e e' then (bif Nat.beq sz sz' then (match mergeEls M g els els' with
  | some r => some (.arr e sz r)
  | none => none) else none) else none
 | .map k v l, .map k' v' l' => match TC.same k' k, TC.same v' v with
  | some h, some h' => some (.map k v (bif g then l else (h.down ▸ h'.down ▸ l' : List (U k × U v))))
  | _, _ => none
 | .sit b p, .sit b' p' => some (.sit (bif g then b else b') (bif g then p else p'))
 | _, _ => none
section
variable {F : Nat → Prop} {N : Nm} {nx : Nat} {R : World} {g : Bool} {M : Mvs} {size : Nat}
theorem mergeEls_ok (hM : MvOk N nx (side g) M) {x y r : Els} {zs : List Value} (he : mergeEls M g x y = some r) (h : RowHL F N nx R (bif g then x else y) size zs) : r.n = (bif g then x else y).n ∧ RowHL F N nx R r size zs := by
 unfold mergeEls at he
 split at he
 ·rename_i c l c' l'
  split at he <;> first | (cases he; done) | skip
  rename_i h1 _
  obtain ⟨h1⟩ := h1
  subst h1
  cases he
  cases g <;> exact ⟨rfl, h⟩
 ·rename_i cs c l
  split at he <;> first | (cases he; done) | skip
  rename_i l' hl
  cases he
  cases g with
  | false => exact ⟨rfl, h⟩
  | true => exact ⟨(decs_ok (F := F) (N := N) (nx := nx) (R := R) hl (fun p hp => by cases hp)).1, RowHL.ty (els := .lst cs) h hl (fun p hp => by cases hp)⟩
 ·rename_i c l cs
  split at he <;> first | (cases he; done) | skip
  rename_i l' hl
  cases he
  cases g with
  | true => exact ⟨rfl, h⟩
  | false => exact ⟨(decs_ok (F := F) (N := N) (nx := nx) (R := R) hl (fun p hp => by cases hp)).1, RowHL.ty (els := .lst cs) h hl (fun p hp => by cases hp)⟩
 ·rename_i xs ys
  cases hb : Nat.beq xs.length ys.length with
  | false => rw [hb] at he; cases he
  | true =>
   rw [hb] at he
   cases he
   have hlen := Nat.eq_of_beq_eq_true hb
   have hz : ((xs.zip ys).map fun p => mergeLs (mergeM M g) g p.1 p.2).length = xs.length := by rw [List.length_map, List.length_zip]; omega
   have hn : (Els.lst ((xs.zip ys).map fun p => mergeLs (mergeM M g) g p.1 p.2)).n = (bif g then Els.lst xs else Els.lst ys).n := by
    show List.length _ = _
    rw [hz]
    cases g with
    | true => rfl
    | false => exact hlen
   refine ⟨hn, by rw [hn]; exact h.1, fun k hk => ?_⟩
   rw [hn] at hk
   have h2 := h.2 k hk
   have hkx : k < xs.length := by cases g with
    | true => exact hk
    | false => have : k < ys.length := hk; omega
   have hky : k < ys.length := by omega
   show HL F N nx R (nthL _ k) _
   rw [nthL_get, List.getD_eq_getElem?_getD, List.getElem?_map]
   have e1 : (xs.zip ys)[k]? = some (xs[k], ys[k]) := by
    rw [List.getElem?_zip_eq_some]
    exact ⟨List.getElem?_eq_getElem hkx, List.getElem?_eq_getElem hky⟩
   rw [e1]
   show HL F N nx R (mergeLs (mergeM M g) g xs[k] ys[k]) _
   refine mergeLs_ok (fun hh => mergeM_ok hM hh) ?_
   have e2 : (bif g then Els.lst xs else Els.lst ys).nth k = bif g then xs[k] else ys[k] := by
    cases g with
    | true => show nthL xs k = xs[k]; rw [nthL_get, List.getD_eq_getElem?_getD, List.getElem?_eq_getElem hkx]; rfl
    | false => show nthL ys k = ys[k]; rw [nthL_get, List.getD_eq_getElem?_getD, List.getElem?_eq_getElem hky]; rfl
   rw [e2] at h2
   exact h2
theorem mergeOb_ok (hM : MvOk N nx (side g) M) {i : Nat} {x y r : Ob} (he : mergeOb M g x y = some r) : (ObR F N nx R i (bif g then x else y) → ObR F N nx R i r) ∧ ∀ gg, foot N i r gg ↔ foot N i (bif g then x else y) gg := by
 unfold mergeOb at he
 split at he <;> first | (cases he; done) | skip
 ·rename_i e cs e' cs'
  cases hb : Nat.beq e e' with
  | false => rw [hb] at he; cases he
  | true =>
   rw [hb] at he
   cases he
   obtain rfl := Nat.eq_of_beq_eq_true hb
   refine ⟨fun h => ?_, fun gg => by cases g <;> exact Iff.rfl⟩
   have h' : ObR F N nx R i (.box e (bif g then cs else cs')) := by cases g <;> exact h
   obtain ⟨vs, h1, h2⟩ := h'
   exact ⟨vs, mergeLs_ok (fun hh => mergeM_ok hM hh) h1, h2⟩
 ·rename_i e sz els e' sz' els'
  cases hb : Nat.beq e e' with
  | false => rw [hb] at he; cases he
  | true =>
   cases hb2 : Nat.beq sz sz' with
   | false => rw [hb, hb2] at he; cases he
   | true =>
    rw [hb, hb2] at he
    simp only [cond_true] at he
    split at he <;> first | (cases he; done) | skip
    rename_i r' hr
    cases he
    obtain rfl := Nat.eq_of_beq_eq_true hb
    obtain rfl := Nat.eq_of_beq_eq_true hb2
    refine ⟨fun h => ?_, fun gg => by cases g <;> exact Iff.rfl⟩
    have h' : ObR F N nx R i (.arr e sz (bif g then els else els')) := by cases g <;> exact h
    obtain ⟨zs, h1, h2⟩ := h'
    obtain ⟨k1, k2⟩ := mergeEls_ok hM hr ⟨h1.1, h2⟩
    exact ⟨zs, by rw [k1]; exact h1, k2.2⟩
 ·rename_i k v l k' v' l'
  split at he <;> first | (cases he; done) | skip
  rename_i h1 h2 _ _
  obtain ⟨h1⟩ := h1
  obtain ⟨h2⟩ := h2
  subst h1 h2
  cases he
  exact ⟨fun h => by cases g <;> exact h, fun gg => by cases g <;> exact Iff.rfl⟩
 ·cases he
  exact ⟨fun h => by cases g <;> exact h, fun gg => by cases g <;> exact Iff.rfl⟩
end
def mvS (sel oth : Mv → Option Nat) (oo : Objs) : Mvs → Nat → Objs → Option (Nat × Objs)
 | [], nx, o => some (nx, o)
 | e :: r, nx, o => match mvS sel oth oo r nx o with
  | some (nx', o') => bif Nat.ble nx' e.m then (match sel e with
   | some i => match lookO i o' with
    | some (.arr t sz els) => bif Nat.blt i nx' then some (e.m + 1, (i, none) :: (e.m, some (.arr t sz els)) :: o') else none
    | _ => none
   | none => match oth e with
    | some j => match lookO j oo with
     | some (.arr t sz _) => some (e.m + 1, (e.m, some (.arr t sz (.lst []))) :: o')
     | _ => none
    | none => none) else none
  | none => none
section
variable {F : Nat → Prop} {N : Nm} {nx : Nat} {o : Objs} {R : World}
theorem HRel.move (h : HRel F N nx o R) {i m : Nat} {t : TypeId} {sz : Nat} {els : Els} (hl : lookO i o = some (.arr t sz els)) (hm : nx ≤ m) :
  HRel F (N.setQ m (N.q i)) (m + 1) ((i, none) :: (m, some (.arr t sz els)) :: o) R ∧ Step F N nx o R F (N.setQ m (N.q i)) (m + 1) ((i, none) :: (m, some (.arr t sz els)) :: o) R := by
 have hq : ∀ k, k < nx → (N.setQ m (N.q i)).q k = N.q k := fun k hk => setF_ne N.q _ (by omega)
 have hqm : (N.setQ m (N.q i)).q m = N.q i := setF_same N.q m _
 have st : Ext F N nx R F (N.setQ m (N.q i)) (m + 1) R := ⟨by omega, fun _ _ => rfl, hq, fun _ h => h, fun _ _ => rfl⟩
 have cases_ : ∀ k ob, lookO k ((i, none) :: (m, some (.arr t sz els)) :: o) = some ob → (k = m ∧ k ≠ i ∧ ob = .arr t sz els) ∨ (k ≠ m ∧ k ≠ i ∧ lookO k o = some ob) := fun k ob hk => by
  rw [lookO_cons] at hk
  by_cases hki : k = i
  ·rw [if_pos hki] at hk; cases hk
  ·rw [if_neg hki, lookO_cons] at hk
   by_cases hkm : k = m
   ·rw [if_pos hkm] at hk; cases hk; exact .inl ⟨hkm, hki, rfl⟩
   ·rw [if_neg hkm] at hk; exact .inr ⟨hkm, hki, hk⟩
 have fm : ∀ g, foot (N.setQ m (N.q i)) m (.arr t sz els) g → foot N i (.arr t sz els) g := fun g hg => by
  have hg' : blkOf ((N.setQ m (N.q i)).q m) = some g := hg
  rw [hqm] at hg'
  exact hg'
 have fo : ∀ k ob g, lookO k o = some ob → foot (N.setQ m (N.q i)) k ob g → foot N k ob g := fun k ob g hk hg => (foot_step st (h.ob k ob hk).1).1 hg
 refine ⟨⟨h.flt, fun k ob hk => ?_, fun k ob g hk hg => ?_, fun j k x y g hj hk hx hy => ?_⟩, by omega, fun _ _ => rfl, hq, fun _ h => h, fun _ h => .inl h, fun g ⟨k, ob, hk, hg⟩ => ?_, rfl, rfl, rfl, Nat.le_refl _, fun _ _ _ => rfl⟩
 ·rcases cases_ k ob hk with ⟨rfl, _, rfl⟩ | ⟨_, _, hk'⟩
  ·obtain ⟨_, zs, h1, h2⟩ := h.ob i _ hl
   exact ⟨Nat.lt_succ_self _, zs, by rw [hqm]; exact h1, fun j hj => (h2 j hj).step st⟩
  ·obtain ⟨h1, h2⟩ := h.ob k ob hk'
   exact ⟨by omega, h2.step st h1 fun _ _ => rfl⟩
 ·rcases cases_ k ob hk with ⟨rfl, _, rfl⟩ | ⟨_, _, hk'⟩
  ·exact h.ff i _ g hl (fm g hg)
  ·exact h.ff k ob g hk' (fo k ob g hk' hg)
 ·rcases cases_ j x hj with ⟨rfl, hji, rfl⟩ | ⟨hjm, hji, hj'⟩
  ·rcases cases_ k y hk with ⟨rfl, _, _⟩ | ⟨hkm, hki, hk'⟩
   ·rfl
   ·exact absurd (h.sep i k _ y g hl hk' (fm g hx) (fo k y g hk' hy)).symm hki
  ·rcases cases_ k y hk with ⟨rfl, hki, rfl⟩ | ⟨hkm, hki, hk'⟩
   ·exact absurd (h.sep j i x _ g hj' hl (fo j x g hj' hx) (fm g hy)) hji
   ·exact h.sep j k x y g hj' hk' (fo j x g hj' hx) (fo k y g hk' hy)
 ·rcases cases_ k ob hk with ⟨rfl, _, rfl⟩ | ⟨_, _, hk'⟩
  ·exact .inl ⟨i, _, hl, fm g hg⟩
  ·exact .inl ⟨k, ob, hk', fo k ob g hk' hg⟩
theorem HRel.nilRow (h : HRel F N nx o R) {m : Nat} (t : TypeId) (sz : Nat) {els : Els} (he : els.n = 0) (hm : nx ≤ m) :
  HRel F (N.setQ m (.slice none 0 0)) (m + 1) ((m, some (.arr t sz els)) :: o) R ∧ Step F N nx o R F (N.setQ m (.slice none 0 0)) (m + 1) ((m, some (.arr t sz els)) :: o) R := by
 have hq : ∀ k, k < nx → (N.setQ m (.slice none 0 0)).q k = N.q k := fun k hk => setF_ne N.q _ (by omega)
 have hqm : (N.setQ m (.slice none 0 0)).q m = .slice none 0 0 := setF_same N.q m _
 have st : Ext F N nx R F (N.setQ m (.slice none 0 0)) (m + 1) R := ⟨by omega, fun _ _ => rfl, hq, fun _ h => h, fun _ _ => rfl⟩
 have cases_ : ∀ k ob, lookO k ((m, some (.arr t sz els)) :: o) = some ob → (k = m ∧ ob = .arr t sz els) ∨ (k ≠ m ∧ lookO k o = some ob) := fun k ob hk => by
  rw [lookO_cons] at hk
  by_cases hkm : k = m
  ·rw [if_pos hkm] at hk; cases hk; exact .inl ⟨hkm, rfl⟩
  ·rw [if_neg hkm] at hk; exact .inr ⟨hkm, hk⟩
 have fm : ∀ g, ¬ foot (N.setQ m (.slice none 0 0)) m (.arr t sz els) g := fun g hg => by
  have hg' : blkOf ((N.setQ m (.slice none 0 0)).q m) = some g := hg
  rw [hqm] at hg'
  cases hg'
 have fo : ∀ k ob g, lookO k o = some ob → foot (N.setQ m (.slice none 0 0)) k ob g → foot N k ob g := fun k ob g hk hg => (foot_step st (h.ob k ob hk).1).1 hg
 refine ⟨⟨h.flt, fun k ob hk => ?_, fun k ob g hk hg => ?_, fun j k x y g hj hk hx hy => ?_⟩, by omega, fun _ _ => rfl, hq, fun _ h => h, fun _ h => .inl h, fun g ⟨k, ob, hk, hg⟩ => ?_, rfl, rfl, rfl, Nat.le_refl _, fun _ _ _ => rfl⟩
 ·rcases cases_ k ob hk with ⟨rfl, rfl⟩ | ⟨_, hk'⟩
  ·refine ⟨Nat.lt_succ_self _, [], ?_, fun j hj => absurd hj (by omega)⟩
   rw [hqm]
   exact ⟨by rw [he]; simp, .inl ⟨none, rfl, he⟩⟩
  ·obtain ⟨h1, h2⟩ := h.ob k ob hk'
   exact ⟨by omega, h2.step st h1 fun _ _ => rfl⟩
 ·rcases cases_ k ob hk with ⟨rfl, rfl⟩ | ⟨_, hk'⟩
  ·exact absurd hg (fm g)
  ·exact h.ff k ob g hk' (fo k ob g hk' hg)
 ·rcases cases_ j x hj with ⟨rfl, rfl⟩ | ⟨hjm, hj'⟩
  ·exact absurd hx (fm g)
  ·rcases cases_ k y hk with ⟨rfl, rfl⟩ | ⟨hkm, hk'⟩
   ·exact absurd hy (fm g)
   ·exact h.sep j k x y g hj' hk' (fo j x g hj' hx) (fo k y g hk' hy)
 ·rcases cases_ k ob hk with ⟨rfl, rfl⟩ | ⟨_, hk'⟩
  ·exact absurd hg (fm g)
  ·exact .inl ⟨k, ob, hk', fo k ob g hk' hg⟩
theorem mvS_ok (h : HRel F N nx o R) {sel oth : Mv → Option Nat} {oo : Objs} : ∀ {M : Mvs} {nx' : Nat} {o' : Objs}, mvS sel oth oo M nx o = some (nx', o') →
  ∃ N', HRel F N' nx' o' R ∧ Step F N nx o R F N' nx' o' R ∧ MvOk N' nx' sel M ∧ ∃ d, o' = d ++ o
 | [], nx', o', he => by cases he; exact ⟨N, h, .refl, (fun e he => by cases he), [], rfl⟩
 | e :: r, nx', o', he => by
  unfold mvS at he
  split at he <;> first | (cases he; done) | skip
  rename_i nx1 o1 h1
  obtain ⟨N1, k1, k2, k3, d, k4⟩ := mvS_ok h h1
  cases hb : Nat.ble nx1 e.m with
  | false => rw [hb] at he; cases he
  | true =>
   rw [hb] at he
   simp only [cond_true] at he
   have hm := Nat.le_of_ble_eq_true hb
   split at he
   ·rename_i i hi
    split at he <;> first | (cases he; done) | skip
    rename_i t sz els hl
    cases hlt : Nat.blt i nx1 with
    | false => rw [hlt] at he; cases he
    | true =>
     rw [hlt] at he
     cases he
     have hin : i < nx1 := Nat.le_of_ble_eq_true hlt
     obtain ⟨q1, q2⟩ := k1.move hl hm
     refine ⟨_, q1, k2.trans q2, fun e' he' => ?_, (i, none) :: (e.m, some (.arr t sz els)) :: d, by rw [k4]; rfl⟩
     rcases List.mem_cons.1 he' with rfl | he'
     ·refine ⟨Nat.lt_succ_self _, fun i' hi' => ?_, fun hn => ?_⟩
      ·rw [hi] at hi'
       cases hi'
       refine ⟨by omega, ?_⟩
       show setF N1.q e'.m (N1.q i) e'.m = setF N1.q e'.m (N1.q i) i
       rw [setF_same, setF_ne N1.q _ (by omega)]
      ·rw [hi] at hn; cases hn
     ·obtain ⟨g1, g2, g3⟩ := k3 e' he'
      refine ⟨by omega, fun i' hi' => ?_, fun hn => ?_⟩
      ·obtain ⟨g4, g5⟩ := g2 i' hi'
       refine ⟨by omega, ?_⟩
       show setF N1.q e.m (N1.q i) e'.m = setF N1.q e.m (N1.q i) i'
       rw [setF_ne N1.q _ (by omega : e'.m ≠ e.m), setF_ne N1.q _ (by omega : i' ≠ e.m)]
       exact g5
      ·show setF N1.q e.m (N1.q i) e'.m = _
       rw [setF_ne N1.q _ (by omega : e'.m ≠ e.m)]; exact g3 hn
   ·rename_i hi
    split at he <;> first | (cases he; done) | skip
    rename_i j hj
    split at he <;> first | (cases he; done) | skip
    rename_i t sz els hl
    cases he
    obtain ⟨q1, q2⟩ := k1.nilRow t sz (els := .lst []) rfl hm
    refine ⟨_, q1, k2.trans q2, fun e' he' => ?_, (e.m, some (.arr t sz (.lst []))) :: d, by rw [k4]; rfl⟩
    rcases List.mem_cons.1 he' with rfl | he'
    ·refine ⟨Nat.lt_succ_self _, fun i' hi' => ?_, fun hn => ?_⟩
     ·rw [hi] at hi'; cases hi'
     ·exact setF_same N1.q _ _
    ·obtain ⟨g1, g2, g3⟩ := k3 e' he'
     refine ⟨by omega, fun i' hi' => ?_, fun hn => ?_⟩
     ·obtain ⟨g4, g5⟩ := g2 i' hi'
      refine ⟨by omega, ?_⟩
      show setF N1.q e.m _ e'.m = setF N1.q e.m _ i'
      rw [setF_ne N1.q _ (by omega : e'.m ≠ e.m), setF_ne N1.q _ (by omega : i' ≠ e.m)]
      exact g5
     ·show setF N1.q e.m _ e'.m = _
      rw [setF_ne N1.q _ (by omega : e'.m ≠ e.m)]; exact g3 hn
end
def inW (u : Nat) : List Nat → Bool
 | [] => false
 | k :: r => bif Nat.beq k u then true else inW u r
def depW (W : List Nat) : A → Bool
 | .opt k _ x => bif inW k W then true else depW W x
 | _ => false
def killW (W : List Nat) : Slots → Slots
 | [] => []
 | (k, x) :: r => (bif depW W x then (k, .dead) else (k, x)) :: killW W r
def merge2 (M : Mvs) (g : Bool) : Option A → Option A → A
 | some x, some y => mergeM M g x y
 | _, _ => .dead
def mergeW (M : Mvs) (g : Bool) (t1 t2 : Slots) : List Nat → Slots
 | [] => []
 | u :: r => (u, merge2 M g (look u t1) (look u t2)) :: mergeW M g t1 t2 r
def merge2o (M : Mvs) (g : Bool) : Option Ob → Option Ob → Option Ob
 | some x, some y => mergeOb M g x y
 | _, _ => none
def mergeOs (M : Mvs) (g : Bool) (o1 o2 : Objs) : List Nat → Objs
 | [] => []
 | i :: r => (i, merge2o M g (lookO i o1) (lookO i o2)) :: mergeOs M g o1 o2 r
def collT (o1 o2 : Objs) (t1 t2 : Slots) : List Nat → Coll → Coll
 | [], c => c
 | u :: r, c => match look u t1, look u t2 with
  | some x, some y => collT o1 o2 t1 t2 r (collA o1 o2 5 x y c)
  | _, _ => collT o1 o2 t1 t2 r c
def collO (o1 o2 : Objs) : List Nat → Coll → Coll
 | [], c => c
 | i :: r, c => match lookO i o1, lookO i o2 with
  | some (.box _ cs), some (.box _ cs') => collO o1 o2 r (collLs (collA o1 o2 5) cs cs' c)
  | _, _ => collO o1 o2 r c
def newK (o : Objs) (k : Nat) : List Nat := keysO (o.take (o.length - k))
def mergeS' (g : Bool) (W : List Nat) (s0 s1 s2 : St) (nx : Nat) (M : Mvs) : St :=
 match mvS Mv.l Mv.r s2.o M nx s1.o, mvS Mv.r Mv.l s1.o M nx s2.o with
 | some (n1, o1), some (n2, o2) => ⟨s0.n, Nat.max n1 n2, mergeW M g s1.t s2.t W ++ killW W s0.t, mergeOs M g o1 o2 (newK o1 s0.o.length ++ newK o2 s0.o.length) ++ s0.o⟩
 | _, _ => ⟨s0.n, nx, [], (s0.o.map fun e => (e.1, none)) ++ s0.o⟩
def mergeS (g : Bool) (W : List Nat) (s0 s1 s2 : St) : St :=
 mergeS' g W s0 s1 s2 (Nat.max s1.nx s2.nx) (collO s1.o s2.o (newK s1.o s0.o.length) (collT s1.o s2.o s1.t s2.t W ([], Nat.max s1.nx s2.nx))).1
structure Sub (s s' : St) : Prop where
 n : s'.n = s.n
 seq : ∃ d, s'.o = d ++ s.o
theorem Sub.refl (s : St) : Sub s s := ⟨rfl, [], rfl⟩
theorem Sub.trans {s s1 s2 : St} (h : Sub s s1) (k : Sub s1 s2) : Sub s s2 := by
 obtain ⟨d, hd⟩ := h.seq
 obtain ⟨e, he⟩ := k.seq
 exact ⟨k.n.trans h.n, e ++ d, by rw [he, hd, List.append_assoc]⟩
section
variable {F F0 : Nat → Prop} {N N0 : Nm} {nx nx' : Nat} {o o' : Objs} {R R0 : World}
theorem HRel.nxup (h : HRel F N nx o R) (hn : nx ≤ nx') : HRel F N nx' o R ∧ Step F N nx o R F N nx' o R := by
 have st : Ext F N nx R F N nx' R := ⟨hn, fun _ _ => rfl, fun _ _ => rfl, fun _ h => h, fun _ _ => rfl⟩
 exact ⟨⟨h.flt, fun i ob hi => ⟨Nat.lt_of_lt_of_le (h.ob i ob hi).1 hn, (h.ob i ob hi).2.step st (h.ob i ob hi).1 fun _ _ => rfl⟩, h.ff, h.sep⟩, hn, fun _ _ => rfl, fun _ _ => rfl, fun _ h => h, fun _ h => .inl h, fun _ h => .inl h, rfl, rfl, rfl, Nat.le_refl _, fun _ _ _ => rfl⟩
theorem HRel.less (h : HRel F N nx o R) (ho : ∀ i ob, lookO i o' = some ob → ∃ ob0, lookO i o = some ob0 ∧ (ObR F N nx R i ob0 → ObR F N nx R i ob) ∧ ∀ g, foot N i ob g ↔ foot N i ob0 g) : HRel F N nx o' R ∧ Step F N nx o R F N nx o' R := by
 refine ⟨⟨h.flt, fun i ob hi => ?_, fun i ob g hi hg => ?_, fun i j x y g hi hj hx hy => ?_⟩, Nat.le_refl _, fun _ _ => rfl, fun _ _ => rfl, fun _ h => h, fun _ h => .inl h, fun g ⟨i, ob, hi, hg⟩ => ?_, rfl, rfl, rfl, Nat.le_refl _, fun _ _ _ => rfl⟩
 ·obtain ⟨ob0, h1, h2, h3⟩ := ho i ob hi
  exact ⟨(h.ob i ob0 h1).1, h2 (h.ob i ob0 h1).2⟩
 ·obtain ⟨ob0, h1, h2, h3⟩ := ho i ob hi
  exact h.ff i ob0 g h1 ((h3 g).1 hg)
 ·obtain ⟨x0, h1, h2, h3⟩ := ho i x hi
  obtain ⟨y0, k1, k2, k3⟩ := ho j y hj
  exact h.sep i j x0 y0 g h1 k1 ((h3 g).1 hx) ((k3 g).1 hy)
 ·obtain ⟨ob0, h1, h2, h3⟩ := ho i ob hi
  exact .inl ⟨i, ob0, h1, (h3 g).1 hg⟩
theorem HS.congrW {tm tm' : Nat → Value} {W : List Nat} (ht : ∀ k, inW k W = false → tm' k = tm k) : ∀ {x : A} {y : Value}, depW W x = false → HS F N nx R tm x y → HS F N nx R tm' x y
 | .opt k b x, y, hd, h => by
  unfold depW at hd
  cases hk : inW k W with
  | true => rw [hk] at hd; cases hd
  | false =>
   rw [hk] at hd
   simp only [HS] at h ⊢
   rw [ht k hk]
   exact ⟨fun hb => HS.congrW ht hd (h.1 hb), h.2⟩
 | .v _, _, _, h => (HS_plain rfl).2 ((HS_plain rfl).1 h)
 | .sl _ _, _, _, h => (HS_plain rfl).2 ((HS_plain rfl).1 h)
 | .own _ _, _, _, h => (HS_plain rfl).2 ((HS_plain rfl).1 h)
 | .ownx _ _ _ _, _, _, h => (HS_plain rfl).2 ((HS_plain rfl).1 h)
 | .sq _, _, _, h => (HS_plain rfl).2 ((HS_plain rfl).1 h)
 | .vw _ _ _ _ _, _, _, h => (HS_plain rfl).2 ((HS_plain rfl).1 h)
 | .el _ _ _ _, _, _, h => (HS_plain rfl).2 ((HS_plain rfl).1 h)
 | .ref _, _, _, h => (HS_plain rfl).2 ((HS_plain rfl).1 h)
 | .mp _, _, _, h => (HS_plain rfl).2 ((HS_plain rfl).1 h)
 | .nl, _, _, h => (HS_plain rfl).2 ((HS_plain rfl).1 h)
 | .it _ _, _, _, h => (HS_plain rfl).2 ((HS_plain rfl).1 h)
 | .fn _ _ _, _, _, h => (HS_plain rfl).2 ((HS_plain rfl).1 h)
 | .agg _, _, _, h => (HS_plain rfl).2 ((HS_plain rfl).1 h)
 | .tup _, _, _, h => (HS_plain rfl).2 ((HS_plain rfl).1 h)
 | .dead, _, _, h => (HS_plain rfl).2 ((HS_plain rfl).1 h)
theorem look_append (u : Nat) : ∀ (A B : Slots), look u (A ++ B) = match look u A with | some x => some x | none => look u B
 | [], B => rfl
 | (k, x) :: r, B => by
  show (bif Nat.beq k u then some x else look u (r ++ B)) = match (bif Nat.beq k u then some x else look u r) with | some x => some x | none => look u B
  cases Nat.beq k u with
  | true => rfl
  | false => exact look_append u r B
theorem look_mergeW {M : Mvs} {g : Bool} {t1 t2 : Slots} {u : Nat} : ∀ {W : List Nat}, look u (mergeW M g t1 t2 W) = bif inW u W then some (merge2 M g (look u t1) (look u t2)) else none
 | [] => rfl
 | k :: r => by
  show (bif Nat.beq k u then some (merge2 M g (look k t1) (look k t2)) else look u (mergeW M g t1 t2 r)) = bif (bif Nat.beq k u then true else inW u r) then _ else _
  cases hb : Nat.beq k u with
  | true => rw [Nat.eq_of_beq_eq_true hb]; rfl
  | false => exact look_mergeW
theorem look_killW {W : List Nat} {u : Nat} {x : A} : ∀ {t : Slots}, look u (killW W t) = some x → x = .dead ∨ (look u t = some x ∧ depW W x = false)
 | [], h => by cases h
 | (j, y) :: r, h => by
  unfold killW at h
  show x = .dead ∨ ((bif Nat.beq j u then some y else look u r) = some x ∧ _)
  cases hd : depW W y with
  | true =>
   rw [hd] at h
   have h' : (bif Nat.beq j u then some A.dead else look u (killW W r)) = some x := h
   cases hj : Nat.beq j u with
   | true => rw [hj] at h'; cases h'; exact .inl rfl
   | false => rw [hj] at h'; exact look_killW h'
  | false =>
   rw [hd] at h
   have h' : (bif Nat.beq j u then some y else look u (killW W r)) = some x := h
   cases hj : Nat.beq j u with
   | true => rw [hj] at h'; obtain rfl : y = x := Option.some.inj h'; exact .inr ⟨rfl, hd⟩
   | false => rw [hj] at h'; exact look_killW h'
theorem keysO_merge (M : Mvs) (g : Bool) (o1 o2 : Objs) : ∀ l, keysO (mergeOs M g o1 o2 l) = l
 | [] => rfl
 | i :: r => by
  show i :: keysO (mergeOs M g o1 o2 r) = i :: r
  rw [keysO_merge M g o1 o2 r]
theorem lookO_mergeOs {M : Mvs} {g : Bool} {o1 o2 : Objs} {i : Nat} : ∀ {l : List Nat}, i ∈ l → lookO i (mergeOs M g o1 o2 l) = merge2o M g (lookO i o1) (lookO i o2)
 | [], h => by cases h
 | k :: r, h => by
  show (bif Nat.beq k i then merge2o M g (lookO k o1) (lookO k o2) else lookO i (mergeOs M g o1 o2 r)) = _
  cases hb : Nat.beq k i with
  | true => rw [Nat.eq_of_beq_eq_true hb]; rfl
  | false =>
   rcases List.mem_cons.1 h with rfl | h
   ·simp at hb
   ·exact lookO_mergeOs h
theorem lookO_all_none {i : Nat} : ∀ {o : Objs}, lookO i (o.map fun e => (e.1, none)) = none
 | [] => rfl
 | (k, x) :: r => by
  show (bif Nat.beq k i then none else lookO i (r.map fun e => (e.1, none))) = none
  cases Nat.beq k i with
  | true => rfl
  | false => exact lookO_all_none
theorem keysO_map : ∀ {o : Objs}, keysO (o.map fun e => (e.1, none)) = keysO o
 | [] => rfl
 | (k, x) :: r => by
  show k :: keysO (r.map fun e => (e.1, none)) = k :: keysO r
  rw [keysO_map]
theorem lookO_wipe {i : Nat} {o : Objs} : lookO i ((o.map fun e => (e.1, none)) ++ o) = none := by
 by_cases h : i ∈ keysO o
 ·rw [lookO_in (by rw [keysO_map]; exact h), lookO_all_none]
 ·rw [lookO_none (by rw [keysO_map]; exact h)]
  have := lookO_none (A := o) (B := []) h
  rw [List.append_nil] at this
  exact this
theorem mvS_seq {sel oth : Mv → Option Nat} {oo : Objs} {nx : Nat} {o : Objs} : ∀ {M : Mvs} {nx' : Nat} {o' : Objs}, mvS sel oth oo M nx o = some (nx', o') → ∃ d, o' = d ++ o
 | [], nx', o', he => by cases he; exact ⟨[], rfl⟩
 | e :: r, nx', o', he => by
  unfold mvS at he
  split at he <;> first | (cases he; done) | skip
  rename_i nx1 o1 h1
  obtain ⟨d, hd⟩ := mvS_seq h1
  cases hb : Nat.ble nx1 e.m with
  | false => rw [hb] at he; cases he
  | true =>
   rw [hb] at he
   simp only [cond_true] at he
   split at he
   ·rename_i i hi
    split at he <;> first | (cases he; done) | skip
    rename_i t sz els hl
    cases hlt : Nat.blt i nx1 with
    | false => rw [hlt] at he; cases he
    | true => rw [hlt] at he; cases he; exact ⟨(i, none) :: (e.m, some (.arr t sz els)) :: d, by rw [hd]; rfl⟩
   ·split at he <;> first | (cases he; done) | skip
    split at he <;> first | (cases he; done) | skip
    rename_i t sz els hl
    cases he
    exact ⟨(e.m, some (.arr t sz (.lst []))) :: d, by rw [hd]; rfl⟩
theorem aggA_plain (cs : List A) : (aggA cs).plain = true := by unfold aggA; split <;> rfl
theorem mergeSl_plain (g : Bool) (c : TC) (l : List (U c)) (c' : TC) (l' : List (U c')) : (mergeSl g c l c' l').plain = true := by unfold mergeSl; split <;> rfl
theorem bif_plain {b : Bool} {x y : A} (hx : x.plain = true) (hy : y.plain = true) : (bif b then x else y).plain = true := by cases b <;> assumption
theorem mergeA_plain : ∀ (d : Nat) (g : Bool) (x y : A), (mergeA d g x y).plain = true
 | 0, _, _, _ => rfl
 | d + 1, g, x, y => by
  unfold mergeA
  split <;> first | rfl | exact aggA_plain _ | exact mergeSl_plain _ _ _ _ _ | (refine bif_plain ?_ rfl; first | rfl | exact bif_plain rfl rfl) | (split <;> rfl)
theorem mergeX_plain (M : Mvs) : ∀ (d : Nat) (g : Bool) (x y : A), (mergeX M d g x y).plain = true
 | 0, _, _, _ => rfl
 | d + 1, g, x, y => by
  unfold mergeX
  split <;> first | rfl | exact aggA_plain _ | exact mergeA_plain _ _ _ _ | (refine bif_plain ?_ ?_ <;> first | rfl | (split <;> rfl) | (refine bif_plain ?_ rfl; first | rfl | exact bif_plain rfl rfl))
theorem mergeM_plain (M : Mvs) (g : Bool) (x y : A) : (mergeM M g x y).plain = true := mergeX_plain M 5 g x y
theorem mergeM_opt {M : Mvs} {g : Bool} {x y : A} (h : (x.plain && y.plain) = false) : mergeM M g x y = .dead := by
 cases x <;> cases y <;> first | (cases h; done) | rfl
theorem lookO_newK {i : Nat} {d o : Objs} (h : i ∉ newK (d ++ o) o.length) : lookO i (d ++ o) = lookO i o := by
 unfold newK at h
 rw [List.length_append, Nat.add_sub_cancel, List.take_left'] at h
 ·exact lookO_none h
 ·rfl
end
section
variable {Z : Base} {F F0 : Nat → Prop} {N N0 : Nm} {s0 s1 s2 : St} {a a0 : Act} {R R0 : World} {W : List Nat} {g : Bool}
abbrev midB (F : Nat → Prop) (N : Nm) (s : St) (a : Act) (R : World) (W : List Nat) : Base := ⟨F, N, s.nx, s.o, R, tmOf a, fun u => inW u W = true⟩
theorem Rel.start (h0 : Rel Z F0 N0 s0 a0 R0) (W : List Nat) : Rel (midB F0 N0 s0 a0 R0 W) F0 N0 s0 a0 R0 := ⟨h0.defers, h0.size, h0.slots, h0.hp, .refl, fun _ _ => rfl⟩
theorem merge_core (h0 : Rel Z F0 N0 s0 a0 R0) {s : St} (h : Rel (midB F0 N0 s0 a0 R0 W) F N s a R) (hW : ∀ u, inW u W = true → Z.W u) (hn : s.n = s0.n) {nx' : Nat} {o' : Objs} {N' : Nm} (k1 : HRel F N' nx' o' R) (k2 : Step F N s.nx s.o R F N' nx' o' R) {t : Slots} {os : Objs}
  (ht : ∀ u x, look u t = some x → HS F N' nx' R (tmOf a) x (tmOf a u)) (ho : ∀ i ob, lookO i os = some ob → ∃ ob0, lookO i o' = some ob0 ∧ (ObR F N' nx' R i ob0 → ObR F N' nx' R i ob) ∧ ∀ gg, foot N' i ob gg ↔ foot N' i ob0 gg) : Rel Z F N' ⟨s0.n, nx', t, os⟩ a R := by
 obtain ⟨q1, q2⟩ := k1.less ho
 refine ⟨h.defers, h.size.trans hn, ht, q1, ((h0.st.trans h.st).trans k2).trans q2, fun u hu => ?_⟩
 rw [h.tm u fun hw => hu (hW u hw)]
 exact h0.tm u hu
theorem Rel.merge (h0 : Rel Z F0 N0 s0 a0 R0) (h : Rel (midB F0 N0 s0 a0 R0 W) F N (bif g then s1 else s2) a R) (hW : ∀ u, inW u W = true → Z.W u) (e1 : Sub s0 s1) (e2 : Sub s0 s2) : ∃ N', Rel Z F N' (mergeS g W s0 s1 s2) a R := by
 have hn : (bif g then s1 else s2).n = s0.n := by cases g <;> first | exact e1.n | exact e2.n
 have hnx : (bif g then s1 else s2).nx ≤ Nat.max s1.nx s2.nx := by cases g <;> first | exact Nat.le_max_left .. | exact Nat.le_max_right ..
 obtain ⟨u1, u2⟩ := h.hp.nxup hnx
 unfold mergeS
 generalize (collO s1.o s2.o (newK s1.o s0.o.length) (collT s1.o s2.o s1.t s2.t W ([], Nat.max s1.nx s2.nx))).1 = M
 unfold mergeS'
 split
 ·rename_i n1 o1 n2 o2 g1 g2
  have main : ∃ N' nx' o', nx' ≤ Nat.max n1 n2 ∧ HRel F N' nx' o' R ∧ Step F N (Nat.max s1.nx s2.nx) (bif g then s1 else s2).o R F N' nx' o' R ∧ MvOk N' nx' (side g) M ∧ o' = (bif g then o1 else o2) := by
   cases g with
   | true =>
    obtain ⟨N', m1, m2, m3, _⟩ := mvS_ok u1 g1
    exact ⟨N', n1, o1, Nat.le_max_left .., m1, m2, m3, rfl⟩
   | false =>
    obtain ⟨N', m1, m2, m3, _⟩ := mvS_ok u1 g2
    exact ⟨N', n2, o2, Nat.le_max_right .., m1, m2, m3, rfl⟩
  have d1 : ∃ d, o1 = d ++ s0.o := by
   obtain ⟨d, hd⟩ := e1.seq
   obtain ⟨e, he⟩ := mvS_seq g1
   exact ⟨e ++ d, by rw [he, hd, List.append_assoc]⟩
  have d2 : ∃ d, o2 = d ++ s0.o := by
   obtain ⟨d, hd⟩ := e2.seq
   obtain ⟨e, he⟩ := mvS_seq g2
   exact ⟨e ++ d, by rw [he, hd, List.append_assoc]⟩
  obtain ⟨N', nx', o', hle, m1, m2, m3, rfl⟩ := main
  obtain ⟨q1, q2⟩ := m1.nxup hle
  have m3' : MvOk N' (Nat.max n1 n2) (side g) M := fun e he => ⟨Nat.lt_of_lt_of_le (m3 e he).1 hle, fun i hi => ⟨Nat.lt_of_lt_of_le ((m3 e he).2.1 i hi).1 hle, ((m3 e he).2.1 i hi).2⟩, (m3 e he).2.2⟩
  have hst := (u2.trans m2).trans q2
  have hx : Ext F N (bif g then s1 else s2).nx R F N' (Nat.max n1 n2) R := hst.ext h.hp
  refine ⟨N', merge_core h0 h hW hn q1 hst (fun u x hu => ?_) fun i ob hi => ?_⟩
  ·rw [look_append, look_mergeW] at hu
   cases hw : inW u W with
   | true =>
    rw [hw] at hu
    have hu' : merge2 M g (look u s1.t) (look u s2.t) = x := Option.some.inj hu
    unfold merge2 at hu'
    split at hu'
    ·rename_i x1 x2 k1 k2
     have hs : HS F N' (Nat.max n1 n2) R (tmOf a) (bif g then x1 else x2) (tmOf a u) := by
      cases g with
      | true => exact (h.slots u x1 k1).step hx
      | false => exact (h.slots u x2 k2).step hx
     subst hu'
     cases hp : (x1.plain && x2.plain) with
     | true =>
      rw [Bool.and_eq_true] at hp
      have hs' : Hv F N' (Nat.max n1 n2) R (bif g then x1 else x2) (tmOf a u) := by cases g <;> first | exact (HS_plain hp.1).1 hs | exact (HS_plain hp.2).1 hs
      have hm := mergeM_ok m3' hs'
      exact (HS_plain (mergeM_plain _ _ _ _)).2 hm
     | false =>
      have := mergeM_opt (M := M) (g := g) hp
      rw [this]
      exact (HS_plain rfl).2 (.dead _)
    ·subst hu'
     exact (HS_plain rfl).2 (.dead _)
   | false =>
    rw [hw] at hu
    have hu' : look u (killW W s0.t) = some x := hu
    have htm : ∀ k, inW k W = false → tmOf a k = tmOf a0 k := fun k hk => h.tm k fun hh => by
     have hh' : inW k W = true := hh
     rw [hk] at hh'; cases hh'
    rcases look_killW hu' with rfl | ⟨k1, k2⟩
    ·exact (HS_plain rfl).2 (.dead _)
    ·rw [htm u hw]
     exact HS.congrW htm k2 (((h0.slots u x k1).step (h.st.ext h0.hp)).step hx)
  ·by_cases hk : i ∈ newK o1 s0.o.length ++ newK o2 s0.o.length
   ·rw [lookO_in (by rw [keysO_merge]; exact hk), lookO_mergeOs hk] at hi
    unfold merge2o at hi
    split at hi <;> first | (cases hi; done) | skip
    rename_i x1 x2 k1 k2
    obtain ⟨r1, r2⟩ := mergeOb_ok (i := i) (F := F) (N := N') (nx := Nat.max n1 n2) (R := R) m3' hi
    exact ⟨_, by cases g <;> first | exact k1 | exact k2, r1, r2⟩
   ·rw [lookO_none (by rw [keysO_merge]; exact hk)] at hi
    refine ⟨ob, ?_, id, fun _ => Iff.rfl⟩
    obtain ⟨d1, hd1⟩ := d1
    obtain ⟨d2, hd2⟩ := d2
    cases g with
    | true =>
     show lookO i o1 = _
     rw [hd1, lookO_newK (by rw [← hd1]; exact fun hh => hk (List.mem_append.2 (.inl hh)))]
     exact hi
    | false =>
     show lookO i o2 = _
     rw [hd2, lookO_newK (by rw [← hd2]; exact fun hh => hk (List.mem_append.2 (.inr hh)))]
     exact hi
 ·refine ⟨N, merge_core h0 h hW hn u1 u2 (fun u x hu => by cases hu) fun i ob hi => ?_⟩
  rw [lookO_wipe] at hi
  cases hi
theorem Sub.merge (g : Bool) (W : List Nat) (s0 s1 s2 : St) : Sub s0 (mergeS g W s0 s1 s2) := by
 unfold mergeS
 unfold mergeS'
 split
 ·exact ⟨rfl, _, rfl⟩
 ·exact ⟨rfl, _, rfl⟩
end
end Go.Proofs.Yteebobbhhgmeiaa
namespace Go.Proofs.Yteebobbhhgmeiaa
open Go.RowKit
abbrev Cnd := Option Bool
def cval : Cnd → Bool
 | none => true
 | some b => b
def andO : Cnd → Cnd → Cnd
 | none, y => y
 | some a, none => some a
 | some a, some b => some (a && b)
def orO : Cnd → Cnd → Cnd
 | none, _ => none
 | some _, none => none
 | some a, some b => some (a || b)
def notO : Cnd → Cnd
 | none => some false
 | some a => some (!a)
def iteO (g : Bool) : Cnd → Cnd → Cnd
 | none, none => none
 | some a, none => some (!g || a)
 | none, some b => some (g || b)
 | some a, some b => some (bif g then a else b)
theorem cval_and (x y : Cnd) : cval (andO x y) = (cval x && cval y) := by cases x <;> cases y <;> simp [andO, cval]
theorem cval_or (x y : Cnd) : cval (orO x y) = (cval x || cval y) := by cases x <;> cases y <;> simp [orO, cval]
theorem cval_not (x : Cnd) : cval (notO x) = !(cval x) := by cases x <;> rfl
theorem cval_ite (g : Bool) (x y : Cnd) : cval (iteO g x y) = bif g then cval x else cval y := by cases x <;> cases y <;> cases g <;> simp [iteO, cval]
def cndP : Cnd → List Prop
 | none => []
 | some b => [b = true]
theorem cndP_ok {c : Cnd} (h : cval c = true) : ∀ q ∈ cndP c, q := fun q hq => by
 cases c with
 | none => cases hq
 | some b => obtain rfl := List.mem_singleton.1 hq; exact h
def dstAt (ops : List Oper) (j : Nat) : Option Tmp := match ops[j]? with
 | some o => o.dst
 | none => none
abbrev Outc := Cnd × Nat × St × List Prop
def onL : List Outc → (St → Prop) → Prop
 | [], _ => False
 | (c, _, s, _) :: r, K => (cval c = true ∧ K s) ∨ (cval c = false ∧ onL r K)
def needL : List Outc → Prop
 | [] => True
 | (c, _, _, ps) :: r => (cval c = true → ∀ p ∈ ps, p) ∧ needL r
def kindL : List Outc → Nat
 | [] => 0
 | (_, k, _, _) :: r => Nat.max k (kindL r)
def putE (s : St) (dst : Option Tmp) (f : Eff) : Option St := match dst with
 | some d => bif Nat.blt d s.n then some (St.put ⟨s.n, f.nx, s.t, f.o⟩ d f.x) else none
 | none => some ⟨s.n, f.nx, s.t, f.o⟩
def St.lit (s : St) (u : Nat) (b : Bool) : St := { s with t := (u, .v (.bool b)) :: s.t }
def quietE (E : Env) (s : St) (G : Guards) (o : Oper) : R2 := bif loudB o.op then none else valE E s G o
def doE (E : Env) (s : St) (G : Guards) (o : Oper) (c : Cnd) (ps : List Prop) : Option Outc := match opE E s G o with
 | some f => match putE s o.dst f with
  | some s' => some (c, f.k, s', ps ++ f.ps)
  | none => none
 | none => none
def skipE (s : St) (o : Oper) : Option St := match o.dst with
 | some d => bif Nat.blt d s.n then some (s.put d (.v undef)) else none
 | none => some s
def step0 (E : Env) (ops : List Oper) (s : St) (o : Oper) : Option (List Outc) :=
 match o.guard with
 | none => match doE E s [] o none [] with
  | some x => some [x]
  | none => none
 | some (j, b) => match dstAt ops j with
  | some u => match E.lit with
   | true => match s.raw [] (.tmp u) with
    | some (.bool c) => match beqB c b with
     | true => match doE E s (gset s 5 u b) o none [] with
      | some x => some [x]
      | none => none
     | false => match skipE s o with
      | some s' => some [(none, 0, s', [])]
      | none => none
    | _ => none
   | false => match quietE E s (gset s 5 u b) o with
    | some (x, ps) => match o.dst with
     | some d => bif Nat.blt d s.n then (bif Nat.beq d u then none else some [(none, 0, s.put d (.opt u b x), gimps (gprops s (gset s 5 u b) (gset s 5 u b)) ps)]) else none
     | none => none
    | none => match s.raw [] (.tmp u) with
     | some (.bool c) => match doE E (s.lit u b) (gset s 5 u b) o (some (bif b then c else !c)) [], skipE (s.lit u (!b)) o with
      | some x, some s' => some [x, (none, 0, s', [])]
      | _, _ => none
     | _ => none
  | none => none
section
variable {E : Env} {Z : Base} {F : Nat → Prop} {N : Nm} {s : St} {a : Act} {R : World}
theorem gok_nil (tm : Nat → Value) : GOk tm [] := fun _ _ h => by cases h
theorem Hv.isPlain {nx : Nat} {x : A} {v : Value} (h : Hv F N nx R x v) : x.plain = true := by cases h <;> rfl
theorem wanted_iff {ops : List Oper} {o : Oper} {j u : Nat} {b : Bool} (hg : o.guard = some (j, b)) (hu : dstAt ops j = some u) (a : Act) : Region.wanted o (yielded ops.toArray a.tmps) = true ↔ tmOf a u = .bool b := by
 unfold Region.wanted yielded tmOf
 rw [hg]
 have : (ops.toArray[j]?).bind (·.dst) = some u := by
  unfold dstAt at hu
  rw [List.getElem?_toArray]
  cases ho : ops[j]? with
  | none => rw [ho] at hu; cases hu
  | some o' => rw [ho] at hu; exact hu
 simp only [this, Option.bind_some]
 rw [Array.getD_eq_getD_getElem?]
 cases hv : a.tmps[u]? with
 | none => simp [undef]
 | some v =>
  cases v <;> simp
theorem wanted_none {o : Oper} (hg : o.guard = none) (y : Nat → Option Bool) : Region.wanted o y = true := by
 unfold Region.wanted
 rw [hg]
theorem Rel.lit (h : Rel Z F N s a R) {u : Nat} {b : Bool} (hu : tmOf a u = .bool b) : Rel Z F N (s.lit u b) a R :=
 ⟨h.defers, h.size, fun v x hv => by
  have hv' : (bif Nat.beq u v then some (A.v (.bool b)) else look v s.t) = some x := hv
  cases hb : Nat.beq u v with
  | true =>
   rw [hb] at hv'
   obtain rfl := Nat.eq_of_beq_eq_true hb
   cases hv'
   rw [hu]
   exact (HS_plain rfl).2 (.v _)
  | false => rw [hb] at hv'; exact h.slots v x hv', h.hp, h.st, h.tm⟩
theorem putE_ok (h : Rel Z F N s a R) {dst : Option Tmp} {f : Eff} {s' : St} (he : putE s dst f = some s') (hW : ∀ d, dst = some d → Z.W d) {v : Value} {R' : World} (hk : EK F N s.nx s.o R f v R') :
  ∃ F' N', Rel Z F' N' s' (a.put dst v) R' := by
 obtain ⟨F', N', h1, h2, h3, _⟩ := hk
 have hr := h.heap h2 h1
 unfold putE at he
 split at he
 ·rename_i d
  cases hd : Nat.blt d s.n with
  | false => rw [hd] at he; cases he
  | true =>
   rw [hd] at he
   cases he
   exact ⟨F', N', hr.put (Nat.le_of_ble_eq_true hd) (hW d rfl) v ((HS_plain h3.isPlain).2 h3)⟩
 ·cases he
  exact ⟨F', N', hr⟩
theorem skipE_ok (h : Rel Z F N s a R) {o : Oper} {s' : St} (he : skipE s o = some s') (hW : ∀ d, o.dst = some d → Z.W d) : Rel Z F N s' (a.put o.dst undef) R := by
 unfold skipE at he
 split at he
 ·rename_i d hd
  cases hb : Nat.blt d s.n with
  | false => rw [hb] at he; cases he
  | true =>
   rw [hb] at he
   cases he
   rw [hd]
   exact h.put (Nat.le_of_ble_eq_true hb) (hW d hd) undef ((HS_plain rfl).2 (.v _))
 ·rename_i hd
  cases he
  rw [hd]
  exact h
theorem doE_ok (ok : EnvOk E) (h : Rel Z F N s a R) {G : Guards} (hG : GOk (tmOf a) G) {o : Oper} {c c' : Cnd} {k : Nat} {s' : St} {ps qs : List Prop} (he : doE E s G o c qs = some (c', k, s', ps)) (hp : ∀ p ∈ ps, p) (hW : ∀ d, o.dst = some d → Z.W d) :
  c' = c ∧ UponV E.P (fun v R' => (k ≤ 1 → Below R.heap.size R R') ∧ ∃ F' N', Rel Z F' N' s' (a.put o.dst v) R') ((execOp a.eval o).run E.P R) := by
 unfold doE at he
 split at he <;> first | (cases he; done) | skip
 rename_i f hf
 split at he <;> first | (cases he; done) | skip
 rename_i s1 hs
 cases he
 refine ⟨rfl, uponV_mono (op_ok ok h hG hf fun p hm => hp p (List.mem_append.2 (.inr hm))) fun v R' hk => ⟨?_, putE_ok h hs hW hk⟩⟩
 obtain ⟨_, _, _, _, _, h4⟩ := hk
 exact h4
theorem bool_path {c b : Bool} (hcb : (bif b then c else !c) = true) : c = b := by cases b <;> cases c <;> first | rfl | cases hcb
theorem bool_path' {c b : Bool} (hcb : (bif b then c else !c) = false) : c = !b := by cases b <;> cases c <;> first | rfl | cases hcb
theorem step0_ok (ok : EnvOk E) (h : Rel Z F N s a R) {ops : List Oper} {o : Oper} {l : List Outc} (he : step0 E ops s o = some l) (hp : needL l) (hW : ∀ d, o.dst = some d → Z.W d) :
  (Region.wanted o (yielded ops.toArray a.tmps) = true ∧ UponV E.P (fun v R' => (kindL l ≤ 1 → Below R.heap.size R R') ∧ onL l fun s' => ∃ F' N', Rel Z F' N' s' (a.put o.dst v) R') ((execOp a.eval o).run E.P R)) ∨
  (Region.wanted o (yielded ops.toArray a.tmps) = false ∧ onL l fun s' => ∃ F' N', Rel Z F' N' s' (a.put o.dst undef) R) := by
 have one : ∀ {G : Guards} {x : Outc}, GOk (tmOf a) G → doE E s G o none [] = some x → l = [x] → UponV E.P (fun v R' => (kindL l ≤ 1 → Below R.heap.size R R') ∧ onL l fun s' => ∃ F' N', Rel Z F' N' s' (a.put o.dst v) R') ((execOp a.eval o).run E.P R) := fun {G x} hG hx hl => by
  obtain ⟨c, k, s', ps⟩ := x
  subst hl
  have hc : c = none := by
   unfold doE at hx
   split at hx <;> first | (cases hx; done) | skip
   split at hx <;> first | (cases hx; done) | skip
   cases hx; rfl
  subst hc
  obtain ⟨_, h2⟩ := doE_ok ok h hG hx (hp.1 rfl) hW
  exact uponV_mono h2 fun v R' ⟨h3, h4⟩ => ⟨fun hk => h3 (Nat.le_trans (Nat.le_max_left ..) hk), .inl ⟨rfl, h4⟩⟩
 unfold step0 at he
 split at he
 ·rename_i hg
  split at he <;> first | (cases he; done) | skip
  rename_i x hx
  cases he
  exact .inl ⟨wanted_none hg _, one (gok_nil _) hx rfl⟩
 ·rename_i j b hg
  split at he <;> first | (cases he; done) | skip
  rename_i u hu
  have wt := wanted_iff hg hu a
  have wf : tmOf a u ≠ .bool b → Region.wanted o (yielded ops.toArray a.tmps) = false := fun hn => by
   cases hw : Region.wanted o (yielded ops.toArray a.tmps) with
   | false => rfl
   | true => exact absurd (wt.1 hw) hn
  split at he
  ·split at he <;> first | (cases he; done) | skip
   rename_i c hc
   have hcu : tmOf a u = .bool c := raw_ok h (gok_nil _) hc
   split at he
   ·rename_i hb
    obtain rfl := beqB_eq hb
    split at he <;> first | (cases he; done) | skip
    rename_i x hx
    cases he
    exact .inl ⟨wt.2 hcu, one (gset_ok h 5 u c hcu) hx rfl⟩
   ·rename_i hb
    split at he <;> first | (cases he; done) | skip
    rename_i s' hs
    cases he
    refine .inr ⟨wf fun e => ?_, .inl ⟨rfl, F, N, skipE_ok h hs hW⟩⟩
    rw [hcu] at e
    cases e
    cases b <;> cases hb
  ·split at he
   ·rename_i x ps hq
    split at he <;> first | (cases he; done) | skip
    rename_i d hd
    cases hb : Nat.blt d s.n with
    | false => rw [hb] at he; cases he
    | true =>
     cases hdu : Nat.beq d u with
     | true => rw [hb, hdu] at he; cases he
     | false =>
      rw [hb, hdu] at he
      cases he
      have hne : u ≠ d := fun e => by subst e; simp at hdu
      have hdn := Nat.le_of_ble_eq_true hb
      unfold quietE at hq
      cases hl : loudB o.op with
      | true => rw [hl] at hq; cases hq
      | false =>
       rw [hl] at hq
       by_cases hw : tmOf a u = .bool b
       ·have hG := gset_ok h 5 u b hw
        have hps := gimps_ok (hp.1 rfl) (gprops_ok h hG (gset_mem h 5 u b hw))
        obtain ⟨v, h1, h2⟩ := val_ok ok h hG hq hps
        refine .inl ⟨wt.2 hw, ?_⟩
        have h3 := h2 R (Below.refl _ _)
        have fin : ∀ R', Below R.heap.size R R' → (kindL [((none : Cnd), 0, s.put d (.opt u b x), gimps (gprops s (gset s 5 u b) (gset s 5 u b)) ps)] ≤ 1 → Below R.heap.size R R') ∧ onL [((none : Cnd), 0, s.put d (.opt u b x), gimps (gprops s (gset s 5 u b) (gset s 5 u b)) ps)] fun s' => ∃ F' N', Rel Z F' N' s' (a.put o.dst v) R' := fun R' hR' =>
         ⟨fun _ => hR', .inl ⟨rfl, F, N, by
          rw [hd]
          refine ((h.put (x := .opt u b x) hdn (hW d hd) v ?_).grow hR')
          simp only [HS]
          exact ⟨fun _ => (HS_plain h1.isPlain).2 h1, fun hn => absurd (by rw [tm_put_ne _ hne]; exact hw) hn⟩⟩⟩
        generalize (execOp a.eval o).run E.P R = r at *
        cases r with
        | halt x w => exact h3.elim
        | ok n w =>
         cases n <;> simp only [Oper.quietUpon] at h3 <;> simp only [UponV]
         case value y =>
          obtain ⟨e1, e2⟩ := h3
          rw [e1, e2]
          exact fin R (Below.refl _ _)
         case skip =>
          obtain ⟨e1, e2⟩ := h3
          rw [e1, ← e2]
          exact fin R (Below.refl _ _)
         case enter f args =>
          obtain ⟨e1, hc⟩ := h3
          rw [e1]
          exact hc.mono fun e w'' ⟨he, hw''⟩ => ⟨v, he, fin _ hw''⟩
       ·refine .inr ⟨wf hw, .inl ⟨rfl, F, N, ?_⟩⟩
        rw [hd]
        refine h.put (x := .opt u b x) hdn (hW d hd) undef ?_
        simp only [HS]
        exact ⟨fun hn => absurd (by rw [tm_put_ne _ hne] at hn; exact hn) hw, fun _ => trivial⟩
   ·split at he <;> first | (cases he; done) | skip
    rename_i c hc
    have hcu : tmOf a u = .bool c := raw_ok h (gok_nil _) hc
    split at he <;> first | (cases he; done) | skip
    rename_i x s' hx hs
    obtain ⟨cx, k, sx, ps⟩ := x
    cases he
    cases hcb : (bif b then c else !c) with
    | true =>
     have e1 := bool_path hcb
     subst e1
     have hcx : cx = some (bif c then c else !c) := by
      unfold doE at hx
      split at hx <;> first | (cases hx; done) | skip
      split at hx <;> first | (cases hx; done) | skip
      cases hx; rfl
     have hcv : cval cx = true := by rw [hcx]; exact hcb
     obtain ⟨_, h2⟩ := doE_ok ok (h.lit hcu) (gset_ok h 5 u c hcu) hx (hp.1 hcv) hW
     exact .inl ⟨wt.2 hcu, uponV_mono h2 fun v R' ⟨h3, h4⟩ => ⟨fun hk => h3 (Nat.le_trans (Nat.le_max_left ..) hk), .inl ⟨hcv, h4⟩⟩⟩
    | false =>
     have e1 := bool_path' hcb
     have hcx : cx = some (bif b then c else !c) := by
      unfold doE at hx
      split at hx <;> first | (cases hx; done) | skip
      split at hx <;> first | (cases hx; done) | skip
      cases hx; rfl
     have hcv : cval cx = false := by rw [hcx]; exact hcb
     refine .inr ⟨wf fun e => ?_, .inr ⟨hcv, .inl ⟨rfl, F, N, skipE_ok (h.lit (by rw [hcu, e1])) hs hW⟩⟩⟩
     rw [hcu, e1] at e
     cases b <;> cases e
end
def rowsIn (o : Objs) : Nat → A → List Nat
 | 0, _ => []
 | d + 1, x => match x with
  | .sq i => (match lookO i o with
   | some (.arr _ _ (.lst cs)) => cs.flatMap fun l => l.flatMap (rowsIn o d)
   | _ => []) ++ [i]
  | .vw i _ _ _ _ => (match lookO i o with
   | some (.arr _ _ (.lst cs)) => cs.flatMap fun l => l.flatMap (rowsIn o d)
   | _ => []) ++ [i]
  | .agg xs => xs.flatMap (rowsIn o d)
  | .tup xs => xs.flatMap (rowsIn o d)
  | _ => []
def opV (s : St) (x : Operand) : A := match s.ev [] x with
 | some z => z
 | none => match x with
  | .tmp t => match s.get t with
   | some (.opt _ _ z) => z
   | _ => .dead
  | _ => .dead
def candE (s : St) (o : Oper) : List Nat := match o.op with
 | .call { callee := .value _, args, .. } => args.toList.flatMap fun x => rowsIn s.o 4 (opV s x)
 | .call { callee := .builtin .append, args, .. } => match args.toList with
  | [_, y] => match opV s y with
   | .sq i => (rowsIn s.o 4 (.sq i)).filter fun k => !Nat.beq k i
   | y' => rowsIn s.o 4 y'
  | _ => []
 | .store _ _ v => rowsIn s.o 4 (opV s v)
 | _ => []
def freezeL (E : Env) : List Nat → St → St × List Prop
 | [], s => (s, [])
 | i :: r, s => match freezeS E i s with
  | some (s', ps) => match freezeL E r s' with
   | (s'', qs) => (s'', ps ++ qs)
  | none => freezeL E r s
def addN (ps : List Prop) : List Outc → List Outc
 | [] => []
 | (c, k, s, qs) :: r => (c, k, s, ps ++ qs) :: addN ps r
def hasNone : List Outc → Bool
 | [] => false
 | (none, _, _, _) :: _ => true
 | _ :: r => hasNone r
def stepE (E : Env) (ops : List Oper) (s : St) (o : Oper) : Option (List Outc) := match step0 E ops s o with
 | some l => some l
 | none => match candE s o with
  | [] => none
  | i :: r => match freezeL E (i :: r) s with
   | (s', ps) => match step0 E ops s' o with
    | some l => bif hasNone l then some (addN ps l) else none
    | none => none
section
variable {E : Env} {Z : Base} {F : Nat → Prop} {N : Nm} {s : St} {a : Act} {R : World}
theorem freezeL_ok : ∀ {l : List Nat} {s s' : St} {ps : List Prop} {F : Nat → Prop}, Rel Z F N s a R → freezeL E l s = (s', ps) → (∀ p ∈ ps, p) → ∃ F', Rel Z F' N s' a R
 | [], s, s', ps, F, h, he, _ => by cases he; exact ⟨F, h⟩
 | i :: r, s, s', ps, F, h, he, hp => by
  unfold freezeL at he
  split at he
  ·rename_i s1 ps1 h1
   generalize h2 : freezeL E r s1 = x at he
   obtain ⟨s2, qs⟩ := x
   cases he
   obtain ⟨F1, g1⟩ := freeze_ok h h1 fun p hm => hp p (List.mem_append.2 (.inl hm))
   exact freezeL_ok g1 h2 fun p hm => hp p (List.mem_append.2 (.inr hm))
  ·exact freezeL_ok h he hp
theorem addN_onL {K : St → Prop} {ps : List Prop} : ∀ {l : List Outc}, onL l K → onL (addN ps l) K
 | [], h => h
 | _ :: _, h => h.imp id fun ⟨a, b⟩ => ⟨a, addN_onL b⟩
theorem addN_kind {ps : List Prop} : ∀ {l : List Outc}, kindL (addN ps l) = kindL l
 | [] => rfl
 | (c, k, s, qs) :: r => by
  show Nat.max k (kindL (addN ps r)) = Nat.max k (kindL r)
  rw [addN_kind]
theorem addN_need {ps : List Prop} : ∀ {l : List Outc}, needL (addN ps l) → needL l
 | [], h => h
 | (_, _, _, _) :: r, ⟨h1, h2⟩ => ⟨fun hc p hm => h1 hc p (List.mem_append.2 (.inr hm)), addN_need (l := r) h2⟩
theorem addN_none {ps : List Prop} : ∀ {l : List Outc}, hasNone l = true → needL (addN ps l) → ∀ p ∈ ps, p
 | [], h, _ => by cases h
 | (none, k, s, qs) :: r, _, ⟨h1, _⟩ => fun p hm => h1 rfl p (List.mem_append.2 (.inl hm))
 | (some _, k, s, qs) :: r, h, ⟨_, h2⟩ => addN_none (l := r) h h2
theorem stepE_ok (ok : EnvOk E) (h : Rel Z F N s a R) {ops : List Oper} {o : Oper} {l : List Outc} (he : stepE E ops s o = some l) (hp : needL l) (hW : ∀ d, o.dst = some d → Z.W d) :
  (Region.wanted o (yielded ops.toArray a.tmps) = true ∧ UponV E.P (fun v R' => (kindL l ≤ 1 → Below R.heap.size R R') ∧ onL l fun s' => ∃ F' N', Rel Z F' N' s' (a.put o.dst v) R') ((execOp a.eval o).run E.P R)) ∨
  (Region.wanted o (yielded ops.toArray a.tmps) = false ∧ onL l fun s' => ∃ F' N', Rel Z F' N' s' (a.put o.dst undef) R) := by
 unfold stepE at he
 split at he
 ·rename_i l' hl
  cases he
  exact step0_ok ok h hl hp hW
 ·split at he <;> first | (cases he; done) | skip
  rename_i i r hc
  generalize hf : freezeL E (i :: r) s = x at he
  obtain ⟨s', ps⟩ := x
  simp only at he
  split at he <;> first | (cases he; done) | skip
  rename_i l' hl
  cases hn : hasNone l' with
  | false => rw [hn] at he; cases he
  | true =>
   rw [hn] at he
   cases he
   obtain ⟨F', h'⟩ := freezeL_ok h hf (addN_none hn hp)
   rcases step0_ok ok h' hl (addN_need hp) hW with ⟨h1, h2⟩ | ⟨h1, h2⟩
   ·exact .inl ⟨h1, uponV_mono h2 fun v R' ⟨h3, h4⟩ => ⟨fun hk => h3 (by rw [addN_kind] at hk; exact hk), addN_onL h4⟩⟩
   ·exact .inr ⟨h1, addN_onL h2⟩
end
def qput (s : St) (dst : Option Tmp) (x : A) (ps : List Prop) : Option (St × List Prop) := match dst with
 | some d => bif Nat.blt d s.n then some (s.put d x, ps) else none
 | none => some (s, ps)
def qstep (E : Env) (ops : List Oper) (s : St) (o : Oper) : Option (St × List Prop) :=
 match o.guard with
 | none => match quietE E s [] o with
  | some (x, ps) => qput s o.dst x ps
  | none => none
 | some (j, b) => match dstAt ops j with
  | some u => match E.lit with
   | true => match s.raw [] (.tmp u) with
    | some (.bool c) => match beqB c b with
     | true => match quietE E s (gset s 5 u b) o with
      | some (x, ps) => qput s o.dst x ps
      | none => none
     | false => qput s o.dst (.v undef) []
    | _ => none
   | false => match quietE E s (gset s 5 u b) o with
    | some (x, ps) => match o.dst with
     | some d => bif Nat.blt d s.n then (bif Nat.beq d u then none else some (s.put d (.opt u b x), gimps (gprops s (gset s 5 u b) (gset s 5 u b)) ps)) else none
     | none => none
    | none => none
  | none => none
def Quiet (P : Program) (ops : List Oper) (o : Oper) (a : Act) (R : World) (v : Value) : Prop :=
 (Region.wanted o (yielded ops.toArray a.tmps) = true ∧ ∀ w', Below R.heap.size R w' → Oper.quietUpon P (fun w'' => Below w'.heap.size w' w'') w' v ((execOp a.eval o).run P w')) ∨
 (Region.wanted o (yielded ops.toArray a.tmps) = false ∧ v = undef)
section
variable {E : Env} {Z : Base} {F : Nat → Prop} {N : Nm} {s : St} {a : Act} {R : World}
theorem qput_ok (h : Rel Z F N s a R) {dst : Option Tmp} {x : A} {ps qs : List Prop} {s' : St} (he : qput s dst x ps = some (s', qs)) (hW : ∀ d, dst = some d → Z.W d) {v : Value} (hv : Hv F N s.nx R x v) : qs = ps ∧ Rel Z F N s' (a.put dst v) R := by
 unfold qput at he
 split at he
 ·rename_i d
  cases hb : Nat.blt d s.n with
  | false => rw [hb] at he; cases he
  | true =>
   rw [hb] at he
   cases he
   exact ⟨rfl, h.put (Nat.le_of_ble_eq_true hb) (hW d rfl) v ((HS_plain hv.isPlain).2 hv)⟩
 ·cases he
  exact ⟨rfl, h⟩
theorem qstep_ok (ok : EnvOk E) (h : Rel Z F N s a R) {ops : List Oper} {o : Oper} {s' : St} {ps : List Prop} (he : qstep E ops s o = some (s', ps)) (hp : ∀ p ∈ ps, p) (hW : ∀ d, o.dst = some d → Z.W d) :
  ∃ v, Rel Z F N s' (a.put o.dst v) R ∧ Quiet E.P ops o a R v := by
 have go : ∀ {G : Guards} {x : A} {qs : List Prop}, GOk (tmOf a) G → quietE E s G o = some (x, qs) → (∀ p ∈ qs, p) → ∃ v, Hv F N s.nx R x v ∧ ∀ R', Below R.heap.size R R' → Oper.quietUpon E.P (fun R'' => Below R'.heap.size R' R'') R' v ((execOp a.eval o).run E.P R') := fun {G x qs} hG hq hqs => by
  unfold quietE at hq
  cases hl : loudB o.op with
  | true => rw [hl] at hq; cases hq
  | false => rw [hl] at hq; exact val_ok ok h hG hq hqs
 unfold qstep at he
 split at he
 ·rename_i hg
  split at he <;> first | (cases he; done) | skip
  rename_i x qs hq
  have hqs : qs = ps := by
   unfold qput at he
   split at he
   ·rename_i d _
    cases hb : Nat.blt d s.n with
    | false => rw [hb] at he; cases he
    | true => rw [hb] at he; cases he; rfl
   ·cases he; rfl
  subst hqs
  obtain ⟨v, h1, h2⟩ := go (gok_nil _) hq hp
  exact ⟨v, (qput_ok h he hW h1).2, .inl ⟨wanted_none hg _, h2⟩⟩
 ·rename_i j b hg
  split at he <;> first | (cases he; done) | skip
  rename_i u hu
  have wt := wanted_iff hg hu a
  have wf : tmOf a u ≠ .bool b → Region.wanted o (yielded ops.toArray a.tmps) = false := fun hn => by
   cases hw : Region.wanted o (yielded ops.toArray a.tmps) with
   | false => rfl
   | true => exact absurd (wt.1 hw) hn
  split at he
  ·split at he <;> first | (cases he; done) | skip
   rename_i c hc
   have hcu : tmOf a u = .bool c := raw_ok h (gok_nil _) hc
   split at he
   ·rename_i hb
    have hcb := beqB_eq hb
    rw [hcb] at hcu
    split at he <;> first | (cases he; done) | skip
    rename_i x qs hq
    have hqs : qs = ps := by
     unfold qput at he
     split at he
     ·rename_i d _
      cases hb : Nat.blt d s.n with
      | false => rw [hb] at he; cases he
      | true => rw [hb] at he; cases he; rfl
     ·cases he; rfl
    subst hqs
    obtain ⟨v, h1, h2⟩ := go (gset_ok h 5 u b hcu) hq hp
    exact ⟨v, (qput_ok h he hW h1).2, .inl ⟨wt.2 hcu, h2⟩⟩
   ·rename_i hb
    refine ⟨undef, (qput_ok h he hW (.v _)).2, .inr ⟨wf fun e => ?_, rfl⟩⟩
    rw [hcu] at e
    cases e
    cases b <;> cases hb
  ·split at he <;> first | (cases he; done) | skip
   rename_i x qs hq
   split at he <;> first | (cases he; done) | skip
   rename_i d hd
   cases hb : Nat.blt d s.n with
   | false => rw [hb] at he; cases he
   | true =>
    cases hdu : Nat.beq d u with
    | true => rw [hb, hdu] at he; cases he
    | false =>
     rw [hb, hdu] at he
     cases he
     have hne : u ≠ d := fun e => by subst e; simp at hdu
     have hdn := Nat.le_of_ble_eq_true hb
     by_cases hw : tmOf a u = .bool b
     ·have hG := gset_ok h 5 u b hw
      obtain ⟨v, h1, h2⟩ := go hG hq (gimps_ok hp (gprops_ok h hG (gset_mem h 5 u b hw)))
      refine ⟨v, ?_, .inl ⟨wt.2 hw, h2⟩⟩
      rw [hd]
      refine h.put (x := .opt u b x) hdn (hW d hd) v ?_
      simp only [HS]
      exact ⟨fun _ => (HS_plain h1.isPlain).2 h1, fun hn => absurd (by rw [tm_put_ne _ hne]; exact hw) hn⟩
     ·refine ⟨undef, ?_, .inr ⟨wf hw, rfl⟩⟩
      rw [hd]
      refine h.put (x := .opt u b x) hdn (hW d hd) undef ?_
      simp only [HS]
      exact ⟨fun hn => absurd (by rw [tm_put_ne _ hne] at hn; exact hn) hw, fun _ => trivial⟩
end
abbrev Path := Cnd × St
def bump : List Outc → List Outc
 | [] => []
 | (c, k, s, ps) :: r => (c, Nat.max 1 k, s, ps) :: bump r
def skipN (ops : List Oper) (s : St) (o : Oper) : Option (St × List Prop) := match o.guard with
 | some (j, b) => match dstAt ops j with
  | some u => match s.raw [] (.tmp u) with
   | some (.bool c) => match skipE s o with
    | some s' => some (s', [c = !b])
    | none => none
   | some (.tuple _) => match skipE s o with
    | some s' => some (s', [])
    | none => none
   | _ => none
  | none => none
 | none => none
def pathP (E : Env) (ops : List Oper) (s : St) (o : Oper) : Option (List Outc) := match qstep E ops s o with
 | some (s', ps) => some [(none, 0, s', ps)]
 | none => match stepE E ops s o with
  | some (x :: r) => some (bump (x :: r))
  | _ => match skipN ops s o with
   | some (s', ps) => some [(none, 0, s', ps)]
   | none => none
def St.open1 (s : St) (u u2 : Nat) (b2 : Bool) (y : A) : St := { s with t := (u, y) :: (u2, .v (.bool b2)) :: s.t }
def andL (c : Cnd) : List Outc → List Outc
 | [] => []
 | (d, k, s, ps) :: r => (andO c d, k, s, ps) :: andL c r
def pathE (E : Env) (ops : List Oper) (s : St) (o : Oper) : Option (List Outc) := match pathP E ops s o with
 | some l => some l
 | none => match o.guard with
  | some (j, _) => match dstAt ops j with
   | some u => match s.get u with
    | some (.opt u2 b2 y) => match s.raw [] (.tmp u2) with
     | some (.bool c) => match pathP E ops (s.open1 u u2 b2 y) o, pathP E ops (s.open1 u u2 (!b2) (.v undef)) o with
      | some l1, some l2 => some (andL (some (bif b2 then c else !c)) l1 ++ l2)
      | _, _ => none
     | _ => none
    | _ => none
   | none => none
  | none => none
def condC (c : Cnd) : List Outc → List Path
 | [] => []
 | (d, _, s, _) :: r => (andO c d, s) :: condC c r
def needC (c : Cnd) : List Outc → List Prop
 | [] => []
 | (d, _, _, ps) :: r => gimps (cndP (andO c d)) ps ++ needC c r
def evWays (E : Env) (ops : List Oper) (o : Oper) : List Path → Option (Nat × List Path × List Prop)
 | [] => some (0, [], [])
 | (c, s) :: r => match pathE E ops s o with
  | some l => match evWays E ops o r with
   | some (k, r', qs) => some (Nat.max (kindL l) k, condC c l ++ r', needC c l ++ qs)
   | none => none
  | none => none
def onP : List Path → (St → Prop) → Prop
 | [], _ => False
 | (c, s) :: r, K => (cval c = true ∧ K s) ∨ (cval c = false ∧ onP r K)
theorem onP_mono {K K' : St → Prop} (hk : ∀ s, K s → K' s) : ∀ {l : List Path}, onP l K → onP l K'
 | [], h => h
 | _ :: _, h => h.imp (fun ⟨a, b⟩ => ⟨a, hk _ b⟩) (fun ⟨a, b⟩ => ⟨a, onP_mono hk b⟩)
theorem onP_condC {c : Cnd} {K : St → Prop} {r' : List Path} (hc : cval c = true) : ∀ {l : List Outc}, onL l K → onP (condC c l ++ r') K
 | [], h => h.elim
 | (d, k, s, ps) :: r, h => by
  rcases h with ⟨h1, h2⟩ | ⟨h1, h2⟩
  ·exact .inl ⟨by rw [cval_and, hc, h1]; rfl, h2⟩
  ·exact .inr ⟨by rw [cval_and, hc, h1]; rfl, onP_condC hc h2⟩
theorem onP_skipC {c : Cnd} {K : St → Prop} {r' : List Path} (hc : cval c = false) (h : onP r' K) : ∀ {l : List Outc}, onP (condC c l ++ r') K
 | [] => h
 | (d, k, s, ps) :: r => .inr ⟨by rw [cval_and, hc]; rfl, onP_skipC hc h⟩
theorem needC_ok {c : Cnd} (hc : cval c = true) : ∀ {l : List Outc}, (∀ p ∈ needC c l, p) → needL l
 | [], _ => trivial
 | (d, k, s, ps) :: r, h => by
  refine ⟨fun hd => gimps_ok (fun p hm => h p (List.mem_append.2 (.inl hm))) (cndP_ok (by rw [cval_and, hc, hd]; rfl)), needC_ok hc fun p hm => h p (List.mem_append.2 (.inr hm))⟩
theorem bump_onL {K : St → Prop} : ∀ {l : List Outc}, onL l K → onL (bump l) K
 | [], h => h
 | _ :: _, h => h.imp id fun ⟨a, b⟩ => ⟨a, bump_onL b⟩
theorem bump_need : ∀ {l : List Outc}, needL (bump l) → needL l
 | [], h => h
 | _ :: r, ⟨h1, h2⟩ => ⟨h1, bump_need (l := r) h2⟩
theorem bump_kind : ∀ {l : List Outc}, kindL l ≤ kindL (bump l)
 | [] => Nat.le_refl _
 | (c, k, s, ps) :: r => by
  show Nat.max k (kindL r) ≤ Nat.max (Nat.max 1 k) (kindL (bump r))
  have := bump_kind (l := r)
  exact Nat.max_le.2 ⟨Nat.le_trans (Nat.le_max_right ..) (Nat.le_max_left ..), Nat.le_trans this (Nat.le_max_right ..)⟩
section
variable {E : Env} {Z : Base} {F : Nat → Prop} {N : Nm} {s : St} {a : Act} {R : World}
theorem quiet_upon {P : Program} {o : Oper} {v : Value} {K : Value → World → Prop} (h : Oper.quietUpon P (fun w'' => Below R.heap.size R w'') R v ((execOp a.eval o).run P R)) (hk : ∀ R', Below R.heap.size R R' → K v R') : UponV P K ((execOp a.eval o).run P R) := by
 have hr := Below.refl R.heap.size R
 generalize (execOp a.eval o).run P R = r at *
 cases r with
 | halt x w => exact h.elim
 | ok n w =>
  cases n <;> simp only [Oper.quietUpon] at h <;> simp only [UponV]
  case value y =>
   obtain ⟨e1, e2⟩ := h
   rw [e1, e2]
   exact hk _ hr
  case skip =>
   obtain ⟨e1, e2⟩ := h
   rw [e1, ← e2]
   exact hk _ hr
  case enter f args =>
   obtain ⟨e1, hc⟩ := h
   rw [e1]
   exact hc.mono fun e w'' ⟨he, hw''⟩ => ⟨v, he, hk _ hw''⟩
theorem skipN_ok (h : Rel Z F N s a R) {ops : List Oper} {o : Oper} {s' : St} {ps : List Prop} (he : skipN ops s o = some (s', ps)) (hp : ∀ p ∈ ps, p) (hW : ∀ d, o.dst = some d → Z.W d) :
  Region.wanted o (yielded ops.toArray a.tmps) = false ∧ Rel Z F N s' (a.put o.dst undef) R := by
 unfold skipN at he
 split at he <;> first | (cases he; done) | skip
 rename_i j b hg
 split at he <;> first | (cases he; done) | skip
 rename_i u hu
 have wt := wanted_iff hg hu a
 split at he <;> first | (cases he; done) | skip
 ·rename_i c hc
  split at he <;> first | (cases he; done) | skip
  rename_i s1 hs
  cases he
  have hcb : c = !b := hp _ (List.mem_singleton.2 rfl)
  have hcu : tmOf a u = .bool c := raw_ok h (gok_nil _) hc
  refine ⟨?_, skipE_ok h hs hW⟩
  cases hw : Region.wanted o (yielded ops.toArray a.tmps) with
  | false => rfl
  | true =>
   have := wt.1 hw
   rw [hcu, hcb] at this
   cases b <;> cases this
 ·rename_i xs hc
  split at he <;> first | (cases he; done) | skip
  rename_i s1 hs
  cases he
  have hcu : tmOf a u = .tuple xs := raw_ok h (gok_nil _) hc
  refine ⟨?_, skipE_ok h hs hW⟩
  cases hw : Region.wanted o (yielded ops.toArray a.tmps) with
  | false => rfl
  | true =>
   have := wt.1 hw
   rw [hcu] at this
   cases this
theorem pathP_ok (ok : EnvOk E) (h : Rel Z F N s a R) {ops : List Oper} {o : Oper} {l : List Outc} (he : pathP E ops s o = some l) (hp : needL l) (hW : ∀ d, o.dst = some d → Z.W d) :
  (Region.wanted o (yielded ops.toArray a.tmps) = true ∧ UponV E.P (fun v R' => (kindL l ≤ 1 → Below R.heap.size R R') ∧ onL l fun s' => ∃ F' N', Rel Z F' N' s' (a.put o.dst v) R') ((execOp a.eval o).run E.P R)) ∨
  (Region.wanted o (yielded ops.toArray a.tmps) = false ∧ onL l fun s' => ∃ F' N', Rel Z F' N' s' (a.put o.dst undef) R) := by
 unfold pathP at he
 split at he
 ·rename_i s' ps hq
  cases he
  obtain ⟨v, h1, h2⟩ := qstep_ok ok h hq (hp.1 rfl) hW
  rcases h2 with ⟨h2, h3⟩ | ⟨h2, rfl⟩
  ·exact .inl ⟨h2, quiet_upon (h3 R (Below.refl _ _)) fun R' hb => ⟨fun _ => hb, .inl ⟨rfl, F, N, h1.grow hb⟩⟩⟩
  ·exact .inr ⟨h2, .inl ⟨rfl, F, N, h1⟩⟩
 ·split at he
  ·rename_i x r hs
   cases he
   rcases stepE_ok ok h hs (bump_need hp) hW with ⟨h1, h2⟩ | ⟨h1, h2⟩
   ·exact .inl ⟨h1, uponV_mono h2 fun v R' ⟨h3, h4⟩ => ⟨fun hk => h3 (Nat.le_trans bump_kind hk), bump_onL h4⟩⟩
   ·exact .inr ⟨h1, bump_onL h2⟩
  ·split at he <;> first | (cases he; done) | skip
   rename_i s' ps hs
   cases he
   obtain ⟨h1, h2⟩ := skipN_ok h hs (hp.1 rfl) hW
   exact .inr ⟨h1, .inl ⟨rfl, F, N, h2⟩⟩
theorem pathP_quiet (ok : EnvOk E) (h : Rel Z F N s a R) {ops : List Oper} {o : Oper} {l : List Outc} (he : pathP E ops s o = some l) (hk : kindL l = 0) (hp : needL l) (hW : ∀ d, o.dst = some d → Z.W d) :
  ∃ v, (onL l fun s' => ∃ F' N', Rel Z F' N' s' (a.put o.dst v) R) ∧ Quiet E.P ops o a R v := by
 unfold pathP at he
 split at he
 ·rename_i s' ps hq
  cases he
  obtain ⟨v, h1, h2⟩ := qstep_ok ok h hq (hp.1 rfl) hW
  exact ⟨v, .inl ⟨rfl, F, N, h1⟩, h2⟩
 ·split at he
  ·rename_i x r hs
   cases he
   obtain ⟨c, k, s', ps⟩ := x
   have hk' : Nat.max (Nat.max 1 k) (kindL (bump r)) = 0 := hk
   exact absurd (Nat.le_trans (Nat.le_trans (Nat.le_max_left 1 k) (Nat.le_max_left (Nat.max 1 k) (kindL (bump r)))) (Nat.le_of_eq hk')) (by decide)
  ·split at he <;> first | (cases he; done) | skip
   rename_i s' ps hs
   cases he
   obtain ⟨h1, h2⟩ := skipN_ok h hs (hp.1 rfl) hW
   exact ⟨undef, .inl ⟨rfl, F, N, h2⟩, .inr ⟨h1, rfl⟩⟩
theorem onL_and_true {c : Cnd} {K : St → Prop} {r : List Outc} (hc : cval c = true) : ∀ {l : List Outc}, onL l K → onL (andL c l ++ r) K
 | [], h => h.elim
 | (d, k, s, ps) :: _, h => by
  rcases h with ⟨h1, h2⟩ | ⟨h1, h2⟩
  ·exact .inl ⟨by rw [cval_and, hc, h1]; rfl, h2⟩
  ·exact .inr ⟨by rw [cval_and, hc, h1]; rfl, onL_and_true hc h2⟩
theorem onL_and_false {c : Cnd} {K : St → Prop} {r : List Outc} (hc : cval c = false) (h : onL r K) : ∀ {l : List Outc}, onL (andL c l ++ r) K
 | [] => h
 | (d, k, s, ps) :: _ => .inr ⟨by rw [cval_and, hc]; rfl, onL_and_false hc h⟩
theorem needL_and {c : Cnd} {r : List Outc} : ∀ {l : List Outc}, needL (andL c l ++ r) → (cval c = true → needL l) ∧ needL r
 | [], h => ⟨fun _ => trivial, h⟩
 | (d, k, s, ps) :: _, ⟨h1, h2⟩ => ⟨fun hc => ⟨fun hd => h1 (by rw [cval_and, hc, hd]; rfl), (needL_and h2).1 hc⟩, (needL_and h2).2⟩
theorem kindL_and {c : Cnd} {r : List Outc} : ∀ {l : List Outc}, kindL (andL c l ++ r) = Nat.max (kindL l) (kindL r)
 | [] => by show kindL r = Nat.max 0 (kindL r); exact (Nat.max_eq_right (Nat.zero_le _)).symm
 | (d, k, s, ps) :: l => by
  show Nat.max k (kindL (andL c l ++ r)) = Nat.max (Nat.max k (kindL l)) (kindL r)
  rw [kindL_and]
  exact (Nat.max_assoc _ _ _).symm
theorem open_rel (h : Rel Z F N s a R) {u u2 : Nat} {b2 : Bool} {y : A} (hu : HS F N s.nx R (tmOf a) y (tmOf a u)) (hu2 : tmOf a u2 = .bool b2) : Rel Z F N (s.open1 u u2 b2 y) a R :=
 ⟨h.defers, h.size, fun v x hv => by
  have hv' : (bif Nat.beq u v then some y else bif Nat.beq u2 v then some (A.v (.bool b2)) else look v s.t) = some x := hv
  cases hb : Nat.beq u v with
  | true =>
   rw [hb] at hv'
   obtain rfl := Nat.eq_of_beq_eq_true hb
   cases hv'
   exact hu
  | false =>
   rw [hb] at hv'
   cases hb2 : Nat.beq u2 v with
   | true =>
    rw [hb2] at hv'
    obtain rfl := Nat.eq_of_beq_eq_true hb2
    cases hv'
    rw [hu2]
    exact (HS_plain rfl).2 (.v _)
   | false => rw [hb2] at hv'; exact h.slots v x hv', h.hp, h.st, h.tm⟩
theorem open_cases (h : Rel Z F N s a R) {u u2 : Nat} {b2 c : Bool} {y : A} (hg : s.get u = some (.opt u2 b2 y)) (hc : s.raw [] (.tmp u2) = some (.bool c)) :
  (cval (some (bif b2 then c else !c)) = true ∧ Rel Z F N (s.open1 u u2 b2 y) a R) ∨ (cval (some (bif b2 then c else !c)) = false ∧ Rel Z F N (s.open1 u u2 (!b2) (.v undef)) a R) := by
 have hcu : tmOf a u2 = .bool c := raw_ok h (gok_nil _) hc
 have hs := h.slots u _ hg
 simp only [HS] at hs
 cases hcb : (bif b2 then c else !c) with
 | true =>
  have e := bool_path hcb
  subst e
  exact .inl ⟨rfl, open_rel h (hs.1 hcu) hcu⟩
 | false =>
  have e := bool_path' hcb
  refine .inr ⟨rfl, open_rel h ?_ (by rw [hcu, e])⟩
  rw [hs.2 (by rw [hcu, e]; cases b2 <;> simp)]
  exact (HS_plain rfl).2 (.v _)
theorem pathE_ok (ok : EnvOk E) (h : Rel Z F N s a R) {ops : List Oper} {o : Oper} {l : List Outc} (he : pathE E ops s o = some l) (hp : needL l) (hW : ∀ d, o.dst = some d → Z.W d) :
  (Region.wanted o (yielded ops.toArray a.tmps) = true ∧ UponV E.P (fun v R' => (kindL l ≤ 1 → Below R.heap.size R R') ∧ onL l fun s' => ∃ F' N', Rel Z F' N' s' (a.put o.dst v) R') ((execOp a.eval o).run E.P R)) ∨
  (Region.wanted o (yielded ops.toArray a.tmps) = false ∧ onL l fun s' => ∃ F' N', Rel Z F' N' s' (a.put o.dst undef) R) := by
 unfold pathE at he
 split at he
 ·rename_i l' hl
  cases he
  exact pathP_ok ok h hl hp hW
 ·split at he <;> first | (cases he; done) | skip
  split at he <;> first | (cases he; done) | skip
  split at he <;> first | (cases he; done) | skip
  rename_i u2 b2 y hg
  split at he <;> first | (cases he; done) | skip
  rename_i c hc
  split at he <;> first | (cases he; done) | skip
  rename_i l1 l2 h1 h2
  cases he
  obtain ⟨n1, n2⟩ := needL_and hp
  rw [kindL_and]
  rcases open_cases h hg hc with ⟨e, hr⟩ | ⟨e, hr⟩
  ·rcases pathP_ok ok hr h1 (n1 e) hW with ⟨g1, g2⟩ | ⟨g1, g2⟩
   ·exact .inl ⟨g1, uponV_mono g2 fun v R' ⟨g3, g4⟩ => ⟨fun hk => g3 (Nat.le_trans (Nat.le_max_left ..) hk), onL_and_true e g4⟩⟩
   ·exact .inr ⟨g1, onL_and_true e g2⟩
  ·rcases pathP_ok ok hr h2 n2 hW with ⟨g1, g2⟩ | ⟨g1, g2⟩
   ·exact .inl ⟨g1, uponV_mono g2 fun v R' ⟨g3, g4⟩ => ⟨fun hk => g3 (Nat.le_trans (Nat.le_max_right ..) hk), onL_and_false e g4⟩⟩
   ·exact .inr ⟨g1, onL_and_false e g2⟩
theorem pathE_quiet (ok : EnvOk E) (h : Rel Z F N s a R) {ops : List Oper} {o : Oper} {l : List Outc} (he : pathE E ops s o = some l) (hk : kindL l = 0) (hp : needL l) (hW : ∀ d, o.dst = some d → Z.W d) :
  ∃ v, (onL l fun s' => ∃ F' N', Rel Z F' N' s' (a.put o.dst v) R) ∧ Quiet E.P ops o a R v := by
 unfold pathE at he
 split at he
 ·rename_i l' hl
  cases he
  exact pathP_quiet ok h hl hk hp hW
 ·split at he <;> first | (cases he; done) | skip
  split at he <;> first | (cases he; done) | skip
  split at he <;> first | (cases he; done) | skip
  rename_i u2 b2 y hg
  split at he <;> first | (cases he; done) | skip
  rename_i c hc
  split at he <;> first | (cases he; done) | skip
  rename_i l1 l2 h1 h2
  cases he
  obtain ⟨n1, n2⟩ := needL_and hp
  rw [kindL_and] at hk
  have hk1 : kindL l1 = 0 := Nat.le_zero.1 (Nat.le_trans (Nat.le_max_left (kindL l1) (kindL l2)) (Nat.le_of_eq hk))
  have hk2 : kindL l2 = 0 := Nat.le_zero.1 (Nat.le_trans (Nat.le_max_right (kindL l1) (kindL l2)) (Nat.le_of_eq hk))
  rcases open_cases h hg hc with ⟨e, hr⟩ | ⟨e, hr⟩
  ·obtain ⟨v, g1, g2⟩ := pathP_quiet ok hr h1 hk1 (n1 e) hW
   exact ⟨v, onL_and_true e g1, g2⟩
  ·obtain ⟨v, g1, g2⟩ := pathP_quiet ok hr h2 hk2 n2 hW
   exact ⟨v, onL_and_false e g1, g2⟩
abbrev At (Z : Base) (A : Act) (w : World) : St → Prop := fun s => ∃ F N, Rel Z F N s A w
theorem evWays_quiet (ok : EnvOk E) {ops : List Oper} {o : Oper} (hW : ∀ d, o.dst = some d → Z.W d) : ∀ {l l' : List Path} {qs : List Prop}, evWays E ops o l = some (0, l', qs) → (∀ q ∈ qs, q) → onP l (At Z a R) → ∃ v, onP l' (At Z (a.put o.dst v) R) ∧ Quiet E.P ops o a R v
 | [], l', qs, he, _, h => h.elim
 | (c, s) :: r, l', qs, he, hp, h => by
  unfold evWays at he
  split at he <;> first | (cases he; done) | skip
  rename_i l1 h1
  split at he <;> first | (cases he; done) | skip
  rename_i k r' qs' h2
  injection he with he
  injection he with hk he
  injection he with e1 e2
  subst e1 e2
  have hk1 : kindL l1 = 0 := Nat.le_zero.1 (Nat.le_trans (Nat.le_max_left (kindL l1) k) (Nat.le_of_eq hk))
  have hk2 : k = 0 := Nat.le_zero.1 (Nat.le_trans (Nat.le_max_right (kindL l1) k) (Nat.le_of_eq hk))
  rcases h with ⟨hc, F, N, hr⟩ | ⟨hc, h⟩
  ·obtain ⟨v, g1, g2⟩ := pathE_quiet ok hr h1 hk1 (needC_ok hc fun p hm => hp p (List.mem_append.2 (.inl hm))) hW
   exact ⟨v, onP_condC hc g1, g2⟩
  ·subst hk2
   obtain ⟨v, g1, g2⟩ := evWays_quiet ok hW h2 (fun p hm => hp p (List.mem_append.2 (.inr hm))) h
   exact ⟨v, onP_skipC hc g1, g2⟩
theorem evWays_ok (ok : EnvOk E) {ops : List Oper} {o : Oper} (hW : ∀ d, o.dst = some d → Z.W d) : ∀ {l l' : List Path} {k : Nat} {qs : List Prop}, evWays E ops o l = some (k, l', qs) → (∀ q ∈ qs, q) → onP l (At Z a R) →
  (Region.wanted o (yielded ops.toArray a.tmps) = true ∧ UponV E.P (fun v R' => (k ≤ 1 → Below R.heap.size R R') ∧ onP l' (At Z (a.put o.dst v) R')) ((execOp a.eval o).run E.P R)) ∨
  (Region.wanted o (yielded ops.toArray a.tmps) = false ∧ onP l' (At Z (a.put o.dst undef) R))
 | [], l', k, qs, he, _, h => h.elim
 | (c, s) :: r, l', k, qs, he, hp, h => by
  unfold evWays at he
  split at he <;> first | (cases he; done) | skip
  rename_i l1 h1
  split at he <;> first | (cases he; done) | skip
  rename_i k' r' qs' h2
  cases he
  rcases h with ⟨hc, F, N, hr⟩ | ⟨hc, h⟩
  ·rcases pathE_ok ok hr h1 (needC_ok hc fun p hm => hp p (List.mem_append.2 (.inl hm))) hW with ⟨g1, g2⟩ | ⟨g1, g2⟩
   ·exact .inl ⟨g1, uponV_mono g2 fun v R' ⟨g3, g4⟩ => ⟨fun hk => g3 (Nat.le_trans (Nat.le_max_left ..) hk), onP_condC hc g4⟩⟩
   ·exact .inr ⟨g1, onP_condC hc g2⟩
  ·rcases evWays_ok ok hW h2 (fun p hm => hp p (List.mem_append.2 (.inr hm))) h with ⟨g1, g2⟩ | ⟨g1, g2⟩
   ·exact .inl ⟨g1, uponV_mono g2 fun v R' ⟨g3, g4⟩ => ⟨fun hk => g3 (Nat.le_trans (Nat.le_max_right ..) hk), onP_skipC hc g4⟩⟩
   ·exact .inr ⟨g1, onP_skipC hc g2⟩
end
end Go.Proofs.Yteebobbhhgmeiaa
namespace Go.Proofs.Yteebobbhhgmeiaa
open Go.RowKit
theorem bif_some {α : Type} {b : Bool} {x : Option α} {y : α} (h : (bif b then x else none) = some y) : x = some y := by cases b <;> first | exact h | cases h
theorem bif_none {α : Type} {b : Bool} {x : Option α} {y : α} (h : (bif b then none else x) = some y) : x = some y := by cases b <;> first | exact h | cases h
theorem drop1_sub (o : Objs) (d : Option Nat) : ∃ e, dropO1 o d = e ++ o := by
 cases d with
 | none => exact ⟨[], rfl⟩
 | some i => exact ⟨[(i, none)], rfl⟩
section
variable {E : Env} {s : St} {G : Guards}
theorem effE_sub (ok : EnvOk E) {o : Oper} {f : Eff} (he : effE E s G o = some f) : ∃ d, f.o = d ++ s.o := by
 obtain ⟨dst, op, type, pos, after, guard⟩ := o
 unfold effE at he
 simp only at he
 split at he
 ·unfold allocE at he
  repeat' (first | (cases he; done) | (replace he := bif_some he) | split at he)
  all_goals (cases he; exact ⟨[_], rfl⟩)
 ·unfold boxE at he
  repeat' (first | (cases he; done) | (replace he := bif_some he) | split at he)
  all_goals (cases he; exact ⟨[_], rfl⟩)
 ·unfold setE at he
  repeat' (first | (cases he; done) | (replace he := bif_some he) | split at he)
  all_goals (cases he; exact ⟨[_], rfl⟩)
 ·unfold buildSlE at he
  repeat' (first | (cases he; done) | (replace he := bif_some he) | split at he)
  all_goals (cases he; exact ⟨[_], rfl⟩)
 ·unfold makeSlE at he
  repeat' (first | (cases he; done) | (replace he := bif_some he) | split at he)
  all_goals (cases he; exact ⟨[_], rfl⟩)
 ·unfold strBytesE at he
  repeat' (first | (cases he; done) | (replace he := bif_some he) | split at he)
  all_goals (cases he; exact ⟨[], rfl⟩)
 ·split at he <;> first | (cases he; done) | skip
  unfold appE at he
  repeat' (first | (cases he; done) | (replace he := bif_some he) | split at he)
  all_goals (cases he; first | exact ⟨[_], rfl⟩ | (obtain ⟨e, h⟩ := drop1_sub s.o _; exact ⟨_ :: e, by show _ :: dropO1 _ _ = _; rw [h]; rfl⟩))
 ·split at he <;> first | (cases he; done) | skip
  unfold copyE at he
  repeat' (first | (cases he; done) | (replace he := bif_some he) | split at he)
  all_goals (cases he; exact ⟨[_], rfl⟩)
 ·unfold callEff at he
  split at he <;> first | (cases he; done) | skip
  rename_i k x nx' o' ps hr
  cases he
  unfold callR at hr
  repeat' (first | (cases hr; done) | (replace hr := bif_some hr) | split at hr)
  exact ok.suf _ _ _ _ _ _ _ _ _ hr
 ·unfold rangeE at he
  repeat' (first | (cases he; done) | split at he)
  all_goals (cases he; exact ⟨[_], rfl⟩)
 ·unfold nextE at he
  repeat' (first | (cases he; done) | (replace he := bif_some he) | split at he)
  all_goals (cases he; exact ⟨[_], rfl⟩)
 ·unfold mkMapE at he
  replace he := bif_some he
  cases he
  exact ⟨[_], rfl⟩
 ·unfold mapUpE at he
  repeat' (first | (cases he; done) | (replace he := bif_some he) | split at he)
  all_goals (cases he; exact ⟨[_], rfl⟩)
 ·cases he
theorem opE_sub (ok : EnvOk E) {o : Oper} {f : Eff} (he : opE E s G o = some f) : ∃ d, f.o = d ++ s.o := by
 unfold opE at he
 cases hl : loudB o.op with
 | true => rw [hl] at he; exact effE_sub ok he
 | false =>
  rw [hl] at he
  simp only [cond_false] at he
  split at he
  ·cases he; exact ⟨[], rfl⟩
  ·exact effE_sub ok he
theorem Sub.put (s : St) (u : Nat) (x : A) : Sub s (s.put u x) := ⟨rfl, [], rfl⟩
theorem Sub.lit (s : St) (u : Nat) (b : Bool) : Sub s (s.lit u b) := ⟨rfl, [], rfl⟩
theorem putE_sub {dst : Option Tmp} {f : Eff} {s' : St} (he : putE s dst f = some s') (hf : ∃ d, f.o = d ++ s.o) : Sub s s' := by
 unfold putE at he
 split at he
 ·replace he := bif_some he
  cases he
  exact ⟨rfl, hf⟩
 ·cases he
  exact ⟨rfl, hf⟩
theorem skipE_sub {o : Oper} {s' : St} (he : skipE s o = some s') : Sub s s' := by
 unfold skipE at he
 split at he
 ·replace he := bif_some he
  cases he
  exact Sub.put _ _ _
 ·cases he
  exact Sub.refl _
theorem doE_sub (ok : EnvOk E) {o : Oper} {c c' : Cnd} {ps ps' : List Prop} {k : Nat} {s' : St} (he : doE E s G o c ps = some (c', k, s', ps')) : Sub s s' := by
 unfold doE at he
 split at he <;> first | (cases he; done) | skip
 rename_i f hf
 split at he <;> first | (cases he; done) | skip
 rename_i s1 hs
 cases he
 exact putE_sub hs (opE_sub ok hf)
theorem qput_sub {dst : Option Tmp} {x : A} {ps ps' : List Prop} {s' : St} (he : qput s dst x ps = some (s', ps')) : Sub s s' := by
 unfold qput at he
 split at he
 ·replace he := bif_some he
  cases he
  exact Sub.put _ _ _
 ·cases he
  exact Sub.refl _
theorem qstep_sub {ops : List Oper} {o : Oper} {s' : St} {ps : List Prop} (he : qstep E ops s o = some (s', ps)) : Sub s s' := by
 unfold qstep at he
 split at he
 ·split at he <;> first | (cases he; done) | skip
  exact qput_sub he
 ·split at he <;> first | (cases he; done) | skip
  split at he
  ·split at he <;> first | (cases he; done) | skip
   split at he
   ·split at he <;> first | (cases he; done) | skip
    exact qput_sub he
   ·exact qput_sub he
  ·split at he <;> first | (cases he; done) | skip
   split at he <;> first | (cases he; done) | skip
   replace he := bif_some he
   replace he := bif_none he
   cases he
   exact Sub.put _ _ _
def subL (s : St) : List Outc → Prop
 | [] => True
 | (_, _, s', _) :: r => Sub s s' ∧ subL s r
theorem step0_sub (ok : EnvOk E) {ops : List Oper} {o : Oper} {l : List Outc} (he : step0 E ops s o = some l) : subL s l := by
 unfold step0 at he
 split at he
 ·split at he <;> first | (cases he; done) | skip
  rename_i x hx
  obtain ⟨c, k, s', ps⟩ := x
  cases he
  exact ⟨doE_sub ok hx, trivial⟩
 ·split at he <;> first | (cases he; done) | skip
  split at he
  ·split at he <;> first | (cases he; done) | skip
   split at he
   ·split at he <;> first | (cases he; done) | skip
    rename_i x hx
    obtain ⟨c, k, s', ps⟩ := x
    cases he
    exact ⟨doE_sub ok hx, trivial⟩
   ·split at he <;> first | (cases he; done) | skip
    rename_i s' hs
    cases he
    exact ⟨skipE_sub hs, trivial⟩
  ·split at he
   ·split at he <;> first | (cases he; done) | skip
    replace he := bif_some he
    replace he := bif_none he
    cases he
    exact ⟨Sub.put _ _ _, trivial⟩
   ·split at he <;> first | (cases he; done) | skip
    split at he <;> first | (cases he; done) | skip
    rename_i x s' hx hs
    obtain ⟨c, k, s1, ps⟩ := x
    cases he
    exact ⟨(Sub.lit _ _ _).trans (doE_sub ok hx), (Sub.lit _ _ _).trans (skipE_sub hs), trivial⟩
theorem freezeL_sub : ∀ {l : List Nat} {s s' : St} {ps : List Prop}, freezeL E l s = (s', ps) → Sub s s'
 | [], s, s', ps, he => by cases he; exact Sub.refl _
 | i :: r, s, s', ps, he => by
  unfold freezeL at he
  split at he
  ·rename_i s1 ps1 h1
   generalize h2 : freezeL E r s1 = x at he
   obtain ⟨s2, qs⟩ := x
   cases he
   obtain ⟨e1, e2⟩ := freeze_sub h1
   exact Sub.trans ⟨e1, e2⟩ (freezeL_sub h2)
  ·exact freezeL_sub he
theorem subL_trans {s1 : St} (h : Sub s s1) : ∀ {l : List Outc}, subL s1 l → subL s l
 | [], _ => trivial
 | _ :: _, ⟨h1, h2⟩ => ⟨h.trans h1, subL_trans h h2⟩
theorem subL_addN {ps : List Prop} : ∀ {l : List Outc}, subL s l → subL s (addN ps l)
 | [], _ => trivial
 | _ :: _, ⟨h1, h2⟩ => ⟨h1, subL_addN h2⟩
theorem subL_bump : ∀ {l : List Outc}, subL s l → subL s (bump l)
 | [], _ => trivial
 | _ :: _, ⟨h1, h2⟩ => ⟨h1, subL_bump h2⟩
theorem stepE_sub (ok : EnvOk E) {ops : List Oper} {o : Oper} {l : List Outc} (he : stepE E ops s o = some l) : subL s l := by
 unfold stepE at he
 split at he
 ·rename_i l' hl
  cases he
  exact step0_sub ok hl
 ·split at he <;> first | (cases he; done) | skip
  rename_i i r hc
  generalize hf : freezeL E (i :: r) s = x at he
  obtain ⟨s', ps⟩ := x
  simp only at he
  split at he <;> first | (cases he; done) | skip
  rename_i l' hl
  replace he := bif_some he
  cases he
  exact subL_addN (subL_trans (freezeL_sub hf) (step0_sub ok hl))
theorem skipN_sub {ops : List Oper} {o : Oper} {s' : St} {ps : List Prop} (he : skipN ops s o = some (s', ps)) : Sub s s' := by
 unfold skipN at he
 repeat' (first | (cases he; done) | split at he)
 all_goals (rename_i hs; cases he; exact skipE_sub hs)
theorem pathP_sub (ok : EnvOk E) {ops : List Oper} {o : Oper} {l : List Outc} (he : pathP E ops s o = some l) : subL s l := by
 unfold pathP at he
 split at he
 ·rename_i s' ps hq
  cases he
  exact ⟨qstep_sub hq, trivial⟩
 ·split at he
  ·rename_i x r hs
   cases he
   exact subL_bump (stepE_sub ok hs)
  ·split at he <;> first | (cases he; done) | skip
   rename_i s' ps hs
   cases he
   exact ⟨skipN_sub hs, trivial⟩
theorem subL_and {s1 : St} {c : Cnd} {r : List Outc} (h : Sub s s1) (hr : subL s r) : ∀ {l : List Outc}, subL s1 l → subL s (andL c l ++ r)
 | [], _ => hr
 | _ :: _, ⟨h1, h2⟩ => ⟨h.trans h1, subL_and h hr h2⟩
theorem open_sub (s : St) (u u2 : Nat) (b2 : Bool) (y : A) : Sub s (s.open1 u u2 b2 y) := ⟨rfl, [], rfl⟩
theorem pathE_sub (ok : EnvOk E) {ops : List Oper} {o : Oper} {l : List Outc} (he : pathE E ops s o = some l) : subL s l := by
 unfold pathE at he
 split at he
 ·rename_i l' hl
  cases he
  exact pathP_sub ok hl
 ·repeat' (first | (cases he; done) | split at he)
  rename_i l1 l2 h1 h2
  cases he
  exact subL_and (open_sub _ _ _ _ _) (subL_trans (open_sub _ _ _ _ _) (pathP_sub ok h2)) (pathP_sub ok h1)
def subP (s : St) : List Path → Prop
 | [] => True
 | (_, s') :: r => Sub s s' ∧ subP s r
theorem subP_addC {s1 : St} (h : Sub s s1) {c : Cnd} {r' : List Path} (hr : subP s r') : ∀ {l : List Outc}, subL s1 l → subP s (condC c l ++ r')
 | [], _ => hr
 | _ :: _, ⟨h1, h2⟩ => ⟨h.trans h1, subP_addC h hr h2⟩
theorem evWays_sub (ok : EnvOk E) {ops : List Oper} {o : Oper} : ∀ {l l' : List Path} {k : Nat} {qs : List Prop}, evWays E ops o l = some (k, l', qs) → subP s l → subP s l'
 | [], l', k, qs, he, _ => by cases he; trivial
 | (c, s1) :: r, l', k, qs, he, ⟨h1, h2⟩ => by
  unfold evWays at he
  split at he <;> first | (cases he; done) | skip
  rename_i l1 g1
  split at he <;> first | (cases he; done) | skip
  rename_i k' r' qs' g2
  cases he
  exact subP_addC h1 (evWays_sub ok g2 h2) (pathE_sub ok g1)
end
def mergeP (W : List Nat) (s0 : St) : List Path → St
 | [] => s0
 | [(_, s)] => s
 | (c, s) :: r => mergeS (cval c) W s0 s (mergeP W s0 r)
theorem mergeP_sub (W : List Nat) (s0 : St) : ∀ {l : List Path}, subP s0 l → Sub s0 (mergeP W s0 l)
 | [], _ => Sub.refl _
 | [(_, _)], ⟨h, _⟩ => h
 | (_, _) :: _ :: _, _ => Sub.merge _ _ _ _ _
section
variable {Z : Base} {F F0 : Nat → Prop} {N N0 : Nm} {s0 s : St} {a a0 : Act} {R R0 : World} {W : List Nat}
theorem Rel.over (h0 : Rel Z F0 N0 s0 a0 R0) (h : Rel (midB F0 N0 s0 a0 R0 W) F N s a R) (hW : ∀ u, inW u W = true → Z.W u) : Rel Z F N s a R :=
 ⟨h.defers, h.size, h.slots, h.hp, h0.st.trans h.st, fun u hu => by
  rw [h.tm u fun hw => hu (hW u hw)]
  exact h0.tm u hu⟩
theorem mergeP_ok (h0 : Rel Z F0 N0 s0 a0 R0) : ∀ {l : List Path}, subP s0 l → onP l (At (midB F0 N0 s0 a0 R0 W) a R) → At (midB F0 N0 s0 a0 R0 W) a R (mergeP W s0 l)
 | [], _, h => h.elim
 | [(c, s)], _, h => by
  rcases h with ⟨_, h⟩ | ⟨_, h⟩
  ·exact h
  ·exact h.elim
 | (c, s) :: p :: r, ⟨h1, h2⟩, h => by
  have e2 := mergeP_sub W s0 h2
  rcases h with ⟨hc, F, N, h⟩ | ⟨hc, h⟩
  ·obtain ⟨N', hr⟩ := Rel.merge (g := cval c) (s1 := s) (s2 := mergeP W s0 (p :: r)) (h0.start W) (by rw [hc]; exact h) (fun _ h => h) h1 e2
   exact ⟨F, N', hr⟩
  ·obtain ⟨F, N, h⟩ := mergeP_ok h0 h2 h
   obtain ⟨N', hr⟩ := Rel.merge (g := cval c) (s1 := s) (s2 := mergeP W s0 (p :: r)) (h0.start W) (by rw [hc]; exact h) (fun _ h => h) h1 e2
   exact ⟨F, N', hr⟩
end
def dstL : List Oper → List Nat
 | [] => []
 | o :: r => match o.dst with
  | some d => d :: dstL r
  | none => dstL r
def evOps (E : Env) (ops : List Oper) : List Oper → List Path → Option (List Path × List Prop)
 | [], l => some (l, [])
 | o :: r, l => match evWays E ops o l with
  | some (_, l', ps) => match evOps E ops r l' with
   | some (l'', qs) => some (l'', ps ++ qs)
   | none => none
  | none => none
theorem dstL_mem : ∀ {l : List Oper} {o : Oper} {d : Nat}, o ∈ l → o.dst = some d → inW d (dstL l) = true
 | [], o, d, h, _ => by cases h
 | x :: r, o, d, h, hd => by
  rcases List.mem_cons.1 h with rfl | h
  ·unfold dstL
   rw [hd]
   show (bif Nat.beq d d then true else inW d (dstL r)) = true
   rw [beq_self]; rfl
  ·have := dstL_mem h hd
   unfold dstL
   split
   ·rename_i e _
    show (bif Nat.beq e d then true else inW d (dstL r)) = true
    rw [this]; cases Nat.beq e d <;> rfl
   ·exact this
section
variable {E : Env} {Z : Base} {a : Act} {R : World}
theorem ops_ok (ok : EnvOk E) {ops : List Oper} {Q : Exit → Act → World → Prop} : ∀ {l : List Oper} {P P' : List Path} {ps : List Prop} {a : Act} {R : World}, (∀ o ∈ l, ∀ d, o.dst = some d → Z.W d) → onP P (At Z a R) → evOps E ops l P = some (P', ps) → (∀ p ∈ ps, p) →
  (∀ a' R', onP P' (At Z a' R') → Q .normal a' R') → wpList E.P ops.toArray Q l a R
 | [], P, P', ps, a, R, _, h, he, _, hk => by
  cases he
  exact hk a R h
 | o :: r, P, P', ps, a, R, hW, h, he, hp, hk => by
  unfold evOps at he
  split at he <;> first | (cases he; done) | skip
  rename_i k P1 ps1 h1
  split at he <;> first | (cases he; done) | skip
  rename_i P2 ps2 h2
  cases he
  have next : ∀ a' R', onP P1 (At Z a' R') → wpList E.P ops.toArray Q r a' R' := fun a' R' h' => ops_ok ok (fun o ho => hW o (List.mem_cons_of_mem _ ho)) h' h2 (fun p hm => hp p (List.mem_append.2 (.inr hm))) hk
  unfold wpList
  rcases evWays_ok ok (hW o (List.mem_cons_self ..)) h1 (fun p hm => hp p (List.mem_append.2 (.inl hm))) h with ⟨g1, g2⟩ | ⟨g1, g2⟩
  ·rw [if_pos g1]
   left
   exact wp_uponV (uponV_mono g2 fun v R' ⟨_, g3⟩ => next _ _ g3)
  ·rw [if_neg (by rw [g1]; exact Bool.false_ne_true)]
   exact next _ _ g2
theorem evOps_sub {s0 : St} (ok : EnvOk E) {ops : List Oper} : ∀ {l : List Oper} {P P' : List Path} {ps : List Prop}, evOps E ops l P = some (P', ps) → subP s0 P → subP s0 P'
 | [], P, P', ps, he, h => by cases he; exact h
 | o :: r, P, P', ps, he, h => by
  unfold evOps at he
  split at he <;> first | (cases he; done) | skip
  rename_i k P1 ps1 h1
  split at he <;> first | (cases he; done) | skip
  rename_i P2 ps2 h2
  cases he
  exact evOps_sub ok h2 (evWays_sub ok h1 h)
end
def hasSl (P : Program) : Nat → TypeId → Bool
 | 0, _ => true
 | d + 1, t => match P.underlying t with
  | some (.slice _) => true
  | some (.struct fs) => fs.toList.any fun f => hasSl P d f.type
  | some (.array _ e) => hasSl P d e
  | some (.tuple es) => es.toList.any fun e => hasSl P d e
  | _ => false
def statM (P : Program) (o : Oper) : Bool := match o.op with
 | .alloc _ => true
 | .box _ _ => true
 | .buildSlice _ _ _ => true
 | .makeSlice _ _ _ => true
 | .store _ _ _ => true
 | .range _ _ => true
 | .next _ _ => true
 | .makeMap _ _ => true
 | .mapUpdate _ _ _ _ => true
 | .convert _ dst _ => match P.underlying dst with
  | some (.slice _) => true
  | _ => false
 | .call { callee := .builtin .append, .. } => true
 | .call { callee := .builtin .copy, .. } => true
 | .call { callee := .value _, .. } => hasSl P 4 o.type
 | _ => false
def depsIn (done : List Nat) (o : Oper) : Bool := o.after.toList.all fun e => !Region.binds .any e || done.contains e.on
def passP (P : Program) (ops : List Oper) : List Nat → List Nat → List Nat → List Nat × List Nat
 | [], done, left => (done, left.reverse)
 | i :: r, done, left => match ops[i]? with
  | some o => bif depsIn done o && !statM P o then passP P ops r (i :: done) left else passP P ops r done (i :: left)
  | none => passP P ops r done left
def earlyO (P : Program) (o : Oper) : Bool := match o.op, o.guard with
 | .alloc e, none => match (P.info? e).bind (·.zero) with
  | some _ => true
  | none => false
 | _, _ => false
def earlyK (P : Program) (ops : List Oper) (order : List Nat) (k : Nat) : Bool := match ops[order.getD k 0]? with
 | some o => earlyO P o
 | none => false
def firstM (P : Program) (sk : Bool) (ops : List Oper) (done : List Nat) : List Nat → Option (Nat × List Nat)
 | [] => none
 | i :: r => match ops[i]? with
  | some o => bif depsIn done o && !(sk && earlyO P o) then some (i, r) else match firstM P sk ops done r with
   | some (m, l) => some (m, i :: l)
   | none => none
  | none => none
def planG (P : Program) (ops : List Oper) : Nat → List Nat → List Nat → List Nat
 | 0, _, done => done.reverse
 | n + 1, todo, done => match passP P ops todo done [] with
  | (done', left) => match firstM P true ops done' left with
   | some (m, rest) => planG P ops n rest (m :: done')
   | none => match firstM P false ops done' left with
    | some (m, rest) => planG P ops n rest (m :: done')
    | none => done'.reverse
def plan (P : Program) (ops : List Oper) : List Nat := planG P ops (ops.length + 1) (List.range ops.length) []
def evK (E : Env) (ops : List Oper) : List Nat → List Path → Option (List Nat × List Path × List Prop)
 | [], l => some ([], l, [])
 | i :: r, l => match ops[i]? with
  | some o => match evWays E ops o l with
   | some (k, l', ps) => match evK E ops r l' with
    | some (ks, l'', qs) => some (k :: ks, l'', ps ++ qs)
    | none => none
   | none => none
  | none => none
def stK (E : Env) (ops : List Oper) : List Nat → List Path → Nat → Option (List Path)
 | _, l, 0 => some l
 | [], _, _ + 1 => none
 | i :: r, l, k + 1 => match ops[i]? with
  | some o => match evWays E ops o l with
   | some (_, l', _) => stK E ops r l' k
   | none => none
  | none => none
theorem stK_zero {E : Env} {ops : List Oper} {L : List Nat} {l : List Path} : stK E ops L l 0 = some l := by cases L <;> rfl
theorem evK_at {E : Env} {ops : List Oper} : ∀ {L : List Nat} {l : List Path} {ks : List Nat} {lF : List Path} {psF : List Prop}, evK E ops L l = some (ks, lF, psF) →
  stK E ops L l L.length = some lF ∧ ∀ k, k < L.length → ∃ l1 o l2 ps2, ops[L.getD k 0]? = some o ∧ stK E ops L l k = some l1 ∧ evWays E ops o l1 = some (ks.getD k 0, l2, ps2) ∧ (∀ p ∈ ps2, p ∈ psF) ∧ stK E ops L l (k + 1) = some l2
 | [], l, ks, lF, psF, h => by cases h; exact ⟨rfl, fun k hk => by cases hk⟩
 | i :: r, l, ks, lF, psF, h => by
  unfold evK at h
  split at h <;> first | (cases h; done) | skip
  rename_i o ho
  split at h <;> first | (cases h; done) | skip
  rename_i kd l' ps hst
  split at h <;> first | (cases h; done) | skip
  rename_i ks' l'' qs hr
  cases h
  obtain ⟨h1, h2⟩ := evK_at hr
  have hs : ∀ k, stK E ops (i :: r) l (k + 1) = stK E ops r l' k := fun k => by
   show (match ops[i]? with | some o => (match evWays E ops o l with | some (_, l', _) => stK E ops r l' k | none => none) | none => none) = _
   rw [ho]
   simp only [hst]
  refine ⟨by rw [List.length_cons, hs]; exact h1, fun k hk => ?_⟩
  cases k with
  | zero => exact ⟨l, o, l', ps, ho, stK_zero, hst, fun p hp => List.mem_append.2 (.inl hp), by rw [hs, stK_zero]⟩
  | succ k =>
   obtain ⟨s1, o1, s2, ps2, g1, g2, g3, g5, g6⟩ := h2 k (by simpa using hk)
   exact ⟨s1, o1, s2, ps2, by simpa using g1, by rw [hs]; exact g2, by simpa using g3, fun p hp => List.mem_append.2 (.inr (g5 p hp)), by rw [hs]; exact g6⟩
theorem evK_sub {E : Env} {s0 : St} (ok : EnvOk E) {ops : List Oper} : ∀ {L : List Nat} {P P' : List Path} {ks : List Nat} {ps : List Prop}, evK E ops L P = some (ks, P', ps) → subP s0 P → subP s0 P'
 | [], P, P', ks, ps, he, h => by cases he; exact h
 | i :: r, P, P', ks, ps, he, h => by
  unfold evK at he
  split at he <;> first | (cases he; done) | skip
  split at he <;> first | (cases he; done) | skip
  rename_i k P1 ps1 h1
  split at he <;> first | (cases he; done) | skip
  rename_i ks2 P2 ps2 h2
  cases he
  exact evK_sub ok h2 (evWays_sub ok h1 h)
def commP (E : Env) (o o' : Oper) (s : St) : Bool := match o.op, o'.op, o'.guard with
 | .load t x, .store t' x' v', none => match s.ev [] x, s.ev [] x' with
  | some (.own i _), some (.own i' _) => bif Nat.beq i i' then false else (match loadE E s [] t x, setE E s [] t' x' v' with
   | some _, some _ => true
   | _, _ => false)
  | _, _ => false
 | _, _, _ => false
def commL (E : Env) (o o' : Oper) : List Path → Bool
 | [] => true
 | (_, s) :: r => bif commP E o o' s then commL E o o' r else false
def Blind {α : Type} (P : Program) (m : Sem α) : Prop := ∀ w x w1, m.run P w = .ok x w1 → w1 = w ∧ ∀ w', m.run P w' = .ok x w'
section
variable {P : Program} {α β : Type}
theorem Blind.pure (x : α) : Blind P (Pure.pure x : Sem α) := fun w y w1 h => by
 have h' : Result.ok x w = Result.ok y w1 := h
 cases h'
 exact ⟨rfl, fun _ => rfl⟩
theorem Blind.bind {m : Sem α} {f : α → Sem β} (h : Blind P m) (k : ∀ x, Blind P (f x)) : Blind P (m >>= f) := fun w y w1 he => by
 rw [Sem.run_bind] at he
 cases hm : m.run P w with
 | halt e w2 => rw [hm] at he; cases he
 | ok x w2 =>
  rw [hm] at he
  obtain ⟨rfl, h2⟩ := h w x w2 hm
  obtain ⟨rfl, h3⟩ := k x _ _ _ he
  exact ⟨rfl, fun w' => by rw [Sem.run_bind, h2 w']; exact h3 w'⟩
theorem Blind.halt (e : Halt) : Blind P (Sem.halt e : Sem α) := fun w x w1 he => by cases he
theorem Blind.prog {k : Program → Sem α} (h : ∀ p, Blind P (k p)) : Blind P (do let p ← program; k p) := fun w x w1 he => h P w x w1 he
def Never (P : Program) (m : Sem α) : Prop := ∀ w x w1, m.run P w ≠ .ok x w1
theorem Never.blind {m : Sem α} (h : Never P m) : Blind P m := fun w x w1 he => absurd he (h w x w1)
theorem Never.bind {m : Sem α} {f : α → Sem β} (h : ∀ x, Never P (f x)) : Never P (m >>= f) := fun w y w1 he => by
 rw [Sem.run_bind] at he
 cases hm : m.run P w with
 | halt e w2 => rw [hm] at he; cases he
 | ok x w2 => rw [hm] at he; exact h x _ _ _ he
theorem never_halt (e : Halt) : Never P (Sem.halt e : Sem α) := fun w x w1 he => by cases he
theorem never_panic (e : RuntimeError) : Never P (runtimePanic e : Sem α) := by
 unfold runtimePanic
 refine Never.bind fun p => ?_
 cases e <;> first | exact never_halt _ | exact Never.bind fun _ => Never.bind fun _ => never_halt _
theorem never_bounds (k : IntKind) (x y : Int) (c : BoundsCode) : Never P (boundsPanic k x y c : Sem α) := by
 unfold boundsPanic
 split <;> exact Never.bind fun s => never_panic _
theorem blind_under (t : TypeId) : Blind P (underlying t) := by
 unfold underlying
 refine Blind.prog fun p => ?_
 split <;> first | exact .pure _ | exact .halt _
theorem blind_info (t : TypeId) : Blind P (typeInfo t) := by
 unfold typeInfo
 refine Blind.prog fun p => ?_
 split <;> first | exact .pure _ | exact .halt _
theorem blind_size (t : TypeId) : Blind P (sizeOf t) := by
 unfold sizeOf
 exact (blind_info t).bind fun _ => .pure _
theorem blind_int (v : Value) : Blind P (asIntOf v) := by
 unfold asIntOf
 split <;> first | exact .pure _ | exact .halt _
theorem blind_sure (v : Value) : Blind P (Instr.sureAddr v) := by
 unfold Instr.sureAddr
 split <;> first | exact .pure _ | exact .halt _
theorem blind_index (t : TypeId) (x i : Value) : Blind P (Instr.indexAt t x i) := by
 unfold Instr.indexAt
 refine (blind_int i).bind fun ki => ?_
 repeat' (first | exact Blind.pure _ | exact Blind.halt _ | exact blind_under _ | exact blind_sure _ | exact blind_size _ | exact (never_bounds _ _ _ _).blind | (refine Blind.bind ?_ fun _ => ?_) | split | dsimp only)
theorem blind_zero (t : TypeId) : Blind P (zeroValue t) := by
 unfold zeroValue
 refine (blind_info t).bind fun i => ?_
 split <;> first | exact .pure _ | exact .halt _
theorem blind_mapM {γ : Type} (f : γ → Sem β) (hf : ∀ x, Blind P (f x)) (l : Array γ) : Blind P (l.mapM f) := by
 rw [Array.mapM_eq_mapM_toList]
 refine Blind.bind ?_ fun _ => .pure _
 induction l.toList with
 | nil => exact .pure _
 | cons a r ih =>
  rw [List.mapM_cons]
  exact (hf a).bind fun _ => ih.bind fun _ => .pure _
theorem blind_build (t : TypeId) (parts : Array (Nat × Value)) : Blind P (Instr.build t parts) := by
 unfold Instr.build
 refine Blind.bind ((blind_zero t)) fun z => ?_
 refine (blind_under t).bind fun d => ?_
 split
 ·refine (blind_mapM _ (fun f => (blind_size _).bind fun _ => .pure _) _).bind fun ps => ?_
  split <;> first | exact .pure _ | exact .halt _
 ·refine (blind_size _).bind fun s => ?_
  split <;> first | exact .pure _ | exact .halt _
 ·exact .halt _
theorem blind_agg (v : Value) : Blind P (asAgg v) := by
 unfold asAgg
 split <;> first | exact .pure _ | exact .halt _
theorem blind_isAgg (t : TypeId) : Blind P (isAgg t) := by
 unfold isAgg
 refine (blind_under t).bind fun d => ?_
 repeat' (first | exact Blind.pure _ | exact Blind.halt _ | split | dsimp only)
theorem blind_field (t : TypeId) (x : Value) (f : Nat) : Blind P (Instr.field t x f) := by
 unfold Instr.field part
 refine (blind_under t).bind fun d => ?_
 repeat' (first | exact Blind.pure _ | exact Blind.halt _ | exact blind_agg _ | exact blind_isAgg _ | exact blind_size _ | (refine Blind.bind ?_ fun _ => ?_) | split | dsimp only)
def blindO : Op → Bool
 | .indexAddr _ _ _ => true
 | .build _ _ => true
 | .field _ _ _ => true
 | _ => false
theorem blind_exec {ev : Operand → Value} {o : Oper} (h : blindO o.op = true) : ∃ I : Sem Value, execOp ev o = (do pure (.value (← I))) ∧ Blind P I := by
 obtain ⟨dst, op, type, pos, after, guard⟩ := o
 simp only at h
 unfold blindO at h
 split at h <;> first | (cases h; done) | skip
 ·exact ⟨_, rfl, blind_index _ _ _⟩
 ·exact ⟨_, rfl, blind_build _ _⟩
 ·exact ⟨_, rfl, blind_field _ _ _⟩
end
def moveB (ops : List Oper) (order : List Nat) (j : Nat) : Bool := match ops[order.getD j 0]? with
 | some o => (match o.op with
  | .move _ => true
  | .extract _ _ => true
  | p => blindO p)
 | none => false
theorem pend_move {P : Program} {ops : List Oper} {order : List Nat} {a : Act} {V : Nat → Value} {w w' : World} {j : Nat} (h : moveB ops order j = true) (hp : Pend P ops.toArray (fun k => order.getD k 0) a V w j) : Pend P ops.toArray (fun k => order.getD k 0) a V w' j := fun o2 ho2 => by
 have ho3 : ops[order.getD j 0]? = some o2 := by simpa using ho2
 unfold moveB at h
 rw [ho3] at h
 simp only at h
 split at h <;> first | (cases h; done) | skip
 ·rename_i x hx
  have hex : ∀ w1, (execOp (canA ops.toArray (fun k => order.getD k 0) a V j).eval o2).run P w1 = .ok (.value ((canA ops.toArray (fun k => order.getD k 0) a V j).eval x)) w1 := fun w1 => by
   obtain ⟨dst, op, type, pos, after, guard⟩ := o2
   simp only at hx
   subst hx
   rfl
  rcases hp o2 ho2 with ⟨p1, p2⟩ | ⟨p1, p2⟩
  ·refine .inl ⟨p1, fun w1 _ => ?_⟩
   have p3 := p2 w (Below.refl _ _)
   rw [hex] at p3 ⊢
   exact ⟨rfl, p3.2⟩
  ·exact .inr ⟨p1, p2⟩
 ·rename_i x ix hx
  have hex : ∀ w1, (execOp (canA ops.toArray (fun k => order.getD k 0) a V j).eval o2).run P w1 = (do pure (.value (← Instr.extract ((canA ops.toArray (fun k => order.getD k 0) a V j).eval x) ix)) : Sem Next).run P w1 := fun w1 => by
   obtain ⟨dst, op, type, pos, after, guard⟩ := o2
   simp only at hx
   subst hx
   rfl
  rcases hp o2 ho2 with ⟨p1, p2⟩ | ⟨p1, p2⟩
  ·refine .inl ⟨p1, fun w1 _ => ?_⟩
   have p3 := p2 w (Below.refl _ _)
   rw [hex] at p3 ⊢
   revert p3
   generalize (canA ops.toArray (fun k => order.getD k 0) a V j).eval x = v
   intro p3
   cases v <;> try exact (show False from p3).elim
   rename_i vs
   unfold Instr.extract at p3 ⊢
   cases h : vs[ix]? with
   | none => simp only [h] at p3; exact (show False from p3).elim
   | some u => simp only [h] at p3 ⊢; exact ⟨rfl, (show _ ∧ _ from p3).2⟩
  ·exact .inr ⟨p1, p2⟩
 ·have hbl : blindO o2.op = true := h
  rcases hp o2 ho2 with ⟨p1, p2⟩ | ⟨p1, p2⟩
  ·refine .inl ⟨p1, fun w1 _ => ?_⟩
   have p3 := p2 w (Below.refl _ _)
   obtain ⟨I, hI, hb⟩ := blind_exec (P := P) (ev := (canA ops.toArray (fun k => order.getD k 0) a V j).eval) hbl
   rw [hI, Sem.run_bind] at p3 ⊢
   cases hr : I.run P w with
   | halt e w2 => rw [hr] at p3; exact (show False from p3).elim
   | ok x w2 =>
    rw [hr] at p3
    rw [(hb w x w2 hr).2 w1]
    exact ⟨rfl, (show _ ∧ _ from p3).2⟩
  ·exact .inr ⟨p1, p2⟩
def commK (E : Env) (ops : List Oper) (order : List Nat) (l0 : List Path) (j k : Nat) : Bool := match ops[order.getD j 0]?, ops[order.getD k 0]?, stK E ops order l0 k with
 | some o, some o', some l => bif commL E o o' l then (match o.op with
  | .load _ (.tmp x) => (List.range (k - j)).all fun m => match ops[order.getD (j + m) 0]? with
   | some p => match p.dst with
    | some d => !(Nat.beq d x)
    | none => true
   | none => true
  | _ => false) else false
 | _, _, _ => false
section
variable {E : Env} {Z : Base} {F : Nat → Prop} {N : Nm} {s : St} {a : Act} {R : World}
theorem load_own (h : Rel Z F N s a R) {t : TypeId} {x : Operand} {i off : Nat} (hx : s.ev [] x = some (.own i off)) {z : A} {ps : List Prop} (he : loadE E s [] t x = some (z, ps)) :
  ∃ y, ∀ R', R'.heap[N.b i]? = R.heap[N.b i]? → (Instr.loadAt t (a.eval x)).run E.P R' = .ok y R' := by
 have hx' := (ev_ok h (gok_nil _) hx).2.own_inv
 unfold loadE at he
 rw [hx] at he
 simp only at he
 split at he <;> first | (cases he; done) | skip
 rename_i e cs hl
 split at he <;> first | (cases he; done) | skip
 rename_i z' hz
 cases he
 obtain ⟨_, vs, g1, g2⟩ := h.hp.ob i _ hl
 obtain ⟨y, _, q2⟩ := readL_ok (ad := ⟨N.b i, off, none⟩) hz (g1.drop off)
 refine ⟨y, fun R' hb => ?_⟩
 rw [run_loadAt hx'.2]
 refine q2 R' fun j v hj => ?_
 rw [add_mk, blk_cell (hb.trans g2)]
 rw [List.getElem?_drop] at hj
 simpa using hj
theorem set_own (h : Rel Z F N s a R) {t : TypeId} {x v : Operand} {i off : Nat} (hx : s.ev [] x = some (.own i off)) {f : Eff} (he : setE E s [] t x v = some f) :
  ∃ R', (Instr.storeAt t (a.eval x) (a.eval v)).run E.P R = .ok () R' ∧ R'.heap.size = R.heap.size ∧ ∀ g, g ≠ N.b i → R'.heap[g]? = R.heap[g]? := by
 have hx' := (ev_ok h (gok_nil _) hx).2.own_inv
 unfold setE at he
 split at he <;> first | (cases he; done) | skip
 rename_i us hus
 obtain ⟨hu, h1⟩ := cellsOf_ok h (gok_nil _) hus
 have hlen := hu.length
 split at he <;> first | (cases he; done) | skip
 rename_i n hn
 cases hb : Nat.beq n us.length with
 | false => rw [hb] at he; cases he
 | true =>
  rw [hb] at he
  obtain rfl := Nat.eq_of_beq_eq_true hb
  simp only [cond_true, hx] at he
  rw [← hlen] at hn
  split at he <;> first | (cases he; done) | skip
  rename_i e cs hl
  cases hb2 : Nat.ble (off + us.length) cs.length with
  | false => rw [hb2] at he; cases he
  | true =>
   have hle := Nat.le_of_ble_eq_true hb2
   obtain ⟨_, vs, g1, g2⟩ := h.hp.ob i _ hl
   have hvl := g1.length
   exact ⟨_, run_storeAt hx'.2 g2 hn (by omega) h1, by simp [World.setRow], fun g hg => setRow_other R _ g _ hg⟩
theorem comm_ok (h : Rel Z F N s a R) {o o' : Oper} (hc : commP E o o' s = true) :
  ∃ t x R' y, o.op = .load t x ∧ o'.guard = none ∧ (execOp a.eval o').run E.P R = .ok .skip R' ∧ (Instr.loadAt t (a.eval x)).run E.P R = .ok y R ∧
   ∀ w1, Below R'.heap.size R' w1 → (Instr.loadAt t (a.eval x)).run E.P w1 = .ok y w1 := by
 unfold commP at hc
 split at hc <;> first | (cases hc; done) | skip
 rename_i t x t' x' v' ho ho' hg
 split at hc <;> first | (cases hc; done) | skip
 rename_i i off i' off' hx hx'
 cases hb : Nat.beq i i' with
 | true => rw [hb] at hc; cases hc
 | false =>
  rw [hb] at hc
  simp only [cond_false] at hc
  split at hc <;> first | (cases hc; done) | skip
  rename_i zl f hl hf
  obtain ⟨z, ps⟩ := zl
  obtain ⟨y, g1⟩ := load_own h hx hl
  obtain ⟨R', g2, g3, g4⟩ := set_own h hx' hf
  have box : ∀ {i off : Nat} {x : Operand}, s.ev [] x = some (.own i off) → ∀ {t z ps}, loadE E s [] t x = some (z, ps) → ∃ e cs, lookO i s.o = some (.box e cs) := fun {i off x} hx {t z ps} he => by
   unfold loadE at he
   rw [hx] at he
   simp only at he
   split at he <;> first | (cases he; done) | skip
   exact ⟨_, _, by assumption⟩
  obtain ⟨e, cs, hbx⟩ := box hx hl
  have hbx' : ∃ e cs, lookO i' s.o = some (.box e cs) := by
   unfold setE at hf
   split at hf <;> first | (cases hf; done) | skip
   split at hf <;> first | (cases hf; done) | skip
   replace hf := bif_some hf
   simp only [hx'] at hf
   split at hf <;> first | (cases hf; done) | skip
   exact ⟨_, _, by assumption⟩
  obtain ⟨e', cs', hbx'⟩ := hbx'
  have hne : N.b i ≠ N.b i' := fun e => by
   have := h.hp.sep i i' _ _ (N.b i) hbx hbx' rfl e
   subst this
   simp at hb
  obtain ⟨_, vs, _, q2⟩ := h.hp.ob i _ hbx
  refine ⟨t, x, R', y, ho, hg, ?_, g1 R rfl, fun w1 hw => g1 w1 ?_⟩
  ·obtain ⟨dst, op, type, pos, after, guard⟩ := o'
   simp only at ho'
   subst ho'
   simp [execOp, g2]
  ·rw [hw.block _ (by rw [g3]; exact blk_lt q2)]
   exact g4 _ hne
theorem commL_at {o o' : Oper} : ∀ {l : List Path}, commL E o o' l = true → onP l (fun s => ∃ F N, Rel Z F N s a R) → ∃ s F N, Rel Z F N s a R ∧ commP E o o' s = true
 | [], _, h => h.elim
 | (c, s) :: r, hc, h => by
  unfold commL at hc
  cases hp : commP E o o' s with
  | false => rw [hp] at hc; cases hc
  | true =>
   rw [hp] at hc
   rcases h with ⟨_, F, N, h⟩ | ⟨_, h⟩
   ·exact ⟨s, F, N, h, hp⟩
   ·exact commL_at hc h
theorem canA_keep {ops : Array Oper} {ix : Nat → Nat} {a0 : Act} {V : Nat → Value} {x : Tmp} {j : Nat} : ∀ m, (∀ i, i < m → ∀ o, ops[ix (j + i)]? = some o → o.dst ≠ some x) → (canA ops ix a0 V (j + m)).tmps.getD x undef = (canA ops ix a0 V j).tmps.getD x undef
 | 0, _ => rfl
 | m + 1, h => by
  rw [← canA_keep m fun i hi => h i (by omega)]
  show ((canA ops ix a0 V (j + m)).put ((ops[ix (j + m)]?).bind (·.dst)) (V (j + m))).tmps.getD x undef = _
  cases ho : ops[ix (j + m)]? with
  | none => rfl
  | some o =>
   have hd := h m (by omega) o ho
   cases hdd : o.dst with
   | none => simp [Act.put, hdd]
   | some d =>
    simp only [Option.bind_some, hdd]
    rw [put_getD, if_neg]
    rintro ⟨rfl, _⟩
    exact hd hdd
end
abbrev R3 := Option (St × List Prop)
def evR (E : Env) (ops : List Oper) (draw : Bool) (s : St) : R3 := match draw with
 | true => match evK E ops (plan E.P ops) [(none, s)] with
  | some (ks, l, ps) => bif canonB ops.toArray (plan E.P ops) ks (earlyK E.P ops (plan E.P ops)) (fun j k => moveB ops (plan E.P ops) j || commK E ops (plan E.P ops) [(none, s)] j k) then some (mergeP (dstL ops) s l, ps) else none
  | none => none
 | false => match evOps E ops ops [(none, s)] with
  | some (l, ps) => some (mergeP (dstL ops) s l, ps)
  | none => none
section
variable {E : Env} {Z : Base} {F : Nat → Prop} {N : Nm} {s : St} {a : Act} {R : World}
theorem region_sub (ok : EnvOk E) {ops : List Oper} {draw : Bool} {s' : St} {ps : List Prop} (he : evR E ops draw s = some (s', ps)) : Sub s s' := by
 cases draw with
 | false =>
  unfold evR at he
  simp only at he
  split at he <;> first | (cases he; done) | skip
  rename_i l ps1 h1
  cases he
  exact mergeP_sub _ _ (evOps_sub ok h1 ⟨Sub.refl _, trivial⟩)
 | true =>
  unfold evR at he
  simp only at he
  split at he <;> first | (cases he; done) | skip
  rename_i ks l ps1 h1
  replace he := bif_some he
  cases he
  exact mergeP_sub _ _ (evK_sub ok h1 ⟨Sub.refl _, trivial⟩)
def Rsv (P : Program) (ops : List Oper) (order : List Nat) (B k : Nat) (X : Aside) (F : Nat → Prop) (N : Nm) (o : Objs) (w : World) : Prop :=
 (∀ j v, k ≤ j → X j = some v → ∃ g e z, v = .pointer (some ⟨g, 0, none⟩) ∧ (∃ op, ops[order.getD j 0]? = some op ∧ op.op = .alloc e) ∧ (P.info? e).bind (·.zero) = some z ∧ B ≤ g ∧ g < w.heap.size ∧ ¬ F g ∧ ¬ Foot N o g ∧ w.heap[g]? = some (.cells z.cells.toList.toArray e (0, 0))) ∧
 ∀ i j v, k ≤ i → k ≤ j → X i = some v → X j = some v → i = j
theorem rsv_step {P : Program} {ops : List Oper} {order : List Nat} {B k k' nx nx' : Nat} {X : Aside} {F F' : Nat → Prop} {N N' : Nm} {o o' : Objs} {w w' : World} (h : Rsv P ops order B k X F N o w) (hk : k ≤ k') (st : Step F N nx o w F' N' nx' o' w') : Rsv P ops order B k' X F' N' o' w' := by
 refine ⟨fun j v hj hx => ?_, fun i j v hi hj => h.2 i j v (by omega) (by omega)⟩
 obtain ⟨g, e, z, h1, h2, h3, h4, h5, h6, h7, h8⟩ := h.1 j v (by omega) hx
 refine ⟨g, e, z, h1, h2, h3, h4, Nat.lt_of_lt_of_le h5 st.size, fun hf => ?_, fun hf => ?_, by rw [st.keep g h5 h7]; exact h8⟩
 ·rcases st.fnew g hf with q | q | q
  ·exact h6 q
  ·exact h7 q
  ·omega
 ·rcases st.foot g hf with q | q
  ·exact h7 q
  ·omega
theorem rsv_grow {P : Program} {ops : List Oper} {order : List Nat} {B k : Nat} {X : Aside} {F : Nat → Prop} {N : Nm} {o : Objs} {w w' : World} (h : Rsv P ops order B k X F N o w) (hb : Below w.heap.size w w') : Rsv P ops order B k X F N o w' :=
 rsv_step h (Nat.le_refl _) (nx := 0) (nx' := 0) (Step.of_below hb)
theorem use_rel (h : Rel Z F N s a R) {e : TypeId} {z : Value} {g : Nat} (hB : Z.R.heap.size ≤ g) (hg : g < R.heap.size) (nF : ¬ F g) (nO : ¬ Foot N s.o g) (hc : R.heap[g]? = some (.cells z.cells.toList.toArray e (0, 0))) :
  Rel Z F (N.setB s.nx g) ⟨s.n, s.nx + 1, s.t, (s.nx, some (.box e (toL z.cells.toList))) :: s.o⟩ a R ∧ Hv F (N.setB s.nx g) (s.nx + 1) R (.own s.nx 0) (.pointer (some ⟨g, 0, none⟩)) ∧ ∀ g', Foot (N.setB s.nx g) ((s.nx, some (.box e (toL z.cells.toList))) :: s.o) g' → g' = g ∨ Foot N s.o g' := by
 have hb : (N.setB s.nx g).b s.nx = g := setF_same _ _ _
 have hne : ∀ i, i < s.nx → (N.setB s.nx g).b i = N.b i := fun i hi => setF_ne _ _ (by omega)
 have st : Ext F N s.nx R F (N.setB s.nx g) (s.nx + 1) R := ⟨Nat.le_succ _, hne, fun _ _ => rfl, fun _ h => h, fun _ _ => rfl⟩
 have cases : ∀ {i ob}, lookO i ((s.nx, some (Ob.box e (toL z.cells.toList))) :: s.o) = some ob → (i = s.nx ∧ ob = .box e (toL z.cells.toList)) ∨ (i < s.nx ∧ lookO i s.o = some ob) := fun {i ob} hl => by
  rw [lookO_cons] at hl
  split at hl
  ·exact .inl ⟨‹_›, (Option.some.inj hl).symm⟩
  ·exact .inr ⟨(h.hp.ob i ob hl).1, hl⟩
 have hfoot : ∀ {i ob g'}, i < s.nx → (foot (N.setB s.nx g) i ob g' ↔ foot N i ob g') := fun {i ob g'} hi => foot_step st hi
 have fo : ∀ g', Foot (N.setB s.nx g) ((s.nx, some (.box e (toL z.cells.toList))) :: s.o) g' → g' = g ∨ Foot N s.o g' := fun g' ⟨i, ob, hl, hf⟩ => by
  rcases cases hl with ⟨rfl, rfl⟩ | ⟨hi, hl⟩
  ·exact .inl (by have : g' = (N.setB s.nx g).b s.nx := hf; rw [this, hb])
  ·exact .inr ⟨i, ob, hl, (hfoot hi).1 hf⟩
 have hp : HRel F (N.setB s.nx g) (s.nx + 1) ((s.nx, some (.box e (toL z.cells.toList))) :: s.o) R := by
  refine ⟨h.hp.flt, fun i ob hl => ?_, fun i ob g' hl hf => ?_, fun i j x y g' hi hj hx hy => ?_⟩
  ·rcases cases hl with ⟨rfl, rfl⟩ | ⟨hi, hl⟩
   ·refine ⟨Nat.lt_succ_self _, z.cells.toList, HL.toL _, ?_⟩
    rw [hb]
    exact hc
   ·exact ⟨by omega, (h.hp.ob i ob hl).2.step st hi fun _ _ => rfl⟩
  ·rcases cases hl with ⟨rfl, rfl⟩ | ⟨hi, hl⟩
   ·have : g' = (N.setB s.nx g).b s.nx := hf
    rw [this, hb]
    exact nF
   ·exact h.hp.ff i ob g' hl ((hfoot hi).1 hf)
  ·rcases cases hi with ⟨rfl, rfl⟩ | ⟨hi1, hi2⟩
   ·rcases cases hj with ⟨rfl, rfl⟩ | ⟨hj1, hj2⟩
    ·rfl
    ·have : g' = (N.setB s.nx g).b s.nx := hx
     rw [hb] at this
     subst this
     exact absurd ⟨j, y, hj2, (hfoot hj1).1 hy⟩ nO
   ·rcases cases hj with ⟨rfl, rfl⟩ | ⟨hj1, hj2⟩
    ·have : g' = (N.setB s.nx g).b s.nx := hy
     rw [hb] at this
     subst this
     exact absurd ⟨i, x, hi2, (hfoot hi1).1 hx⟩ nO
    ·exact h.hp.sep i j x y g' hi2 hj2 ((hfoot hi1).1 hx) ((hfoot hj1).1 hy)
 refine ⟨⟨h.defers, h.size, fun u x hu => (h.slots u x hu).step st, hp, ?_, h.tm⟩, ?_, fo⟩
 ·have := h.st
  refine ⟨Nat.le_trans this.le (Nat.le_succ _), fun i hi => by rw [hne i (Nat.lt_of_lt_of_le hi this.le)]; exact this.b i hi, fun i hi => this.q i hi, this.f, this.fnew, fun g' hf => ?_, this.os, this.tape, this.output, this.size, this.keep⟩
  rcases fo g' hf with q | q
  ·exact .inr (by omega)
  ·exact this.foot g' q
 ·have : (⟨g, 0, none⟩ : Addr) = ⟨(N.setB s.nx g).b s.nx, 0, none⟩ := by rw [hb]
  rw [this]
  exact .own (Nat.lt_succ_self _)
theorem onP_pick {K : St → Prop} : ∀ {l : List Path}, onP l K → ∃ s0, K s0 ∧ onP l (fun x => x = s0)
 | [], h => h.elim
 | (c, s) :: r, h => by
  rcases h with ⟨h1, h2⟩ | ⟨h1, h2⟩
  ·exact ⟨s, h2, .inl ⟨h1, rfl⟩⟩
  ·obtain ⟨s0, h3, h4⟩ := onP_pick h2
   exact ⟨s0, h3, .inr ⟨h1, h4⟩⟩
theorem evWays_pick {ops : List Oper} {o : Oper} {s0 : St} : ∀ {l l' : List Path} {k : Nat} {qs : List Prop}, evWays E ops o l = some (k, l', qs) → onP l (fun x => x = s0) → ∃ l1, pathE E ops s0 o = some l1 ∧ ∀ K, onL l1 K → onP l' K
 | [], _, _, _, _, h => h.elim
 | (c, s) :: r, l', k, qs, he, h => by
  unfold evWays at he
  split at he <;> first | (cases he; done) | skip
  rename_i l1 h1
  split at he <;> first | (cases he; done) | skip
  rename_i k' r' qs' h2
  cases he
  rcases h with ⟨hc, rfl⟩ | ⟨hc, h⟩
  ·exact ⟨l1, h1, fun K hK => onP_condC hc hK⟩
  ·obtain ⟨l2, h3, h4⟩ := evWays_pick h2 h
   exact ⟨l2, h3, fun K hK => onP_skipC hc (h4 K hK)⟩
theorem early_ok {o : Oper} (h : earlyO E.P o = true) : ∃ e z, o.op = .alloc e ∧ o.guard = none ∧ (E.P.info? e).bind (·.zero) = some z := by
 unfold earlyO at h
 split at h
 ·rename_i e h1 h2
  split at h
  ·rename_i z hz
   exact ⟨e, z, h1, h2, hz⟩
  ·cases h
 ·cases h
theorem early_path {ops : List Oper} {o : Oper} {e : TypeId} {z : Value} (ho : o.op = .alloc e) (hg : o.guard = none) (hz : (E.P.info? e).bind (·.zero) = some z) {l : List Outc} (he : pathE E ops s o = some l) :
  ∃ s', putE s o.dst ⟨.own s.nx 0, s.nx + 1, (s.nx, some (.box e (toL z.cells.toList))) :: s.o, 1, []⟩ = some s' ∧ ∀ K : St → Prop, K s' → onL l K := by
 obtain ⟨dst, op, type, pos, after, guard⟩ := o
 simp only at ho hg
 subst ho hg
 have e1 : opE E s [] ⟨dst, .alloc e, type, pos, after, none⟩ = some ⟨.own s.nx 0, s.nx + 1, (s.nx, some (.box e (toL z.cells.toList))) :: s.o, 1, []⟩ := by
  show allocE E s e = _
  unfold allocE
  rw [hz]
 have e2 : qstep E ops s ⟨dst, .alloc e, type, pos, after, none⟩ = none := rfl
 cases hp : putE s dst ⟨.own s.nx 0, s.nx + 1, (s.nx, some (.box e (toL z.cells.toList))) :: s.o, 1, []⟩ with
 | none =>
  have e3 : step0 E ops s ⟨dst, .alloc e, type, pos, after, none⟩ = none := by
   unfold step0 doE
   simp only
   rw [e1]
   simp only
   rw [hp]
  have e4 : pathP E ops s ⟨dst, .alloc e, type, pos, after, none⟩ = none := by
   unfold pathP
   rw [e2]
   simp only
   unfold stepE
   rw [e3]
   rfl
  unfold pathE at he
  rw [e4] at he
  cases he
 | some s' =>
  have e3 : step0 E ops s ⟨dst, .alloc e, type, pos, after, none⟩ = some [(none, 1, s', [])] := by
   unfold step0 doE
   simp only
   rw [e1]
   simp only
   rw [hp]
   rfl
  have e4 : pathP E ops s ⟨dst, .alloc e, type, pos, after, none⟩ = some (bump [(none, 1, s', [])]) := by
   unfold pathP
   rw [e2]
   simp only
   unfold stepE
   rw [e3]
  unfold pathE at he
  rw [e4] at he
  cases he
  exact ⟨s', rfl, fun K hK => bump_onL (.inl ⟨rfl, hK⟩)⟩
theorem region_ok (ok : EnvOk E) (h : Rel Z F N s a R) {id : Nat} {ops : List Oper} {draw : Bool} (hW : ∀ u, inW u (dstL ops) = true → Z.W u) {s' : St} {ps : List Prop} (he : evR E ops draw s = some (s', ps)) (hp : ∀ p ∈ ps, p) {Q : Exit → Act → World → Prop}
  (hk : ∀ F' N' a' R', Rel Z F' N' s' a' R' → Q .normal a' R') : (Code.region id ops.toArray draw).wp E.P Q a R := by
 have h00 : onP [((none : Cnd), s)] (At (midB F N s a R (dstL ops)) a R) := .inl ⟨rfl, F, N, h.start _⟩
 have hsub : subP s [((none : Cnd), s)] := ⟨Sub.refl _, trivial⟩
 have hdst : ∀ o ∈ ops, ∀ d, o.dst = some d → (midB F N s a R (dstL ops)).W d := fun o ho d hd => dstL_mem ho hd
 have fin : ∀ {l : List Path} {a' R'}, subP s l → onP l (At (midB F N s a R (dstL ops)) a' R') → s' = mergeP (dstL ops) s l → Q .normal a' R' := fun {l a' R'} hs ho e => by
  obtain ⟨F', N', hr⟩ := mergeP_ok h hs ho
  subst e
  exact hk F' N' a' R' (h.over hr hW)
 cases draw with
 | false =>
  unfold evR at he
  simp only at he
  split at he <;> first | (cases he; done) | skip
  rename_i l ps1 h1
  cases he
  exact wp_region_lit (ops_ok ok hdst h00 h1 hp fun a' R' ho => fin (evOps_sub ok h1 hsub) ho rfl)
 | true =>
  unfold evR at he
  simp only at he
  generalize plan E.P ops = order at he
  split at he <;> first | (cases he; done) | skip
  rename_i ks l ps1 h1
  cases hB : canonB ops.toArray order ks (earlyK E.P ops order) (fun j k => moveB ops order j || commK E ops order [(none, s)] j k) with
  | false => rw [hB] at he; cases he
  | true =>
   rw [hB] at he
   cases he
   obtain ⟨hc, hn, hsink⟩ := canonB_ok hB
   obtain ⟨hF, hat⟩ := evK_at h1
   let Z0 := midB F N s a R (dstL ops)
   have hov : ∀ {F1 N1 s0 A w F2 N2 s1 A2 w2}, Rel Z0 F1 N1 s0 A w → Rel (midB F1 N1 s0 A w (dstL ops)) F2 N2 s1 A2 w2 → Rel Z0 F2 N2 s1 A2 w2 := fun h1 h2 => h1.over h2 fun _ hu => hu
   have hearly : ∀ {k o}, earlyK E.P ops order k = true → ops[order.getD k 0]? = some o → earlyO E.P o = true := fun {k o} h1 h2 => by
    unfold earlyK at h1
    rw [h2] at h1
    exact h1
   refine wp_canon (S := fun k X A w => ∃ l1, stK E ops order [((none : Cnd), s)] k = some l1 ∧ ∃ s0 F1 N1, Rel Z0 F1 N1 s0 A w ∧ Rsv E.P ops order Z0.R.heap.size k X F1 N1 s0.o w ∧ onP l1 (fun x => x = s0)) ok.wide hc ?_ ?_ ?_ ?_ (fun k X A w w' ⟨l1, g1, s0, F1, N1, g2, g3, g4⟩ hb => ⟨l1, g1, s0, F1, N1, g2.grow hb, rsv_grow g3 hb, g4⟩) ⟨_, stK_zero, s, F, N, h.start _, ⟨fun j v _ hx => (by cases hx), fun i j v _ _ hx => (by cases hx)⟩, .inl ⟨rfl, rfl⟩⟩ (fun X A w' ⟨l1, g1, s0, F1, N1, g2, g3, g4⟩ => ?_)
   ·intro k X A w hk' hM ⟨l0, g1, s0, F1, N1, g2, g3, g4⟩ o ho
    obtain ⟨l1, o1, l2, ps2, e1, e2, e4, e5, e6⟩ := hat k hk'
    have ho' : ops[order.getD k 0]? = some o := by simpa using ho
    have : o1 = o := Option.some.inj (e1.symm.trans ho')
    subst this
    obtain rfl : l1 = l0 := Option.some.inj (e2.symm.trans g1)
    have hk0 : ks.getD k 0 = 0 := by
     have hM' : Nat.blt 0 (ks.getD k 0) = false := hM
     cases hz : ks.getD k 0 with
     | zero => rfl
     | succ m => rw [hz] at hM'; cases hM'
    rw [hk0] at e4
    obtain ⟨v, r1, r2⟩ := evWays_quiet (Z := midB F1 N1 s0 A w (dstL ops)) ok (hdst o1 (List.mem_of_getElem? ho')) e4 (fun p hm => hp p (e5 p hm)) (onP_mono (fun x hx => by subst hx; exact ⟨F1, N1, g2.start _⟩) g4)
    obtain ⟨s1, ⟨F2, N2, q1⟩, q2⟩ := onP_pick r1
    exact ⟨v, ⟨l2, e6, s1, F2, N2, hov g2 q1, rsv_step g3 (Nat.le_succ _) q1.st, q2⟩, r2⟩
   ·intro k X A w v hk' hE hX ⟨l0, g1, s0, F1, N1, g2, g3, g4⟩ o ho
    obtain ⟨l1, o1, l2, ps2, e1, e2, e4, e5, e6⟩ := hat k hk'
    have ho' : ops[order.getD k 0]? = some o := by simpa using ho
    have : o1 = o := Option.some.inj (e1.symm.trans ho')
    subst this
    obtain rfl : l1 = l0 := Option.some.inj (e2.symm.trans g1)
    obtain ⟨e, z, a1, a2, a3⟩ := early_ok (hearly hE ho')
    obtain ⟨g, e', z', b1, ⟨op, b2, b3⟩, b4, b5, b6, b7, b8, b9⟩ := g3.1 k v (Nat.le_refl _) hX
    have : op = o1 := Option.some.inj (b2.symm.trans ho')
    subst this
    rw [a1] at b3
    cases b3
    obtain rfl : z' = z := Option.some.inj (b4.symm.trans a3)
    obtain ⟨l3, c1, c2⟩ := evWays_pick e4 g4
    obtain ⟨s1, c3, c4⟩ := early_path a1 a2 a3 c1
    obtain ⟨d1, d2, d3⟩ := use_rel g2 b5 b6 b7 b8 b9
    subst b1
    have hputE := c3
    have hrel : Rel Z0 F1 (N1.setB s0.nx g) s1 (A.put op.dst (.pointer (some ⟨g, 0, none⟩))) w ∧ s1.o = (s0.nx, some (.box e (toL z'.cells.toList))) :: s0.o := by
     unfold putE at c3
     split at c3
     ·rename_i d hd
      cases hb : Nat.blt d s0.n with
      | false => rw [hb] at c3; cases c3
      | true =>
       rw [hb] at c3
       cases c3
       rw [hd]
       exact ⟨d1.put (x := .own s0.nx 0) (Nat.le_of_ble_eq_true hb) (hdst op (List.mem_of_getElem? ho') d hd) _ ((HS_plain rfl).2 d2), rfl⟩
     ·rename_i hd
      cases c3
      rw [hd]
      exact ⟨d1, rfl⟩
    refine ⟨l2, e6, s1, F1, N1.setB s0.nx g, hrel.1, ⟨fun j v' hj hx => ?_, fun i j v' hi hj => g3.2 i j v' (by omega) (by omega)⟩, c2 _ (c4 (fun x => x = s1) rfl)⟩
    obtain ⟨g', e2, z2, f1, f2, f3, f4, f5, f6, f7, f8⟩ := g3.1 j v' (by omega) hx
    refine ⟨g', e2, z2, f1, f2, f3, f4, f5, f6, fun hf => ?_, f8⟩
    rw [hrel.2] at hf
    rcases d3 g' hf with q | q
    ·subst q
     subst f1
     have := g3.2 k j _ (Nat.le_refl _) (by omega) hX hx
     omega
    ·exact f7 q
   ·intro p k X A w hpk hk' hE ⟨l0, g1, s0, F1, N1, g2, g3, g4⟩ o ho A'
    have ho' : ops[order.getD k 0]? = some o := by simpa using ho
    obtain ⟨e, z, a1, a2, a3⟩ := early_ok (hearly hE ho')
    refine ⟨wanted_none a2 _, ?_⟩
    have hrun : (execOp A'.eval o).run E.P w = .ok (.value (.pointer (some ⟨w.heap.size, 0, none⟩))) (w.alloc (.cells z.cells.toList.toArray e (0, 0))) := by
     obtain ⟨dst, op, type, pos, after, guard⟩ := o
     simp only at a1
     subst a1
     exact run_lift2 (run_allocAt a3)
    rw [hrun]
    have hb : Below w.heap.size w (w.alloc (.cells z.cells.toList.toArray e (0, 0))) := below_alloc _
    have hgr := rsv_grow g3 hb
    refine ⟨hb, l0, g1, s0, F1, N1, g2.grow hb, ⟨fun j v' hj hx => ?_, fun i j v' hi hj hx hy => ?_⟩, g4⟩
    ·by_cases ej : j = k
     ·subst ej
      have hx' : some (Value.pointer (some ⟨w.heap.size, 0, none⟩)) = some v' := by
       unfold Aside.set at hx
       rw [if_pos rfl] at hx
       exact hx
      cases hx'
      refine ⟨w.heap.size, e, z, rfl, ⟨o, ho', a1⟩, a3, g2.st.size, by simp, fun hf => Nat.lt_irrefl _ (g2.hp.flt _ hf), fun ⟨i, ob, hl, hf⟩ => Nat.lt_irrefl _ ((g2.hp.ob i ob hl).2.lt hf), heap_alloc_new w _⟩
     ·unfold Aside.set at hx
      rw [if_neg ej] at hx
      exact hgr.1 j v' hj hx
    ·have hold : ∀ j, p ≤ j → j ≠ k → (X.set k (.pointer (some ⟨w.heap.size, 0, none⟩))) j = some v' → X j = some v' := fun j _ hne h1 => by
      unfold Aside.set at h1
      rw [if_neg hne] at h1
      exact h1
     have hnew : (X.set k (.pointer (some ⟨w.heap.size, 0, none⟩))) k = some v' → v' = .pointer (some ⟨w.heap.size, 0, none⟩) := fun h1 => by
      unfold Aside.set at h1
      rw [if_pos rfl] at h1
      exact (Option.some.inj h1).symm
     have hno : ∀ j, p ≤ j → X j = some (.pointer (some ⟨w.heap.size, 0, none⟩)) → False := fun j hj h1 => by
      obtain ⟨g, _, _, q1, _, _, _, q2, _⟩ := g3.1 j _ hj h1
      cases q1
      omega
     by_cases ei : i = k
     ·by_cases ej : j = k
      ·rw [ei, ej]
      ·subst ei
       rw [hnew hx] at hy
       exact (hno j hj (by unfold Aside.set at hy; rw [if_neg ej] at hy; exact hy)).elim
     ·by_cases ej : j = k
      ·subst ej
       rw [hnew hy] at hx
       exact (hno i hi (by unfold Aside.set at hx; rw [if_neg ei] at hx; exact hx)).elim
      ·exact g3.2 i j v' hi hj (hold i hi ei hx) (hold j hj ej hy)
   ·intro k X A w hk' hM hE ⟨l0, g1, s0, F1, N1, gr, gx, g4⟩ o ho
    have g2 : onP l0 (At Z0 A w) := onP_mono (fun x hx => by subst hx; exact ⟨F1, N1, gr⟩) g4
    have hstep : ∀ {l2 : List Path} {A2 w2}, stK E ops order [((none : Cnd), s)] (k + 1) = some l2 → onP l2 (At (midB F1 N1 s0 A w (dstL ops)) A2 w2) → ∃ l1, stK E ops order [((none : Cnd), s)] (k + 1) = some l1 ∧ ∃ s0 F1 N1, Rel Z0 F1 N1 s0 A2 w2 ∧ Rsv E.P ops order Z0.R.heap.size (k + 1) X F1 N1 s0.o w2 ∧ onP l1 (fun x => x = s0) := fun {l2 A2 w2} e6 r1 => by
     obtain ⟨s1, ⟨F2, N2, q1⟩, q2⟩ := onP_pick r1
     exact ⟨l2, e6, s1, F2, N2, hov gr q1, rsv_step gx (Nat.le_succ _) q1.st, q2⟩
    obtain ⟨l1, o1, l2, ps2, e1, e2, e4, e5, e6⟩ := hat k hk'
    have ho' : ops[order.getD k 0]? = some o := by simpa using ho
    have : o1 = o := Option.some.inj (e1.symm.trans ho')
    subst this
    obtain rfl : l1 = l0 := Option.some.inj (e2.symm.trans g1)
    rcases evWays_ok (Z := midB F1 N1 s0 A w (dstL ops)) ok (hdst o1 (List.mem_of_getElem? ho')) e4 (fun p hm => hp p (e5 p hm)) (onP_mono (fun x hx => by subst hx; exact ⟨F1, N1, gr.start _⟩) g4) with ⟨r1, r2⟩ | ⟨r1, r2⟩
    ·by_cases hex : 1 < ks.getD k 0 ∧ ∃ j, j < k ∧ commK E ops order [(none, s)] j k = true
     ·have hcm : ∀ j, j < k → commK E ops order [(none, s)] j k = true → ∃ o t x w' y, ops[order.getD j 0]? = some o ∧ o.op = .load t x ∧ (∀ V, canA ops.toArray (fun k => order.getD k 0) a V k = A → (canA ops.toArray (fun k => order.getD k 0) a V j).eval x = A.eval x) ∧ (execOp A.eval o1).run E.P w = .ok .skip w' ∧ (Instr.loadAt t (A.eval x)).run E.P w = .ok y w ∧
        ∀ w1, Below w'.heap.size w' w1 → (Instr.loadAt t (A.eval x)).run E.P w1 = .ok y w1 := fun j hj hc => by
       unfold commK at hc
       split at hc <;> first | (cases hc; done) | skip
       rename_i oj o1' l1' hoj ho1 hl1
       obtain rfl : o1' = o1 := Option.some.inj (ho1.symm.trans ho')
       obtain rfl : l1' = l1 := Option.some.inj (hl1.symm.trans g1)
       cases hcl : commL E oj o1' l1' with
       | false => rw [hcl] at hc; cases hc
       | true =>
        rw [hcl] at hc
        simp only [cond_true] at hc
        obtain ⟨s1, F1, N1, hr1, hp1⟩ := commL_at hcl g2
        obtain ⟨t, x, w', y, c1, c2, c3, c4, c5⟩ := comm_ok hr1 hp1
        refine ⟨oj, t, x, w', y, hoj, c1, fun V hV => ?_, c3, c4, c5⟩
        rw [c1] at hc
        cases x <;> first | (cases hc; done) | skip
        rename_i x
        have hkeep := canA_keep (ops := ops.toArray) (ix := fun k => order.getD k 0) (a0 := a) (V := V) (x := x) (j := j) (k - j) fun i hi o ho => by
         have h7 := List.all_eq_true.1 hc i (List.mem_range.2 hi)
         have ho2 : ops[order.getD (j + i) 0]? = some o := by simpa using ho
         rw [ho2] at h7
         intro hd
         simp only [hd] at h7
         simp at h7
        rw [show j + (k - j) = k by omega, hV] at hkeep
        exact hkeep.symm
      obtain ⟨hk2, j0, hj0, hc0⟩ := hex
      obtain ⟨_, _, _, w', _, _, _, _, hrun, _, _⟩ := hcm j0 hj0 hc0
      have r2' := r2
      rw [hrun] at r2'
      obtain ⟨_, q2⟩ := r2'
      refine .inl ⟨r1, ?_⟩
      rw [hrun]
      refine ⟨.inr fun j hj => ?_, hstep e6 q2⟩
      ·rcases hsink k hk' (Nat.ble_eq_true_of_le hk2) j hj with h8 | h8
       ·exact .inl h8
       ·rcases Bool.or_eq_true_iff.1 h8 with h8 | h8
        ·exact .inr fun V _ hpend => pend_move h8 hpend
        obtain ⟨o, t, x, w'', y, d1, d2, d3, d4, d5, d6⟩ := hcm j hj h8
        obtain rfl : w'' = w' := by rw [hrun] at d4; injection d4 with _ d4; exact d4.symm
        refine .inr fun V hV hpend o2 ho2 => ?_
        have ho3 : ops[order.getD j 0]? = some o2 := by simpa using ho2
        obtain rfl : o = o2 := Option.some.inj (d1.symm.trans ho3)
        have hex : ∀ w1, (execOp (canA ops.toArray (fun k => order.getD k 0) a V j).eval o).run E.P w1 = (do pure (.value (← Instr.loadAt t (A.eval x))) : Sem Next).run E.P w1 := fun w1 => by
         obtain ⟨dst, op, type, pos, after, guard⟩ := o
         simp only at d2
         subst d2
         show (do pure (.value (← Instr.loadAt t (Act.eval (canA ops.toArray (fun k => order.getD k 0) a V j) x))) : Sem Next).run E.P w1 = _
         rw [d3 V hV]
        rcases hpend o ho2 with ⟨p1, p2⟩ | ⟨p1, p2⟩
        ·refine .inl ⟨p1, fun w1 hw1 => ?_⟩
         have p3 := p2 w (Below.refl _ _)
         rw [hex, Sem.run_bind, d5] at p3
         rw [hex, Sem.run_bind, d6 w1 hw1]
         obtain ⟨_, p4⟩ := p3
         exact ⟨rfl, p4⟩
        ·exact .inr ⟨p1, p2⟩
     ·refine .inl ⟨r1, uponV_mono r2 fun v w' ⟨q1, q2⟩ => ⟨?_, hstep e6 q2⟩⟩
      by_cases hk1 : ks.getD k 0 ≤ 1
      ·exact .inl (q1 hk1)
      ·refine .inr fun j hj => ?_
       have h9 : 1 < ks.getD k 0 := by omega
       rcases hsink k hk' (Nat.ble_eq_true_of_le h9) j hj with h8 | h8
       ·exact .inl h8
       ·rcases Bool.or_eq_true_iff.1 h8 with h8 | h8
        ·exact .inr fun V _ hpend => pend_move h8 hpend
        exact absurd ⟨h9, j, hj, h8⟩ hex
    ·exact .inr ⟨r1, hstep e6 r2⟩
   ·rw [hF] at g1
    obtain rfl := Option.some.inj g1
    exact fin (evK_sub ok h1 hsub) (onP_mono (fun x hx => by subst hx; exact ⟨F1, N1, g2⟩) g4) rfl
end
end Go.Proofs.Yteebobbhhgmeiaa
