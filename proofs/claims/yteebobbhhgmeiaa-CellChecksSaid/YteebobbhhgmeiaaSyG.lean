/- A symbolic run with sequences, part G: a region's operations one behind the other, and in whatever order. -/
import Derived.Test.YteebobbhhgmeiaaSyN
import Derived.Test.YteebobbhhgmeiaaSyP
namespace Go.Proofs.Yteebobbhhgmeiaa
open Go.RowKit

def dstAt (ops : List Oper) (j : Nat) : Option Tmp := match ops[j]? with
  | some o => o.dst
  | none => none

abbrev R3 := Option (St × List Prop)

def putO (s : St) (dst : Option Tmp) (x : AV) : Option St := match dst with
  | some d => bif Nat.blt d s.n then some (s.put d x) else none
  | none => some s

def stepE (E : Env) (ops : List Oper) (s : St) (o : Oper) : R3 :=
  match o.guard with
  | none => match effE E s [] o with
    | some (.val x, ps) => match putO s o.dst x with
      | some s' => some (s', ps)
      | none => none
    | some (.box e cs x, ps) => match o.dst with
      | some d => bif Nat.blt d s.n then some (s.newBox d e cs x, ps) else none
      | none => none
    | some (.set i e cs, ps) => some (s.setBox i e cs, ps)
    | some (.more x news drop, ps) => match o.dst with
      | some d => bif Nat.blt d s.n then (bif x.simple then (bif x.ltB news.length then some ((addSeqs (dropS s drop) (8 * d) news).put d (x.shift (8 * d)), ps) else none) else none) else none
      | none => none
    | none => none
  | some (j, b) => match dstAt ops j with
    | some u => match effE E s (gset s 5 u b) o with
      | some (.val x, ps) => match o.dst with
        | some d => bif Nat.blt d s.n then (bif Nat.beq d u then none else some (s.put d (.opt u b x), gimps (gprops s (gset s 5 u b) (gset s 5 u b)) ps)) else none
        | none => none
      | some (.more x news drop, ps) => match s.raw [] (.tmp u) with
        | some (.bool c) => match o.dst with
          | some d => bif Nat.blt d s.n then (bif x.simple then (bif x.ltB news.length then some ((addSeqs (dropS s drop) (8 * d) news).put d (x.shift (8 * d)), (c = b) :: ps) else none) else none) else none
          | none => none
        | _ => none
      | _ => none
    | none => none

def evL (E : Env) (ops : List Oper) : List Oper → St → R3
  | [], s => some (s, [])
  | o :: r, s => match stepE E ops s o with
    | some (s', ps) => match evL E ops r s' with
      | some (s'', qs) => some (s'', ps ++ qs)
      | none => none
    | none => none

theorem upon_mono {P : Program} {C C' : World → Prop} (hC : ∀ w, C w → C' w) {R : World} {v : Value} {r : Result Next} (h : Oper.quietUpon P C R v r) : Oper.quietUpon P C' R v r := by
  cases r with
  | halt x w => exact h
  | ok n w =>
    cases n <;> first | exact h | skip
    case enter f args => exact ⟨h.1, h.2.mono fun e w' ⟨h1, h2⟩ => ⟨h1, hC _ h2⟩⟩

theorem wp_upon {P : Program} {o : Oper} {a : Act} {R : World} {v : Value} {K : Act → World → Prop} {Q : Exit → Act → World → Prop} (h : Oper.quietUpon P (fun R' => Below R.heap.size R R') R v ((execOp a.eval o).run P R))
    (hk : ∀ R', Below R.heap.size R R' → K (a.put o.dst v) R') : o.wp P a R K Q := by
  have hr : Below R.heap.size R R := Below.refl _ _
  unfold Oper.wp
  generalize (execOp a.eval o).run P R = r at *
  cases r with
  | halt x w => exact h.elim
  | ok n w =>
    cases n <;> simp only [Oper.quietUpon] at h <;> simp only [Oper.upon]
    case value u =>
      obtain ⟨e1, e2⟩ := h
      rw [e1, e2]
      exact hk _ hr
    case skip =>
      obtain ⟨e1, e2⟩ := h
      rw [e1, ← e2]
      exact hk _ hr
    case enter f args =>
      obtain ⟨e1, hc⟩ := h
      rw [e1]
      exact hc.mono fun e w'' ⟨he, hw''⟩ => by subst he; exact hk _ hw''

section
variable {E : Env} {B : World} {N : Nm} {s : St} {a : Act} {R : World}

theorem gok_nil (tm : Nat → Value) : GOk tm [] := fun _ _ h => by cases h

theorem putO_ok (h : RelE E B N s a R) {dst : Option Tmp} {x : AV} {s' : St} (hx : x.simple = true) (he : putO s dst x = some s') : RelE E B N s' (a.put dst (conc N x)) R := by
  unfold putO at he
  split at he
  · rename_i d
    cases hd : Nat.blt d s.n with
    | false => rw [hd] at he; cases he
    | true =>
      rw [hd] at he
      obtain rfl := Option.some.inj he
      exact h.put (Nat.le_of_ble_eq_true hd) _ ((holds_simple hx).2 rfl)
  · obtain rfl := Option.some.inj he
    exact h

theorem wanted_iff {ops : List Oper} {o : Oper} {j u : Nat} {b : Bool} (hg : o.guard = some (j, b)) (hu : dstAt ops j = some u) (a : Act) : Region.wanted o (yielded ops.toArray a.tmps) = true ↔ tmOf a u = .bool b := by
  unfold Region.wanted yielded tmOf
  rw [hg]
  have : (ops.toArray[j]?).bind (·.dst) = some u := by
    unfold dstAt at hu
    rw [List.getElem?_toArray]
    cases ho : ops[j]? with
    | none => rw [ho] at hu; cases hu
    | some o' => rw [ho] at hu; exact hu
  simp only [this, Option.bind_some]
  rw [Array.getD_eq_getD_getElem?]
  cases hv : a.tmps[u]? with
  | none => simp [undef]
  | some v =>
    cases v <;> simp

theorem wanted_none {o : Oper} (hg : o.guard = none) (y : Nat → Option Bool) : Region.wanted o y = true := by
  unfold Region.wanted
  rw [hg]

/-- One operation, in the order of the text. -/
theorem step_ok (ok : EnvOk E B) (h : RelE E B N s a R) {ops : List Oper} {o : Oper} {s' : St} {ps : List Prop} (he : stepE E ops s o = some (s', ps)) (hp : ∀ p ∈ ps, p) {Q : Exit → Act → World → Prop} {rest : List Oper}
    (hk : ∀ N' a' R', RelE E B N' s' a' R' → wpList E.P ops.toArray Q rest a' R') : wpList E.P ops.toArray Q (o :: rest) a R := by
  unfold stepE at he
  unfold wpList
  split at he
  · rename_i hg
    rw [if_pos (wanted_none hg _)]
    left
    split at he <;> first | (cases he; done) | skip
    · rename_i x qs heff
      split at he <;> first | (cases he; done) | skip
      rename_i s'' hs
      cases he
      obtain ⟨h1, h2⟩ := val_ok ok h (gok_nil _) (valE_of_eff heff) hp
      exact wp_upon h2 fun R' hR' => hk N _ R' ((putO_ok h h1 hs).grow hR')
    · rename_i e cs x qs heff
      obtain ⟨d, vs, hd, h1, hvs, h2⟩ := box_ok h (gok_nil _) heff
      rw [hd] at he
      simp only at he
      cases hb : Nat.blt d s.n with
      | false => rw [hb] at he; cases he
      | true =>
        rw [hb] at he
        cases he
        unfold Oper.wp
        rw [h2, Oper.upon_value, hd]
        exact hk _ _ _ (h.newBox (Nat.le_of_ble_eq_true hb) hvs (Nat.le_refl _) ((Below.refl _ _).alloc (Nat.le_refl _) _) (heap_alloc_new R _) h1)
    · rename_i i e cs qs heff
      cases he
      obtain ⟨h1, cs0, vs', h2, h2', h3⟩ := set_ok h (gok_nil _) heff hp
      unfold Oper.wp
      rw [h3, Oper.upon_skip, h1]
      exact hk _ _ _ (h.setBox h2 h2')
    · rename_i x news drop qs heff
      cases hd : o.dst with
      | none => rw [hd] at he; cases he
      | some d =>
        rw [hd] at he
        simp only at he
        cases hb : Nat.blt d s.n with
        | false => rw [hb] at he; cases he
        | true =>
          cases hx : x.simple with
          | false => rw [hb, hx] at he; cases he
          | true =>
            cases hl : x.ltB news.length with
            | false => rw [hb, hx, hl] at he; cases he
            | true =>
              rw [hb, hx, hl] at he
              cases he
              refine wp_more (more_ok ok h (gok_nil _) heff hp) fun v z R' hm => ?_
              obtain ⟨N', hr⟩ := h.more (Nat.le_of_ble_eq_true hb) hm hx hl
              rw [hd]
              exact hk N' _ _ hr
  · rename_i j b hg
    split at he <;> first | (cases he; done) | skip
    rename_i u hu
    split at he <;> first | (cases he; done) | skip
    rotate_left
    · rename_i x news drop qs heff
      split at he <;> first | (cases he; done) | skip
      rename_i c hc
      split at he <;> first | (cases he; done) | skip
      rename_i d hd
      cases hb : Nat.blt d s.n with
      | false => rw [hb] at he; cases he
      | true =>
        cases hx : x.simple with
        | false => rw [hb, hx] at he; cases he
        | true =>
          cases hl : x.ltB news.length with
          | false => rw [hb, hx, hl] at he; cases he
          | true =>
            rw [hb, hx, hl] at he
            cases he
            have hcb : c = b := hp _ (List.mem_cons_self ..)
            have hw : tmOf a u = .bool b := by rw [← hcb]; exact raw_ok h (gok_nil _) hc
            rw [if_pos ((wanted_iff hg hu a).2 hw)]
            left
            refine wp_more (more_ok ok h (gset_ok h 5 u b hw) heff fun p hm => hp p (List.mem_cons_of_mem _ hm)) fun v z R' hm => ?_
            obtain ⟨N', hr⟩ := h.more (Nat.le_of_ble_eq_true hb) hm hx hl
            rw [hd]
            exact hk N' _ _ hr
    rename_i x qs heff
    split at he <;> first | (cases he; done) | skip
    rename_i d hd
    cases hb : Nat.blt d s.n with
    | false => rw [hb] at he; cases he
    | true =>
      cases hdu : Nat.beq d u with
      | true => rw [hb, hdu] at he; cases he
      | false =>
        rw [hb, hdu] at he
        cases he
        have hne : u ≠ d := fun e => by subst e; simp at hdu
        by_cases hw : tmOf a u = .bool b
        · rw [if_pos ((wanted_iff hg hu a).2 hw)]
          left
          have hG := gset_ok h 5 u b hw
          have hq := gimps_ok hp (gprops_ok h hG (gset_mem h 5 u b hw))
          obtain ⟨h1, h2⟩ := val_ok ok h hG (valE_of_eff heff) hq
          refine wp_upon h2 fun R' hR' => hk N _ R' ?_
          rw [hd]
          exact (h.put (x := .opt u b x) (Nat.le_of_ble_eq_true hb) (conc N x) ⟨fun _ => (holds_simple h1).2 rfl, fun hn => absurd (by rw [tm_put_ne _ hne]; exact hw) hn⟩).grow hR'
        · rw [if_neg (fun hh => hw ((wanted_iff hg hu a).1 hh)), hd]
          exact hk N _ R (h.put (x := .opt u b x) (Nat.le_of_ble_eq_true hb) undef ⟨fun hn => absurd (by rw [tm_put_ne _ hne] at hn; exact hn) hw, fun _ => rfl⟩)

theorem list_ok (ok : EnvOk E B) {ops : List Oper} {Q : Exit → Act → World → Prop} : ∀ {l : List Oper} {s s' : St} {ps : List Prop} {N : Nm} {a : Act} {R : World}, RelE E B N s a R → evL E ops l s = some (s', ps) → (∀ p ∈ ps, p) →
    (∀ N' a' R', RelE E B N' s' a' R' → Q .normal a' R') → wpList E.P ops.toArray Q l a R
  | [], s, s', ps, N, a, R, h, he, _, hk => by
    cases he
    exact hk N a R h
  | o :: r, s, s', ps, N, a, R, h, he, hp, hk => by
    unfold evL at he
    split at he <;> first | (cases he; done) | skip
    rename_i s1 ps1 h1
    split at he <;> first | (cases he; done) | skip
    rename_i s2 ps2 h2
    cases he
    exact step_ok ok h h1 (fun p hm => hp p (List.mem_append.2 (.inl hm))) fun N' a' R' h' =>
      list_ok ok h' h2 (fun p hm => hp p (List.mem_append.2 (.inr hm))) hk

/-! ### whatever order -/
def isVal (E : Env) (s : St) (o : Oper) : Bool := match o.guard with
  | none => match effE E s [] o with
    | some (.val _, _) => true
    | _ => false
  | some _ => true
def evQ (E : Env) (ops : List Oper) : List Oper → St → R3
  | [], s => some (s, [])
  | o :: r, s => bif isVal E s o then (match stepE E ops s o with
    | some (s', ps) => match evQ E ops r s' with
      | some (s'', qs) => some (s'', ps ++ qs)
      | none => none
    | none => none) else none

theorem cls_next {M : World → Prop} (hM : Clos M) {w' w'' : World} (h : ClsM R M w') (hb : Below w'.heap.size w' w'') : ClsM R M w'' := by
  obtain ⟨⟨x, rfl⟩, hm⟩ := h
  obtain ⟨y, rfl⟩ := ext_of_below hb
  exact ⟨⟨_, ext_ext R x y⟩, hM _ _ hm hb⟩

/-! ### a region that draws -/
def hasSl (P : Program) : Nat → TypeId → Bool
  | 0, _ => true
  | d + 1, t => match P.underlying t with
    | some (.slice _) => true
    | some (.struct fs) => fs.toList.any fun f => hasSl P d f.type
    | some (.array _ e) => hasSl P d e
    | some (.tuple es) => es.toList.any fun e => hasSl P d e
    | _ => false
def statM (P : Program) (o : Oper) : Bool := match o.op with
  | .alloc _ => true
  | .box _ _ => true
  | .buildSlice _ _ _ => true
  | .store _ _ _ => true
  | .call { callee := .builtin .append, .. } => true
  | .call { callee := .value _, .. } => hasSl P 4 o.type
  | _ => false
def depsIn (done : List Nat) (o : Oper) : Bool := o.after.toList.all fun e => !Region.binds .any e || done.contains e.on
def passP (P : Program) (ops : List Oper) : List Nat → List Nat → List Nat → List Nat × List Nat
  | [], done, left => (done, left.reverse)
  | i :: r, done, left => match ops[i]? with
    | some o => bif depsIn done o && !statM P o then passP P ops r (i :: done) left else passP P ops r done (i :: left)
    | none => passP P ops r done left
def firstM (ops : List Oper) (done : List Nat) : List Nat → Option (Nat × List Nat)
  | [] => none
  | i :: r => match ops[i]? with
    | some o => bif depsIn done o then some (i, r) else match firstM ops done r with
      | some (m, l) => some (m, i :: l)
      | none => none
    | none => none
def planG (P : Program) (ops : List Oper) : Nat → List Nat → List Nat → List Nat
  | 0, _, done => done.reverse
  | n + 1, todo, done => match passP P ops todo done [] with
    | (done', left) => match firstM ops done' left with
      | some (m, rest) => planG P ops n rest (m :: done')
      | none => done'.reverse
/-- The order in which the run takes a region that draws. -/
def plan (P : Program) (ops : List Oper) : List Nat := planG P ops (ops.length + 1) (List.range ops.length) []

/-- 0: it only yields a value; 1: it makes new things; 2: it turns old ones. -/
def kindOf (E : Env) (ops : List Oper) (s : St) (o : Oper) : Option Nat := match o.guard with
  | none => match effE E s [] o with
    | some (.val _, _) => some 0
    | some (.more _ _ none, _) => some 1
    | some (.box _ _ _, _) => some 1
    | some (.more _ _ (some _), _) => some 2
    | some (.set _ _ _, _) => some 2
    | none => none
  | some (j, b) => match dstAt ops j with
    | some u => match effE E s (gset s 5 u b) o with
      | some (.val _, _) => some 0
      | some (.more _ _ none, _) => some 1
      | some (.more _ _ (some _), _) => some 2
      | _ => none
    | none => none
def evK (E : Env) (ops : List Oper) : List Nat → St → Option (List Nat × St × List Prop)
  | [], s => some ([], s, [])
  | i :: r, s => match ops[i]? with
    | some o => match kindOf E ops s o with
      | some k => match stepE E ops s o with
        | some (s', ps) => match evK E ops r s' with
          | some (ks, s'', qs) => some (k :: ks, s'', ps ++ qs)
          | none => none
        | none => none
      | none => none
    | none => none
def stK (E : Env) (ops : List Oper) : List Nat → St → Nat → Option St
  | _, s, 0 => some s
  | [], _, _ + 1 => none
  | i :: r, s, k + 1 => match ops[i]? with
    | some o => match stepE E ops s o with
      | some (s', _) => stK E ops r s' k
      | none => none
    | none => none
theorem stK_zero {E : Env} {ops : List Oper} {L : List Nat} {s : St} : stK E ops L s 0 = some s := by cases L <;> rfl
theorem evK_at {E : Env} {ops : List Oper} : ∀ {L : List Nat} {s : St} {ks : List Nat} {sF : St} {psF : List Prop}, evK E ops L s = some (ks, sF, psF) →
    stK E ops L s L.length = some sF ∧ ∀ k, k < L.length → ∃ s1 o s2 ps2, ops[L.getD k 0]? = some o ∧ stK E ops L s k = some s1 ∧ kindOf E ops s1 o = some (ks.getD k 0) ∧ stepE E ops s1 o = some (s2, ps2) ∧ (∀ p ∈ ps2, p ∈ psF) ∧ stK E ops L s (k + 1) = some s2
  | [], s, ks, sF, psF, h => by cases h; exact ⟨rfl, fun k hk => by cases hk⟩
  | i :: r, s, ks, sF, psF, h => by
    unfold evK at h
    split at h <;> first | (cases h; done) | skip
    rename_i o ho
    split at h <;> first | (cases h; done) | skip
    rename_i kd hkd
    split at h <;> first | (cases h; done) | skip
    rename_i s' ps hst
    split at h <;> first | (cases h; done) | skip
    rename_i ks' s'' qs hr
    cases h
    obtain ⟨h1, h2⟩ := evK_at hr
    have hs : ∀ k, stK E ops (i :: r) s (k + 1) = stK E ops r s' k := fun k => by
      show (match ops[i]? with | some o => (match stepE E ops s o with | some (s', _) => stK E ops r s' k | none => none) | none => none) = _
      rw [ho]
      simp only [hst]
    refine ⟨by rw [List.length_cons, hs]; exact h1, fun k hk => ?_⟩
    cases k with
    | zero => exact ⟨s, o, s', ps, ho, stK_zero, hkd, hst, fun p hp => List.mem_append.2 (.inl hp), by rw [hs, stK_zero]⟩
    | succ k =>
      obtain ⟨s1, o1, s2, ps2, g1, g2, g3, g4, g5, g6⟩ := h2 k (by simpa using hk)
      exact ⟨s1, o1, s2, ps2, by simpa using g1, by rw [hs]; exact g2, by simpa using g3, g4, fun p hp => List.mem_append.2 (.inr (g5 p hp)), by rw [hs]; exact g6⟩

theorem quiet_step (ok : EnvOk E B) (h : RelE E B N s a R) {ops : List Oper} {o : Oper} {s2 : St} {ps : List Prop} (hkd : kindOf E ops s o = some 0) (hst : stepE E ops s o = some (s2, ps)) (hp : ∀ p ∈ ps, p) :
    ∃ v, RelE E B N s2 (a.put o.dst v) R ∧ ((Region.wanted o (yielded ops.toArray a.tmps) = true ∧ ∀ w', Below R.heap.size R w' → Oper.quietUpon E.P (fun w'' => Below w'.heap.size w' w'') w' v ((execOp a.eval o).run E.P w')) ∨
      (Region.wanted o (yielded ops.toArray a.tmps) = false ∧ v = undef)) := by
  unfold stepE at hst
  unfold kindOf at hkd
  split at hst
  · rename_i hg
    rw [hg] at hkd
    split at hst <;> first | (cases hst; done) | skip
    · rename_i x qs heff
      split at hst <;> first | (cases hst; done) | skip
      rename_i s'' hs
      cases hst
      have hsim := (val_ok ok h (gok_nil _) (valE_of_eff heff) hp).1
      exact ⟨conc N x, putO_ok h hsim hs, .inl ⟨wanted_none hg _, fun w' hw' => (val_ok ok (h.grow hw') (gok_nil _) (valE_of_eff heff) hp).2⟩⟩
    · rename_i heff
      simp only [heff] at hkd
      cases hkd
    · rename_i heff
      simp only [heff] at hkd
      cases hkd
    · rename_i x news drop qs heff
      simp only [heff] at hkd
      cases drop <;> simp at hkd
  · rename_i j b hg
    rw [hg] at hkd
    split at hst <;> first | (cases hst; done) | skip
    rename_i u hu
    simp only [hu] at hkd
    split at hst <;> first | (cases hst; done) | skip
    rotate_left
    · rename_i x news drop qs heff
      simp only [heff] at hkd
      cases drop <;> simp at hkd
    rename_i x qs heff
    split at hst <;> first | (cases hst; done) | skip
    rename_i d hd
    cases hb : Nat.blt d s.n with
    | false => rw [hb] at hst; cases hst
    | true =>
      cases hdu : Nat.beq d u with
      | true => rw [hb, hdu] at hst; cases hst
      | false =>
        rw [hb, hdu] at hst
        cases hst
        have hne : u ≠ d := fun e => by subst e; simp at hdu
        rw [hd]
        by_cases hw : tmOf a u = .bool b
        · have hG := gset_ok h 5 u b hw
          have hq := gimps_ok hp (gprops_ok h hG (gset_mem h 5 u b hw))
          have hsim := (val_ok ok h hG (valE_of_eff heff) hq).1
          refine ⟨conc N x, h.put (x := .opt u b x) (Nat.le_of_ble_eq_true hb) _ ⟨fun _ => (holds_simple hsim).2 rfl, fun hn => absurd (by rw [tm_put_ne _ hne]; exact hw) hn⟩, .inl ⟨(wanted_iff hg hu a).2 hw, fun w' hw' => ?_⟩⟩
          exact (val_ok ok (h.grow hw') hG (valE_of_eff heff) hq).2
        · refine ⟨undef, h.put (x := .opt u b x) (Nat.le_of_ble_eq_true hb) undef ⟨fun hn => absurd (by rw [tm_put_ne _ hne] at hn; exact hn) hw, fun _ => rfl⟩, .inr ⟨?_, rfl⟩⟩
          cases hwn : Region.wanted o (yielded ops.toArray a.tmps) with
          | false => rfl
          | true => exact absurd ((wanted_iff hg hu a).1 hwn) hw

theorem MoreOk.below {v : Nat → Value} {z : Nat → List Value} {news : List Sq} {R' : World} {base : Nat} (m : MoreOk base N s R news none R' v z) : Below R.heap.size R R' :=
  ⟨m.os, m.tape, m.output, m.size, fun g hg => m.stay g hg fun ⟨k, q, hk, _⟩ => by cases hk⟩
theorem uponV_more {P : Program} {base : Nat} {x : AV} {news : List Sq} {drop : Option Nat} {r : Result Next} {K : Value → World → Prop} (h : MoreRun P base N s R x news drop r)
    (hk : ∀ v z R', MoreOk base N s R news drop R' v z → K (conc ⟨N.b, v, z⟩ x) R') : UponV P K r := by
  cases r with
  | halt x w => exact h.elim
  | ok n w =>
    cases n <;> simp only [MoreRun] at h <;> simp only [UponV]
    case value u =>
      obtain ⟨v, z, e1, h2⟩ := h
      rw [e1]
      exact hk _ _ _ h2
    case enter f args =>
      obtain ⟨e1, hc⟩ := h
      rw [e1]
      exact hc.mono fun e w'' ⟨v, z, he, hm⟩ => ⟨_, he, hk _ _ _ hm⟩

theorem mop_step (ok : EnvOk E B) (h : RelE E B N s a R) {ops : List Oper} {o : Oper} {s2 : St} {ps : List Prop} {kd : Nat} (hkd : kindOf E ops s o = some (kd + 1)) (hst : stepE E ops s o = some (s2, ps)) (hp : ∀ p ∈ ps, p) :
    Region.wanted o (yielded ops.toArray a.tmps) = true ∧ UponV E.P (fun v w' => (kd = 0 → Below R.heap.size R w') ∧ ∃ N', RelE E B N' s2 (a.put o.dst v) w') ((execOp a.eval o).run E.P R) := by
  unfold stepE at hst
  unfold kindOf at hkd
  split at hst
  · rename_i hg
    rw [hg] at hkd
    refine ⟨wanted_none hg _, ?_⟩
    split at hst <;> first | (cases hst; done) | skip
    · rename_i x qs heff
      simp only [heff] at hkd
      cases hkd
    · rename_i e cs x qs heff
      obtain ⟨d, vs, hd, h1, hvs, h2⟩ := box_ok h (gok_nil _) heff
      rw [hd] at hst
      simp only at hst
      cases hb : Nat.blt d s.n with
      | false => rw [hb] at hst; cases hst
      | true =>
        rw [hb] at hst
        cases hst
        rw [h2, hd]
        exact ⟨fun _ => (Below.refl _ _).alloc (Nat.le_refl _) _, _, h.newBox (Nat.le_of_ble_eq_true hb) hvs (Nat.le_refl _) ((Below.refl _ _).alloc (Nat.le_refl _) _) (heap_alloc_new R _) h1⟩
    · rename_i i e cs qs heff
      cases hst
      obtain ⟨h1, cs0, vs', h2, h2', h3⟩ := set_ok h (gok_nil _) heff hp
      rw [h3, h1]
      simp only [heff] at hkd
      refine ⟨fun hz => ?_, _, h.setBox h2 h2'⟩
      subst hz
      cases hkd
    · rename_i x news drop qs heff
      cases hd : o.dst with
      | none => rw [hd] at hst; cases hst
      | some d =>
        rw [hd] at hst
        simp only at hst
        cases hb : Nat.blt d s.n with
        | false => rw [hb] at hst; cases hst
        | true =>
          cases hx : x.simple with
          | false => rw [hb, hx] at hst; cases hst
          | true =>
            cases hl : x.ltB news.length with
            | false => rw [hb, hx, hl] at hst; cases hst
            | true =>
              rw [hb, hx, hl] at hst
              cases hst
              refine uponV_more (more_ok ok h (gok_nil _) heff hp) fun v z R' hm => ⟨fun hz => ?_, ?_⟩
              · subst hz
                cases drop with
                | none => exact hm.below
                | some k => simp only [heff] at hkd; cases hkd
              · exact h.more (Nat.le_of_ble_eq_true hb) hm hx hl
  · rename_i j b hg
    rw [hg] at hkd
    split at hst <;> first | (cases hst; done) | skip
    rename_i u hu
    simp only [hu] at hkd
    split at hst <;> first | (cases hst; done) | skip
    · rename_i x qs heff
      simp only [heff] at hkd
      cases hkd
    · rename_i x news drop qs heff
      split at hst <;> first | (cases hst; done) | skip
      rename_i c hc
      split at hst <;> first | (cases hst; done) | skip
      rename_i d hd
      cases hb : Nat.blt d s.n with
      | false => rw [hb] at hst; cases hst
      | true =>
        cases hx : x.simple with
        | false => rw [hb, hx] at hst; cases hst
        | true =>
          cases hl : x.ltB news.length with
          | false => rw [hb, hx, hl] at hst; cases hst
          | true =>
            rw [hb, hx, hl] at hst
            cases hst
            have hcb : c = b := hp _ (List.mem_cons_self ..)
            have hw : tmOf a u = .bool b := by rw [← hcb]; exact raw_ok h (gok_nil _) hc
            rw [hd]
            refine ⟨(wanted_iff hg hu a).2 hw, uponV_more (more_ok ok h (gset_ok h 5 u b hw) heff fun p hm => hp p (List.mem_cons_of_mem _ hm)) fun v z R' hm => ⟨fun hz => ?_, ?_⟩⟩
            · subst hz
              cases drop with
              | none => exact hm.below
              | some k => simp only [heff] at hkd; cases hkd
            · exact h.more (Nat.le_of_ble_eq_true hb) hm hx hl

def evDraw (E : Env) (ops : List Oper) (order : List Nat) (s : St) : R3 := match evK E ops order s with
  | some (ks, s', ps) => bif canonB ops.toArray order ks then some (s', ps) else none
  | none => none
def evR (E : Env) (ops : List Oper) (draw : Bool) (s : St) : R3 := match draw with
  | true => evDraw E ops (plan E.P ops) s
  | false => evL E ops ops s

theorem region_ok (ok : EnvOk E B) (h : RelE E B N s a R) {id : Nat} {ops : List Oper} {draw : Bool} {s' : St} {ps : List Prop} (he : evR E ops draw s = some (s', ps)) (hp : ∀ p ∈ ps, p) {Q : Exit → Act → World → Prop}
    (hk : ∀ N' a' R', RelE E B N' s' a' R' → Q .normal a' R') : (Code.region id ops.toArray draw).wp E.P Q a R := by
  cases draw with
  | false => exact wp_region_lit (list_ok ok h he hp hk)
  | true =>
    unfold evR at he
    simp only at he
    generalize plan E.P ops = order at he
    unfold evDraw at he
    split at he <;> first | (cases he; done) | skip
    rename_i ks s1 ps1 h1
    cases hB : canonB ops.toArray order ks with
    | false => rw [hB] at he; cases he
    | true =>
      rw [hB] at he
      cases he
      obtain ⟨hc, hn, hsink⟩ := canonB_ok hB
      obtain ⟨hF, hat⟩ := evK_at h1
      refine wp_canon (S := fun k A w => ∃ N s1, stK E ops order s k = some s1 ∧ RelE E B N s1 A w) ok.wide hc ?_ ?_ (fun k A w w' ⟨N, s1, g1, g2⟩ hb => ⟨N, s1, g1, g2.grow hb⟩) ⟨N, s, stK_zero, h⟩ (fun A w' ⟨N, s1, g1, g2⟩ => ?_)
      · intro k A w hk' hM ⟨N, s0, g1, g2⟩ o ho
        obtain ⟨s1, o1, s2, ps2, e1, e2, e3, e4, e5, e6⟩ := hat k hk'
        have : o1 = o := by
          have ho' : ops[order.getD k 0]? = some o := by simpa using ho
          exact Option.some.inj (e1.symm.trans ho')
        subst this
        obtain rfl : s1 = s0 := Option.some.inj (e2.symm.trans g1)
        have hk0 : ks.getD k 0 = 0 := by
          have hM' : Nat.blt 0 (ks.getD k 0) = false := hM
          cases hz : ks.getD k 0 with
          | zero => rfl
          | succ m => rw [hz] at hM'; cases hM'
        rw [hk0] at e3
        obtain ⟨v, r1, r2⟩ := quiet_step ok g2 e3 e4 fun p hm => hp p (e5 p hm)
        exact ⟨v, ⟨N, s2, e6, r1⟩, r2⟩
      · intro k A w hk' hM ⟨N, s0, g1, g2⟩ o ho
        obtain ⟨s1, o1, s2, ps2, e1, e2, e3, e4, e5, e6⟩ := hat k hk'
        have : o1 = o := by
          have ho' : ops[order.getD k 0]? = some o := by simpa using ho
          exact Option.some.inj (e1.symm.trans ho')
        subst this
        obtain rfl : s1 = s0 := Option.some.inj (e2.symm.trans g1)
        obtain ⟨m, hm⟩ : ∃ m, ks.getD k 0 = m + 1 := by
          have hM' : Nat.blt 0 (ks.getD k 0) = true := hM
          cases hz : ks.getD k 0 with
          | zero => rw [hz] at hM'; cases hM'
          | succ m => exact ⟨m, rfl⟩
        have e3' := e3
        rw [hm] at e3'
        obtain ⟨r1, r2⟩ := mop_step ok g2 e3' e4 fun p hm => hp p (e5 p hm)
        refine ⟨r1, uponV_mono r2 fun v w' ⟨q1, N', q2⟩ => ⟨?_, N', s2, e6, q2⟩⟩
        cases m with
        | zero => exact .inl (q1 rfl)
        | succ m => exact .inr (hsink k hk' (by rw [hm]; rfl))
      · rw [hF] at g1
        obtain rfl := Option.some.inj g1
        exact hk N A w' g2
end
end Go.Proofs.Yteebobbhhgmeiaa
