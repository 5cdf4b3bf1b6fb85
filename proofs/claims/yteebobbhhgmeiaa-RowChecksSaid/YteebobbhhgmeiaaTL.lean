/- A symbolic run over typed data, part L: a region's operations one behind the other, and in whatever order. -/
import Derived.Test.YteebobbhhgmeiaaTK
namespace Go.Proofs.Yteebobbhhgmeiaa
open Go.RowKit

/-! ### conditions -/
/-- A condition; none: always. -/
abbrev Cnd := Option Bool
def cval : Cnd → Bool
  | none => true
  | some b => b
def andO : Cnd → Cnd → Cnd
  | none, y => y
  | some a, none => some a
  | some a, some b => some (a && b)
def orO : Cnd → Cnd → Cnd
  | none, _ => none
  | some _, none => none
  | some a, some b => some (a || b)
def notO : Cnd → Cnd
  | none => some false
  | some a => some (!a)
def iteO (g : Bool) : Cnd → Cnd → Cnd
  | none, none => none
  | some a, none => some (!g || a)
  | none, some b => some (g || b)
  | some a, some b => some (bif g then a else b)
theorem cval_and (x y : Cnd) : cval (andO x y) = (cval x && cval y) := by cases x <;> cases y <;> simp [andO, cval]
theorem cval_or (x y : Cnd) : cval (orO x y) = (cval x || cval y) := by cases x <;> cases y <;> simp [orO, cval]
theorem cval_not (x : Cnd) : cval (notO x) = !(cval x) := by cases x <;> rfl
theorem cval_ite (g : Bool) (x y : Cnd) : cval (iteO g x y) = bif g then cval x else cval y := by cases x <;> cases y <;> cases g <;> simp [iteO, cval]
def cndP : Cnd → List Prop
  | none => []
  | some b => [b = true]
theorem cndP_ok {c : Cnd} (h : cval c = true) : ∀ q ∈ cndP c, q := fun q hq => by
  cases c with
  | none => cases hq
  | some b => obtain rfl := List.mem_singleton.1 hq; exact h

/-! ### one operation -/
def dstAt (ops : List Oper) (j : Nat) : Option Tmp := match ops[j]? with
  | some o => o.dst
  | none => none
/-- What one operation comes to, by conditions: its kind, the state, what must hold. -/
abbrev Outc := Cnd × Nat × St × List Prop
def onL : List Outc → (St → Prop) → Prop
  | [], _ => False
  | (c, _, s, _) :: r, K => (cval c = true ∧ K s) ∨ (cval c = false ∧ onL r K)
def needL : List Outc → Prop
  | [] => True
  | (c, _, _, ps) :: r => (cval c = true → ∀ p ∈ ps, p) ∧ needL r
def kindL : List Outc → Nat
  | [] => 0
  | (_, k, _, _) :: r => Nat.max k (kindL r)
theorem onL_mono {K K' : St → Prop} (hk : ∀ s, K s → K' s) : ∀ {l : List Outc}, onL l K → onL l K'
  | [], h => h
  | _ :: _, h => h.imp (fun ⟨a, b⟩ => ⟨a, hk _ b⟩) (fun ⟨a, b⟩ => ⟨a, onL_mono hk b⟩)

def putE (s : St) (dst : Option Tmp) (f : Eff) : Option St := match dst with
  | some d => bif Nat.blt d s.n then some (St.put ⟨s.n, f.nx, s.t, f.o⟩ d f.x) else none
  | none => some ⟨s.n, f.nx, s.t, f.o⟩
/-- A test's outcome is known from here on. -/
def St.lit (s : St) (u : Nat) (b : Bool) : St := { s with t := (u, .v (.bool b)) :: s.t }
def quietE (E : Env) (s : St) (G : Guards) (o : Oper) : R2 := bif loudB o.op then none else valE E s G o
def doE (E : Env) (s : St) (G : Guards) (o : Oper) (c : Cnd) (ps : List Prop) : Option Outc := match opE E s G o with
  | some f => match putE s o.dst f with
    | some s' => some (c, f.k, s', ps ++ f.ps)
    | none => none
  | none => none
def skipE (s : St) (o : Oper) : Option St := match o.dst with
  | some d => bif Nat.blt d s.n then some (s.put d (.v undef)) else none
  | none => some s
def step0 (E : Env) (ops : List Oper) (s : St) (o : Oper) : Option (List Outc) :=
  match o.guard with
  | none => match doE E s [] o none [] with
    | some x => some [x]
    | none => none
  | some (j, b) => match dstAt ops j with
    | some u => match E.lit with
      | true => match s.raw [] (.tmp u) with
        | some (.bool c) => match beqB c b with
          | true => match doE E s (gset s 5 u b) o none [] with
            | some x => some [x]
            | none => none
          | false => match skipE s o with
            | some s' => some [(none, 0, s', [])]
            | none => none
        | _ => none
      | false => match quietE E s (gset s 5 u b) o with
        | some (x, ps) => match o.dst with
          | some d => bif Nat.blt d s.n then (bif Nat.beq d u then none else some [(none, 0, s.put d (.opt u b x), gimps (gprops s (gset s 5 u b) (gset s 5 u b)) ps)]) else none
          | none => none
        | none => match s.raw [] (.tmp u) with
          | some (.bool c) => match doE E (s.lit u b) (gset s 5 u b) o (some (bif b then c else !c)) [], skipE (s.lit u (!b)) o with
            | some x, some s' => some [x, (none, 0, s', [])]
            | _, _ => none
          | _ => none
    | none => none

section
variable {E : Env} {Z : Base} {F : Nat → Prop} {N : Nm} {s : St} {a : Act} {R : World}
theorem gok_nil (tm : Nat → Value) : GOk tm [] := fun _ _ h => by cases h
theorem Hv.isPlain {nx : Nat} {x : A} {v : Value} (h : Hv F N nx R x v) : x.plain = true := by cases h <;> rfl
theorem wanted_iff {ops : List Oper} {o : Oper} {j u : Nat} {b : Bool} (hg : o.guard = some (j, b)) (hu : dstAt ops j = some u) (a : Act) : Region.wanted o (yielded ops.toArray a.tmps) = true ↔ tmOf a u = .bool b := by
  unfold Region.wanted yielded tmOf
  rw [hg]
  have : (ops.toArray[j]?).bind (·.dst) = some u := by
    unfold dstAt at hu
    rw [List.getElem?_toArray]
    cases ho : ops[j]? with
    | none => rw [ho] at hu; cases hu
    | some o' => rw [ho] at hu; exact hu
  simp only [this, Option.bind_some]
  rw [Array.getD_eq_getD_getElem?]
  cases hv : a.tmps[u]? with
  | none => simp [undef]
  | some v =>
    cases v <;> simp
theorem wanted_none {o : Oper} (hg : o.guard = none) (y : Nat → Option Bool) : Region.wanted o y = true := by
  unfold Region.wanted
  rw [hg]
theorem Rel.lit (h : Rel Z F N s a R) {u : Nat} {b : Bool} (hu : tmOf a u = .bool b) : Rel Z F N (s.lit u b) a R :=
  ⟨h.defers, h.size, fun v x hv => by
    have hv' : (bif Nat.beq u v then some (A.v (.bool b)) else look v s.t) = some x := hv
    cases hb : Nat.beq u v with
    | true =>
      rw [hb] at hv'
      obtain rfl := Nat.eq_of_beq_eq_true hb
      cases hv'
      rw [hu]
      exact (HS_plain rfl).2 (.v _)
    | false => rw [hb] at hv'; exact h.slots v x hv', h.hp, h.st, h.tm⟩
theorem putE_ok (h : Rel Z F N s a R) {dst : Option Tmp} {f : Eff} {s' : St} (he : putE s dst f = some s') (hW : ∀ d, dst = some d → Z.W d) {v : Value} {R' : World} (hk : EK F N s.nx s.o R f v R') :
    ∃ F' N', Rel Z F' N' s' (a.put dst v) R' := by
  obtain ⟨F', N', h1, h2, h3, _⟩ := hk
  have hr := h.heap h2 h1
  unfold putE at he
  split at he
  · rename_i d
    cases hd : Nat.blt d s.n with
    | false => rw [hd] at he; cases he
    | true =>
      rw [hd] at he
      cases he
      exact ⟨F', N', hr.put (Nat.le_of_ble_eq_true hd) (hW d rfl) v ((HS_plain h3.isPlain).2 h3)⟩
  · cases he
    exact ⟨F', N', hr⟩
theorem skipE_ok (h : Rel Z F N s a R) {o : Oper} {s' : St} (he : skipE s o = some s') (hW : ∀ d, o.dst = some d → Z.W d) : Rel Z F N s' (a.put o.dst undef) R := by
  unfold skipE at he
  split at he
  · rename_i d hd
    cases hb : Nat.blt d s.n with
    | false => rw [hb] at he; cases he
    | true =>
      rw [hb] at he
      cases he
      rw [hd]
      exact h.put (Nat.le_of_ble_eq_true hb) (hW d hd) undef ((HS_plain rfl).2 (.v _))
  · rename_i hd
    cases he
    rw [hd]
    exact h
theorem doE_ok (ok : EnvOk E) (h : Rel Z F N s a R) {G : Guards} (hG : GOk (tmOf a) G) {o : Oper} {c c' : Cnd} {k : Nat} {s' : St} {ps qs : List Prop} (he : doE E s G o c qs = some (c', k, s', ps)) (hp : ∀ p ∈ ps, p) (hW : ∀ d, o.dst = some d → Z.W d) :
    c' = c ∧ UponV E.P (fun v R' => (k ≤ 1 → Below R.heap.size R R') ∧ ∃ F' N', Rel Z F' N' s' (a.put o.dst v) R') ((execOp a.eval o).run E.P R) := by
  unfold doE at he
  split at he <;> first | (cases he; done) | skip
  rename_i f hf
  split at he <;> first | (cases he; done) | skip
  rename_i s1 hs
  cases he
  refine ⟨rfl, uponV_mono (op_ok ok h hG hf fun p hm => hp p (List.mem_append.2 (.inr hm))) fun v R' hk => ⟨?_, putE_ok h hs hW hk⟩⟩
  obtain ⟨_, _, _, _, _, h4⟩ := hk
  exact h4
theorem bool_path {c b : Bool} (hcb : (bif b then c else !c) = true) : c = b := by cases b <;> cases c <;> first | rfl | cases hcb
theorem bool_path' {c b : Bool} (hcb : (bif b then c else !c) = false) : c = !b := by cases b <;> cases c <;> first | rfl | cases hcb
/-- One operation, on whatever way. -/
theorem step0_ok (ok : EnvOk E) (h : Rel Z F N s a R) {ops : List Oper} {o : Oper} {l : List Outc} (he : step0 E ops s o = some l) (hp : needL l) (hW : ∀ d, o.dst = some d → Z.W d) :
    (Region.wanted o (yielded ops.toArray a.tmps) = true ∧ UponV E.P (fun v R' => (kindL l ≤ 1 → Below R.heap.size R R') ∧ onL l fun s' => ∃ F' N', Rel Z F' N' s' (a.put o.dst v) R') ((execOp a.eval o).run E.P R)) ∨
    (Region.wanted o (yielded ops.toArray a.tmps) = false ∧ onL l fun s' => ∃ F' N', Rel Z F' N' s' (a.put o.dst undef) R) := by
  have one : ∀ {G : Guards} {x : Outc}, GOk (tmOf a) G → doE E s G o none [] = some x → l = [x] → UponV E.P (fun v R' => (kindL l ≤ 1 → Below R.heap.size R R') ∧ onL l fun s' => ∃ F' N', Rel Z F' N' s' (a.put o.dst v) R') ((execOp a.eval o).run E.P R) := fun {G x} hG hx hl => by
    obtain ⟨c, k, s', ps⟩ := x
    subst hl
    have hc : c = none := by
      unfold doE at hx
      split at hx <;> first | (cases hx; done) | skip
      split at hx <;> first | (cases hx; done) | skip
      cases hx; rfl
    subst hc
    obtain ⟨_, h2⟩ := doE_ok ok h hG hx (hp.1 rfl) hW
    exact uponV_mono h2 fun v R' ⟨h3, h4⟩ => ⟨fun hk => h3 (Nat.le_trans (Nat.le_max_left ..) hk), .inl ⟨rfl, h4⟩⟩
  unfold step0 at he
  split at he
  · rename_i hg
    split at he <;> first | (cases he; done) | skip
    rename_i x hx
    cases he
    exact .inl ⟨wanted_none hg _, one (gok_nil _) hx rfl⟩
  · rename_i j b hg
    split at he <;> first | (cases he; done) | skip
    rename_i u hu
    have wt := wanted_iff hg hu a
    have wf : tmOf a u ≠ .bool b → Region.wanted o (yielded ops.toArray a.tmps) = false := fun hn => by
      cases hw : Region.wanted o (yielded ops.toArray a.tmps) with
      | false => rfl
      | true => exact absurd (wt.1 hw) hn
    split at he
    · split at he <;> first | (cases he; done) | skip
      rename_i c hc
      have hcu : tmOf a u = .bool c := raw_ok h (gok_nil _) hc
      split at he
      · rename_i hb
        obtain rfl := beqB_eq hb
        split at he <;> first | (cases he; done) | skip
        rename_i x hx
        cases he
        exact .inl ⟨wt.2 hcu, one (gset_ok h 5 u c hcu) hx rfl⟩
      · rename_i hb
        split at he <;> first | (cases he; done) | skip
        rename_i s' hs
        cases he
        refine .inr ⟨wf fun e => ?_, .inl ⟨rfl, F, N, skipE_ok h hs hW⟩⟩
        rw [hcu] at e
        cases e
        cases b <;> cases hb
    · split at he
      · rename_i x ps hq
        split at he <;> first | (cases he; done) | skip
        rename_i d hd
        cases hb : Nat.blt d s.n with
        | false => rw [hb] at he; cases he
        | true =>
          cases hdu : Nat.beq d u with
          | true => rw [hb, hdu] at he; cases he
          | false =>
            rw [hb, hdu] at he
            cases he
            have hne : u ≠ d := fun e => by subst e; simp at hdu
            have hdn := Nat.le_of_ble_eq_true hb
            unfold quietE at hq
            cases hl : loudB o.op with
            | true => rw [hl] at hq; cases hq
            | false =>
              rw [hl] at hq
              by_cases hw : tmOf a u = .bool b
              · have hG := gset_ok h 5 u b hw
                have hps := gimps_ok (hp.1 rfl) (gprops_ok h hG (gset_mem h 5 u b hw))
                obtain ⟨v, h1, h2⟩ := val_ok ok h hG hq hps
                refine .inl ⟨wt.2 hw, ?_⟩
                have h3 := h2 R (Below.refl _ _)
                have fin : ∀ R', Below R.heap.size R R' → (kindL [((none : Cnd), 0, s.put d (.opt u b x), gimps (gprops s (gset s 5 u b) (gset s 5 u b)) ps)] ≤ 1 → Below R.heap.size R R') ∧ onL [((none : Cnd), 0, s.put d (.opt u b x), gimps (gprops s (gset s 5 u b) (gset s 5 u b)) ps)] fun s' => ∃ F' N', Rel Z F' N' s' (a.put o.dst v) R' := fun R' hR' =>
                  ⟨fun _ => hR', .inl ⟨rfl, F, N, by
                    rw [hd]
                    refine ((h.put (x := .opt u b x) hdn (hW d hd) v ?_).grow hR')
                    simp only [HS]
                    exact ⟨fun _ => (HS_plain h1.isPlain).2 h1, fun hn => absurd (by rw [tm_put_ne _ hne]; exact hw) hn⟩⟩⟩
                generalize (execOp a.eval o).run E.P R = r at *
                cases r with
                | halt x w => exact h3.elim
                | ok n w =>
                  cases n <;> simp only [Oper.quietUpon] at h3 <;> simp only [UponV]
                  case value y =>
                    obtain ⟨e1, e2⟩ := h3
                    rw [e1, e2]
                    exact fin R (Below.refl _ _)
                  case skip =>
                    obtain ⟨e1, e2⟩ := h3
                    rw [e1, ← e2]
                    exact fin R (Below.refl _ _)
                  case enter f args =>
                    obtain ⟨e1, hc⟩ := h3
                    rw [e1]
                    exact hc.mono fun e w'' ⟨he, hw''⟩ => ⟨v, he, fin _ hw''⟩
              · refine .inr ⟨wf hw, .inl ⟨rfl, F, N, ?_⟩⟩
                rw [hd]
                refine h.put (x := .opt u b x) hdn (hW d hd) undef ?_
                simp only [HS]
                exact ⟨fun hn => absurd (by rw [tm_put_ne _ hne] at hn; exact hn) hw, fun _ => trivial⟩
      · split at he <;> first | (cases he; done) | skip
        rename_i c hc
        have hcu : tmOf a u = .bool c := raw_ok h (gok_nil _) hc
        split at he <;> first | (cases he; done) | skip
        rename_i x s' hx hs
        obtain ⟨cx, k, sx, ps⟩ := x
        cases he
        cases hcb : (bif b then c else !c) with
        | true =>
          have e1 := bool_path hcb
          subst e1
          have hcx : cx = some (bif c then c else !c) := by
            unfold doE at hx
            split at hx <;> first | (cases hx; done) | skip
            split at hx <;> first | (cases hx; done) | skip
            cases hx; rfl
          have hcv : cval cx = true := by rw [hcx]; exact hcb
          obtain ⟨_, h2⟩ := doE_ok ok (h.lit hcu) (gset_ok h 5 u c hcu) hx (hp.1 hcv) hW
          exact .inl ⟨wt.2 hcu, uponV_mono h2 fun v R' ⟨h3, h4⟩ => ⟨fun hk => h3 (Nat.le_trans (Nat.le_max_left ..) hk), .inl ⟨hcv, h4⟩⟩⟩
        | false =>
          have e1 := bool_path' hcb
          have hcx : cx = some (bif b then c else !c) := by
            unfold doE at hx
            split at hx <;> first | (cases hx; done) | skip
            split at hx <;> first | (cases hx; done) | skip
            cases hx; rfl
          have hcv : cval cx = false := by rw [hcx]; exact hcb
          refine .inr ⟨wf fun e => ?_, .inr ⟨hcv, .inl ⟨rfl, F, N, skipE_ok (h.lit (by rw [hcu, e1])) hs hW⟩⟩⟩
          rw [hcu, e1] at e
          cases b <;> cases e
end

/-! ### rows that are written no more from here on -/
/-- The own rows that a value names, the inner ones first. -/
def rowsIn (o : Objs) : Nat → A → List Nat
  | 0, _ => []
  | d + 1, x => match x with
    | .sq i => (match lookO i o with
      | some (.arr _ _ (.lst cs)) => cs.flatMap fun l => l.flatMap (rowsIn o d)
      | _ => []) ++ [i]
    | .vw i _ _ _ _ => (match lookO i o with
      | some (.arr _ _ (.lst cs)) => cs.flatMap fun l => l.flatMap (rowsIn o d)
      | _ => []) ++ [i]
    | .agg xs => xs.flatMap (rowsIn o d)
    | .tup xs => xs.flatMap (rowsIn o d)
    | _ => []
def dropTop : List A → List A
  | [.sq i] => [.sq i]
  | l => l
def opV (s : St) (x : Operand) : A := match s.ev [] x with
  | some z => z
  | none => match x with
    | .tmp t => match s.get t with
      | some (.opt _ _ z) => z
      | _ => .dead
    | _ => .dead
/-- What an operation would have frozen. -/
def candE (s : St) (o : Oper) : List Nat := match o.op with
  | .call { callee := .value _, args, .. } => args.toList.flatMap fun x => rowsIn s.o 4 (opV s x)
  | .call { callee := .builtin .append, args, .. } => match args.toList with
    | [_, y] => match opV s y with
      | .sq i => (rowsIn s.o 4 (.sq i)).filter fun k => !Nat.beq k i
      | y' => rowsIn s.o 4 y'
    | _ => []
  | .store _ _ v => rowsIn s.o 4 (opV s v)
  | _ => []
def freezeL (E : Env) : List Nat → St → St × List Prop
  | [], s => (s, [])
  | i :: r, s => match freezeS E i s with
    | some (s', ps) => match freezeL E r s' with
      | (s'', qs) => (s'', ps ++ qs)
    | none => freezeL E r s
def addN (ps : List Prop) : List Outc → List Outc
  | [] => []
  | (c, k, s, qs) :: r => (c, k, s, ps ++ qs) :: addN ps r
def hasNone : List Outc → Bool
  | [] => false
  | (none, _, _, _) :: _ => true
  | _ :: r => hasNone r
def stepE (E : Env) (ops : List Oper) (s : St) (o : Oper) : Option (List Outc) := match step0 E ops s o with
  | some l => some l
  | none => match candE s o with
    | [] => none
    | i :: r => match freezeL E (i :: r) s with
      | (s', ps) => match step0 E ops s' o with
        | some l => bif hasNone l then some (addN ps l) else none
        | none => none

section
variable {E : Env} {Z : Base} {F : Nat → Prop} {N : Nm} {s : St} {a : Act} {R : World}
theorem freezeL_ok : ∀ {l : List Nat} {s s' : St} {ps : List Prop} {F : Nat → Prop}, Rel Z F N s a R → freezeL E l s = (s', ps) → (∀ p ∈ ps, p) → ∃ F', Rel Z F' N s' a R
  | [], s, s', ps, F, h, he, _ => by cases he; exact ⟨F, h⟩
  | i :: r, s, s', ps, F, h, he, hp => by
    unfold freezeL at he
    split at he
    · rename_i s1 ps1 h1
      generalize h2 : freezeL E r s1 = x at he
      obtain ⟨s2, qs⟩ := x
      cases he
      obtain ⟨F1, g1⟩ := freeze_ok h h1 fun p hm => hp p (List.mem_append.2 (.inl hm))
      exact freezeL_ok g1 h2 fun p hm => hp p (List.mem_append.2 (.inr hm))
    · exact freezeL_ok h he hp
theorem addN_onL {K : St → Prop} {ps : List Prop} : ∀ {l : List Outc}, onL l K → onL (addN ps l) K
  | [], h => h
  | _ :: _, h => h.imp id fun ⟨a, b⟩ => ⟨a, addN_onL b⟩
theorem addN_kind {ps : List Prop} : ∀ {l : List Outc}, kindL (addN ps l) = kindL l
  | [] => rfl
  | (c, k, s, qs) :: r => by
    show Nat.max k (kindL (addN ps r)) = Nat.max k (kindL r)
    rw [addN_kind]
theorem addN_need {ps : List Prop} : ∀ {l : List Outc}, needL (addN ps l) → needL l
  | [], h => h
  | (_, _, _, _) :: r, ⟨h1, h2⟩ => ⟨fun hc p hm => h1 hc p (List.mem_append.2 (.inr hm)), addN_need (l := r) h2⟩
theorem addN_none {ps : List Prop} : ∀ {l : List Outc}, hasNone l = true → needL (addN ps l) → ∀ p ∈ ps, p
  | [], h, _ => by cases h
  | (none, k, s, qs) :: r, _, ⟨h1, _⟩ => fun p hm => h1 rfl p (List.mem_append.2 (.inl hm))
  | (some _, k, s, qs) :: r, h, ⟨_, h2⟩ => addN_none (l := r) h h2
theorem stepE_ok (ok : EnvOk E) (h : Rel Z F N s a R) {ops : List Oper} {o : Oper} {l : List Outc} (he : stepE E ops s o = some l) (hp : needL l) (hW : ∀ d, o.dst = some d → Z.W d) :
    (Region.wanted o (yielded ops.toArray a.tmps) = true ∧ UponV E.P (fun v R' => (kindL l ≤ 1 → Below R.heap.size R R') ∧ onL l fun s' => ∃ F' N', Rel Z F' N' s' (a.put o.dst v) R') ((execOp a.eval o).run E.P R)) ∨
    (Region.wanted o (yielded ops.toArray a.tmps) = false ∧ onL l fun s' => ∃ F' N', Rel Z F' N' s' (a.put o.dst undef) R) := by
  unfold stepE at he
  split at he
  · rename_i l' hl
    cases he
    exact step0_ok ok h hl hp hW
  · split at he <;> first | (cases he; done) | skip
    rename_i i r hc
    generalize hf : freezeL E (i :: r) s = x at he
    obtain ⟨s', ps⟩ := x
    simp only at he
    split at he <;> first | (cases he; done) | skip
    rename_i l' hl
    cases hn : hasNone l' with
    | false => rw [hn] at he; cases he
    | true =>
      rw [hn] at he
      cases he
      obtain ⟨F', h'⟩ := freezeL_ok h hf (addN_none hn hp)
      rcases step0_ok ok h' hl (addN_need hp) hW with ⟨h1, h2⟩ | ⟨h1, h2⟩
      · exact .inl ⟨h1, uponV_mono h2 fun v R' ⟨h3, h4⟩ => ⟨fun hk => h3 (by rw [addN_kind] at hk; exact hk), addN_onL h4⟩⟩
      · exact .inr ⟨h1, addN_onL h2⟩
end

/-! ### what only yields a value -/
def qput (s : St) (dst : Option Tmp) (x : A) (ps : List Prop) : Option (St × List Prop) := match dst with
  | some d => bif Nat.blt d s.n then some (s.put d x, ps) else none
  | none => some (s, ps)
def qstep (E : Env) (ops : List Oper) (s : St) (o : Oper) : Option (St × List Prop) :=
  match o.guard with
  | none => match quietE E s [] o with
    | some (x, ps) => qput s o.dst x ps
    | none => none
  | some (j, b) => match dstAt ops j with
    | some u => match E.lit with
      | true => match s.raw [] (.tmp u) with
        | some (.bool c) => match beqB c b with
          | true => match quietE E s (gset s 5 u b) o with
            | some (x, ps) => qput s o.dst x ps
            | none => none
          | false => qput s o.dst (.v undef) []
        | _ => none
      | false => match quietE E s (gset s 5 u b) o with
        | some (x, ps) => match o.dst with
          | some d => bif Nat.blt d s.n then (bif Nat.beq d u then none else some (s.put d (.opt u b x), gimps (gprops s (gset s 5 u b) (gset s 5 u b)) ps)) else none
          | none => none
        | none => none
    | none => none
/-- Quiet: whatever else goes on first, the value is the same. -/
def Quiet (P : Program) (ops : List Oper) (o : Oper) (a : Act) (R : World) (v : Value) : Prop :=
  (Region.wanted o (yielded ops.toArray a.tmps) = true ∧ ∀ w', Below R.heap.size R w' → Oper.quietUpon P (fun w'' => Below w'.heap.size w' w'') w' v ((execOp a.eval o).run P w')) ∨
  (Region.wanted o (yielded ops.toArray a.tmps) = false ∧ v = undef)
section
variable {E : Env} {Z : Base} {F : Nat → Prop} {N : Nm} {s : St} {a : Act} {R : World}
theorem qput_ok (h : Rel Z F N s a R) {dst : Option Tmp} {x : A} {ps qs : List Prop} {s' : St} (he : qput s dst x ps = some (s', qs)) (hW : ∀ d, dst = some d → Z.W d) {v : Value} (hv : Hv F N s.nx R x v) : qs = ps ∧ Rel Z F N s' (a.put dst v) R := by
  unfold qput at he
  split at he
  · rename_i d
    cases hb : Nat.blt d s.n with
    | false => rw [hb] at he; cases he
    | true =>
      rw [hb] at he
      cases he
      exact ⟨rfl, h.put (Nat.le_of_ble_eq_true hb) (hW d rfl) v ((HS_plain hv.isPlain).2 hv)⟩
  · cases he
    exact ⟨rfl, h⟩
theorem qstep_ok (ok : EnvOk E) (h : Rel Z F N s a R) {ops : List Oper} {o : Oper} {s' : St} {ps : List Prop} (he : qstep E ops s o = some (s', ps)) (hp : ∀ p ∈ ps, p) (hW : ∀ d, o.dst = some d → Z.W d) :
    ∃ v, Rel Z F N s' (a.put o.dst v) R ∧ Quiet E.P ops o a R v := by
  have go : ∀ {G : Guards} {x : A} {qs : List Prop}, GOk (tmOf a) G → quietE E s G o = some (x, qs) → (∀ p ∈ qs, p) → ∃ v, Hv F N s.nx R x v ∧ ∀ R', Below R.heap.size R R' → Oper.quietUpon E.P (fun R'' => Below R'.heap.size R' R'') R' v ((execOp a.eval o).run E.P R') := fun {G x qs} hG hq hqs => by
    unfold quietE at hq
    cases hl : loudB o.op with
    | true => rw [hl] at hq; cases hq
    | false => rw [hl] at hq; exact val_ok ok h hG hq hqs
  unfold qstep at he
  split at he
  · rename_i hg
    split at he <;> first | (cases he; done) | skip
    rename_i x qs hq
    have hqs : qs = ps := by
      unfold qput at he
      split at he
      · rename_i d _
        cases hb : Nat.blt d s.n with
        | false => rw [hb] at he; cases he
        | true => rw [hb] at he; cases he; rfl
      · cases he; rfl
    subst hqs
    obtain ⟨v, h1, h2⟩ := go (gok_nil _) hq hp
    exact ⟨v, (qput_ok h he hW h1).2, .inl ⟨wanted_none hg _, h2⟩⟩
  · rename_i j b hg
    split at he <;> first | (cases he; done) | skip
    rename_i u hu
    have wt := wanted_iff hg hu a
    have wf : tmOf a u ≠ .bool b → Region.wanted o (yielded ops.toArray a.tmps) = false := fun hn => by
      cases hw : Region.wanted o (yielded ops.toArray a.tmps) with
      | false => rfl
      | true => exact absurd (wt.1 hw) hn
    split at he
    · split at he <;> first | (cases he; done) | skip
      rename_i c hc
      have hcu : tmOf a u = .bool c := raw_ok h (gok_nil _) hc
      split at he
      · rename_i hb
        have hcb := beqB_eq hb
        rw [hcb] at hcu
        split at he <;> first | (cases he; done) | skip
        rename_i x qs hq
        have hqs : qs = ps := by
          unfold qput at he
          split at he
          · rename_i d _
            cases hb : Nat.blt d s.n with
            | false => rw [hb] at he; cases he
            | true => rw [hb] at he; cases he; rfl
          · cases he; rfl
        subst hqs
        obtain ⟨v, h1, h2⟩ := go (gset_ok h 5 u b hcu) hq hp
        exact ⟨v, (qput_ok h he hW h1).2, .inl ⟨wt.2 hcu, h2⟩⟩
      · rename_i hb
        refine ⟨undef, (qput_ok h he hW (.v _)).2, .inr ⟨wf fun e => ?_, rfl⟩⟩
        rw [hcu] at e
        cases e
        cases b <;> cases hb
    · split at he <;> first | (cases he; done) | skip
      rename_i x qs hq
      split at he <;> first | (cases he; done) | skip
      rename_i d hd
      cases hb : Nat.blt d s.n with
      | false => rw [hb] at he; cases he
      | true =>
        cases hdu : Nat.beq d u with
        | true => rw [hb, hdu] at he; cases he
        | false =>
          rw [hb, hdu] at he
          cases he
          have hne : u ≠ d := fun e => by subst e; simp at hdu
          have hdn := Nat.le_of_ble_eq_true hb
          by_cases hw : tmOf a u = .bool b
          · have hG := gset_ok h 5 u b hw
            obtain ⟨v, h1, h2⟩ := go hG hq (gimps_ok hp (gprops_ok h hG (gset_mem h 5 u b hw)))
            refine ⟨v, ?_, .inl ⟨wt.2 hw, h2⟩⟩
            rw [hd]
            refine h.put (x := .opt u b x) hdn (hW d hd) v ?_
            simp only [HS]
            exact ⟨fun _ => (HS_plain h1.isPlain).2 h1, fun hn => absurd (by rw [tm_put_ne _ hne]; exact hw) hn⟩
          · refine ⟨undef, ?_, .inr ⟨wf hw, rfl⟩⟩
            rw [hd]
            refine h.put (x := .opt u b x) hdn (hW d hd) undef ?_
            simp only [HS]
            exact ⟨fun hn => absurd (by rw [tm_put_ne _ hne] at hn; exact hn) hw, fun _ => trivial⟩
end

/-! ### ways -/
abbrev Path := Cnd × St
def bump : List Outc → List Outc
  | [] => []
  | (c, k, s, ps) :: r => (c, Nat.max 1 k, s, ps) :: bump r
/-- Passed over, if its guard says so. -/
def skipN (ops : List Oper) (s : St) (o : Oper) : Option (St × List Prop) := match o.guard with
  | some (j, b) => match dstAt ops j with
    | some u => match s.raw [] (.tmp u) with
      | some (.bool c) => match skipE s o with
        | some s' => some (s', [c = !b])
        | none => none
      | some (.tuple _) => match skipE s o with
        | some s' => some (s', [])
        | none => none
      | _ => none
    | none => none
  | none => none
def pathP (E : Env) (ops : List Oper) (s : St) (o : Oper) : Option (List Outc) := match qstep E ops s o with
  | some (s', ps) => some [(none, 0, s', ps)]
  | none => match stepE E ops s o with
    | some (x :: r) => some (bump (x :: r))
    | _ => match skipN ops s o with
      | some (s', ps) => some [(none, 0, s', ps)]
      | none => none
/-- A guard that stands under another one: both ways of that one. -/
def St.open1 (s : St) (u u2 : Nat) (b2 : Bool) (y : A) : St := { s with t := (u, y) :: (u2, .v (.bool b2)) :: s.t }
def andL (c : Cnd) : List Outc → List Outc
  | [] => []
  | (d, k, s, ps) :: r => (andO c d, k, s, ps) :: andL c r
def pathE (E : Env) (ops : List Oper) (s : St) (o : Oper) : Option (List Outc) := match pathP E ops s o with
  | some l => some l
  | none => match o.guard with
    | some (j, _) => match dstAt ops j with
      | some u => match s.get u with
        | some (.opt u2 b2 y) => match s.raw [] (.tmp u2) with
          | some (.bool c) => match pathP E ops (s.open1 u u2 b2 y) o, pathP E ops (s.open1 u u2 (!b2) (.v undef)) o with
            | some l1, some l2 => some (andL (some (bif b2 then c else !c)) l1 ++ l2)
            | _, _ => none
          | _ => none
        | _ => none
      | none => none
    | none => none
def condC (c : Cnd) : List Outc → List Path
  | [] => []
  | (d, _, s, _) :: r => (andO c d, s) :: condC c r
def needC (c : Cnd) : List Outc → List Prop
  | [] => []
  | (d, _, _, ps) :: r => gimps (cndP (andO c d)) ps ++ needC c r
def evWays (E : Env) (ops : List Oper) (o : Oper) : List Path → Option (Nat × List Path × List Prop)
  | [] => some (0, [], [])
  | (c, s) :: r => match pathE E ops s o with
    | some l => match evWays E ops o r with
      | some (k, r', qs) => some (Nat.max (kindL l) k, condC c l ++ r', needC c l ++ qs)
      | none => none
    | none => none
def onP : List Path → (St → Prop) → Prop
  | [], _ => False
  | (c, s) :: r, K => (cval c = true ∧ K s) ∨ (cval c = false ∧ onP r K)
theorem onP_mono {K K' : St → Prop} (hk : ∀ s, K s → K' s) : ∀ {l : List Path}, onP l K → onP l K'
  | [], h => h
  | _ :: _, h => h.imp (fun ⟨a, b⟩ => ⟨a, hk _ b⟩) (fun ⟨a, b⟩ => ⟨a, onP_mono hk b⟩)
theorem onP_condC {c : Cnd} {K : St → Prop} {r' : List Path} (hc : cval c = true) : ∀ {l : List Outc}, onL l K → onP (condC c l ++ r') K
  | [], h => h.elim
  | (d, k, s, ps) :: r, h => by
    rcases h with ⟨h1, h2⟩ | ⟨h1, h2⟩
    · exact .inl ⟨by rw [cval_and, hc, h1]; rfl, h2⟩
    · exact .inr ⟨by rw [cval_and, hc, h1]; rfl, onP_condC hc h2⟩
theorem onP_skipC {c : Cnd} {K : St → Prop} {r' : List Path} (hc : cval c = false) (h : onP r' K) : ∀ {l : List Outc}, onP (condC c l ++ r') K
  | [] => h
  | (d, k, s, ps) :: r => .inr ⟨by rw [cval_and, hc]; rfl, onP_skipC hc h⟩
theorem needC_ok {c : Cnd} (hc : cval c = true) : ∀ {l : List Outc}, (∀ p ∈ needC c l, p) → needL l
  | [], _ => trivial
  | (d, k, s, ps) :: r, h => by
    refine ⟨fun hd => gimps_ok (fun p hm => h p (List.mem_append.2 (.inl hm))) (cndP_ok (by rw [cval_and, hc, hd]; rfl)), needC_ok hc fun p hm => h p (List.mem_append.2 (.inr hm))⟩
theorem bump_onL {K : St → Prop} : ∀ {l : List Outc}, onL l K → onL (bump l) K
  | [], h => h
  | _ :: _, h => h.imp id fun ⟨a, b⟩ => ⟨a, bump_onL b⟩
theorem bump_need : ∀ {l : List Outc}, needL (bump l) → needL l
  | [], h => h
  | _ :: r, ⟨h1, h2⟩ => ⟨h1, bump_need (l := r) h2⟩
theorem bump_kind : ∀ {l : List Outc}, kindL l ≤ kindL (bump l)
  | [] => Nat.le_refl _
  | (c, k, s, ps) :: r => by
    show Nat.max k (kindL r) ≤ Nat.max (Nat.max 1 k) (kindL (bump r))
    have := bump_kind (l := r)
    exact Nat.max_le.2 ⟨Nat.le_trans (Nat.le_max_right ..) (Nat.le_max_left ..), Nat.le_trans this (Nat.le_max_right ..)⟩
section
variable {E : Env} {Z : Base} {F : Nat → Prop} {N : Nm} {s : St} {a : Act} {R : World}
theorem quiet_upon {P : Program} {o : Oper} {v : Value} {K : Value → World → Prop} (h : Oper.quietUpon P (fun w'' => Below R.heap.size R w'') R v ((execOp a.eval o).run P R)) (hk : ∀ R', Below R.heap.size R R' → K v R') : UponV P K ((execOp a.eval o).run P R) := by
  have hr := Below.refl R.heap.size R
  generalize (execOp a.eval o).run P R = r at *
  cases r with
  | halt x w => exact h.elim
  | ok n w =>
    cases n <;> simp only [Oper.quietUpon] at h <;> simp only [UponV]
    case value y =>
      obtain ⟨e1, e2⟩ := h
      rw [e1, e2]
      exact hk _ hr
    case skip =>
      obtain ⟨e1, e2⟩ := h
      rw [e1, ← e2]
      exact hk _ hr
    case enter f args =>
      obtain ⟨e1, hc⟩ := h
      rw [e1]
      exact hc.mono fun e w'' ⟨he, hw''⟩ => ⟨v, he, hk _ hw''⟩
theorem skipN_ok (h : Rel Z F N s a R) {ops : List Oper} {o : Oper} {s' : St} {ps : List Prop} (he : skipN ops s o = some (s', ps)) (hp : ∀ p ∈ ps, p) (hW : ∀ d, o.dst = some d → Z.W d) :
    Region.wanted o (yielded ops.toArray a.tmps) = false ∧ Rel Z F N s' (a.put o.dst undef) R := by
  unfold skipN at he
  split at he <;> first | (cases he; done) | skip
  rename_i j b hg
  split at he <;> first | (cases he; done) | skip
  rename_i u hu
  have wt := wanted_iff hg hu a
  split at he <;> first | (cases he; done) | skip
  · rename_i c hc
    split at he <;> first | (cases he; done) | skip
    rename_i s1 hs
    cases he
    have hcb : c = !b := hp _ (List.mem_singleton.2 rfl)
    have hcu : tmOf a u = .bool c := raw_ok h (gok_nil _) hc
    refine ⟨?_, skipE_ok h hs hW⟩
    cases hw : Region.wanted o (yielded ops.toArray a.tmps) with
    | false => rfl
    | true =>
      have := wt.1 hw
      rw [hcu, hcb] at this
      cases b <;> cases this
  · rename_i xs hc
    split at he <;> first | (cases he; done) | skip
    rename_i s1 hs
    cases he
    have hcu : tmOf a u = .tuple xs := raw_ok h (gok_nil _) hc
    refine ⟨?_, skipE_ok h hs hW⟩
    cases hw : Region.wanted o (yielded ops.toArray a.tmps) with
    | false => rfl
    | true =>
      have := wt.1 hw
      rw [hcu] at this
      cases this
theorem pathP_ok (ok : EnvOk E) (h : Rel Z F N s a R) {ops : List Oper} {o : Oper} {l : List Outc} (he : pathP E ops s o = some l) (hp : needL l) (hW : ∀ d, o.dst = some d → Z.W d) :
    (Region.wanted o (yielded ops.toArray a.tmps) = true ∧ UponV E.P (fun v R' => (kindL l ≤ 1 → Below R.heap.size R R') ∧ onL l fun s' => ∃ F' N', Rel Z F' N' s' (a.put o.dst v) R') ((execOp a.eval o).run E.P R)) ∨
    (Region.wanted o (yielded ops.toArray a.tmps) = false ∧ onL l fun s' => ∃ F' N', Rel Z F' N' s' (a.put o.dst undef) R) := by
  unfold pathP at he
  split at he
  · rename_i s' ps hq
    cases he
    obtain ⟨v, h1, h2⟩ := qstep_ok ok h hq (hp.1 rfl) hW
    rcases h2 with ⟨h2, h3⟩ | ⟨h2, rfl⟩
    · exact .inl ⟨h2, quiet_upon (h3 R (Below.refl _ _)) fun R' hb => ⟨fun _ => hb, .inl ⟨rfl, F, N, h1.grow hb⟩⟩⟩
    · exact .inr ⟨h2, .inl ⟨rfl, F, N, h1⟩⟩
  · split at he
    · rename_i x r hs
      cases he
      rcases stepE_ok ok h hs (bump_need hp) hW with ⟨h1, h2⟩ | ⟨h1, h2⟩
      · exact .inl ⟨h1, uponV_mono h2 fun v R' ⟨h3, h4⟩ => ⟨fun hk => h3 (Nat.le_trans bump_kind hk), bump_onL h4⟩⟩
      · exact .inr ⟨h1, bump_onL h2⟩
    · split at he <;> first | (cases he; done) | skip
      rename_i s' ps hs
      cases he
      obtain ⟨h1, h2⟩ := skipN_ok h hs (hp.1 rfl) hW
      exact .inr ⟨h1, .inl ⟨rfl, F, N, h2⟩⟩
theorem pathP_quiet (ok : EnvOk E) (h : Rel Z F N s a R) {ops : List Oper} {o : Oper} {l : List Outc} (he : pathP E ops s o = some l) (hk : kindL l = 0) (hp : needL l) (hW : ∀ d, o.dst = some d → Z.W d) :
    ∃ v, (onL l fun s' => ∃ F' N', Rel Z F' N' s' (a.put o.dst v) R) ∧ Quiet E.P ops o a R v := by
  unfold pathP at he
  split at he
  · rename_i s' ps hq
    cases he
    obtain ⟨v, h1, h2⟩ := qstep_ok ok h hq (hp.1 rfl) hW
    exact ⟨v, .inl ⟨rfl, F, N, h1⟩, h2⟩
  · split at he
    · rename_i x r hs
      cases he
      obtain ⟨c, k, s', ps⟩ := x
      have hk' : Nat.max (Nat.max 1 k) (kindL (bump r)) = 0 := hk
      exact absurd (Nat.le_trans (Nat.le_trans (Nat.le_max_left 1 k) (Nat.le_max_left (Nat.max 1 k) (kindL (bump r)))) (Nat.le_of_eq hk')) (by decide)
    · split at he <;> first | (cases he; done) | skip
      rename_i s' ps hs
      cases he
      obtain ⟨h1, h2⟩ := skipN_ok h hs (hp.1 rfl) hW
      exact ⟨undef, .inl ⟨rfl, F, N, h2⟩, .inr ⟨h1, rfl⟩⟩
theorem onL_and_true {c : Cnd} {K : St → Prop} {r : List Outc} (hc : cval c = true) : ∀ {l : List Outc}, onL l K → onL (andL c l ++ r) K
  | [], h => h.elim
  | (d, k, s, ps) :: _, h => by
    rcases h with ⟨h1, h2⟩ | ⟨h1, h2⟩
    · exact .inl ⟨by rw [cval_and, hc, h1]; rfl, h2⟩
    · exact .inr ⟨by rw [cval_and, hc, h1]; rfl, onL_and_true hc h2⟩
theorem onL_and_false {c : Cnd} {K : St → Prop} {r : List Outc} (hc : cval c = false) (h : onL r K) : ∀ {l : List Outc}, onL (andL c l ++ r) K
  | [] => h
  | (d, k, s, ps) :: _ => .inr ⟨by rw [cval_and, hc]; rfl, onL_and_false hc h⟩
theorem needL_and {c : Cnd} {r : List Outc} : ∀ {l : List Outc}, needL (andL c l ++ r) → (cval c = true → needL l) ∧ needL r
  | [], h => ⟨fun _ => trivial, h⟩
  | (d, k, s, ps) :: _, ⟨h1, h2⟩ => ⟨fun hc => ⟨fun hd => h1 (by rw [cval_and, hc, hd]; rfl), (needL_and h2).1 hc⟩, (needL_and h2).2⟩
theorem kindL_and {c : Cnd} {r : List Outc} : ∀ {l : List Outc}, kindL (andL c l ++ r) = Nat.max (kindL l) (kindL r)
  | [] => by show kindL r = Nat.max 0 (kindL r); exact (Nat.max_eq_right (Nat.zero_le _)).symm
  | (d, k, s, ps) :: l => by
    show Nat.max k (kindL (andL c l ++ r)) = Nat.max (Nat.max k (kindL l)) (kindL r)
    rw [kindL_and]
    exact (Nat.max_assoc _ _ _).symm
theorem open_rel (h : Rel Z F N s a R) {u u2 : Nat} {b2 : Bool} {y : A} (hu : HS F N s.nx R (tmOf a) y (tmOf a u)) (hu2 : tmOf a u2 = .bool b2) : Rel Z F N (s.open1 u u2 b2 y) a R :=
  ⟨h.defers, h.size, fun v x hv => by
    have hv' : (bif Nat.beq u v then some y else bif Nat.beq u2 v then some (A.v (.bool b2)) else look v s.t) = some x := hv
    cases hb : Nat.beq u v with
    | true =>
      rw [hb] at hv'
      obtain rfl := Nat.eq_of_beq_eq_true hb
      cases hv'
      exact hu
    | false =>
      rw [hb] at hv'
      cases hb2 : Nat.beq u2 v with
      | true =>
        rw [hb2] at hv'
        obtain rfl := Nat.eq_of_beq_eq_true hb2
        cases hv'
        rw [hu2]
        exact (HS_plain rfl).2 (.v _)
      | false => rw [hb2] at hv'; exact h.slots v x hv', h.hp, h.st, h.tm⟩
/-- The two ways of the guard above. -/
theorem open_cases (h : Rel Z F N s a R) {u u2 : Nat} {b2 c : Bool} {y : A} (hg : s.get u = some (.opt u2 b2 y)) (hc : s.raw [] (.tmp u2) = some (.bool c)) :
    (cval (some (bif b2 then c else !c)) = true ∧ Rel Z F N (s.open1 u u2 b2 y) a R) ∨ (cval (some (bif b2 then c else !c)) = false ∧ Rel Z F N (s.open1 u u2 (!b2) (.v undef)) a R) := by
  have hcu : tmOf a u2 = .bool c := raw_ok h (gok_nil _) hc
  have hs := h.slots u _ hg
  simp only [HS] at hs
  cases hcb : (bif b2 then c else !c) with
  | true =>
    have e := bool_path hcb
    subst e
    exact .inl ⟨rfl, open_rel h (hs.1 hcu) hcu⟩
  | false =>
    have e := bool_path' hcb
    refine .inr ⟨rfl, open_rel h ?_ (by rw [hcu, e])⟩
    rw [hs.2 (by rw [hcu, e]; cases b2 <;> simp)]
    exact (HS_plain rfl).2 (.v _)
theorem pathE_ok (ok : EnvOk E) (h : Rel Z F N s a R) {ops : List Oper} {o : Oper} {l : List Outc} (he : pathE E ops s o = some l) (hp : needL l) (hW : ∀ d, o.dst = some d → Z.W d) :
    (Region.wanted o (yielded ops.toArray a.tmps) = true ∧ UponV E.P (fun v R' => (kindL l ≤ 1 → Below R.heap.size R R') ∧ onL l fun s' => ∃ F' N', Rel Z F' N' s' (a.put o.dst v) R') ((execOp a.eval o).run E.P R)) ∨
    (Region.wanted o (yielded ops.toArray a.tmps) = false ∧ onL l fun s' => ∃ F' N', Rel Z F' N' s' (a.put o.dst undef) R) := by
  unfold pathE at he
  split at he
  · rename_i l' hl
    cases he
    exact pathP_ok ok h hl hp hW
  · split at he <;> first | (cases he; done) | skip
    split at he <;> first | (cases he; done) | skip
    split at he <;> first | (cases he; done) | skip
    rename_i u2 b2 y hg
    split at he <;> first | (cases he; done) | skip
    rename_i c hc
    split at he <;> first | (cases he; done) | skip
    rename_i l1 l2 h1 h2
    cases he
    obtain ⟨n1, n2⟩ := needL_and hp
    rw [kindL_and]
    rcases open_cases h hg hc with ⟨e, hr⟩ | ⟨e, hr⟩
    · rcases pathP_ok ok hr h1 (n1 e) hW with ⟨g1, g2⟩ | ⟨g1, g2⟩
      · exact .inl ⟨g1, uponV_mono g2 fun v R' ⟨g3, g4⟩ => ⟨fun hk => g3 (Nat.le_trans (Nat.le_max_left ..) hk), onL_and_true e g4⟩⟩
      · exact .inr ⟨g1, onL_and_true e g2⟩
    · rcases pathP_ok ok hr h2 n2 hW with ⟨g1, g2⟩ | ⟨g1, g2⟩
      · exact .inl ⟨g1, uponV_mono g2 fun v R' ⟨g3, g4⟩ => ⟨fun hk => g3 (Nat.le_trans (Nat.le_max_right ..) hk), onL_and_false e g4⟩⟩
      · exact .inr ⟨g1, onL_and_false e g2⟩
theorem pathE_quiet (ok : EnvOk E) (h : Rel Z F N s a R) {ops : List Oper} {o : Oper} {l : List Outc} (he : pathE E ops s o = some l) (hk : kindL l = 0) (hp : needL l) (hW : ∀ d, o.dst = some d → Z.W d) :
    ∃ v, (onL l fun s' => ∃ F' N', Rel Z F' N' s' (a.put o.dst v) R) ∧ Quiet E.P ops o a R v := by
  unfold pathE at he
  split at he
  · rename_i l' hl
    cases he
    exact pathP_quiet ok h hl hk hp hW
  · split at he <;> first | (cases he; done) | skip
    split at he <;> first | (cases he; done) | skip
    split at he <;> first | (cases he; done) | skip
    rename_i u2 b2 y hg
    split at he <;> first | (cases he; done) | skip
    rename_i c hc
    split at he <;> first | (cases he; done) | skip
    rename_i l1 l2 h1 h2
    cases he
    obtain ⟨n1, n2⟩ := needL_and hp
    rw [kindL_and] at hk
    have hk1 : kindL l1 = 0 := Nat.le_zero.1 (Nat.le_trans (Nat.le_max_left (kindL l1) (kindL l2)) (Nat.le_of_eq hk))
    have hk2 : kindL l2 = 0 := Nat.le_zero.1 (Nat.le_trans (Nat.le_max_right (kindL l1) (kindL l2)) (Nat.le_of_eq hk))
    rcases open_cases h hg hc with ⟨e, hr⟩ | ⟨e, hr⟩
    · obtain ⟨v, g1, g2⟩ := pathP_quiet ok hr h1 hk1 (n1 e) hW
      exact ⟨v, onL_and_true e g1, g2⟩
    · obtain ⟨v, g1, g2⟩ := pathP_quiet ok hr h2 hk2 n2 hW
      exact ⟨v, onL_and_false e g1, g2⟩
abbrev At (Z : Base) (A : Act) (w : World) : St → Prop := fun s => ∃ F N, Rel Z F N s A w
theorem evWays_quiet (ok : EnvOk E) {ops : List Oper} {o : Oper} (hW : ∀ d, o.dst = some d → Z.W d) : ∀ {l l' : List Path} {qs : List Prop}, evWays E ops o l = some (0, l', qs) → (∀ q ∈ qs, q) → onP l (At Z a R) → ∃ v, onP l' (At Z (a.put o.dst v) R) ∧ Quiet E.P ops o a R v
  | [], l', qs, he, _, h => h.elim
  | (c, s) :: r, l', qs, he, hp, h => by
    unfold evWays at he
    split at he <;> first | (cases he; done) | skip
    rename_i l1 h1
    split at he <;> first | (cases he; done) | skip
    rename_i k r' qs' h2
    injection he with he
    injection he with hk he
    injection he with e1 e2
    subst e1 e2
    have hk1 : kindL l1 = 0 := Nat.le_zero.1 (Nat.le_trans (Nat.le_max_left (kindL l1) k) (Nat.le_of_eq hk))
    have hk2 : k = 0 := Nat.le_zero.1 (Nat.le_trans (Nat.le_max_right (kindL l1) k) (Nat.le_of_eq hk))
    rcases h with ⟨hc, F, N, hr⟩ | ⟨hc, h⟩
    · obtain ⟨v, g1, g2⟩ := pathE_quiet ok hr h1 hk1 (needC_ok hc fun p hm => hp p (List.mem_append.2 (.inl hm))) hW
      exact ⟨v, onP_condC hc g1, g2⟩
    · subst hk2
      obtain ⟨v, g1, g2⟩ := evWays_quiet ok hW h2 (fun p hm => hp p (List.mem_append.2 (.inr hm))) h
      exact ⟨v, onP_skipC hc g1, g2⟩
theorem evWays_ok (ok : EnvOk E) {ops : List Oper} {o : Oper} (hW : ∀ d, o.dst = some d → Z.W d) : ∀ {l l' : List Path} {k : Nat} {qs : List Prop}, evWays E ops o l = some (k, l', qs) → (∀ q ∈ qs, q) → onP l (At Z a R) →
    (Region.wanted o (yielded ops.toArray a.tmps) = true ∧ UponV E.P (fun v R' => (k ≤ 1 → Below R.heap.size R R') ∧ onP l' (At Z (a.put o.dst v) R')) ((execOp a.eval o).run E.P R)) ∨
    (Region.wanted o (yielded ops.toArray a.tmps) = false ∧ onP l' (At Z (a.put o.dst undef) R))
  | [], l', k, qs, he, _, h => h.elim
  | (c, s) :: r, l', k, qs, he, hp, h => by
    unfold evWays at he
    split at he <;> first | (cases he; done) | skip
    rename_i l1 h1
    split at he <;> first | (cases he; done) | skip
    rename_i k' r' qs' h2
    cases he
    rcases h with ⟨hc, F, N, hr⟩ | ⟨hc, h⟩
    · rcases pathE_ok ok hr h1 (needC_ok hc fun p hm => hp p (List.mem_append.2 (.inl hm))) hW with ⟨g1, g2⟩ | ⟨g1, g2⟩
      · exact .inl ⟨g1, uponV_mono g2 fun v R' ⟨g3, g4⟩ => ⟨fun hk => g3 (Nat.le_trans (Nat.le_max_left ..) hk), onP_condC hc g4⟩⟩
      · exact .inr ⟨g1, onP_condC hc g2⟩
    · rcases evWays_ok ok hW h2 (fun p hm => hp p (List.mem_append.2 (.inr hm))) h with ⟨g1, g2⟩ | ⟨g1, g2⟩
      · exact .inl ⟨g1, uponV_mono g2 fun v R' ⟨g3, g4⟩ => ⟨fun hk => g3 (Nat.le_trans (Nat.le_max_right ..) hk), onP_skipC hc g4⟩⟩
      · exact .inr ⟨g1, onP_skipC hc g2⟩
end
end Go.Proofs.Yteebobbhhgmeiaa
