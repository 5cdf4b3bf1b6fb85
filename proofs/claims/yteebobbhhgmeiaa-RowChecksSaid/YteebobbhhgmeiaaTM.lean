/- A symbolic run over typed data, part M: a region. -/
import Derived.Test.YteebobbhhgmeiaaTL
namespace Go.Proofs.Yteebobbhhgmeiaa
open Go.RowKit

/-! ### the objects that were there stay at the list's end -/
theorem bif_some {α : Type} {b : Bool} {x : Option α} {y : α} (h : (bif b then x else none) = some y) : x = some y := by cases b <;> first | exact h | cases h
theorem bif_none {α : Type} {b : Bool} {x : Option α} {y : α} (h : (bif b then none else x) = some y) : x = some y := by cases b <;> first | exact h | cases h
theorem drop1_sub (o : Objs) (d : Option Nat) : ∃ e, dropO1 o d = e ++ o := by
  cases d with
  | none => exact ⟨[], rfl⟩
  | some i => exact ⟨[(i, none)], rfl⟩
section
variable {E : Env} {s : St} {G : Guards}
theorem effE_sub (ok : EnvOk E) {o : Oper} {f : Eff} (he : effE E s G o = some f) : ∃ d, f.o = d ++ s.o := by
  obtain ⟨dst, op, type, pos, after, guard⟩ := o
  unfold effE at he
  simp only at he
  split at he
  · unfold allocE at he
    repeat' (first | (cases he; done) | (replace he := bif_some he) | split at he)
    all_goals (cases he; exact ⟨[_], rfl⟩)
  · unfold boxE at he
    repeat' (first | (cases he; done) | (replace he := bif_some he) | split at he)
    all_goals (cases he; exact ⟨[_], rfl⟩)
  · unfold setE at he
    repeat' (first | (cases he; done) | (replace he := bif_some he) | split at he)
    all_goals (cases he; exact ⟨[_], rfl⟩)
  · unfold buildSlE at he
    repeat' (first | (cases he; done) | (replace he := bif_some he) | split at he)
    all_goals (cases he; exact ⟨[_], rfl⟩)
  · unfold makeSlE at he
    repeat' (first | (cases he; done) | (replace he := bif_some he) | split at he)
    all_goals (cases he; exact ⟨[_], rfl⟩)
  · unfold strBytesE at he
    repeat' (first | (cases he; done) | (replace he := bif_some he) | split at he)
    all_goals (cases he; exact ⟨[], rfl⟩)
  · split at he <;> first | (cases he; done) | skip
    unfold appE at he
    repeat' (first | (cases he; done) | (replace he := bif_some he) | split at he)
    all_goals (cases he; first | exact ⟨[_], rfl⟩ | (obtain ⟨e, h⟩ := drop1_sub s.o _; exact ⟨_ :: e, by show _ :: dropO1 _ _ = _; rw [h]; rfl⟩))
  · split at he <;> first | (cases he; done) | skip
    unfold copyE at he
    repeat' (first | (cases he; done) | (replace he := bif_some he) | split at he)
    all_goals (cases he; exact ⟨[_], rfl⟩)
  · unfold callEff at he
    split at he <;> first | (cases he; done) | skip
    rename_i k x nx' o' ps hr
    cases he
    unfold callR at hr
    repeat' (first | (cases hr; done) | (replace hr := bif_some hr) | split at hr)
    exact ok.suf _ _ _ _ _ _ _ _ _ hr
  · unfold rangeE at he
    repeat' (first | (cases he; done) | split at he)
    all_goals (cases he; exact ⟨[_], rfl⟩)
  · unfold nextE at he
    repeat' (first | (cases he; done) | (replace he := bif_some he) | split at he)
    all_goals (cases he; exact ⟨[_], rfl⟩)
  · unfold mkMapE at he
    replace he := bif_some he
    cases he
    exact ⟨[_], rfl⟩
  · unfold mapUpE at he
    repeat' (first | (cases he; done) | (replace he := bif_some he) | split at he)
    all_goals (cases he; exact ⟨[_], rfl⟩)
  · cases he
theorem opE_sub (ok : EnvOk E) {o : Oper} {f : Eff} (he : opE E s G o = some f) : ∃ d, f.o = d ++ s.o := by
  unfold opE at he
  cases hl : loudB o.op with
  | true => rw [hl] at he; exact effE_sub ok he
  | false =>
    rw [hl] at he
    simp only [cond_false] at he
    split at he
    · cases he; exact ⟨[], rfl⟩
    · exact effE_sub ok he
theorem Sub.put (s : St) (u : Nat) (x : A) : Sub s (s.put u x) := ⟨rfl, [], rfl⟩
theorem Sub.lit (s : St) (u : Nat) (b : Bool) : Sub s (s.lit u b) := ⟨rfl, [], rfl⟩
theorem putE_sub {dst : Option Tmp} {f : Eff} {s' : St} (he : putE s dst f = some s') (hf : ∃ d, f.o = d ++ s.o) : Sub s s' := by
  unfold putE at he
  split at he
  · replace he := bif_some he
    cases he
    exact ⟨rfl, hf⟩
  · cases he
    exact ⟨rfl, hf⟩
theorem skipE_sub {o : Oper} {s' : St} (he : skipE s o = some s') : Sub s s' := by
  unfold skipE at he
  split at he
  · replace he := bif_some he
    cases he
    exact Sub.put _ _ _
  · cases he
    exact Sub.refl _
theorem doE_sub (ok : EnvOk E) {o : Oper} {c c' : Cnd} {ps ps' : List Prop} {k : Nat} {s' : St} (he : doE E s G o c ps = some (c', k, s', ps')) : Sub s s' := by
  unfold doE at he
  split at he <;> first | (cases he; done) | skip
  rename_i f hf
  split at he <;> first | (cases he; done) | skip
  rename_i s1 hs
  cases he
  exact putE_sub hs (opE_sub ok hf)
theorem qput_sub {dst : Option Tmp} {x : A} {ps ps' : List Prop} {s' : St} (he : qput s dst x ps = some (s', ps')) : Sub s s' := by
  unfold qput at he
  split at he
  · replace he := bif_some he
    cases he
    exact Sub.put _ _ _
  · cases he
    exact Sub.refl _
theorem qstep_sub {ops : List Oper} {o : Oper} {s' : St} {ps : List Prop} (he : qstep E ops s o = some (s', ps)) : Sub s s' := by
  unfold qstep at he
  split at he
  · split at he <;> first | (cases he; done) | skip
    exact qput_sub he
  · split at he <;> first | (cases he; done) | skip
    split at he
    · split at he <;> first | (cases he; done) | skip
      split at he
      · split at he <;> first | (cases he; done) | skip
        exact qput_sub he
      · exact qput_sub he
    · split at he <;> first | (cases he; done) | skip
      split at he <;> first | (cases he; done) | skip
      replace he := bif_some he
      replace he := bif_none he
      cases he
      exact Sub.put _ _ _
def subL (s : St) : List Outc → Prop
  | [] => True
  | (_, _, s', _) :: r => Sub s s' ∧ subL s r
theorem step0_sub (ok : EnvOk E) {ops : List Oper} {o : Oper} {l : List Outc} (he : step0 E ops s o = some l) : subL s l := by
  unfold step0 at he
  split at he
  · split at he <;> first | (cases he; done) | skip
    rename_i x hx
    obtain ⟨c, k, s', ps⟩ := x
    cases he
    exact ⟨doE_sub ok hx, trivial⟩
  · split at he <;> first | (cases he; done) | skip
    split at he
    · split at he <;> first | (cases he; done) | skip
      split at he
      · split at he <;> first | (cases he; done) | skip
        rename_i x hx
        obtain ⟨c, k, s', ps⟩ := x
        cases he
        exact ⟨doE_sub ok hx, trivial⟩
      · split at he <;> first | (cases he; done) | skip
        rename_i s' hs
        cases he
        exact ⟨skipE_sub hs, trivial⟩
    · split at he
      · split at he <;> first | (cases he; done) | skip
        replace he := bif_some he
        replace he := bif_none he
        cases he
        exact ⟨Sub.put _ _ _, trivial⟩
      · split at he <;> first | (cases he; done) | skip
        split at he <;> first | (cases he; done) | skip
        rename_i x s' hx hs
        obtain ⟨c, k, s1, ps⟩ := x
        cases he
        exact ⟨(Sub.lit _ _ _).trans (doE_sub ok hx), (Sub.lit _ _ _).trans (skipE_sub hs), trivial⟩
theorem freezeL_sub : ∀ {l : List Nat} {s s' : St} {ps : List Prop}, freezeL E l s = (s', ps) → Sub s s'
  | [], s, s', ps, he => by cases he; exact Sub.refl _
  | i :: r, s, s', ps, he => by
    unfold freezeL at he
    split at he
    · rename_i s1 ps1 h1
      generalize h2 : freezeL E r s1 = x at he
      obtain ⟨s2, qs⟩ := x
      cases he
      obtain ⟨e1, e2⟩ := freeze_sub h1
      exact Sub.trans ⟨e1, e2⟩ (freezeL_sub h2)
    · exact freezeL_sub he
theorem subL_trans {s1 : St} (h : Sub s s1) : ∀ {l : List Outc}, subL s1 l → subL s l
  | [], _ => trivial
  | _ :: _, ⟨h1, h2⟩ => ⟨h.trans h1, subL_trans h h2⟩
theorem subL_addN {ps : List Prop} : ∀ {l : List Outc}, subL s l → subL s (addN ps l)
  | [], _ => trivial
  | _ :: _, ⟨h1, h2⟩ => ⟨h1, subL_addN h2⟩
theorem subL_bump : ∀ {l : List Outc}, subL s l → subL s (bump l)
  | [], _ => trivial
  | _ :: _, ⟨h1, h2⟩ => ⟨h1, subL_bump h2⟩
theorem stepE_sub (ok : EnvOk E) {ops : List Oper} {o : Oper} {l : List Outc} (he : stepE E ops s o = some l) : subL s l := by
  unfold stepE at he
  split at he
  · rename_i l' hl
    cases he
    exact step0_sub ok hl
  · split at he <;> first | (cases he; done) | skip
    rename_i i r hc
    generalize hf : freezeL E (i :: r) s = x at he
    obtain ⟨s', ps⟩ := x
    simp only at he
    split at he <;> first | (cases he; done) | skip
    rename_i l' hl
    replace he := bif_some he
    cases he
    exact subL_addN (subL_trans (freezeL_sub hf) (step0_sub ok hl))
theorem skipN_sub {ops : List Oper} {o : Oper} {s' : St} {ps : List Prop} (he : skipN ops s o = some (s', ps)) : Sub s s' := by
  unfold skipN at he
  repeat' (first | (cases he; done) | split at he)
  all_goals (rename_i hs; cases he; exact skipE_sub hs)
theorem pathP_sub (ok : EnvOk E) {ops : List Oper} {o : Oper} {l : List Outc} (he : pathP E ops s o = some l) : subL s l := by
  unfold pathP at he
  split at he
  · rename_i s' ps hq
    cases he
    exact ⟨qstep_sub hq, trivial⟩
  · split at he
    · rename_i x r hs
      cases he
      exact subL_bump (stepE_sub ok hs)
    · split at he <;> first | (cases he; done) | skip
      rename_i s' ps hs
      cases he
      exact ⟨skipN_sub hs, trivial⟩
theorem subL_and {s1 : St} {c : Cnd} {r : List Outc} (h : Sub s s1) (hr : subL s r) : ∀ {l : List Outc}, subL s1 l → subL s (andL c l ++ r)
  | [], _ => hr
  | _ :: _, ⟨h1, h2⟩ => ⟨h.trans h1, subL_and h hr h2⟩
theorem open_sub (s : St) (u u2 : Nat) (b2 : Bool) (y : A) : Sub s (s.open1 u u2 b2 y) := ⟨rfl, [], rfl⟩
theorem pathE_sub (ok : EnvOk E) {ops : List Oper} {o : Oper} {l : List Outc} (he : pathE E ops s o = some l) : subL s l := by
  unfold pathE at he
  split at he
  · rename_i l' hl
    cases he
    exact pathP_sub ok hl
  · repeat' (first | (cases he; done) | split at he)
    rename_i l1 l2 h1 h2
    cases he
    exact subL_and (open_sub _ _ _ _ _) (subL_trans (open_sub _ _ _ _ _) (pathP_sub ok h2)) (pathP_sub ok h1)
def subP (s : St) : List Path → Prop
  | [] => True
  | (_, s') :: r => Sub s s' ∧ subP s r
theorem subP_addC {s1 : St} (h : Sub s s1) {c : Cnd} {r' : List Path} (hr : subP s r') : ∀ {l : List Outc}, subL s1 l → subP s (condC c l ++ r')
  | [], _ => hr
  | _ :: _, ⟨h1, h2⟩ => ⟨h.trans h1, subP_addC h hr h2⟩
theorem evWays_sub (ok : EnvOk E) {ops : List Oper} {o : Oper} : ∀ {l l' : List Path} {k : Nat} {qs : List Prop}, evWays E ops o l = some (k, l', qs) → subP s l → subP s l'
  | [], l', k, qs, he, _ => by cases he; trivial
  | (c, s1) :: r, l', k, qs, he, ⟨h1, h2⟩ => by
    unfold evWays at he
    split at he <;> first | (cases he; done) | skip
    rename_i l1 g1
    split at he <;> first | (cases he; done) | skip
    rename_i k' r' qs' g2
    cases he
    exact subP_addC h1 (evWays_sub ok g2 h2) (pathE_sub ok g1)
end

/-! ### ways put together -/
def mergeP (W : List Nat) (s0 : St) : List Path → St
  | [] => s0
  | [(_, s)] => s
  | (c, s) :: r => mergeS (cval c) W s0 s (mergeP W s0 r)
theorem mergeP_sub (W : List Nat) (s0 : St) : ∀ {l : List Path}, subP s0 l → Sub s0 (mergeP W s0 l)
  | [], _ => Sub.refl _
  | [(_, _)], ⟨h, _⟩ => h
  | (_, _) :: _ :: _, _ => Sub.merge _ _ _ _ _
section
variable {Z : Base} {F F0 : Nat → Prop} {N N0 : Nm} {s0 s : St} {a a0 : Act} {R R0 : World} {W : List Nat}
theorem Rel.over (h0 : Rel Z F0 N0 s0 a0 R0) (h : Rel (midB F0 N0 s0 a0 R0 W) F N s a R) (hW : ∀ u, inW u W = true → Z.W u) : Rel Z F N s a R :=
  ⟨h.defers, h.size, h.slots, h.hp, h0.st.trans h.st, fun u hu => by
    rw [h.tm u fun hw => hu (hW u hw)]
    exact h0.tm u hu⟩
theorem mergeP_ok (h0 : Rel Z F0 N0 s0 a0 R0) : ∀ {l : List Path}, subP s0 l → onP l (At (midB F0 N0 s0 a0 R0 W) a R) → At (midB F0 N0 s0 a0 R0 W) a R (mergeP W s0 l)
  | [], _, h => h.elim
  | [(c, s)], _, h => by
    rcases h with ⟨_, h⟩ | ⟨_, h⟩
    · exact h
    · exact h.elim
  | (c, s) :: p :: r, ⟨h1, h2⟩, h => by
    have e2 := mergeP_sub W s0 h2
    rcases h with ⟨hc, F, N, h⟩ | ⟨hc, h⟩
    · obtain ⟨N', hr⟩ := Rel.merge (g := cval c) (s1 := s) (s2 := mergeP W s0 (p :: r)) (h0.start W) (by rw [hc]; exact h) (fun _ h => h) h1 e2
      exact ⟨F, N', hr⟩
    · obtain ⟨F, N, h⟩ := mergeP_ok h0 h2 h
      obtain ⟨N', hr⟩ := Rel.merge (g := cval c) (s1 := s) (s2 := mergeP W s0 (p :: r)) (h0.start W) (by rw [hc]; exact h) (fun _ h => h) h1 e2
      exact ⟨F, N', hr⟩
end

/-! ### operations, one behind the other -/
def dstL : List Oper → List Nat
  | [] => []
  | o :: r => match o.dst with
    | some d => d :: dstL r
    | none => dstL r
def evOps (E : Env) (ops : List Oper) : List Oper → List Path → Option (List Path × List Prop)
  | [], l => some (l, [])
  | o :: r, l => match evWays E ops o l with
    | some (_, l', ps) => match evOps E ops r l' with
      | some (l'', qs) => some (l'', ps ++ qs)
      | none => none
    | none => none
theorem dstL_mem : ∀ {l : List Oper} {o : Oper} {d : Nat}, o ∈ l → o.dst = some d → inW d (dstL l) = true
  | [], o, d, h, _ => by cases h
  | x :: r, o, d, h, hd => by
    rcases List.mem_cons.1 h with rfl | h
    · unfold dstL
      rw [hd]
      show (bif Nat.beq d d then true else inW d (dstL r)) = true
      rw [beq_self]; rfl
    · have := dstL_mem h hd
      unfold dstL
      split
      · rename_i e _
        show (bif Nat.beq e d then true else inW d (dstL r)) = true
        rw [this]; cases Nat.beq e d <;> rfl
      · exact this
section
variable {E : Env} {Z : Base} {a : Act} {R : World}
theorem ops_ok (ok : EnvOk E) {ops : List Oper} {Q : Exit → Act → World → Prop} : ∀ {l : List Oper} {P P' : List Path} {ps : List Prop} {a : Act} {R : World}, (∀ o ∈ l, ∀ d, o.dst = some d → Z.W d) → onP P (At Z a R) → evOps E ops l P = some (P', ps) → (∀ p ∈ ps, p) →
    (∀ a' R', onP P' (At Z a' R') → Q .normal a' R') → wpList E.P ops.toArray Q l a R
  | [], P, P', ps, a, R, _, h, he, _, hk => by
    cases he
    exact hk a R h
  | o :: r, P, P', ps, a, R, hW, h, he, hp, hk => by
    unfold evOps at he
    split at he <;> first | (cases he; done) | skip
    rename_i k P1 ps1 h1
    split at he <;> first | (cases he; done) | skip
    rename_i P2 ps2 h2
    cases he
    have next : ∀ a' R', onP P1 (At Z a' R') → wpList E.P ops.toArray Q r a' R' := fun a' R' h' => ops_ok ok (fun o ho => hW o (List.mem_cons_of_mem _ ho)) h' h2 (fun p hm => hp p (List.mem_append.2 (.inr hm))) hk
    unfold wpList
    rcases evWays_ok ok (hW o (List.mem_cons_self ..)) h1 (fun p hm => hp p (List.mem_append.2 (.inl hm))) h with ⟨g1, g2⟩ | ⟨g1, g2⟩
    · rw [if_pos g1]
      left
      exact wp_uponV (uponV_mono g2 fun v R' ⟨_, g3⟩ => next _ _ g3)
    · rw [if_neg (by rw [g1]; exact Bool.false_ne_true)]
      exact next _ _ g2
theorem evOps_sub {s0 : St} (ok : EnvOk E) {ops : List Oper} : ∀ {l : List Oper} {P P' : List Path} {ps : List Prop}, evOps E ops l P = some (P', ps) → subP s0 P → subP s0 P'
  | [], P, P', ps, he, h => by cases he; exact h
  | o :: r, P, P', ps, he, h => by
    unfold evOps at he
    split at he <;> first | (cases he; done) | skip
    rename_i k P1 ps1 h1
    split at he <;> first | (cases he; done) | skip
    rename_i P2 ps2 h2
    cases he
    exact evOps_sub ok h2 (evWays_sub ok h1 h)
end

/-! ### a region that draws -/
def hasSl (P : Program) : Nat → TypeId → Bool
  | 0, _ => true
  | d + 1, t => match P.underlying t with
    | some (.slice _) => true
    | some (.struct fs) => fs.toList.any fun f => hasSl P d f.type
    | some (.array _ e) => hasSl P d e
    | some (.tuple es) => es.toList.any fun e => hasSl P d e
    | _ => false
def statM (P : Program) (o : Oper) : Bool := match o.op with
  | .alloc _ => true
  | .box _ _ => true
  | .buildSlice _ _ _ => true
  | .makeSlice _ _ _ => true
  | .store _ _ _ => true
  | .range _ _ => true
  | .next _ _ => true
  | .makeMap _ _ => true
  | .mapUpdate _ _ _ _ => true
  | .convert _ dst _ => match P.underlying dst with
    | some (.slice _) => true
    | _ => false
  | .call { callee := .builtin .append, .. } => true
  | .call { callee := .builtin .copy, .. } => true
  | .call { callee := .value _, .. } => hasSl P 4 o.type
  | _ => false
def depsIn (done : List Nat) (o : Oper) : Bool := o.after.toList.all fun e => !Region.binds .any e || done.contains e.on
def passP (P : Program) (ops : List Oper) : List Nat → List Nat → List Nat → List Nat × List Nat
  | [], done, left => (done, left.reverse)
  | i :: r, done, left => match ops[i]? with
    | some o => bif depsIn done o && !statM P o then passP P ops r (i :: done) left else passP P ops r done (i :: left)
    | none => passP P ops r done left
def firstM (ops : List Oper) (done : List Nat) : List Nat → Option (Nat × List Nat)
  | [] => none
  | i :: r => match ops[i]? with
    | some o => bif depsIn done o then some (i, r) else match firstM ops done r with
      | some (m, l) => some (m, i :: l)
      | none => none
    | none => none
def planG (P : Program) (ops : List Oper) : Nat → List Nat → List Nat → List Nat
  | 0, _, done => done.reverse
  | n + 1, todo, done => match passP P ops todo done [] with
    | (done', left) => match firstM ops done' left with
      | some (m, rest) => planG P ops n rest (m :: done')
      | none => done'.reverse
/-- The order in which the run takes a region that draws. -/
def plan (P : Program) (ops : List Oper) : List Nat := planG P ops (ops.length + 1) (List.range ops.length) []
def evK (E : Env) (ops : List Oper) : List Nat → List Path → Option (List Nat × List Path × List Prop)
  | [], l => some ([], l, [])
  | i :: r, l => match ops[i]? with
    | some o => match evWays E ops o l with
      | some (k, l', ps) => match evK E ops r l' with
        | some (ks, l'', qs) => some (k :: ks, l'', ps ++ qs)
        | none => none
      | none => none
    | none => none
def stK (E : Env) (ops : List Oper) : List Nat → List Path → Nat → Option (List Path)
  | _, l, 0 => some l
  | [], _, _ + 1 => none
  | i :: r, l, k + 1 => match ops[i]? with
    | some o => match evWays E ops o l with
      | some (_, l', _) => stK E ops r l' k
      | none => none
    | none => none
theorem stK_zero {E : Env} {ops : List Oper} {L : List Nat} {l : List Path} : stK E ops L l 0 = some l := by cases L <;> rfl
theorem evK_at {E : Env} {ops : List Oper} : ∀ {L : List Nat} {l : List Path} {ks : List Nat} {lF : List Path} {psF : List Prop}, evK E ops L l = some (ks, lF, psF) →
    stK E ops L l L.length = some lF ∧ ∀ k, k < L.length → ∃ l1 o l2 ps2, ops[L.getD k 0]? = some o ∧ stK E ops L l k = some l1 ∧ evWays E ops o l1 = some (ks.getD k 0, l2, ps2) ∧ (∀ p ∈ ps2, p ∈ psF) ∧ stK E ops L l (k + 1) = some l2
  | [], l, ks, lF, psF, h => by cases h; exact ⟨rfl, fun k hk => by cases hk⟩
  | i :: r, l, ks, lF, psF, h => by
    unfold evK at h
    split at h <;> first | (cases h; done) | skip
    rename_i o ho
    split at h <;> first | (cases h; done) | skip
    rename_i kd l' ps hst
    split at h <;> first | (cases h; done) | skip
    rename_i ks' l'' qs hr
    cases h
    obtain ⟨h1, h2⟩ := evK_at hr
    have hs : ∀ k, stK E ops (i :: r) l (k + 1) = stK E ops r l' k := fun k => by
      show (match ops[i]? with | some o => (match evWays E ops o l with | some (_, l', _) => stK E ops r l' k | none => none) | none => none) = _
      rw [ho]
      simp only [hst]
    refine ⟨by rw [List.length_cons, hs]; exact h1, fun k hk => ?_⟩
    cases k with
    | zero => exact ⟨l, o, l', ps, ho, stK_zero, hst, fun p hp => List.mem_append.2 (.inl hp), by rw [hs, stK_zero]⟩
    | succ k =>
      obtain ⟨s1, o1, s2, ps2, g1, g2, g3, g5, g6⟩ := h2 k (by simpa using hk)
      exact ⟨s1, o1, s2, ps2, by simpa using g1, by rw [hs]; exact g2, by simpa using g3, fun p hp => List.mem_append.2 (.inr (g5 p hp)), by rw [hs]; exact g6⟩
theorem evK_sub {E : Env} {s0 : St} (ok : EnvOk E) {ops : List Oper} : ∀ {L : List Nat} {P P' : List Path} {ks : List Nat} {ps : List Prop}, evK E ops L P = some (ks, P', ps) → subP s0 P → subP s0 P'
  | [], P, P', ks, ps, he, h => by cases he; exact h
  | i :: r, P, P', ks, ps, he, h => by
    unfold evK at he
    split at he <;> first | (cases he; done) | skip
    split at he <;> first | (cases he; done) | skip
    rename_i k P1 ps1 h1
    split at he <;> first | (cases he; done) | skip
    rename_i ks2 P2 ps2 h2
    cases he
    exact evK_sub ok h2 (evWays_sub ok h1 h)
/-! ### a load and a store of different boxes -/
def commP (E : Env) (o o' : Oper) (s : St) : Bool := match o.op, o'.op, o'.guard with
  | .load t x, .store t' x' v', none => match s.ev [] x, s.ev [] x' with
    | some (.own i _), some (.own i' _) => bif Nat.beq i i' then false else (match loadE E s [] t x, setE E s [] t' x' v' with
      | some _, some _ => true
      | _, _ => false)
    | _, _ => false
  | _, _, _ => false
def commL (E : Env) (o o' : Oper) : List Path → Bool
  | [] => true
  | (_, s) :: r => bif commP E o o' s then commL E o o' r else false
def commK (E : Env) (ops : List Oper) (order : List Nat) (l0 : List Path) (j k : Nat) : Bool := match ops[order.getD j 0]?, ops[order.getD k 0]?, stK E ops order l0 k with
  | some o, some o', some l => bif commL E o o' l then (match o.op with
    | .load _ (.tmp x) => (List.range (k - j)).all fun m => match ops[order.getD (j + m) 0]? with
      | some p => match p.dst with
        | some d => !(Nat.beq d x)
        | none => true
      | none => true
    | _ => false) else false
  | _, _, _ => false
section
variable {E : Env} {Z : Base} {F : Nat → Prop} {N : Nm} {s : St} {a : Act} {R : World}
theorem load_own (h : Rel Z F N s a R) {t : TypeId} {x : Operand} {i off : Nat} (hx : s.ev [] x = some (.own i off)) {z : A} {ps : List Prop} (he : loadE E s [] t x = some (z, ps)) :
    ∃ y, ∀ R', R'.heap[N.b i]? = R.heap[N.b i]? → (Instr.loadAt t (a.eval x)).run E.P R' = .ok y R' := by
  have hx' := (ev_ok h (gok_nil _) hx).2.own_inv
  unfold loadE at he
  rw [hx] at he
  simp only at he
  split at he <;> first | (cases he; done) | skip
  rename_i e cs hl
  split at he <;> first | (cases he; done) | skip
  rename_i z' hz
  cases he
  obtain ⟨_, vs, g1, g2⟩ := h.hp.ob i _ hl
  obtain ⟨y, _, q2⟩ := readL_ok (ad := ⟨N.b i, off, none⟩) hz (g1.drop off)
  refine ⟨y, fun R' hb => ?_⟩
  rw [run_loadAt hx'.2]
  refine q2 R' fun j v hj => ?_
  rw [add_mk, blk_cell (hb.trans g2)]
  rw [List.getElem?_drop] at hj
  simpa using hj
theorem set_own (h : Rel Z F N s a R) {t : TypeId} {x v : Operand} {i off : Nat} (hx : s.ev [] x = some (.own i off)) {f : Eff} (he : setE E s [] t x v = some f) :
    ∃ R', (Instr.storeAt t (a.eval x) (a.eval v)).run E.P R = .ok () R' ∧ R'.heap.size = R.heap.size ∧ ∀ g, g ≠ N.b i → R'.heap[g]? = R.heap[g]? := by
  have hx' := (ev_ok h (gok_nil _) hx).2.own_inv
  unfold setE at he
  split at he <;> first | (cases he; done) | skip
  rename_i us hus
  obtain ⟨hu, h1⟩ := cellsOf_ok h (gok_nil _) hus
  have hlen := hu.length
  split at he <;> first | (cases he; done) | skip
  rename_i n hn
  cases hb : Nat.beq n us.length with
  | false => rw [hb] at he; cases he
  | true =>
    rw [hb] at he
    obtain rfl := Nat.eq_of_beq_eq_true hb
    simp only [cond_true, hx] at he
    rw [← hlen] at hn
    split at he <;> first | (cases he; done) | skip
    rename_i e cs hl
    cases hb2 : Nat.ble (off + us.length) cs.length with
    | false => rw [hb2] at he; cases he
    | true =>
      have hle := Nat.le_of_ble_eq_true hb2
      obtain ⟨_, vs, g1, g2⟩ := h.hp.ob i _ hl
      have hvl := g1.length
      exact ⟨_, run_storeAt hx'.2 g2 hn (by omega) h1, by simp [World.setRow], fun g hg => setRow_other R _ g _ hg⟩
theorem comm_ok (h : Rel Z F N s a R) {o o' : Oper} (hc : commP E o o' s = true) :
    ∃ t x R' y, o.op = .load t x ∧ o'.guard = none ∧ (execOp a.eval o').run E.P R = .ok .skip R' ∧ (Instr.loadAt t (a.eval x)).run E.P R = .ok y R ∧
      ∀ w1, Below R'.heap.size R' w1 → (Instr.loadAt t (a.eval x)).run E.P w1 = .ok y w1 := by
  unfold commP at hc
  split at hc <;> first | (cases hc; done) | skip
  rename_i t x t' x' v' ho ho' hg
  split at hc <;> first | (cases hc; done) | skip
  rename_i i off i' off' hx hx'
  cases hb : Nat.beq i i' with
  | true => rw [hb] at hc; cases hc
  | false =>
    rw [hb] at hc
    simp only [cond_false] at hc
    split at hc <;> first | (cases hc; done) | skip
    rename_i zl f hl hf
    obtain ⟨z, ps⟩ := zl
    obtain ⟨y, g1⟩ := load_own h hx hl
    obtain ⟨R', g2, g3, g4⟩ := set_own h hx' hf
    have box : ∀ {i off : Nat} {x : Operand}, s.ev [] x = some (.own i off) → ∀ {t z ps}, loadE E s [] t x = some (z, ps) → ∃ e cs, lookO i s.o = some (.box e cs) := fun {i off x} hx {t z ps} he => by
      unfold loadE at he
      rw [hx] at he
      simp only at he
      split at he <;> first | (cases he; done) | skip
      exact ⟨_, _, by assumption⟩
    obtain ⟨e, cs, hbx⟩ := box hx hl
    have hbx' : ∃ e cs, lookO i' s.o = some (.box e cs) := by
      unfold setE at hf
      split at hf <;> first | (cases hf; done) | skip
      split at hf <;> first | (cases hf; done) | skip
      replace hf := bif_some hf
      simp only [hx'] at hf
      split at hf <;> first | (cases hf; done) | skip
      exact ⟨_, _, by assumption⟩
    obtain ⟨e', cs', hbx'⟩ := hbx'
    have hne : N.b i ≠ N.b i' := fun e => by
      have := h.hp.sep i i' _ _ (N.b i) hbx hbx' rfl e
      subst this
      simp at hb
    obtain ⟨_, vs, _, q2⟩ := h.hp.ob i _ hbx
    refine ⟨t, x, R', y, ho, hg, ?_, g1 R rfl, fun w1 hw => g1 w1 ?_⟩
    · obtain ⟨dst, op, type, pos, after, guard⟩ := o'
      simp only at ho'
      subst ho'
      simp [execOp, g2]
    · rw [hw.block _ (by rw [g3]; exact blk_lt q2)]
      exact g4 _ hne
theorem commL_at {o o' : Oper} : ∀ {l : List Path}, commL E o o' l = true → onP l (fun s => ∃ F N, Rel Z F N s a R) → ∃ s F N, Rel Z F N s a R ∧ commP E o o' s = true
  | [], _, h => h.elim
  | (c, s) :: r, hc, h => by
    unfold commL at hc
    cases hp : commP E o o' s with
    | false => rw [hp] at hc; cases hc
    | true =>
      rw [hp] at hc
      rcases h with ⟨_, F, N, h⟩ | ⟨_, h⟩
      · exact ⟨s, F, N, h, hp⟩
      · exact commL_at hc h
theorem canA_keep {ops : Array Oper} {ix : Nat → Nat} {a0 : Act} {V : Nat → Value} {x : Tmp} {j : Nat} : ∀ m, (∀ i, i < m → ∀ o, ops[ix (j + i)]? = some o → o.dst ≠ some x) → (canA ops ix a0 V (j + m)).tmps.getD x undef = (canA ops ix a0 V j).tmps.getD x undef
  | 0, _ => rfl
  | m + 1, h => by
    rw [← canA_keep m fun i hi => h i (by omega)]
    show ((canA ops ix a0 V (j + m)).put ((ops[ix (j + m)]?).bind (·.dst)) (V (j + m))).tmps.getD x undef = _
    cases ho : ops[ix (j + m)]? with
    | none => rfl
    | some o =>
      have hd := h m (by omega) o ho
      cases hdd : o.dst with
      | none => simp [Act.put, hdd]
      | some d =>
        simp only [Option.bind_some, hdd]
        rw [put_getD, if_neg]
        rintro ⟨rfl, _⟩
        exact hd hdd
end
abbrev R3 := Option (St × List Prop)
def evR (E : Env) (ops : List Oper) (draw : Bool) (s : St) : R3 := match draw with
  | true => match evK E ops (plan E.P ops) [(none, s)] with
    | some (ks, l, ps) => bif canonB ops.toArray (plan E.P ops) ks (commK E ops (plan E.P ops) [(none, s)]) then some (mergeP (dstL ops) s l, ps) else none
    | none => none
  | false => match evOps E ops ops [(none, s)] with
    | some (l, ps) => some (mergeP (dstL ops) s l, ps)
    | none => none
section
variable {E : Env} {Z : Base} {F : Nat → Prop} {N : Nm} {s : St} {a : Act} {R : World}
theorem onP_grow {l : List Path} {R' : World} (h : onP l (At Z a R)) (hb : Below R.heap.size R R') : onP l (At Z a R') :=
  onP_mono (fun _ ⟨F, N, h⟩ => ⟨F, N, h.grow hb⟩) h
theorem region_sub (ok : EnvOk E) {ops : List Oper} {draw : Bool} {s' : St} {ps : List Prop} (he : evR E ops draw s = some (s', ps)) : Sub s s' := by
  cases draw with
  | false =>
    unfold evR at he
    simp only at he
    split at he <;> first | (cases he; done) | skip
    rename_i l ps1 h1
    cases he
    exact mergeP_sub _ _ (evOps_sub ok h1 ⟨Sub.refl _, trivial⟩)
  | true =>
    unfold evR at he
    simp only at he
    split at he <;> first | (cases he; done) | skip
    rename_i ks l ps1 h1
    replace he := bif_some he
    cases he
    exact mergeP_sub _ _ (evK_sub ok h1 ⟨Sub.refl _, trivial⟩)
theorem region_ok (ok : EnvOk E) (h : Rel Z F N s a R) {id : Nat} {ops : List Oper} {draw : Bool} (hW : ∀ u, inW u (dstL ops) = true → Z.W u) {s' : St} {ps : List Prop} (he : evR E ops draw s = some (s', ps)) (hp : ∀ p ∈ ps, p) {Q : Exit → Act → World → Prop}
    (hk : ∀ F' N' a' R', Rel Z F' N' s' a' R' → Q .normal a' R') : (Code.region id ops.toArray draw).wp E.P Q a R := by
  have h00 : onP [((none : Cnd), s)] (At (midB F N s a R (dstL ops)) a R) := .inl ⟨rfl, F, N, h.start _⟩
  have hsub : subP s [((none : Cnd), s)] := ⟨Sub.refl _, trivial⟩
  have hdst : ∀ o ∈ ops, ∀ d, o.dst = some d → (midB F N s a R (dstL ops)).W d := fun o ho d hd => dstL_mem ho hd
  have fin : ∀ {l : List Path} {a' R'}, subP s l → onP l (At (midB F N s a R (dstL ops)) a' R') → s' = mergeP (dstL ops) s l → Q .normal a' R' := fun {l a' R'} hs ho e => by
    obtain ⟨F', N', hr⟩ := mergeP_ok h hs ho
    subst e
    exact hk F' N' a' R' (h.over hr hW)
  cases draw with
  | false =>
    unfold evR at he
    simp only at he
    split at he <;> first | (cases he; done) | skip
    rename_i l ps1 h1
    cases he
    exact wp_region_lit (ops_ok ok hdst h00 h1 hp fun a' R' ho => fin (evOps_sub ok h1 hsub) ho rfl)
  | true =>
    unfold evR at he
    simp only at he
    generalize plan E.P ops = order at he
    split at he <;> first | (cases he; done) | skip
    rename_i ks l ps1 h1
    cases hB : canonB ops.toArray order ks (commK E ops order [(none, s)]) with
    | false => rw [hB] at he; cases he
    | true =>
      rw [hB] at he
      cases he
      obtain ⟨hc, hn, hsink⟩ := canonB_ok hB
      obtain ⟨hF, hat⟩ := evK_at h1
      refine wp_canon (S := fun k A w => ∃ l1, stK E ops order [((none : Cnd), s)] k = some l1 ∧ onP l1 (At (midB F N s a R (dstL ops)) A w)) ok.wide hc ?_ ?_ (fun k A w w' ⟨l1, g1, g2⟩ hb => ⟨l1, g1, onP_grow g2 hb⟩) ⟨_, stK_zero, h00⟩ (fun A w' ⟨l1, g1, g2⟩ => ?_)
      · intro k A w hk' hM ⟨l0, g1, g2⟩ o ho
        obtain ⟨l1, o1, l2, ps2, e1, e2, e4, e5, e6⟩ := hat k hk'
        have ho' : ops[order.getD k 0]? = some o := by simpa using ho
        have : o1 = o := Option.some.inj (e1.symm.trans ho')
        subst this
        obtain rfl : l1 = l0 := Option.some.inj (e2.symm.trans g1)
        have hk0 : ks.getD k 0 = 0 := by
          have hM' : Nat.blt 0 (ks.getD k 0) = false := hM
          cases hz : ks.getD k 0 with
          | zero => rfl
          | succ m => rw [hz] at hM'; cases hM'
        rw [hk0] at e4
        obtain ⟨v, r1, r2⟩ := evWays_quiet ok (hdst o1 (List.mem_of_getElem? ho')) e4 (fun p hm => hp p (e5 p hm)) g2
        exact ⟨v, ⟨l2, e6, r1⟩, r2⟩
      · intro k A w hk' hM ⟨l0, g1, g2⟩ o ho
        obtain ⟨l1, o1, l2, ps2, e1, e2, e4, e5, e6⟩ := hat k hk'
        have ho' : ops[order.getD k 0]? = some o := by simpa using ho
        have : o1 = o := Option.some.inj (e1.symm.trans ho')
        subst this
        obtain rfl : l1 = l0 := Option.some.inj (e2.symm.trans g1)
        rcases evWays_ok ok (hdst o1 (List.mem_of_getElem? ho')) e4 (fun p hm => hp p (e5 p hm)) g2 with ⟨r1, r2⟩ | ⟨r1, r2⟩
        · by_cases hex : 1 < ks.getD k 0 ∧ ∃ j, j < k ∧ commK E ops order [(none, s)] j k = true
          · have hcm : ∀ j, j < k → commK E ops order [(none, s)] j k = true → ∃ o t x w' y, ops[order.getD j 0]? = some o ∧ o.op = .load t x ∧ (∀ V, canA ops.toArray (fun k => order.getD k 0) a V k = A → (canA ops.toArray (fun k => order.getD k 0) a V j).eval x = A.eval x) ∧ (execOp A.eval o1).run E.P w = .ok .skip w' ∧ (Instr.loadAt t (A.eval x)).run E.P w = .ok y w ∧
                ∀ w1, Below w'.heap.size w' w1 → (Instr.loadAt t (A.eval x)).run E.P w1 = .ok y w1 := fun j hj hc => by
              unfold commK at hc
              split at hc <;> first | (cases hc; done) | skip
              rename_i oj o1' l1' hoj ho1 hl1
              obtain rfl : o1' = o1 := Option.some.inj (ho1.symm.trans ho')
              obtain rfl : l1' = l1 := Option.some.inj (hl1.symm.trans g1)
              cases hcl : commL E oj o1' l1' with
              | false => rw [hcl] at hc; cases hc
              | true =>
                rw [hcl] at hc
                simp only [cond_true] at hc
                obtain ⟨s1, F1, N1, hr1, hp1⟩ := commL_at hcl g2
                obtain ⟨t, x, w', y, c1, c2, c3, c4, c5⟩ := comm_ok hr1 hp1
                refine ⟨oj, t, x, w', y, hoj, c1, fun V hV => ?_, c3, c4, c5⟩
                rw [c1] at hc
                cases x <;> first | (cases hc; done) | skip
                rename_i x
                have hkeep := canA_keep (ops := ops.toArray) (ix := fun k => order.getD k 0) (a0 := a) (V := V) (x := x) (j := j) (k - j) fun i hi o ho => by
                  have h7 := List.all_eq_true.1 hc i (List.mem_range.2 hi)
                  have ho2 : ops[order.getD (j + i) 0]? = some o := by simpa using ho
                  rw [ho2] at h7
                  intro hd
                  simp only [hd] at h7
                  simp at h7
                rw [show j + (k - j) = k by omega, hV] at hkeep
                exact hkeep.symm
            obtain ⟨hk2, j0, hj0, hc0⟩ := hex
            obtain ⟨_, _, _, w', _, _, _, _, hrun, _, _⟩ := hcm j0 hj0 hc0
            have r2' := r2
            rw [hrun] at r2'
            obtain ⟨_, q2⟩ := r2'
            refine .inl ⟨r1, ?_⟩
            rw [hrun]
            refine ⟨.inr fun j hj => ?_, l2, e6, q2⟩
            · rcases hsink k hk' (Nat.ble_eq_true_of_le hk2) j hj with h8 | h8
              · exact .inl h8
              · obtain ⟨o, t, x, w'', y, d1, d2, d3, d4, d5, d6⟩ := hcm j hj h8
                obtain rfl : w'' = w' := by rw [hrun] at d4; injection d4 with _ d4; exact d4.symm
                refine .inr fun V hV hpend o2 ho2 => ?_
                have ho3 : ops[order.getD j 0]? = some o2 := by simpa using ho2
                obtain rfl : o = o2 := Option.some.inj (d1.symm.trans ho3)
                have hex : ∀ w1, (execOp (canA ops.toArray (fun k => order.getD k 0) a V j).eval o).run E.P w1 = (do pure (.value (← Instr.loadAt t (A.eval x))) : Sem Next).run E.P w1 := fun w1 => by
                  obtain ⟨dst, op, type, pos, after, guard⟩ := o
                  simp only at d2
                  subst d2
                  show (do pure (.value (← Instr.loadAt t (Act.eval (canA ops.toArray (fun k => order.getD k 0) a V j) x))) : Sem Next).run E.P w1 = _
                  rw [d3 V hV]
                rcases hpend o ho2 with ⟨p1, p2⟩ | ⟨p1, p2⟩
                · refine .inl ⟨p1, fun w1 hw1 => ?_⟩
                  have p3 := p2 w (Below.refl _ _)
                  rw [hex, Sem.run_bind, d5] at p3
                  rw [hex, Sem.run_bind, d6 w1 hw1]
                  obtain ⟨_, p4⟩ := p3
                  exact ⟨rfl, p4⟩
                · exact .inr ⟨p1, p2⟩
          · refine .inl ⟨r1, uponV_mono r2 fun v w' ⟨q1, q2⟩ => ⟨?_, l2, e6, q2⟩⟩
            by_cases hk1 : ks.getD k 0 ≤ 1
            · exact .inl (q1 hk1)
            · refine .inr fun j hj => ?_
              have h9 : 1 < ks.getD k 0 := by omega
              rcases hsink k hk' (Nat.ble_eq_true_of_le h9) j hj with h8 | h8
              · exact .inl h8
              · exact absurd ⟨h9, j, hj, h8⟩ hex
        · exact .inr ⟨r1, l2, e6, r2⟩
      · rw [hF] at g1
        obtain rfl := Option.some.inj g1
        exact fin (evK_sub ok h1 hsub) g2 rfl
end
end Go.Proofs.Yteebobbhhgmeiaa
