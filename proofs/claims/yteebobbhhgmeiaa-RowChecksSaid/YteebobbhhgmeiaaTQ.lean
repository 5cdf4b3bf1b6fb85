/- A symbolic run over typed data, part Q: a function; tables of what calls come to. -/
import Derived.Test.YteebobbhhgmeiaaTO
namespace Go.Proofs.Yteebobbhhgmeiaa
open Go.RowKit

/-! ### results -/
def resV (E : Env) (s : St) : ResultVar → R2
  | .tmp t => match s.ev [] (.tmp t) with
    | some x => some (x, [])
    | none => none
  | .cell a t => loadE E s [] t (.tmp a)
def resL (E : Env) (s : St) : List ResultVar → Option (List A × List Prop)
  | [] => some ([], [])
  | r :: rs => match resV E s r with
    | some (v, ps) => match resL E s rs with
      | some (vs, qs) => some (v :: vs, ps ++ qs)
      | none => none
    | none => none
def tupA : List A → A
  | [x] => x
  | l => match rawL l with
    | some vs => .v (.tuple vs.toArray)
    | none => .tup l
def tupV : List Value → Value
  | [v] => v
  | l => .tuple l.toArray
def resM (tmps : Array Value) : ResultVar → Sem Value
  | .tmp t => pure (tmps.getD t undef)
  | .cell a t => do loadVar t (← asAddr (tmps.getD a undef))
theorem results_eq (fn : Func) (tmps : Array Value) : results fn tmps = (do let vs ← fn.results.mapM (resM tmps); pure (if h : vs.size = 1 then vs[0] else .tuple vs)) := rfl
section
variable {E : Env} {Z : Base} {F : Nat → Prop} {N : Nm} {s : St} {a : Act} {R : World}
theorem tupA_ok {nx : Nat} {l : List A} {vs : List Value} (h : HL F N nx R l vs) : Hv F N nx R (tupA l) (tupV vs) := by
  match l, h with
  | [], h =>
    rw [h.inv0]
    exact .v _
  | [x], h =>
    obtain ⟨v, us, rfl, h2, h3⟩ := h.inv
    rw [h3.inv0]
    exact h2
  | x :: y :: r, h =>
    obtain ⟨v, us, rfl, h2, h3⟩ := h.inv
    obtain ⟨w, ws, rfl, h4, h5⟩ := h3.inv
    show Hv F N nx R (match rawL (x :: y :: r) with | some vs => .v (.tuple vs.toArray) | none => .tup (x :: y :: r)) (.tuple (v :: w :: ws).toArray)
    split
    · rename_i us hu
      rw [rawL_ok hu h]
      exact .v _
    · exact Hv.of_tup h
theorem resV_ok (h : Rel Z F N s a R) {r : ResultVar} {x : A} {ps : List Prop} (he : resV E s r = some (x, ps)) (hp : ∀ p ∈ ps, p) : ∃ v, Hv F N s.nx R x v ∧ (resM a.tmps r).run E.P R = .ok v R := by
  cases r with
  | tmp t =>
    unfold resV at he
    simp only at he
    split at he <;> first | (cases he; done) | skip
    rename_i z hz
    cases he
    exact ⟨_, (ev_ok h (gok_nil _) hz).2, rfl⟩
  | cell c t =>
    obtain ⟨v, h1, h2⟩ := load_ok h (gok_nil _) he hp
    refine ⟨v, h1, ?_⟩
    have h3 : (Instr.loadAt t (a.tmps.getD c undef)).run E.P R = .ok v R := h2 R (Below.refl _ _)
    show (do loadVar t (← asAddr (a.tmps.getD c undef)) : Sem Value).run E.P R = _
    unfold Instr.loadAt at h3
    generalize a.tmps.getD c undef = p at *
    cases p <;> first | (simp [Instr.sureAddr] at h3; done) | skip
    rename_i ad
    cases ad with
    | none => simp [Instr.sureAddr] at h3
    | some ad => simpa [Instr.sureAddr, asAddr] using h3
theorem resL_ok (h : Rel Z F N s a R) : ∀ {l : List ResultVar} {xs : List A} {ps : List Prop}, resL E s l = some (xs, ps) → (∀ p ∈ ps, p) → ∃ vs, HL F N s.nx R xs vs ∧ (l.mapM (resM a.tmps)).run E.P R = .ok vs R
  | [], xs, ps, he, _ => by cases he; exact ⟨[], HL.nil, rfl⟩
  | r :: rs, xs, ps, he, hp => by
    unfold resL at he
    split at he <;> first | (cases he; done) | skip
    rename_i x ps1 h1
    split at he <;> first | (cases he; done) | skip
    rename_i xs1 qs h2
    cases he
    obtain ⟨v, g1, g2⟩ := resV_ok h h1 fun p hm => hp p (List.mem_append.2 (.inl hm))
    obtain ⟨vs, g3, g4⟩ := resL_ok h h2 fun p hm => hp p (List.mem_append.2 (.inr hm))
    refine ⟨v :: vs, HL.cons g1 g3, ?_⟩
    rw [List.mapM_cons]
    simp only [Sem.run_bind, g2, Result.andThen_ok, g4, Sem.run_pure]
theorem results_ok (h : Rel Z F N s a R) {fn : Func} {xs : List A} {ps : List Prop} (he : resL E s fn.results.toList = some (xs, ps)) (hp : ∀ p ∈ ps, p) : ∃ v, Hv F N s.nx R (tupA xs) v ∧ (results fn a.tmps).run E.P R = .ok v R := by
  obtain ⟨vs, h1, h2⟩ := resL_ok h he hp
  refine ⟨tupV vs, tupA_ok h1, ?_⟩
  rw [results_eq, Array.mapM_eq_mapM_toList]
  simp only [Sem.run_bind, Sem.run_map, h2, Result.andThen_ok, Sem.run_pure]
  congr 1
  match vs with
  | [] => simp [tupV]
  | [x] => simp [tupV]
  | x :: y :: r => simp [tupV]
end

/-! ### what a result names -/
def refsA (nb : Nat) (o : Objs) : Nat → A → List Nat
  | 0, _ => []
  | d + 1, x => match x with
    | .sq i | .vw i _ _ _ _ | .el i _ _ _ | .own i _ | .ownx i _ _ _ | .mp i => bif Nat.blt i nb then [] else i :: (match lookO i o with
      | some (.box _ cs) => cs.flatMap (refsA nb o d)
      | some (.arr _ _ (.lst cs)) => cs.flatMap fun l => l.flatMap (refsA nb o d)
      | _ => [])
    | .agg xs => xs.flatMap (refsA nb o d)
    | .tup xs => xs.flatMap (refsA nb o d)
    | .fn _ xs ys => xs.flatMap (refsA nb o d) ++ ys.flatMap (refsA nb o d)
    | _ => []
/-- What the old objects name. -/
def refsO (nb : Nat) (o : Objs) : List Nat → List Nat
  | [] => []
  | k :: r => (bif Nat.blt k nb then (match lookO k o with
    | some (.box _ cs) => cs.flatMap (refsA nb o 4)
    | some (.arr _ _ (.lst cs)) => cs.flatMap fun l => l.flatMap (refsA nb o 4)
    | _ => []) else []) ++ refsO nb o r
def mkRen : List Nat → Nat → Ren2 → Ren2
  | [], _, L => L
  | k :: r, j, L => match fwd L k with
    | some _ => mkRen r j L
    | none => mkRen r (j + 1) (L ++ [(k, j)])
def onlyRet : Outs → Bool
  | [] => true
  | (none, _, _) :: r => onlyRet r
  | _ => false
theorem onlyRet_ok : ∀ {o : Outs} {i : Nat}, onlyRet o = true → getO (some i) o = none
  | [], _, _ => rfl
  | (none, _, _) :: r, i, h => onlyRet_ok (o := r) h
  | (some _, _, _) :: _, _, h => by cases h
def endS (W : List Nat) (s0 : St) (r : Res) : Option St := bif onlyRet r.outs then (match getO none r.outs, r.nrm with
  | some (_, s), none => some s
  | none, some s => some s
  | some (c, s), some s' => some (mergeS (cval c) W s0 s s')
  | none, none => none) else none
def fin2 (k : Nat) (s0 s : St) (x : A) (ps : List Prop) (L : Ren2) : Option CRes :=
  bif okRen s0.nx (s0.nx + L.length) L then some (k, x.pk (rho2 s0.nx L), s0.nx + L.length, pkObjs s0.nx L s.o s0.o, ps) else none
def finR (E : Env) (fn : Func) (k : Nat) (W : List Nat) (s0 : St) (r : Res) : Option CRes := match endS W s0 r with
  | some s => match resL E s fn.results.toList with
    | some (l, ps) => fin2 k s0 s (tupA l) (r.ps ++ ps) (mkRen (refsA s0.nx s.o 6 (tupA l) ++ refsO s0.nx s.o (newK s.o s0.o.length)) s0.nx [])
    | none => none
  | none => none
def slotsOf : Nat → List A → Slots
  | _, [] => []
  | k, x :: r => (k, x) :: slotsOf (k + 1) r
def initS (n : Nat) (args : List A) (nx : Nat) (o : Objs) : St := ⟨n, nx, slotsOf 0 args, o⟩
def isNil0 : Objs → Bool
  | [] => true
  | _ => false
def evF (E : Env) (u : Nat) (f : FuncId) (args : List A) (nx : Nat) (o : Objs) : Option CRes := match E.P.funcs[f]? with
  | some fn => match fn.body with
    | some c => bif Nat.ble args.length fn.ntmps then finR E fn (bif isNil0 o then 1 else 2) (wrC c) (initS fn.ntmps args nx o) (evC E u c (initS fn.ntmps args nx o)) else none
    | none => none
  | none => none

theorem look_slots {u : Nat} {x : A} : ∀ {l : List A} {k : Nat}, look u (slotsOf k l) = some x → ∃ i, u = k + i ∧ l[i]? = some x
  | [], _, h => by cases h
  | y :: r, k, h => by
    have h' : (bif Nat.beq k u then some y else look u (slotsOf (k + 1) r)) = some x := h
    cases hb : Nat.beq k u with
    | true =>
      rw [hb] at h'
      exact ⟨0, (Nat.eq_of_beq_eq_true hb).symm, h'⟩
    | false =>
      rw [hb] at h'
      obtain ⟨i, h1, h2⟩ := look_slots h'
      exact ⟨i + 1, by omega, h2⟩
theorem init_rel {n nx : Nat} {args : List A} {o : Objs} {vs : List Value} {F : Nat → Prop} {N : Nm} {R : World} (hl : args.length ≤ n) (hh : HRel F N nx o R) (ha : HL F N nx R args vs) :
    Rel ⟨F, N, nx, o, R, tmOf { tmps := vs.toArray ++ Array.replicate (n - vs.toArray.size) undef, defers := [] }, fun _ => True⟩ F N (initS n args nx o) { tmps := vs.toArray ++ Array.replicate (n - vs.toArray.size) undef, defers := [] } R := by
  have hlen := ha.length
  refine ⟨rfl, ?_, fun u x hu => ?_, hh, .refl, fun _ _ => rfl⟩
  · show (vs.toArray ++ Array.replicate (n - vs.toArray.size) undef).size = n
    simp
    omega
  · obtain ⟨i, h1, h2⟩ := look_slots hu
    obtain rfl : u = i := by omega
    obtain ⟨v, h3, h4⟩ := ha.get h2
    have hu' : u < vs.length := (List.getElem?_eq_some_iff.1 h3).1
    have : tmOf { tmps := vs.toArray ++ Array.replicate (n - vs.toArray.size) undef, defers := [] } u = v := by
      unfold tmOf
      simp only [Array.getD_eq_getD_getElem?]
      rw [Array.getElem?_append_left (by simpa using hu'), List.getElem?_toArray, h3]
      rfl
    rw [this]
    exact (HS_plain h4.isPlain).2 h4
section
variable {E : Env}
theorem endS_ok {Z : Base} {F : Nat → Prop} {N : Nm} {a0 : Act} {R0 : World} {W : List Nat} {s0 : St} (h0 : Rel Z F N s0 a0 R0) {r : Res} (hw : Wf s0 r) {s : St} (he : endS W s0 r = some s) {e : Exit} {x : St} {a : Act} {R : World} (ho : Oc r e x) (hx : At (midB F N s0 a0 R0 W) a R x) :
    (e = .ret ∨ e = .normal) ∧ At (midB F N s0 a0 R0 W) a R s ∧ Sub s0 s := by
  unfold endS at he
  cases hr : onlyRet r.outs with
  | false => rw [hr] at he; cases he
  | true =>
    rw [hr] at he
    simp only [cond_true] at he
    split at he <;> first | (cases he; done) | skip
    · rename_i c s' hg hn
      cases he
      rcases ho with ⟨t, c', rfl, h1, h2, h3⟩ | ⟨rfl, h1, h2⟩
      · cases t with
        | none => rw [hg] at h1; cases h1; exact ⟨.inl rfl, hx, hw.outs _ _ _ hg⟩
        | some i => rw [onlyRet_ok hr] at h1; cases h1
      · rw [hn] at h1; cases h1
    · rename_i hg hn
      cases he
      rcases ho with ⟨t, c', rfl, h1, h2, h3⟩ | ⟨rfl, h1, h2⟩
      · cases t with
        | none => rw [hg] at h1; cases h1
        | some i => rw [onlyRet_ok hr] at h1; cases h1
      · rw [hn] at h1; cases h1; exact ⟨.inr rfl, hx, hw.nrm _ hn⟩
    · rename_i c s1 s2 hg hn
      cases he
      rcases ho with ⟨t, c', rfl, h1, h2, h3⟩ | ⟨rfl, h1, h2⟩
      · cases t with
        | none =>
          rw [hg] at h1; cases h1
          exact ⟨.inl rfl, lift_m (g := cval c) h0 (hw.outs _ _ _ hg) (hw.nrm _ hn) (by rw [h2]; rfl) _ _ hx, Sub.merge _ _ _ _ _⟩
        | some i => rw [onlyRet_ok hr] at h1; cases h1
      · rw [hn] at h1
        cases h1
        exact ⟨.inr rfl, lift_m (g := cval c) h0 (hw.outs _ _ _ hg) (hw.nrm _ hn) (by rw [h2 _ _ _ hg]; rfl) _ _ hx, Sub.merge _ _ _ _ _⟩
/-- **A function does what its run says.** -/
theorem evF_ok (ok : CodeOk E) {u : Nat} {f : FuncId} {args : List A} {nx : Nat} {o : Objs} {k nx' : Nat} {x : A} {o' : Objs} {ps : List Prop} (he : evF E u f args nx o = some (k, x, nx', o', ps)) (hp : ∀ p ∈ ps, p) :
    CallOk E.P f args nx o k x nx' o' := by
  unfold evF at he
  split at he <;> first | (cases he; done) | skip
  rename_i fn hf
  split at he <;> first | (cases he; done) | skip
  rename_i c hc
  cases hl : Nat.ble args.length fn.ntmps with
  | false => rw [hl] at he; cases he
  | true =>
    rw [hl] at he
    simp only [cond_true] at he
    have hle := Nat.le_of_ble_eq_true hl
    generalize hk0 : (bif isNil0 o then 1 else 2) = k0 at he
    generalize hr : evC E u c (initS fn.ntmps args nx o) = r at he
    unfold finR at he
    split at he <;> first | (cases he; done) | skip
    rename_i s hs
    split at he <;> first | (cases he; done) | skip
    rename_i l qs hres
    generalize mkRen (refsA (initS fn.ntmps args nx o).nx s.o 6 (tupA l) ++ refsO (initS fn.ntmps args nx o).nx s.o (newK s.o (initS fn.ntmps args nx o).o.length)) (initS fn.ntmps args nx o).nx [] = L at he
    unfold fin2 at he
    cases hok : okRen (initS fn.ntmps args nx o).nx ((initS fn.ntmps args nx o).nx + L.length) L with
    | false => rw [hok] at he; cases he
    | true =>
      rw [hok] at he
      cases he
      intro F N R vs hh ha
      · have h0 := init_rel hle hh ha
        have hlen := ha.length
        refine calls_of_wp hf hc ?_
        have hwf := wf_code ok (u := u) 0 c false (initS fn.ntmps args nx o)
        have hr' : evH E u 0 c false (initS fn.ntmps args nx o) = r := hr
        rw [hr'] at hwf
        have key := code_ok ok (u := u) 0 c false (midB F N (initS fn.ntmps args nx o) { tmps := vs.toArray ++ Array.replicate (fn.ntmps - vs.toArray.size) undef, defers := [] } R (wrC c)) (initS fn.ntmps args nx o) { tmps := vs.toArray ++ Array.replicate (fn.ntmps - vs.toArray.size) undef, defers := [] } R
          (bodyPost E.P fn fun e R' => ∃ y F' N', e = .returned y ∧ HRel F' N' (nx + L.length) (pkObjs nx L s.o o) R' ∧ Step F N nx o R F' N' (nx + L.length) (pkObjs nx L s.o o) R' ∧ Hv F' N' (nx + L.length) R' ((tupA l).pk (rho2 nx L)) y ∧ (k ≤ 1 → Below R.heap.size R R')) ⟨F, N, h0.start _⟩ (fun u hu => hu) (by rw [hr']; exact fun p hm => hp p (List.mem_append.2 (.inl hm)))
        refine key fun e z a' R' ho hz => ?_
        rw [hr'] at ho
        obtain ⟨h1, ⟨F', N', h2⟩, h3⟩ := endS_ok h0 hwf hs ho hz
        obtain ⟨y, g1, g2⟩ := results_ok h2 hres fun p hm => hp p (List.mem_append.2 (.inr hm))
        obtain ⟨d, hd⟩ := h3.seq
        have hd' : s.o = d ++ o := hd
        obtain ⟨q1, q2⟩ := pkObjs_ok (nb := nx) (nx' := nx + L.length) (L := L) h2.hp hok (Nat.le_add_right _ _) hd' hh
        have hst : Step F N nx o R F' N' s.nx s.o R' := h2.st
        have small : ∀ k, k < nx → inv2 nx L k = k := fun k hk => by unfold inv2; rw [show Nat.blt k nx = true from Nat.ble_eq_true_of_le hk]; rfl
        have hst2 : Step F N nx o R F' (nm2 N' nx L) (nx + L.length) (pkObjs nx L s.o o) R' := ⟨Nat.le_add_right _ _, fun i hi => by show N'.b (inv2 nx L i) = _; rw [small i hi]; exact hst.b i hi, fun i hi => by show N'.q (inv2 nx L i) = _; rw [small i hi]; exact hst.q i hi, hst.f, hst.fnew, fun g hg => hst.foot g (q2 g hg), hst.os, hst.tape, hst.output, hst.size, hst.keep⟩
        have post : a'.defers = [] ∧ ∃ v, (results fn a'.tmps).run E.P R' = .ok v R' ∧ ∃ y F' N', Ending.returned v = .returned y ∧ HRel F' N' (nx + L.length) (pkObjs nx L s.o o) R' ∧ Step F N nx o R F' N' (nx + L.length) (pkObjs nx L s.o o) R' ∧ Hv F' N' (nx + L.length) R' ((tupA l).pk (rho2 nx L)) y ∧ (k ≤ 1 → Below R.heap.size R R') := by
          refine ⟨h2.defers, y, g2, y, F', nm2 N' nx L, rfl, q1, hst2, g1.pk (pk2 hok (Nat.le_add_right _ _)), fun hk => ?_⟩
          cases o with
          | nil => exact hst.below
          | cons p r => rw [← hk0] at hk; cases hk with | step hk => cases hk
        rcases h1 with rfl | rfl
        · exact post
        · exact post
theorem evF_suf {u : Nat} {f : FuncId} {args : List A} {nx : Nat} {o : Objs} {k nx' : Nat} {x : A} {o' : Objs} {ps : List Prop} (he : evF E u f args nx o = some (k, x, nx', o', ps)) : ∃ d, o' = d ++ o := by
  unfold evF at he
  split at he <;> first | (cases he; done) | skip
  split at he <;> first | (cases he; done) | skip
  rename_i c hc
  replace he := bif_some he
  unfold finR at he
  split at he <;> first | (cases he; done) | skip
  rename_i s hs
  split at he <;> first | (cases he; done) | skip
  unfold fin2 at he
  replace he := bif_some he
  cases he
  exact ⟨_, by unfold pkObjs; rw [← List.append_assoc]; rfl⟩
end

/-! ### tables -/
def TOk (P : Program) (f : FuncId) (g : List A → Nat → Objs → Option CRes) : Prop :=
  ∀ args nx o k x nx' o' ps, g args nx o = some (k, x, nx', o', ps) → ((∀ p ∈ ps, p) → CallOk P f args nx o k x nx' o') ∧ ∃ d, o' = d ++ o
def COk (P : Program) (C : Tab) : Prop := ∀ f args nx o k x nx' o' ps, C f args nx o = some (k, x, nx', o', ps) → ((∀ p ∈ ps, p) → CallOk P f args nx o k x nx' o') ∧ ∃ d, o' = d ++ o
def EqOk (P : Program) (eq : TypeId → List Value → List Value → Option Bool) : Prop :=
  ∀ t xs ys b, eq t xs ys = some b → P.eqGuardType P.depth t = false ∧ ∀ R, (Op.equalIn 10000 t (.agg xs.toArray) (.agg ys.toArray)).run P R = .ok b R
def TcOk (P : Program) (tc : TypeId → Option TC) : Prop :=
  ∀ t c, tc t = some c → ∃ i, P.info? t = some i ∧ i.size = size c ∧ 0 < size c ∧ ∃ z, i.zero = some z ∧ ∀ (F : Nat → Prop) (N : Nm) (nx : Nat) (R : World), HL F N nx R (enc c (dflt c)) z.cells.toList
abbrev LTab := Nat → St → Option (Code × List Prop × Outs)
def C0 : Tab := fun _ _ _ _ => none
theorem C0_ok {P : Program} : COk P C0 := fun _ _ _ _ _ _ _ _ _ h => by cases h
def L0 : LTab := fun _ _ => none
def addC (f0 : FuncId) (g : List A → Nat → Objs → Option CRes) (C : Tab) : Tab := fun f args nx o => bif Nat.beq f f0 then g args nx o else C f args nx o
theorem addC_ok {P : Program} {f0 : FuncId} {g : List A → Nat → Objs → Option CRes} {C : Tab} (hg : TOk P f0 g) (hC : COk P C) : COk P (addC f0 g C) := fun f args nx o k x nx' o' ps h => by
  unfold addC at h
  cases hb : Nat.beq f f0 with
  | true =>
    rw [hb] at h
    rw [Nat.eq_of_beq_eq_true hb]
    exact hg args nx o k x nx' o' ps h
  | false => rw [hb] at h; exact hC f args nx o k x nx' o' ps h
/-- Two patterns of one function. -/
def orT (g g' : List A → Nat → Objs → Option CRes) : List A → Nat → Objs → Option CRes := fun args nx o => match g args nx o with
  | some x => some x
  | none => g' args nx o
theorem orT_ok {P : Program} {f : FuncId} {g g' : List A → Nat → Objs → Option CRes} (h : TOk P f g) (h' : TOk P f g') : TOk P f (orT g g') := fun args nx o k x nx' o' ps he => by
  unfold orT at he
  split at he
  · rename_i x hx
    cases he
    exact h args nx o k _ nx' o' ps hx
  · exact h' args nx o k x nx' o' ps he
theorem needs_nil : ∀ p ∈ ([] : List Prop), p := fun _ h => by cases h
theorem needs_cons {p : Prop} {ps : List Prop} (h : p) (t : ∀ q ∈ ps, q) : ∀ q ∈ p :: ps, q := fun q hq => by
  rcases List.mem_cons.1 hq with rfl | hq
  · exact h
  · exact t q hq
theorem needs_app {ps qs : List Prop} (h : ∀ q ∈ ps, q) (t : ∀ q ∈ qs, q) : ∀ q ∈ ps ++ qs, q := fun q hq => by
  rcases List.mem_append.1 hq with hq | hq
  · exact h q hq
  · exact t q hq

/-! ### values that name no object -/
mutual
def A.free : A → Bool
  | .v _ => true
  | .sl _ _ => true
  | .nl => true
  | .agg xs => freeL xs
  | .tup xs => freeL xs
  | .fn _ xs ys => freeL xs && freeL ys
  | .ref xs => freeL xs
  | _ => false
def freeL : List A → Bool
  | [] => true
  | x :: r => x.free && freeL r
end
theorem freeL_get : ∀ {l : List A} {j : Nat} {x : A}, freeL l = true → l[j]? = some x → x.free = true
  | [], j, x, _, h => by cases j <;> cases h
  | y :: r, 0, x, hf, h => by cases h; unfold freeL at hf; rw [Bool.and_eq_true] at hf; exact hf.1
  | y :: r, j + 1, x, hf, h => by unfold freeL at hf; rw [Bool.and_eq_true] at hf; exact freeL_get (l := r) hf.2 h
theorem enc_free (c : TC) (d : U c) : ∀ x ∈ enc c d, x.free = true := fun x hx => by
  have := enc_plain c d x hx
  cases x <;> first | (unfold A.free; rfl) | exact this.elim
section
variable {F : Nat → Prop} {N N' : Nm} {nx nx' : Nat} {R : World}
theorem Hv.free {x : A} {y : Value} (h : Hv F N nx R x y) : x.free = true → Hv F N' nx' R x y := by
  induction h with
  | v x => intro _; exact .v x
  | @sl c l a cap ad h1 h2 h3 h4 ih => intro _; exact .sl ad h1 h2 h3 fun i d j x y hd hx hy => ih i d j x y hd hx hy (enc_free c d x (List.mem_of_getElem? hx))
  | @ref l ad h1 h2 h3 ih => intro hf; unfold A.free at hf; exact .ref ad h1 h2 fun j x y hx hy => ih j x y hx hy (freeL_get hf hx)
  | own h => intro hf; unfold A.free at hf; cases hf
  | ownx h => intro hf; unfold A.free at hf; cases hf
  | sq h => intro hf; unfold A.free at hf; cases hf
  | vw h => intro hf; unfold A.free at hf; cases hf
  | el h => intro hf; unfold A.free at hf; cases hf
  | mp h => intro hf; unfold A.free at hf; cases hf
  | nl a => intro _; exact .nl a
  | it q vs y h => intro hf; unfold A.free at hf; cases hf
  | fn vs us h1 _ h3 _ ih2 ih4 => intro hf; unfold A.free at hf; rw [Bool.and_eq_true] at hf; exact .fn vs us h1 (fun j x v hx hv => ih2 j x v hx hv (freeL_get hf.1 hx)) h3 fun j x v hx hv => ih4 j x v hx hv (freeL_get hf.2 hx)
  | agg vs h1 _ ih => intro hf; unfold A.free at hf; exact .agg vs h1 fun j x v hx hv => ih j x v hx hv (freeL_get hf hx)
  | tup vs h1 _ ih => intro hf; unfold A.free at hf; exact .tup vs h1 fun j x v hx hv => ih j x v hx hv (freeL_get hf hx)
  | dead y => intro hf; unfold A.free at hf; cases hf
theorem HL.free : ∀ {xs : List A} {vs : List Value}, freeL xs = true → HL F N nx R xs vs → HL F N' nx' R xs vs
  | [], _, _, h => h
  | x :: r, _, hf, ⟨v, vs, h1, h2, h3⟩ => by unfold freeL at hf; rw [Bool.and_eq_true] at hf; exact ⟨v, vs, h1, h2.free hf.1, HL.free hf.2 h3⟩
theorem HRel.none {o : Objs} (h : HRel F N nx o R) : HRel F N' nx' [] R := ⟨h.flt, (fun i ob hi => by cases hi), (fun i ob g hi => by cases hi), fun i j x y g hi => by cases hi⟩
end
/-- What a call comes to beside objects that it does not know. -/
theorem callOk_frame {P : Program} {f : FuncId} {args : List A} {nx k nx' : Nat} {x : A} {o o' : Objs} (h : CallOk P f args nx [] k x nx' o') (hk : k ≤ 1) : CallOk P f args nx o 1 x nx' (o' ++ o) := fun F N R vs hh ha => by
  refine (h F N R vs (hh.none) ha).mono fun e R' ⟨y, F', N', e1, e2, e3, e4, e5⟩ => ?_
  obtain ⟨g1, g2⟩ := hh.frame (o1 := []) (o' := o' ++ o) (fun i ob hi => by cases hi) e3 e2 fun i ob hi => by
    rcases lookO_split hi with ⟨_, h1⟩ | ⟨_, h1⟩
    · exact .inl h1
    · exact .inr ⟨h1, rfl⟩
  exact ⟨y, F', N', e1, g1, g2, e4, fun _ => e5 hk⟩
def shiftR (nx : Nat) : Nat → Option Nat := fun i => some (nx + i)
def shiftO (nx : Nat) : Objs → Objs
  | [] => []
  | (k, some ob) :: r => (nx + k, some (ob.pk (shiftR nx))) :: shiftO nx r
  | (k, none) :: r => (nx + k, none) :: shiftO nx r
theorem lookO_shift {nx j : Nat} {ob' : Ob} : ∀ {o : Objs}, lookO j (shiftO nx o) = some ob' → ∃ i ob, j = nx + i ∧ lookO i o = some ob ∧ ob' = ob.pk (shiftR nx)
  | [], h => by cases h
  | (k, x) :: r, h => by
    have step : ∀ z, (bif Nat.beq (nx + k) j then z else lookO j (shiftO nx r)) = some ob' → (∀ ob, x = some ob → z = some (ob.pk (shiftR nx))) → (x = none → z = none) → ∃ i ob, j = nx + i ∧ (bif Nat.beq k i then x else lookO i r) = some ob ∧ ob' = ob.pk (shiftR nx) := fun z hz h1 h2 => by
      cases hb : Nat.beq (nx + k) j with
      | true =>
        rw [hb] at hz
        obtain rfl := Nat.eq_of_beq_eq_true hb
        cases x with
        | none => rw [h2 rfl] at hz; cases hz
        | some ob =>
          rw [h1 ob rfl] at hz
          cases hz
          exact ⟨k, ob, rfl, by rw [beq_self]; rfl, rfl⟩
      | false =>
        rw [hb] at hz
        obtain ⟨i, ob, rfl, h3, h4⟩ := lookO_shift hz
        refine ⟨i, ob, rfl, ?_, h4⟩
        rw [beq_ne fun e => by subst e; simp at hb]
        exact h3
    cases x with
    | some ob => exact step _ h (fun ob' e => by cases e; rfl) (fun e => by cases e)
    | none => exact step _ h (fun ob' e => by cases e) (fun _ => rfl)
/-- What a call comes to, from where no object is known, at any place. -/
theorem callOk_shift {P : Program} {f : FuncId} {args : List A} {k m : Nat} {x : A} {os : Objs} (h : CallOk P f args 0 [] k x m os) (hk : k ≤ 1) (hf : freeL args = true) (nx : Nat) (o : Objs) : CallOk P f args nx o 1 (x.pk (shiftR nx)) (nx + m) (shiftO nx os ++ o) := by
  refine callOk_frame (k := 1) (fun F N R vs hh ha => ?_) (Nat.le_refl _)
  refine (h F N R vs hh.none (ha.free hf)).mono fun e R' ⟨y, F', N', e1, e2, e3, e4, e5⟩ => ?_
  let N2 : Nm := ⟨fun i => bif Nat.blt i nx then N.b i else N'.b (i - nx), fun i => bif Nat.blt i nx then N.q i else N'.q (i - nx)⟩
  have hbt : ∀ i, Nat.blt (nx + i) nx = false := fun i => by
    cases hb : Nat.blt (nx + i) nx with
    | false => rfl
    | true => exact absurd (Nat.le_of_ble_eq_true hb) (by omega)
  have st : Pk (shiftR nx) N' m N2 (nx + m) := fun i j hi hj => by
    cases hj
    refine ⟨by omega, ?_, ?_⟩
    · show (bif Nat.blt (nx + i) nx then N.b (nx + i) else N'.b (nx + i - nx)) = _
      rw [hbt, Nat.add_sub_cancel_left]; rfl
    · show (bif Nat.blt (nx + i) nx then N.q (nx + i) else N'.q (nx + i - nx)) = _
      rw [hbt, Nat.add_sub_cancel_left]; rfl
  obtain ⟨g1, g2⟩ := e2.pk (o' := shiftO nx os) st fun j ob' hj => by
    obtain ⟨i, ob, rfl, h3, h4⟩ := lookO_shift hj
    exact ⟨i, ob, rfl, h3, h4⟩
  have hlt : ∀ i, i < nx → Nat.blt i nx = true := fun i hi => Nat.ble_eq_true_of_le hi
  refine ⟨y, F', N2, e1, g1, ⟨Nat.le_add_right _ _, fun i hi => by show (bif Nat.blt i nx then N.b i else _) = _; rw [hlt i hi]; rfl, fun i hi => by show (bif Nat.blt i nx then N.q i else _) = _; rw [hlt i hi]; rfl, e3.f, fun g hg => ?_, fun g hg => ?_, e3.os, e3.tape, e3.output, e3.size, fun g hg hn => e3.keep g hg fun ⟨i, ob, hi, _⟩ => by cases hi⟩, e4.pk st, fun _ => e5 hk⟩
  · rcases e3.fnew g hg with h1 | ⟨i, ob, hi, _⟩ | h1
    · exact .inl h1
    · cases hi
    · exact .inr (.inr h1)
  · rcases e3.foot g (g2 g hg) with ⟨i, ob, hi, _⟩ | h1
    · cases hi
    · exact .inr h1
/-- A call run in its place. -/
def inl (E : Env) (u : Nat) (f : FuncId) : List A → Nat → Objs → Option CRes := fun args nx o =>
  bif freeL args then (match evF E u f args nx [] with
    | some (k, x, nx', o', ps) => bif Nat.ble k 1 then some (1, x, nx', o' ++ o, ps) else none
    | none => none) else evF E u f args nx o
theorem inl_ok {E : Env} (ok : CodeOk E) (u : Nat) (f : FuncId) : TOk E.P f (inl E u f) := fun args nx o k x nx' o' ps h => by
  unfold inl at h
  cases hf : freeL args with
  | true =>
    rw [hf] at h
    simp only [cond_true] at h
    split at h <;> first | (cases h; done) | skip
    rename_i k1 x1 nx1 o1 ps1 he
    cases hk : Nat.ble k1 1 with
    | false => rw [hk] at h; cases h
    | true =>
      rw [hk] at h
      cases h
      exact ⟨fun hp => callOk_frame (evF_ok ok he hp) (Nat.le_of_ble_eq_true hk), _, rfl⟩
  | false =>
    rw [hf] at h
    exact ⟨fun hp => evF_ok ok h hp, evF_suf h⟩
end Go.Proofs.Yteebobbhhgmeiaa
