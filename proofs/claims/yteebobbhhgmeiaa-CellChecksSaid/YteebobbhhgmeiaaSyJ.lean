/- A symbolic run with sequences, part J: a function. -/
import Derived.Test.YteebobbhhgmeiaaSyI
namespace Go.Proofs.Yteebobbhhgmeiaa
open Go.RowKit

def slotsOf : Nat → List AV → Slots
  | _, [] => []
  | k, x :: r => (k, x) :: slotsOf (k + 1) r
def seqsOf : Nat → List Sq → Seqs
  | _, [] => []
  | k, q :: r => (k, some { q with own := false }) :: seqsOf (k + 1) r
def initS (n : Nat) (args : List AV) (qs : List Sq) : St := ⟨n, slotsOf 0 args, [], seqsOf 0 qs⟩
def allGiven : List AV → Bool
  | [] => true
  | .v _ :: r => allGiven r
  | .sq _ :: r => allGiven r
  | _ => false

theorem look_slots {u : Nat} {x : AV} : ∀ {l : List AV} {k : Nat}, look u (slotsOf k l) = some x → ∃ i, u = k + i ∧ l[i]? = some x
  | [], _, h => by cases h
  | y :: r, k, h => by
    have h' : (bif Nat.beq k u then some y else look u (slotsOf (k + 1) r)) = some x := h
    cases hb : Nat.beq k u with
    | true =>
      rw [hb] at h'
      exact ⟨0, (Nat.eq_of_beq_eq_true hb).symm, h'⟩
    | false =>
      rw [hb] at h'
      obtain ⟨i, h1, h2⟩ := look_slots h'
      exact ⟨i + 1, by omega, h2⟩
theorem look_seqs {u : Nat} {x : Sq} : ∀ {l : List Sq} {k : Nat}, lookQ u (seqsOf k l) = some x → ∃ i q, u = k + i ∧ l[i]? = some q ∧ x = { q with own := false }
  | [], _, h => by cases h
  | y :: r, k, h => by
    have h' : (bif Nat.beq k u then some { y with own := false } else lookQ u (seqsOf (k + 1) r)) = some x := h
    cases hb : Nat.beq k u with
    | true =>
      rw [hb] at h'
      exact ⟨0, y, (Nat.eq_of_beq_eq_true hb).symm, rfl, (Option.some.inj h').symm⟩
    | false =>
      rw [hb] at h'
      obtain ⟨i, q, h1, h2, h3⟩ := look_seqs h'
      exact ⟨i + 1, q, by omega, h2, h3⟩
theorem given_at : ∀ {l : List AV}, allGiven l = true → ∀ (i : Nat) (x : AV), l[i]? = some x → x.simple = true
  | [], _, i, x, h => by cases i <;> cases h
  | y :: r, hg, 0, x, h => by
    cases h
    cases y <;> first | rfl | cases hg
  | y :: r, hg, i + 1, x, h => given_at (l := r) (by cases y <;> first | exact hg | cases hg) i x h

theorem init_rel {E : Env} {B : World} {n : Nat} {args : List AV} {qs : List Sq} (hl : args.length ≤ n) (hg : allGiven args = true) {N : Nm}
    (hq : ∀ k q, qs[k]? = some q → ∃ base, SeqR base B (N.q k) (N.z k) q) :
    RelE E B N (initS n args qs) { tmps := (args.map (conc N)).toArray ++ Array.replicate (n - (args.map (conc N)).toArray.size) undef, defers := [] } B := by
  refine ⟨rfl, ?_, fun u x hu => ?_, fun i e cs hi => (by cases hi), fun i j x y hi => (by cases hi), fun k q hk => ?_, fun k q g hk ht i x hi => (by cases hi), fun k q g hk ho => ?_, Below.refl _ _⟩
  · show ((args.map (conc N)).toArray ++ Array.replicate (n - (args.map (conc N)).toArray.size) undef).size = n
    simp
    omega
  · obtain ⟨i, h1, h2⟩ := look_slots hu
    obtain rfl : u = i := by omega
    have hs := given_at hg u x h2
    refine (holds_simple hs).2 ?_
    show tmOf _ u = _
    unfold tmOf
    have hi : u < args.length := (List.getElem?_eq_some_iff.1 h2).1
    simp only [Array.getD_eq_getD_getElem?]
    rw [Array.getElem?_append_left (by simpa using hi), List.getElem?_toArray, List.getElem?_map, h2]
    rfl
  · obtain ⟨i, q0, h1, h2, rfl⟩ := look_seqs hk
    obtain rfl : k = i := by omega
    obtain ⟨base, hs⟩ := hq k q0 h2
    exact ⟨hs.flat, fun h => (by cases h), hs.alike, hs.kids⟩
  · obtain ⟨i, q0, h1, h2, rfl⟩ := look_seqs hk
    cases ho

/-- One result. -/
def resV (E : Env) (s : St) : ResultVar → Option AV
  | .tmp t => s.ev [] (.tmp t)
  | .cell a t => match loadE E s [] t (.tmp a) with
    | some (x, []) => some x
    | _ => none
def resL (E : Env) (s : St) : List ResultVar → Option (List AV)
  | [] => some []
  | r :: rs => match resV E s r with
    | some v => match resL E s rs with
      | some vs => some (v :: vs)
      | none => none
    | none => none
def rawA : List AV → Option (List Value)
  | [] => some []
  | .v x :: r => match rawA r with
    | some l => some (x :: l)
    | none => none
  | _ => none
def tvOf : AV → Option TV
  | .v x => some (.one (.v x))
  | .sq k => some (.one (.sq k))
  | .agg xs => some (.agg xs)
  | _ => none
def tvL : List AV → Option (List TV)
  | [] => some []
  | x :: r => match tvOf x with
    | some t => match tvL r with
      | some l => some (t :: l)
      | none => none
    | none => none
def tupleOf : List AV → Option AV
  | [x] => some x
  | l => match rawA l with
    | some vs => some (.v (.tuple vs.toArray))
    | none => match tvL l with
      | some ts => some (.tup ts)
      | none => none
theorem rawA_ok {N : Nm} : ∀ {l : List AV} {vs : List Value}, rawA l = some vs → l.map (conc N) = vs
  | [], vs, h => by cases h; rfl
  | x :: r, vs, h => by
    cases x <;> first | (cases h; done) | skip
    unfold rawA at h
    split at h <;> first | (cases h; done) | skip
    rename_i l hl
    cases h
    rw [List.map_cons, rawA_ok hl]
    rfl
theorem tvL_ok {N : Nm} : ∀ {l : List AV} {ts : List TV}, tvL l = some ts → l.map (conc N) = ts.map (concT N)
  | [], vs, h => by cases h; rfl
  | x :: r, vs, h => by
    unfold tvL at h
    split at h <;> first | (cases h; done) | skip
    rename_i t ht
    split at h <;> first | (cases h; done) | skip
    rename_i l hl
    cases h
    rw [List.map_cons, List.map_cons, tvL_ok hl]
    congr 1
    cases x <;> first | (cases ht; done) | (cases ht; rfl)
def tupV : List Value → Value
  | [v] => v
  | l => .tuple l.toArray
theorem tupleOf_ok {N : Nm} {l : List AV} {z : AV} (h : tupleOf l = some z) : conc N z = tupV (l.map (conc N)) := by
  unfold tupleOf at h
  split at h
  · cases h; rfl
  · rename_i hne
    have ht : tupV (l.map (conc N)) = .tuple (l.map (conc N)).toArray := by
      match l, hne with
      | [], _ => rfl
      | [x], hne => exact absurd rfl (hne x)
      | x :: y :: r, _ => rfl
    rw [ht]
    split at h
    · rename_i vs hv
      cases h
      rw [rawA_ok hv]
      rfl
    · split at h <;> first | (cases h; done) | skip
      rename_i ts hts
      cases h
      rw [tvL_ok hts]
      rfl

/-! ### the result's sequences, numbered anew -/
def keyL : LV → List Nat
  | .sq k => [k]
  | _ => []
def keysL : List LV → List Nat
  | [] => []
  | x :: r => keyL x ++ keysL r
def keyT : TV → List Nat
  | .one x => keyL x
  | .agg xs => keysL xs
def keysT : List TV → List Nat
  | [] => []
  | x :: r => keyT x ++ keysT r
def keysA : AV → List Nat
  | .sq k => [k]
  | .agg xs => keysL xs
  | .tup xs => keysT xs
  | _ => []
def posOf (k : Nat) : List Nat → Nat → Nat
  | [], i => i
  | x :: r, i => bif Nat.beq x k then i else posOf k r (i + 1)
def renL (ks : List Nat) : LV → LV
  | .sq k => .sq (posOf k ks 0)
  | x => x
def renLs (ks : List Nat) : List LV → List LV
  | [] => []
  | x :: r => renL ks x :: renLs ks r
def renT (ks : List Nat) : TV → TV
  | .one x => .one (renL ks x)
  | .agg xs => .agg (renLs ks xs)
def renTs (ks : List Nat) : List TV → List TV
  | [] => []
  | x :: r => renT ks x :: renTs ks r
def renA (ks : List Nat) : AV → Option AV
  | .v x => some (.v x)
  | .sq k => some (.sq (posOf k ks 0))
  | .agg xs => some (.agg (renLs ks xs))
  | .tup xs => some (.tup (renTs ks xs))
  | _ => none
theorem posOf_ok {k : Nat} {d : Nat} : ∀ {ks : List Nat} {i : Nat}, k ∈ ks → ∃ j, posOf k ks i = i + j ∧ ks.getD j d = k
  | [], _, h => by cases h
  | x :: r, i, h => by
    unfold posOf
    cases hb : Nat.beq x k with
    | true => exact ⟨0, rfl, Nat.eq_of_beq_eq_true hb⟩
    | false =>
      rcases List.mem_cons.1 h with rfl | h
      · simp at hb
      · obtain ⟨j, h1, h2⟩ := posOf_ok (d := d) (i := i + 1) h
        exact ⟨j + 1, by rw [cond_false, h1]; omega, h2⟩
section
variable {N : Nm} {b : Nat → Nat} {z : Nat → List Value} {ks : List Nat}
def renN (N : Nm) (b : Nat → Nat) (ks : List Nat) : Nm := ⟨b, fun j => N.q (ks.getD j 0), fun j => N.z (ks.getD j 0)⟩
theorem renL_ok {x : LV} (h : ∀ k ∈ keyL x, k ∈ ks) : concL (renN N b ks) (renL ks x) = concL N x := by
  cases x <;> first | rfl | skip
  rename_i k
  obtain ⟨j, h1, h2⟩ := posOf_ok (d := 0) (i := 0) (h k (List.mem_singleton.2 rfl))
  show N.q (ks.getD (posOf k ks 0) 0) = N.q k
  rw [h1, Nat.zero_add, h2]
theorem renLs_ok : ∀ {xs : List LV}, (∀ k ∈ keysL xs, k ∈ ks) → (renLs ks xs).map (concL (renN N b ks)) = xs.map (concL N)
  | [], _ => rfl
  | x :: r, h => by
    show concL _ (renL ks x) :: (renLs ks r).map _ = concL N x :: r.map _
    rw [renL_ok fun k hk => h k (List.mem_append.2 (.inl hk)), renLs_ok fun k hk => h k (List.mem_append.2 (.inr hk))]
theorem renT_ok {x : TV} (h : ∀ k ∈ keyT x, k ∈ ks) : concT (renN N b ks) (renT ks x) = concT N x := by
  cases x with
  | one x => exact renL_ok h
  | agg xs => show Value.agg _ = Value.agg _; rw [renLs_ok h]
theorem renTs_ok : ∀ {xs : List TV}, (∀ k ∈ keysT xs, k ∈ ks) → (renTs ks xs).map (concT (renN N b ks)) = xs.map (concT N)
  | [], _ => rfl
  | x :: r, h => by
    show concT _ (renT ks x) :: (renTs ks r).map _ = concT N x :: r.map _
    rw [renT_ok fun k hk => h k (List.mem_append.2 (.inl hk)), renTs_ok fun k hk => h k (List.mem_append.2 (.inr hk))]
theorem renA_ok {x y : AV} (he : renA ks x = some y) (h : ∀ k ∈ keysA x, k ∈ ks) : conc (renN N b ks) y = conc N x := by
  cases x <;> first | (cases he; done) | skip
  · cases he; rfl
  · rename_i k
    cases he
    obtain ⟨j, h1, h2⟩ := posOf_ok (d := 0) (i := 0) (h k (List.mem_singleton.2 rfl))
    show N.q (ks.getD (posOf k ks 0) 0) = N.q k
    rw [h1, Nat.zero_add, h2]
  · cases he
    show Value.agg _ = Value.agg _
    rw [renLs_ok h]
  · cases he
    show Value.tuple _ = Value.tuple _
    rw [renTs_ok h]
end

def notIn (k : Nat) : List Nat → Bool
  | [] => true
  | x :: r => bif Nat.beq k x then false else notIn k r
def distinct : List Nat → Bool
  | [] => true
  | x :: r => bif notIn x r then distinct r else false
theorem notIn_ok {k : Nat} : ∀ {l : List Nat}, notIn k l = true → ∀ x ∈ l, k ≠ x
  | [], _, x, h => by cases h
  | y :: r, h, x, hx => by
    unfold notIn at h
    cases hb : Nat.beq k y with
    | true => rw [hb] at h; cases h
    | false =>
      rw [hb] at h
      rcases List.mem_cons.1 hx with rfl | hx
      · exact fun e => by subst e; simp at hb
      · exact notIn_ok h x hx
theorem distinct_ok : ∀ {l : List Nat}, distinct l = true → ∀ (i j x : Nat), l[i]? = some x → l[j]? = some x → i = j
  | [], _, i, _, _, h, _ => by cases i <;> cases h
  | y :: r, h, i, j, x, hi, hj => by
    unfold distinct at h
    cases hb : notIn y r with
    | false => rw [hb] at h; cases h
    | true =>
      rw [hb] at h
      cases i with
      | zero =>
        cases j with
        | zero => rfl
        | succ j => cases hi; exact absurd rfl (notIn_ok hb y (List.mem_of_getElem? hj))
      | succ i =>
        cases j with
        | zero => cases hj; exact absurd rfl (notIn_ok hb y (List.mem_of_getElem? hi))
        | succ j => exact congrArg (· + 1) (distinct_ok h i j x hi hj)
/-- Own, flat. -/
def newsOf (s : St) : List Nat → Option (List Sq)
  | [] => some []
  | k :: r => match s.seq k with
    | some q => match q.own, q.kid with
      | true, none => match newsOf s r with
        | some l => some (q :: l)
        | none => none
      | _, _ => none
    | none => none
theorem newsOf_ok {s : St} : ∀ {ks : List Nat} {l : List Sq}, newsOf s ks = some l → ∀ (j : Nat) (q : Sq), l[j]? = some q → ∃ k : Nat, ks[j]? = some k ∧ s.seq k = some q ∧ q.own = true ∧ q.kid = none
  | [], l, h, j, q, hj => by cases h; cases j <;> cases hj
  | k :: r, l, h, j, q, hj => by
    unfold newsOf at h
    split at h <;> first | (cases h; done) | skip
    rename_i q0 hq0
    split at h <;> first | (cases h; done) | skip
    rename_i ho hk
    split at h <;> first | (cases h; done) | skip
    rename_i l' hl'
    cases h
    cases j with
    | zero => cases hj; exact ⟨k, rfl, hq0, ho, hk⟩
    | succ j => exact newsOf_ok hl' j q hj
theorem newOk_of {E : Env} {B : World} {N : Nm} {s : St} {a : Act} {R : World} (h : RelE E B N s a R) {ks : List Nat} {l : List Sq} (hl : newsOf s ks = some l) (hd : distinct ks = true) (b : Nat → Nat) :
    NewOk B.heap.size R (renN N b ks).q (renN N b ks).z l := by
  have at_ : ∀ (j : Nat) (q : Sq), l[j]? = some q → ∃ k : Nat, ks[j]? = some k ∧ s.seq k = some q ∧ q.own = true ∧ q.kid = none ∧ (renN N b ks).q j = N.q k ∧ (renN N b ks).z j = N.z k := fun j q hj => by
    obtain ⟨k, h1, h2, h3, h4⟩ := newsOf_ok hl j q hj
    have : ks.getD j 0 = k := by rw [List.getD_eq_getElem?_getD, h1]; rfl
    exact ⟨k, h1, h2, h3, h4, by show N.q (ks.getD j 0) = _; rw [this], by show N.z (ks.getD j 0) = _; rw [this]⟩
  refine ⟨fun j q hj => ?_, fun j q g hj ht => ?_, fun j q g hj ho hg => ⟨fun j' q' hne hj' => ?_, fun K i v' hK => ?_⟩⟩
  · obtain ⟨k, _, h2, _, _, h5, h6⟩ := at_ j q hj
    rw [h5, h6]
    exact h.seqs k q h2
  · obtain ⟨k, _, h2, h3, h4, h5, h6⟩ := at_ j q hj
    rw [h5, h6] at ht
    rcases ht with ⟨_, hg⟩ | ⟨K, _, _, hK, _⟩
    · rcases ((h.seqs k q h2).own h3).2 with ⟨e1, _⟩ | ⟨g', cap, cur, e1, e2, _⟩
      · rw [e1] at hg; cases hg
      · rw [e1] at hg; cases hg; exact e2
    · rw [h4] at hK; cases hK
  · obtain ⟨k, h1, h2, _, _, h5, _⟩ := at_ j q hj
    obtain ⟨k', h1', h2', _, _, h5', h6'⟩ := at_ j' q' hj'
    rw [h5] at hg
    rw [h5', h6']
    refine (h.sepQ k q g h2 ho hg).1 k' q' (fun e => ?_) h2'
    subst e
    exact hne (distinct_ok hd _ _ _ h1' h1)
  · obtain ⟨k, _, _, _, h4, _⟩ := at_ j q hj
    rw [h4] at hK
    cases hK

def resC (E : Env) (fn : Func) (s : St) : Option (AV × List Sq) := match resL E s fn.results.toList with
  | some l => match tupleOf l with
    | some x => match renA (keysA x) x with
      | some c => bif distinct (keysA x) then (match newsOf s (keysA x) with
        | some news => some (c, news)
        | none => none) else none
      | none => none
    | none => none
  | none => none

def resM (tmps : Array Value) : ResultVar → Sem Value
  | .tmp t => pure (tmps.getD t undef)
  | .cell a t => do loadVar t (← asAddr (tmps.getD a undef))
theorem results_eq (fn : Func) (tmps : Array Value) : results fn tmps = (do let vs ← fn.results.mapM (resM tmps); pure (if h : vs.size = 1 then vs[0] else .tuple vs)) := rfl

section
variable {E : Env} {B : World} {N : Nm} {s : St} {a : Act} {R : World}
theorem resV_ok (ok : EnvOk E B) (h : RelE E B N s a R) {r : ResultVar} {v : AV} (he : resV E s r = some v) :
    (resM a.tmps r).run E.P R = .ok (conc N v) R := by
  cases r with
  | tmp t =>
    have := (ev_ok h (gok_nil _) (o := .tmp t) he).2
    show (pure (a.eval (.tmp t)) : Sem Value).run E.P R = _
    rw [this]
    rfl
  | cell c t =>
    unfold resV at he
    simp only at he
    split at he <;> first | (cases he; done) | skip
    rename_i v' hl
    cases he
    obtain ⟨_, h2⟩ := load_ok ok h (gok_nil _) hl (fun _ hp => by cases hp)
    have h3 : (Instr.loadAt t (a.tmps.getD c undef)).run E.P R = .ok (conc N v) R := h2
    show (do loadVar t (← asAddr (a.tmps.getD c undef)) : Sem Value).run E.P R = _
    unfold Instr.loadAt at h3
    generalize a.tmps.getD c undef = p at *
    cases p <;> first | (simp [Instr.sureAddr] at h3; done) | skip
    rename_i ad
    cases ad with
    | none => simp [Instr.sureAddr] at h3
    | some ad => simpa [Instr.sureAddr, asAddr] using h3
theorem resL_ok (ok : EnvOk E B) (h : RelE E B N s a R) : ∀ {l : List ResultVar} {vs : List AV}, resL E s l = some vs →
    (l.mapM (resM a.tmps)).run E.P R = .ok (vs.map (conc N)) R
  | [], vs, he => by cases he; rfl
  | r :: rs, vs, he => by
    unfold resL at he
    cases h1 : resV E s r with
    | none => simp only [h1] at he; cases he
    | some v =>
      cases h2 : resL E s rs with
      | none => simp only [h1, h2] at he; cases he
      | some ws =>
        simp only [h1, h2] at he
        cases he
        have e1 := resV_ok ok h h1
        have e2 := resL_ok ok h h2
        rw [List.mapM_cons]
        simp only [Sem.run_bind, e1, Result.andThen_ok, e2, Sem.run_pure]
        rfl
theorem resC_ok (ok : EnvOk E B) (h : RelE E B N s a R) {fn : Func} {c : AV} {news : List Sq} (he : resC E fn s = some (c, news)) (b : Nat → Nat) :
    ∃ v z, (results fn a.tmps).run E.P R = .ok (conc ⟨b, v, z⟩ c) R ∧ NewOk B.heap.size R v z news := by
  unfold resC at he
  split at he <;> first | (cases he; done) | skip
  rename_i l hl
  split at he <;> first | (cases he; done) | skip
  rename_i x hx
  split at he <;> first | (cases he; done) | skip
  rename_i c' hc'
  cases hd : distinct (keysA x) with
  | false => rw [hd] at he; cases he
  | true =>
    rw [hd] at he
    simp only [cond_true] at he
    split at he <;> first | (cases he; done) | skip
    rename_i nw hnw
    cases he
    refine ⟨(renN N b (keysA x)).q, (renN N b (keysA x)).z, ?_, newOk_of h hnw hd b⟩
    have hr : conc ⟨b, (renN N b (keysA x)).q, (renN N b (keysA x)).z⟩ c = conc N x := renA_ok hc' fun k hk => hk
    rw [hr, tupleOf_ok hx]
    have := resL_ok ok h hl
    rw [results_eq, Array.mapM_eq_mapM_toList]
    simp only [Sem.run_bind, Sem.run_map, this, Result.andThen_ok, Sem.run_pure]
    congr 1
    match l.map (conc N) with
    | [] => simp [tupV]
    | [x] => simp [tupV]
    | x :: y :: r => simp [tupV]
end

def onlyRet : Outs → Bool
  | [] => true
  | (none, _, _) :: r => onlyRet r
  | _ => false
theorem onlyRet_ok : ∀ {o : Outs} {i : Nat}, onlyRet o = true → getO (some i) o = none
  | [], _, _ => rfl
  | (none, _, _) :: r, i, h => onlyRet_ok (o := r) h
  | (some _, _, _) :: _, _, h => by cases h

def withP (ps : List Prop) : Option (AV × List Sq) → Option CRes
  | some (c, news) => some (c, news, ps)
  | none => none
/-- What a call makes, and what must hold. -/
def finR (E : Env) (fn : Func) (r : Res) : Option CRes :=
  bif onlyRet r.outs then (match getO none r.outs with
    | some (c, s) => match r.nrm with
      | none => withP r.ps (resC E fn s)
      | some s' => match resC E fn s with
        | some (.v v, []) => match resC E fn s' with
          | some (.v v', []) => match mergeV 3 (cval c) v v' with
            | some z => some (.v z, [], r.ps)
            | none => none
          | _ => none
        | _ => none
    | none => match r.nrm with
      | some s' => withP r.ps (resC E fn s')
      | none => none) else none

def evF (E : Env) (u : Nat) (f : FuncId) (args : List AV) (qs : List Sq) : Option CRes := match E.P.funcs[f]? with
  | some fn => match fn.body with
    | some c => bif Nat.ble args.length fn.ntmps then (bif allGiven args then finR E fn (evC E u c (initS fn.ntmps args qs)) else none) else none
    | none => none
  | none => none

theorem fin_ok {E : Env} {B : World} (ok : EnvOk E B) {fn : Func} {r : Res} {cc : AV} {news : List Sq} {ps : List Prop} (he : finR E fn r = some (cc, news, ps)) (b : Nat → Nat) : ps = r.ps ∧ ∀ {e : Exit} {x : St} {N : Nm} {a : Act} {R : World}, Oc r e x → RelE E B N x a R →
    bodyPost E.P fn (fun e w' => ∃ v z, e = .returned (conc ⟨b, v, z⟩ cc) ∧ Below B.heap.size B w' ∧ NewOk B.heap.size w' v z news) e a R := by
  unfold finR at he
  cases hr : onlyRet r.outs with
  | false => rw [hr] at he; cases he
  | true =>
    rw [hr] at he
    simp only [cond_true] at he
    split at he
    · rename_i c s hg
      split at he
      · rename_i hn
        cases hv : resC E fn s with
        | none => rw [hv] at he; cases he
        | some y =>
        obtain ⟨c0, n0⟩ := y
        rw [hv] at he
        cases he
        refine ⟨rfl, fun {e x N a R} ho h => ?_⟩
        rcases ho with ⟨t, c', rfl, h1, h2, h3⟩ | ⟨rfl, h1, h2⟩
        · cases t with
          | none =>
            rw [hg] at h1
            cases h1
            obtain ⟨v, z, k1, k2⟩ := resC_ok ok h hv b
            exact bodyPost_ret k1 h.defers ⟨v, z, rfl, h.bel, k2⟩
          | some i => rw [onlyRet_ok hr] at h1; cases h1
        · rw [hn] at h1; cases h1
      · rename_i s' hn
        split at he <;> first | (cases he; done) | skip
        rename_i v1 hv1
        split at he <;> first | (cases he; done) | skip
        rename_i v2 hv2
        split at he <;> first | (cases he; done) | skip
        rename_i z hz
        cases he
        have hm := mergeV_ok hz
        refine ⟨rfl, fun {e x N a R} ho h => ?_⟩
        rcases ho with ⟨t, c', rfl, h1, h2, h3⟩ | ⟨rfl, h1, h2⟩
        · cases t with
          | none =>
            rw [hg] at h1
            cases h1
            rw [h2] at hm
            obtain ⟨v, zz, k1, k2⟩ := resC_ok ok h hv1 b
            exact bodyPost_ret k1 h.defers ⟨v, zz, by rw [hm]; rfl, h.bel, k2⟩
          | some i => rw [onlyRet_ok hr] at h1; cases h1
        · rw [hn] at h1
          cases h1
          have := h2 none c s hg
          rw [this] at hm
          obtain ⟨v, zz, k1, k2⟩ := resC_ok ok h hv2 b
          exact bodyPost_end k1 h.defers ⟨v, zz, by rw [hm]; rfl, h.bel, k2⟩
    · rename_i hg
      split at he <;> first | (cases he; done) | skip
      rename_i s' hn
      cases hv : resC E fn s' with
      | none => rw [hv] at he; cases he
      | some y =>
      obtain ⟨c0, n0⟩ := y
      rw [hv] at he
      cases he
      refine ⟨rfl, fun {e x N a R} ho h => ?_⟩
      rcases ho with ⟨t, c', rfl, h1, h2, h3⟩ | ⟨rfl, h1, h2⟩
      · cases t with
        | none => rw [hg] at h1; cases h1
        | some i => rw [onlyRet_ok hr] at h1; cases h1
      · rw [hn] at h1
        cases h1
        obtain ⟨v, zz, k1, k2⟩ := resC_ok ok h hv b
        exact bodyPost_end k1 h.defers ⟨v, zz, rfl, h.bel, k2⟩

theorem evF_ok {E : Env} {B : World} (ok : EnvOk E B) {u : Nat} {f : FuncId} {args : List AV} {qs : List Sq} {c : AV} {news : List Sq} {ps : List Prop} (he : evF E u f args qs = some (c, news, ps)) (hp : ∀ p ∈ ps, p) {N : Nm}
    (hq : ∀ k q, qs[k]? = some q → ∃ base, SeqR base B (N.q k) (N.z k) q) (b : Nat → Nat) :
    Calls E.P f (args.map (conc N)).toArray B fun e w' => ∃ v z, e = .returned (conc ⟨b, v, z⟩ c) ∧ Below B.heap.size B w' ∧ NewOk B.heap.size w' v z news := by
  unfold evF at he
  split at he <;> first | (cases he; done) | skip
  rename_i fn hf
  split at he <;> first | (cases he; done) | skip
  rename_i cd hc
  cases hl : Nat.ble args.length fn.ntmps with
  | false => rw [hl] at he; cases he
  | true =>
    cases hg : allGiven args with
    | false => rw [hl, hg] at he; cases he
    | true =>
    rw [hl, hg] at he
    simp only [cond_true] at he
    obtain ⟨rfl, hfin⟩ := fin_ok ok he b
    exact calls_of_wp hf hc (code_ok ok cd false _ N _ _ _ (init_rel (Nat.le_of_ble_eq_true hl) hg hq) hp fun e x N' a' R' ho hr => hfin ho hr)

abbrev Tab := World → FuncId → List AV → Boxes → Seqs → Option CRes
/-- The surroundings of a call. -/
def envAt (P : Program) (eq : TypeId → List Value → List Value → Option Bool) (C : Tab) (w : World) : Env := ⟨P, w, eq, C w⟩

def EqOk (P : Program) (eq : TypeId → List Value → List Value → Option Bool) : Prop :=
  ∀ t xs ys b, eq t xs ys = some b → P.eqGuardType P.depth t = false ∧ ∀ R, (Op.equalIn 10000 t (.agg xs.toArray) (.agg ys.toArray)).run P R = .ok b R
def COk (P : Program) (C : Tab) : Prop :=
  ∀ w f args bx sq c news ps, C w f args bx sq = some (c, news, ps) → (∀ p ∈ ps, p) → CallOk w P f args bx sq c news

theorem envAt_ok {P : Program} {eq : TypeId → List Value → List Value → Option Bool} {C : Tab} (hm : P.follows .mixedOrders = true) (he : EqOk P eq) (hC : COk P C) {w B : World} (far : Below w.heap.size w B) : EnvOk (envAt P eq C w) B :=
  ⟨far, hm, he, hC w⟩

/-- A function, called in a later world than the one that is read. -/
theorem fun_ok {P : Program} {eq : TypeId → List Value → List Value → Option Bool} {C : Tab} (hm : P.follows .mixedOrders = true) (he : EqOk P eq) (hC : COk P C) (u : Nat) {f : FuncId} {args : List AV} {qs : List Sq} {c : AV} {news : List Sq} {ps : List Prop}
    (w : World) (h : evF (envAt P eq C w) u f args qs = some (c, news, ps)) (hp : ∀ p ∈ ps, p) {N : Nm} {B : World} (far : Below w.heap.size w B) (hq : ∀ k q, qs[k]? = some q → ∃ base, SeqR base B (N.q k) (N.z k) q) (b : Nat → Nat) :
    Calls P f (args.map (conc N)).toArray B fun e w' => ∃ v z, e = .returned (conc ⟨b, v, z⟩ c) ∧ Below B.heap.size B w' ∧ NewOk B.heap.size w' v z news :=
  evF_ok (E := envAt P eq C w) (envAt_ok hm he hC far) h hp hq b
/-- One that takes and gives plain values. -/
theorem fun_ok0 {P : Program} {eq : TypeId → List Value → List Value → Option Bool} {C : Tab} (hm : P.follows .mixedOrders = true) (he : EqOk P eq) (hC : COk P C) (u : Nat) {f : FuncId} {args : List Value} {v : Value} {ps : List Prop}
    (w : World) (h : evF (envAt P eq C w) u f (rawAVs args) [] = some (.v v, [], ps)) (hp : ∀ p ∈ ps, p) :
    Calls P f args.toArray w fun e w' => e = .returned v ∧ Below w.heap.size w w' := by
  have := fun_ok hm he hC u w h hp (N := ⟨fun _ => 0, fun _ => undef, fun _ => []⟩) (Below.refl _ w) (fun k q hk => by cases k <;> cases hk) fun _ => 0
  rw [rawAVs_map] at this
  exact this.mono fun e w' ⟨_, _, h1, h2, _⟩ => ⟨h1, h2⟩

/-! ### a call run in its place -/
def allPlain : List AV → Bool
  | [] => true
  | .v _ :: r => allPlain r
  | .sq _ :: r => allPlain r
  | .osl _ _ _ :: r => allPlain r
  | _ => false
/-- The arguments that are slices. -/
def slicesOf : List AV → List AV
  | [] => []
  | .v _ :: r => slicesOf r
  | x :: r => x :: slicesOf r
def renR : Nat → List AV → List AV
  | _, [] => []
  | j, .v x :: r => .v x :: renR j r
  | j, _ :: r => .sq j :: renR (j + 1) r
/-- A slice that is handed in. -/
def srcOf (bx : Boxes) (sq : Seqs) : AV → Option Sq
  | .sq k => lookQ k sq
  | .osl i len cap => match lookB i bx with
    | some (e, cs) => match rawL cs with
      | some xs => bif Nat.ble len cap then (bif Nat.beq xs.length (len * (xs.length / len)) then some ⟨false, e, xs.length / len, len, xs, none⟩ else none) else none
      | none => none
    | none => none
  | _ => none
def srcsOf (bx : Boxes) (sq : Seqs) : List AV → Option (List Sq)
  | [] => some []
  | x :: r => match srcOf bx sq x with
    | some q => match srcsOf bx sq r with
      | some l => some (q :: l)
      | none => none
    | none => none
def zOf (N : Nm) (bx : Boxes) : AV → List Value
  | .sq k => N.z k
  | .osl i _ _ => match lookB i bx with
    | some (_, cs) => match rawL cs with
      | some xs => xs
      | none => []
    | none => []
  | _ => []
def argN (N : Nm) (bx : Boxes) (l : List AV) : Nm := ⟨N.b, fun j => conc N (l.getD j .dead), fun j => zOf N bx (l.getD j .dead)⟩
theorem srcsOf_ok {bx : Boxes} {sq : Seqs} : ∀ {as : List AV} {l : List Sq}, srcsOf bx sq as = some l → ∀ (j : Nat) (q : Sq), l[j]? = some q → ∃ x, as[j]? = some x ∧ srcOf bx sq x = some q
  | [], l, h, j, q, hj => by cases h; cases j <;> cases hj
  | x :: r, l, h, j, q, hj => by
    unfold srcsOf at h
    split at h <;> first | (cases h; done) | skip
    rename_i q0 hq0
    split at h <;> first | (cases h; done) | skip
    rename_i l' hl'
    cases h
    cases j with
    | zero => cases hj; exact ⟨x, rfl, hq0⟩
    | succ j => exact srcsOf_ok hl' j q hj
theorem renR_ok {N : Nm} {bx : Boxes} {L : List AV} : ∀ {l : List AV} {j : Nat}, allPlain l = true → (∀ i, (slicesOf l)[i]? = L[j + i]? ∨ (slicesOf l)[i]? = none) → (renR j l).map (conc (argN N bx L)) = l.map (conc N)
  | [], _, _, _ => rfl
  | x :: r, j, hg, h => by
    have step : ∀ y : AV, slicesOf (y :: r) = y :: slicesOf r → (∀ i, (slicesOf (y :: r))[i]? = L[j + i]? ∨ (slicesOf (y :: r))[i]? = none) → allPlain r = true → (AV.sq j :: renR (j + 1) r).map (conc (argN N bx L)) = conc N y :: r.map (conc N) := fun y hy hh hg' => by
      have h0 := hh 0
      rw [hy] at h0
      have e0 : L[j]? = some y := by
        rcases h0 with h0 | h0
        · exact h0.symm
        · cases h0
      rw [List.map_cons, renR_ok (l := r) (j := j + 1) hg' fun i => by
        have := hh (i + 1)
        rw [hy] at this
        rw [show j + 1 + i = j + (i + 1) by omega]
        exact this]
      congr 1
      show conc N (L.getD j .dead) = conc N y
      rw [List.getD_eq_getElem?_getD, e0]
      rfl
    cases x <;> first | (cases hg; done) | skip
    · rename_i x
      show x :: (renR j r).map (conc (argN N bx L)) = x :: r.map (conc N)
      rw [renR_ok (l := r) hg h]
    · exact step _ rfl h hg
    · exact step _ rfl h hg
theorem src_ok {N : Nm} {bx : Boxes} {sq : Seqs} {R : World} (hb : ∀ i e cs, lookB i bx = some (e, cs) → ∃ vs, CellsAre N cs vs ∧ R.heap[N.b i]? = some (.cells vs.toArray e (0, 0))) (hs : ∀ k q, lookQ k sq = some q → ∃ base, SeqR base R (N.q k) (N.z k) q)
    {x : AV} {q : Sq} (h : srcOf bx sq x = some q) : ∃ base, SeqR base R (conc N x) (zOf N bx x) q := by
  unfold srcOf at h
  split at h <;> first | (cases h; done) | skip
  · exact hs _ _ h
  · rename_i i len cap
    split at h <;> first | (cases h; done) | skip
    rename_i e cs hbx
    split at h <;> first | (cases h; done) | skip
    rename_i xs hxs
    cases hl2 : Nat.ble len cap with
    | false => rw [hl2] at h; cases h
    | true =>
      cases hl : Nat.beq xs.length (len * (xs.length / len)) with
      | false => rw [hl2, hl] at h; cases h
      | true =>
        rw [hl2, hl] at h
        cases h
        obtain ⟨vs, hvs, hh⟩ := hb i e cs hbx
        have e1 := rawL_ok hxs hvs
        rw [e1] at hh
        have ez : zOf N bx (.osl i len cap) = xs := by
          unfold zOf
          simp only [hbx, hxs]
        rw [ez]
        refine ⟨0, ⟨⟨Nat.eq_of_beq_eq_true hl, ⟨some ⟨N.b i, 0, none⟩, cap, rfl, Nat.le_of_ble_eq_true hl2⟩, fun hn => ⟨⟨N.b i, 0, none⟩, rfl, rfl, ⟨_, _, rfl⟩, blk_lt hh, fun j u hu => by rw [add_mk, blk_cell hh, Nat.zero_add]; simpa using hu⟩⟩, fun ho => (by cases ho), ⟨rfl, fun _ _ => rfl⟩, fun K hK => (by cases hK)⟩⟩
/-- The row of a call that is run through. -/
def inl (P : Program) (eq : TypeId → List Value → List Value → Option Bool) (C : Tab) (u : Nat) (f : FuncId) : World → List AV → Boxes → Seqs → Option CRes := fun w args bx sq =>
  bif allPlain args then (match srcsOf bx sq (slicesOf args) with
    | some qs => evF (envAt P eq C w) u f (renR 0 args) qs
    | none => none) else none
def TOk (P : Program) (f : FuncId) (g : World → List AV → Boxes → Seqs → Option CRes) : Prop :=
  ∀ w args bx sq c news ps, g w args bx sq = some (c, news, ps) → (∀ p ∈ ps, p) → CallOk w P f args bx sq c news
theorem inl_ok {P : Program} {eq : TypeId → List Value → List Value → Option Bool} {C : Tab} (hm : P.follows .mixedOrders = true) (he : EqOk P eq) (hC : COk P C) (u : Nat) (f : FuncId) : TOk P f (inl P eq C u f) := fun w args bx sq c news ps h hp N R far hb hs => by
  unfold inl at h
  cases hg : allPlain args with
  | false => rw [hg] at h; cases h
  | true =>
    rw [hg] at h
    simp only [cond_true] at h
    split at h <;> first | (cases h; done) | skip
    rename_i qs hqs
    have := fun_ok hm he hC u w h hp (N := argN N bx (slicesOf args)) far (fun k q hk => by
      obtain ⟨x, h1, h2⟩ := srcsOf_ok hqs k q hk
      have e : (slicesOf args).getD k .dead = x := by rw [List.getD_eq_getElem?_getD, h1]; rfl
      show ∃ base, SeqR base R (conc N ((slicesOf args).getD k .dead)) (zOf N bx ((slicesOf args).getD k .dead)) q
      rw [e]
      exact src_ok hb hs h2) N.b
    rw [renR_ok hg fun i => .inl (by rw [Nat.zero_add])] at this
    exact this
end Go.Proofs.Yteebobbhhgmeiaa
