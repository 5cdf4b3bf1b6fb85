/- A symbolic run with sequences, part I: code. -/
import Derived.Test.YteebobbhhgmeiaaSyH
import Derived.LoopN
namespace Go.Proofs.Yteebobbhhgmeiaa
open Go.RowKit

/-- A place of the program that the run does not get through. -/
def Stuck (_id : Nat) : Prop := False

/-- A condition; none: always. -/
abbrev Cnd := Option Bool
def cval : Cnd → Bool
  | none => true
  | some b => b
def andO : Cnd → Cnd → Cnd
  | none, y => y
  | some a, none => some a
  | some a, some b => some (a && b)
def orO : Cnd → Cnd → Cnd
  | none, _ => none
  | some _, none => none
  | some a, some b => some (a || b)
def notO : Cnd → Cnd
  | none => some false
  | some a => some (!a)
def iteO (g : Bool) : Cnd → Cnd → Cnd
  | none, none => none
  | some a, none => some (!g || a)
  | none, some b => some (g || b)
  | some a, some b => some (bif g then a else b)
theorem cval_and (x y : Cnd) : cval (andO x y) = (cval x && cval y) := by cases x <;> cases y <;> simp [andO, cval]
theorem cval_or (x y : Cnd) : cval (orO x y) = (cval x || cval y) := by cases x <;> cases y <;> simp [orO, cval]
theorem cval_not (x : Cnd) : cval (notO x) = !(cval x) := by cases x <;> rfl
theorem cval_ite (g : Bool) (x y : Cnd) : cval (iteO g x y) = bif g then cval x else cval y := by cases x <;> cases y <;> cases g <;> simp [iteO, cval]

abbrev Tag := Option Nat
abbrev Outs := List (Tag × Cnd × St)
def tagB : Tag → Tag → Bool
  | none, none => true
  | some i, some j => Nat.beq i j
  | _, _ => false
theorem tagB_eq {x y : Tag} (h : tagB x y = true) : x = y := by
  cases x <;> cases y <;> first | rfl | (cases h; done) | skip
  rw [Nat.eq_of_beq_eq_true h]
theorem tagB_self (x : Tag) : tagB x x = true := by cases x <;> simp [tagB]
theorem tagB_ne {x y : Tag} (h : x ≠ y) : tagB x y = false := by
  cases hb : tagB x y with
  | true => exact absurd (tagB_eq hb) h
  | false => rfl

def getO (t : Tag) : Outs → Option (Cnd × St)
  | [] => none
  | (k, c, s) :: r => bif tagB k t then some (c, s) else getO t r
/-- None of the others. -/
def noneBut (t : Tag) : Outs → Cnd
  | [] => none
  | (k, c, _) :: r => bif tagB k t then noneBut t r else andO (notO c) (noneBut t r)
def noneOf : Outs → Cnd
  | [] => none
  | (_, c, _) :: r => andO (notO c) (noneOf r)

structure Res where
  ps : List Prop
  outs : Outs
  nrm : Option St

/-- The outs of A in a join or a row with B. -/
def withB (f : Tag → Cnd → St → Option (Cnd × St) → Cnd × St) (B : Outs) : Outs → Outs
  | [] => []
  | (t, c, s) :: r => (t, f t c s (getO t B)) :: withB f B r
def onlyB (f : Cnd → Cnd) (A : Outs) : Outs → Outs
  | [] => []
  | (t, d, s) :: r => match getO t A with
    | some _ => onlyB f A r
    | none => (t, f d, s) :: onlyB f A r

def joinF (g : Bool) (s : St) (_t : Tag) (c : Cnd) (x : St) : Option (Cnd × St) → Cnd × St
  | none => (andO (some g) c, x)
  | some (d, y) => (iteO g c d, mergeS g s x y)
def joinN (g : Bool) (s : St) : Option St → Option St → Option St
  | none, none => none
  | some x, none => some x
  | none, some y => some y
  | some x, some y => some (mergeS g s x y)
def joinR (g : Bool) (s : St) (A B : Res) : Res :=
  ⟨gimps [g = true] A.ps ++ gimps [g = false] B.ps, withB (joinF g s) B.outs A.outs ++ onlyB (andO (some !g)) A.outs B.outs, joinN g s A.nrm B.nrm⟩

def seqF (A : Outs) (s : St) (t : Tag) (c : Cnd) (x : St) : Option (Cnd × St) → Cnd × St
  | none => (c, x)
  | some (d, y) => (orO c (andO (noneBut t A) d), mergeS (cval c) s x y)
def cndP : Cnd → List Prop
  | none => []
  | some b => [b = true]
def seqR (s : St) (A B : Res) : Res :=
  ⟨A.ps ++ gimps (cndP (noneOf A.outs)) B.ps, withB (seqF A.outs s) B.outs A.outs ++ onlyB (andO (noneOf A.outs)) A.outs B.outs, B.nrm⟩

def dropO (t : Tag) : Outs → Outs
  | [] => []
  | (k, c, s) :: r => bif tagB k t then dropO t r else (k, c, s) :: dropO t r
def blockR (s : St) (id : Nat) (A : Res) : Res := match getO (some id) A.outs with
  | none => A
  | some (c, x) => ⟨A.ps, dropO (some id) A.outs, match A.nrm with
    | none => some x
    | some y => some (mergeS (cval c) s x y)⟩

def stuckR (id : Nat) : Res := ⟨[Stuck id], [], none⟩

def loopR (f : St → Res) : Nat → St → Res
  | 0, _ => stuckR 1000000
  | n + 1, s => match (f s).nrm with
    | none => f s
    | some s1 => seqR s (f s) (loopR f n s1)

def isRegion : Code → Bool
  | .region _ _ _ => true
  | _ => false
/-- u from 1000 on: every test is a literal. -/
def litH (h : Bool) (u : Nat) : Bool := bif h then true else Nat.ble 1000 u
/-- 'h': this is a loop's head, whose test is a literal. -/
def evH (E : Env) (u : Nat) : Code → Bool → St → Res
  | .skip, _, s => ⟨[], [], some s⟩
  | .region id ops draw, _, s => match evR E ops.toList draw s with
    | some (s', ps) => ⟨ps, [], some s'⟩
    | none => stuckR id
  | .seq a b, h, s => match (evH E u a h s).nrm with
    | none => evH E u a h s
    | some s1 => seqR s (evH E u a h s) (evH E u b (bif isRegion a then h else false) s1)
  | .cond c x y, h, s => match s.raw [] c with
    | some (.bool g) => match litH h u with
      | true => match g with
        | true => evH E u x false s
        | false => evH E u y false s
      | false => joinR g s (evH E u x false s) (evH E u y false s)
    | _ => stuckR 1000001
  | .block id b, _, s => blockR s id (evH E u b false s)
  | .loop b, _, s => loopR (evH E u b true) u s
  | .exit id, _, s => ⟨[], [(some id, none, s)], none⟩
  | .ret, _, s => ⟨[], [(none, none, s)], none⟩
  | _, _, _ => stuckR 1000002
abbrev evC (E : Env) (u : Nat) (c : Code) (s : St) : Res := evH E u c false s

/-! ### what comes out -/
def Tag.ex : Tag → Exit
  | none => .ret
  | some i => .exit i
def AllF (o : Outs) : Prop := ∀ t c s, getO t o = some (c, s) → cval c = false
def ButF (t : Tag) (o : Outs) : Prop := ∀ t' c s, t' ≠ t → getO t' o = some (c, s) → cval c = false
/-- How a result ends. -/
def Oc (r : Res) (e : Exit) (s : St) : Prop :=
  (∃ t c, e = Tag.ex t ∧ getO t r.outs = some (c, s) ∧ cval c = true ∧ ButF t r.outs) ∨ (e = .normal ∧ r.nrm = some s ∧ AllF r.outs)

theorem getO_append (t : Tag) : ∀ (A B : Outs), getO t (A ++ B) = match getO t A with | some x => some x | none => getO t B
  | [], B => rfl
  | (k, c, s) :: r, B => by
    show (bif tagB k t then some (c, s) else getO t (r ++ B)) = match (bif tagB k t then some (c, s) else getO t r) with | some x => some x | none => getO t B
    cases tagB k t with
    | true => rfl
    | false => exact getO_append t r B
theorem getO_withB (f : Tag → Cnd → St → Option (Cnd × St) → Cnd × St) (B : Outs) (t : Tag) : ∀ (A : Outs), getO t (withB f B A) = match getO t A with | some (c, s) => some (f t c s (getO t B)) | none => none
  | [] => rfl
  | (k, c, s) :: r => by
    show (bif tagB k t then some (f k c s (getO k B)) else getO t (withB f B r)) = match (bif tagB k t then some (c, s) else getO t r) with | some (c, s) => some (f t c s (getO t B)) | none => none
    cases h : tagB k t with
    | true => rw [tagB_eq h]; rfl
    | false => exact getO_withB f B t r
theorem getO_onlyB (f : Cnd → Cnd) (A : Outs) (t : Tag) (hA : getO t A = none) : ∀ (B : Outs), getO t (onlyB f A B) = match getO t B with | some (d, s) => some (f d, s) | none => none
  | [] => rfl
  | (k, d, s) :: r => by
    show getO t (match getO k A with | some _ => onlyB f A r | none => (k, f d, s) :: onlyB f A r) = match (bif tagB k t then some (d, s) else getO t r) with | some (d, s) => some (f d, s) | none => none
    cases h : tagB k t with
    | true =>
      obtain rfl := tagB_eq h
      rw [hA]
      show (bif tagB k k then some (f d, s) else getO k (onlyB f A r)) = _
      rw [tagB_self]
      rfl
    | false =>
      have ih := getO_onlyB f A t hA r
      cases hk : getO k A with
      | some x => exact ih
      | none =>
        show (bif tagB k t then some (f d, s) else getO t (onlyB f A r)) = _
        rw [h]
        exact ih
theorem getO_join (t : Tag) (f : Tag → Cnd → St → Option (Cnd × St) → Cnd × St) (h : Cnd → Cnd) (A B : Outs) :
    getO t (withB f B A ++ onlyB h A B) = match getO t A with | some (c, s) => some (f t c s (getO t B)) | none => match getO t B with | some (d, s) => some (h d, s) | none => none := by
  rw [getO_append, getO_withB]
  cases hA : getO t A with
  | some x => rfl
  | none => exact getO_onlyB h A t hA B
theorem noneOf_ok : ∀ {o : Outs}, (∀ e ∈ o, cval e.2.1 = false) → cval (noneOf o) = true
  | [], _ => rfl
  | (k, c, s) :: r, h => by
    show cval (andO (notO c) (noneOf r)) = true
    rw [cval_and, cval_not, h (k, c, s) (List.mem_cons_self ..), noneOf_ok fun e he => h e (List.mem_cons_of_mem _ he)]
    rfl
/-- The tags of a list stand once each. -/
def Once : Outs → Prop
  | [] => True
  | (k, _, _) :: r => getO k r = none ∧ Once r
theorem mem_getO : ∀ {o : Outs}, Once o → ∀ e ∈ o, getO e.1 o = some e.2
  | [], _, e, h => by cases h
  | (k, c, s) :: r, ⟨h1, h2⟩, e, h => by
    rcases List.mem_cons.1 h with rfl | h
    · show (bif tagB k k then some (c, s) else getO k r) = _
      rw [tagB_self]
      rfl
    · have := mem_getO h2 e h
      show (bif tagB k e.1 then some (c, s) else getO e.1 r) = _
      cases hb : tagB k e.1 with
      | true =>
        obtain rfl := tagB_eq hb
        rw [h1] at this
        cases this
      | false => exact this
theorem allF_noneOf {o : Outs} (ho : Once o) (h : AllF o) : cval (noneOf o) = true := noneOf_ok fun e he => h e.1 e.2.1 e.2.2 (mem_getO ho e he)
theorem noneOf_no : ∀ {o : Outs} {t : Tag} {c : Cnd} {s : St}, getO t o = some (c, s) → cval c = true → cval (noneOf o) = false
  | [], _, _, _, h, _ => by cases h
  | (k, d, x) :: r, t, c, s, h, hc => by
    show cval (andO (notO d) (noneOf r)) = false
    rw [cval_and, cval_not]
    have h' : (bif tagB k t then some (d, x) else getO t r) = some (c, s) := h
    cases hb : tagB k t with
    | true =>
      rw [hb] at h'
      obtain ⟨rfl, rfl⟩ : d = c ∧ x = s := by cases h'; exact ⟨rfl, rfl⟩
      rw [hc]
      rfl
    | false =>
      rw [hb] at h'
      rw [noneOf_no h' hc, Bool.and_false]
theorem noneBut_no : ∀ {o : Outs} {t u : Tag} {c : Cnd} {s : St}, t ≠ u → getO t o = some (c, s) → cval c = true → cval (noneBut u o) = false
  | [], _, _, _, _, _, h, _ => by cases h
  | (k, d, x) :: r, t, u, c, s, hu, h, hc => by
    have h' : (bif tagB k t then some (d, x) else getO t r) = some (c, s) := h
    show cval (bif tagB k u then noneBut u r else andO (notO d) (noneBut u r)) = false
    cases hb : tagB k t with
    | true =>
      rw [hb] at h'
      obtain ⟨rfl, rfl⟩ : d = c ∧ x = s := by cases h'; exact ⟨rfl, rfl⟩
      obtain rfl := tagB_eq hb
      rw [tagB_ne hu]
      show cval (andO (notO d) (noneBut u r)) = false
      rw [cval_and, cval_not, hc]
      rfl
    | false =>
      rw [hb] at h'
      have ih := noneBut_no hu h' hc
      cases tagB k u with
      | true => exact ih
      | false =>
        show cval (andO (notO d) (noneBut u r)) = false
        rw [cval_and, ih, Bool.and_false]
theorem noneBut_ok : ∀ {o : Outs} {u : Tag}, (∀ e ∈ o, cval e.2.1 = false) → cval (noneBut u o) = true
  | [], _, _ => rfl
  | (k, c, s) :: r, u, h => by
    have ih := noneBut_ok (u := u) (o := r) fun e he => h e (List.mem_cons_of_mem _ he)
    show cval (bif tagB k u then noneBut u r else andO (notO c) (noneBut u r)) = true
    cases tagB k u with
    | true => exact ih
    | false =>
      show cval (andO (notO c) (noneBut u r)) = true
      rw [cval_and, cval_not, h (k, c, s) (List.mem_cons_self ..), ih]
      rfl

theorem once_append : ∀ {A B : Outs}, Once A → Once B → (∀ t x, getO t A = some x → getO t B = none) → Once (A ++ B)
  | [], B, _, hB, _ => hB
  | (k, c, s) :: r, B, ⟨h1, h2⟩, hB, h => by
    refine ⟨?_, once_append h2 hB fun t x hx => h t x ?_⟩
    · show getO k (r ++ B) = none
      rw [getO_append, h1]
      exact h k (c, s) (by show (bif tagB k k then some (c, s) else getO k r) = _; rw [tagB_self]; rfl)
    · show (bif tagB k t then some (c, s) else getO t r) = some x
      cases hb : tagB k t with
      | true =>
        obtain rfl := tagB_eq hb
        rw [h1] at hx
        cases hx
      | false => exact hx
theorem once_withB (f : Tag → Cnd → St → Option (Cnd × St) → Cnd × St) (B : Outs) : ∀ {A : Outs}, Once A → Once (withB f B A)
  | [], _ => trivial
  | (k, c, s) :: r, ⟨h1, h2⟩ => ⟨by rw [getO_withB, h1], once_withB f B h2⟩
theorem getO_onlyB_none (f : Cnd → Cnd) (A : Outs) (t : Tag) (hA : getO t A ≠ none) : ∀ (B : Outs), getO t (onlyB f A B) = none
  | [] => rfl
  | (k, d, s) :: r => by
    have ih := getO_onlyB_none f A t hA r
    show getO t (match getO k A with | some _ => onlyB f A r | none => (k, f d, s) :: onlyB f A r) = none
    cases hk : getO k A with
    | some x => exact ih
    | none =>
      show (bif tagB k t then some (f d, s) else getO t (onlyB f A r)) = none
      cases hb : tagB k t with
      | true => exact absurd (tagB_eq hb ▸ hk) hA
      | false => exact ih
theorem once_onlyB (f : Cnd → Cnd) (A : Outs) : ∀ {B : Outs}, Once B → Once (onlyB f A B)
  | [], _ => trivial
  | (k, d, s) :: r, ⟨h1, h2⟩ => by
    have ih := once_onlyB f A h2
    show Once (match getO k A with | some _ => onlyB f A r | none => (k, f d, s) :: onlyB f A r)
    cases hk : getO k A with
    | some x => exact ih
    | none => exact ⟨by rw [getO_onlyB f A k hk, h1], ih⟩
theorem once_join (f : Tag → Cnd → St → Option (Cnd × St) → Cnd × St) (h : Cnd → Cnd) {A B : Outs} (hA : Once A) (hB : Once B) : Once (withB f B A ++ onlyB h A B) :=
  once_append (once_withB f B hA) (once_onlyB h A hB) fun t x hx => by
    refine getO_onlyB_none h A t (fun hn => ?_) B
    rw [getO_withB, hn] at hx
    cases hx
theorem getO_dropO (u t : Tag) : ∀ (o : Outs), getO t (dropO u o) = if t = u then none else getO t o
  | [] => by split <;> rfl
  | (k, c, s) :: r => by
    have ih := getO_dropO u t r
    show getO t (bif tagB k u then dropO u r else (k, c, s) :: dropO u r) = if t = u then none else (bif tagB k t then some (c, s) else getO t r)
    by_cases hku : k = u
    · subst hku
      rw [tagB_self]
      show getO t (dropO k r) = _
      rw [ih]
      by_cases htk : t = k
      · rw [if_pos htk, if_pos htk]
      · rw [if_neg htk, if_neg htk, tagB_ne (Ne.symm htk)]
        rfl
    · rw [tagB_ne hku]
      show (bif tagB k t then some (c, s) else getO t (dropO u r)) = _
      rw [ih]
      by_cases htu : t = u
      · subst htu
        rw [if_pos rfl, if_pos rfl, tagB_ne hku]
        rfl
      · rw [if_neg htu, if_neg htu]
theorem once_dropO (u : Tag) : ∀ {o : Outs}, Once o → Once (dropO u o)
  | [], _ => trivial
  | (k, c, s) :: r, ⟨h1, h2⟩ => by
    have ih := once_dropO u h2
    show Once (bif tagB k u then dropO u r else (k, c, s) :: dropO u r)
    cases tagB k u with
    | true => exact ih
    | false => exact ⟨by rw [getO_dropO, h1]; split <;> rfl, ih⟩

/-- All states of a result are its beginning, and more. -/
structure Wf (s : St) (r : Res) : Prop where
  outs : ∀ t c x, getO t r.outs = some (c, x) → Sub s x
  nrm : ∀ x, r.nrm = some x → Sub s x
  once : Once r.outs

theorem wf_join {s : St} {g : Bool} {A B : Res} (hA : Wf s A) (hB : Wf s B) : Wf s (joinR g s A B) := by
  refine ⟨fun t c x h => ?_, fun x h => ?_, once_join _ _ hA.once hB.once⟩
  · have h' : getO t (withB (joinF g s) B.outs A.outs ++ onlyB (andO (some !g)) A.outs B.outs) = some (c, x) := h
    rw [getO_join] at h'
    cases h1 : getO t A.outs with
    | some y =>
      obtain ⟨c1, y⟩ := y
      rw [h1] at h'
      cases h2 : getO t B.outs with
      | some z =>
        obtain ⟨c2, z⟩ := z
        rw [h2] at h'
        cases h'
        exact Sub.merge (hA.outs _ _ _ h1) (hB.outs _ _ _ h2) g
      | none =>
        rw [h2] at h'
        cases h'
        exact hA.outs _ _ _ h1
    | none =>
      rw [h1] at h'
      cases h2 : getO t B.outs with
      | some z =>
        obtain ⟨c2, z⟩ := z
        rw [h2] at h'
        cases h'
        exact hB.outs _ _ _ h2
      | none =>
        rw [h2] at h'
        cases h'
  · have h' : joinN g s A.nrm B.nrm = some x := h
    cases h1 : A.nrm with
    | some y =>
      cases h2 : B.nrm with
      | some z => rw [h1, h2] at h'; cases h'; exact Sub.merge (hA.nrm _ h1) (hB.nrm _ h2) g
      | none => rw [h1, h2] at h'; cases h'; exact hA.nrm _ h1
    | none =>
      cases h2 : B.nrm with
      | some z => rw [h1, h2] at h'; cases h'; exact hB.nrm _ h2
      | none => rw [h1, h2] at h'; cases h'
theorem wf_seq {s s1 : St} {A B : Res} (hA : Wf s A) (h1 : A.nrm = some s1) (hB : Wf s1 B) : Wf s (seqR s A B) := by
  have hs := hA.nrm _ h1
  refine ⟨fun t c x h => ?_, fun x h => hs.trans (hB.nrm _ h), once_join _ _ hA.once hB.once⟩
  have h' : getO t (withB (seqF A.outs s) B.outs A.outs ++ onlyB (andO (noneOf A.outs)) A.outs B.outs) = some (c, x) := h
  rw [getO_join] at h'
  cases h1 : getO t A.outs with
  | some y =>
    obtain ⟨c1, y⟩ := y
    rw [h1] at h'
    cases h2 : getO t B.outs with
    | some z =>
      obtain ⟨c2, z⟩ := z
      rw [h2] at h'
      cases h'
      exact Sub.merge (hA.outs _ _ _ h1) (hs.trans (hB.outs _ _ _ h2)) _
    | none =>
      rw [h2] at h'
      cases h'
      exact hA.outs _ _ _ h1
  | none =>
    rw [h1] at h'
    cases h2 : getO t B.outs with
    | some z =>
      obtain ⟨c2, z⟩ := z
      rw [h2] at h'
      cases h'
      exact hs.trans (hB.outs _ _ _ h2)
    | none =>
      rw [h2] at h'
      cases h'
theorem wf_block {s : St} {id : Nat} {A : Res} (hA : Wf s A) : Wf s (blockR s id A) := by
  unfold blockR
  cases h1 : getO (some id) A.outs with
  | none => exact hA
  | some y =>
    obtain ⟨c, y⟩ := y
    refine ⟨fun t c' x h => ?_, fun x h => ?_, once_dropO _ hA.once⟩
    · have h' : getO t (dropO (some id) A.outs) = some (c', x) := h
      rw [getO_dropO] at h'
      split at h'
      · cases h'
      · exact hA.outs _ _ _ h'
    · have h' : (match A.nrm with | none => some y | some z => some (mergeS (cval c) s y z)) = some x := h
      cases h2 : A.nrm with
      | none => rw [h2] at h'; cases h'; exact hA.outs _ _ _ h1
      | some z => rw [h2] at h'; cases h'; exact Sub.merge (hA.outs _ _ _ h1) (hA.nrm _ h2) _
theorem wf_stuck (s : St) (id : Nat) : Wf s (stuckR id) := ⟨fun _ _ _ h => (by cases h), fun _ h => (by cases h), trivial⟩
theorem wf_loop {f : St → Res} (hf : ∀ s, Wf s (f s)) : ∀ (n : Nat) (s : St), Wf s (loopR f n s)
  | 0, s => wf_stuck s _
  | n + 1, s => by
    unfold loopR
    cases h : (f s).nrm with
    | none => exact hf s
    | some s1 => exact wf_seq (hf s) h (wf_loop hf n s1)
theorem wf_one (s : St) (t : Tag) : Wf s ⟨[], [(t, none, s)], none⟩ :=
  ⟨fun t' c x h => (by
    have h' : (bif tagB t t' then some (none, s) else none) = some (c, x) := h
    cases hb : tagB t t' with
    | true => rw [hb] at h'; cases h'; exact Sub.refl s
    | false => rw [hb] at h'; cases h'),
   fun x h => (by cases h), rfl, trivial⟩
theorem wf_code {E : Env} {u : Nat} : ∀ (c : Code) (h : Bool) (s : St), Wf s (evH E u c h s)
  | .skip, _, s => ⟨fun _ _ _ h => (by cases h), fun x h => (by cases h; exact Sub.refl s), trivial⟩
  | .region id ops draw, _, s => by
    unfold evH
    cases h : evR E ops.toList draw s with
    | none => exact wf_stuck s _
    | some x =>
      obtain ⟨s', ps⟩ := x
      exact ⟨fun _ _ _ h => (by cases h), fun x h' => (by cases h'; exact region_sub h), trivial⟩
  | .seq a b, hd, s => by
    unfold evH
    cases h : (evH E u a hd s).nrm with
    | none => exact wf_code a hd s
    | some s1 => exact wf_seq (wf_code a hd s) h (wf_code b _ s1)
  | .cond c x y, hd, s => by
    unfold evH
    split
    · rename_i g _
      cases litH hd u with
      | true =>
        cases g with
        | true => exact wf_code x _ s
        | false => exact wf_code y _ s
      | false => exact wf_join (wf_code x _ s) (wf_code y _ s)
    · exact wf_stuck s _
  | .block id b, _, s => wf_block (wf_code b _ s)
  | .loop b, _, s => wf_loop (fun s => wf_code b _ s) u s
  | .exit id, _, s => wf_one s (some id)
  | .ret, _, s => wf_one s none
  | .rangeFunc _ _ _ _, _, s => wf_stuck s _
  | .scope _, _, s => wf_stuck s _
  | .label _, _, s => wf_stuck s _
  | .goto _, _, s => wf_stuck s _
  | .refuse _, _, s => wf_stuck s _

theorem all_append {ps qs : List Prop} (h : ∀ p ∈ ps ++ qs, p) : (∀ p ∈ ps, p) ∧ (∀ p ∈ qs, p) := ⟨fun p hp => h p (List.mem_append.2 (.inl hp)), fun p hp => h p (List.mem_append.2 (.inr hp))⟩

/-- How a join ends, by its parts. -/
theorem oc_join {s : St} {g : Bool} {A B : Res} {e : Exit} {x : St} (hA : Wf s A) (hB : Wf s B) (h : Oc (bif g then A else B) e x) :
    ∃ y, Oc (joinR g s A B) e y ∧ ∀ {E : Env} {B : World} {σ a R}, RelE E B σ x a R → ∃ σ', RelE E B σ' y a R := by
  have gj := getO_join (f := joinF g s) (h := andO (some !g)) (A := A.outs) (B := B.outs)
  rcases h with ⟨t, c, rfl, h1, h2, h3⟩ | ⟨rfl, h1, h2⟩
  · cases g with
    | true =>
      have h1' : getO t A.outs = some (c, x) := h1
      cases hb : getO t B.outs with
      | none =>
        refine ⟨x, .inl ⟨t, andO (some true) c, rfl, ?_, ?_, fun t' c' s' hne hg => ?_⟩, fun h => ⟨_, h⟩⟩
        · show getO t (_ ++ _) = _
          rw [gj, h1', hb]
          rfl
        · rw [cval_and, h2]; rfl
        · have hg' : getO t' (_ ++ _) = some (c', s') := hg
          rw [gj] at hg'
          cases ha : getO t' A.outs with
          | some z =>
            obtain ⟨c1, z⟩ := z
            have := h3 t' c1 z hne ha
            rw [ha] at hg'
            cases hb' : getO t' B.outs with
            | some w => obtain ⟨d, w⟩ := w; rw [hb'] at hg'; cases hg'; rw [cval_ite]; exact this
            | none => rw [hb'] at hg'; cases hg'; rw [cval_and, this]; rfl
          | none =>
            rw [ha] at hg'
            cases hb' : getO t' B.outs with
            | some w => obtain ⟨d, w⟩ := w; rw [hb'] at hg'; cases hg'; rw [cval_and]; rfl
            | none => rw [hb'] at hg'; cases hg'
      | some y =>
        obtain ⟨d, y⟩ := y
        refine ⟨mergeS true s x y, .inl ⟨t, iteO true c d, rfl, ?_, ?_, fun t' c' s' hne hg => ?_⟩, fun h => Rel.merge (hA.outs _ _ _ h1') (hB.outs _ _ _ hb) (g := true) h⟩
        · show getO t (_ ++ _) = _
          rw [gj, h1', hb]
          rfl
        · rw [cval_ite]; exact h2
        · have hg' : getO t' (_ ++ _) = some (c', s') := hg
          rw [gj] at hg'
          cases ha : getO t' A.outs with
          | some z =>
            obtain ⟨c1, z⟩ := z
            have := h3 t' c1 z hne ha
            rw [ha] at hg'
            cases hb' : getO t' B.outs with
            | some w => obtain ⟨d, w⟩ := w; rw [hb'] at hg'; cases hg'; rw [cval_ite]; exact this
            | none => rw [hb'] at hg'; cases hg'; rw [cval_and, this]; rfl
          | none =>
            rw [ha] at hg'
            cases hb' : getO t' B.outs with
            | some w => obtain ⟨d, w⟩ := w; rw [hb'] at hg'; cases hg'; rw [cval_and]; rfl
            | none => rw [hb'] at hg'; cases hg'
    | false =>
      have h1' : getO t B.outs = some (c, x) := h1
      have hbut : ∀ t' c' s', t' ≠ t → getO t' (joinR false s A B).outs = some (c', s') → cval c' = false := fun t' c' s' hne hg => by
        have hg' : getO t' (_ ++ _) = some (c', s') := hg
        rw [gj] at hg'
        cases ha : getO t' A.outs with
        | some z =>
          obtain ⟨c1, z⟩ := z
          rw [ha] at hg'
          cases hb' : getO t' B.outs with
          | some w =>
            obtain ⟨d, w⟩ := w
            have := h3 t' d w hne hb'
            rw [hb'] at hg'; cases hg'; rw [cval_ite]; exact this
          | none => rw [hb'] at hg'; cases hg'; rw [cval_and]; rfl
        | none =>
          rw [ha] at hg'
          cases hb' : getO t' B.outs with
          | some w =>
            obtain ⟨d, w⟩ := w
            have := h3 t' d w hne hb'
            rw [hb'] at hg'; cases hg'; rw [cval_and, this]; rfl
          | none => rw [hb'] at hg'; cases hg'
      cases ha : getO t A.outs with
      | none =>
        refine ⟨x, .inl ⟨t, andO (some !false) c, rfl, ?_, ?_, hbut⟩, fun h => ⟨_, h⟩⟩
        · show getO t (_ ++ _) = _
          rw [gj, ha, h1']
        · rw [cval_and, h2]; rfl
      | some y =>
        obtain ⟨d, y⟩ := y
        refine ⟨mergeS false s y x, .inl ⟨t, iteO false d c, rfl, ?_, ?_, hbut⟩, fun h => Rel.merge (hA.outs _ _ _ ha) (hB.outs _ _ _ h1') (g := false) h⟩
        · show getO t (_ ++ _) = _
          rw [gj, ha, h1']
          rfl
        · rw [cval_ite]; exact h2
  · have hall : AllF (joinR g s A B).outs := fun t' c' s' hg => by
      have hg' : getO t' (_ ++ _) = some (c', s') := hg
      rw [gj] at hg'
      cases ha : getO t' A.outs with
      | some z =>
        obtain ⟨c1, z⟩ := z
        rw [ha] at hg'
        cases hb' : getO t' B.outs with
        | some w =>
          obtain ⟨d, w⟩ := w
          rw [hb'] at hg'; cases hg'; rw [cval_ite]
          cases g with
          | true => exact h2 t' c1 _ ha
          | false => exact h2 t' d _ hb'
        | none =>
          rw [hb'] at hg'; cases hg'; rw [cval_and]
          cases g with
          | true => rw [h2 t' c1 _ ha]; rfl
          | false => rfl
      | none =>
        rw [ha] at hg'
        cases hb' : getO t' B.outs with
        | some w =>
          obtain ⟨d, w⟩ := w
          rw [hb'] at hg'; cases hg'; rw [cval_and]
          cases g with
          | true => rfl
          | false => rw [h2 t' d _ hb']; rfl
        | none => rw [hb'] at hg'; cases hg'
    cases g with
    | true =>
      have h1' : A.nrm = some x := h1
      cases hb : B.nrm with
      | none => exact ⟨x, .inr ⟨rfl, by show joinN true s A.nrm B.nrm = _; rw [h1', hb]; rfl, hall⟩, fun h => ⟨_, h⟩⟩
      | some y => exact ⟨_, .inr ⟨rfl, by show joinN true s A.nrm B.nrm = _; rw [h1', hb]; rfl, hall⟩, fun h => Rel.merge (hA.nrm _ h1') (hB.nrm _ hb) (g := true) h⟩
    | false =>
      have h1' : B.nrm = some x := h1
      cases ha : A.nrm with
      | none => exact ⟨x, .inr ⟨rfl, by show joinN false s A.nrm B.nrm = _; rw [ha, h1']; rfl, hall⟩, fun h => ⟨_, h⟩⟩
      | some y => exact ⟨_, .inr ⟨rfl, by show joinN false s A.nrm B.nrm = _; rw [ha, h1']; rfl, hall⟩, fun h => Rel.merge (hA.nrm _ ha) (hB.nrm _ h1') (g := false) h⟩

/-- The first part of a row of two has left. -/
theorem oc_seq1 {s s1 : St} {A B : Res} {t : Tag} {c : Cnd} {x : St} (hA : Wf s A) (hn : A.nrm = some s1) (hB : Wf s1 B) (h1 : getO t A.outs = some (c, x)) (h2 : cval c = true) (h3 : ButF t A.outs) :
    ∃ y, Oc (seqR s A B) (Tag.ex t) y ∧ ∀ {E : Env} {B : World} {σ a R}, RelE E B σ x a R → ∃ σ', RelE E B σ' y a R := by
  have gj := getO_join (f := seqF A.outs s) (h := andO (noneOf A.outs)) (A := A.outs) (B := B.outs)
  have hbut : ButF t (seqR s A B).outs := fun t' c' s' hne hg => by
    have hg' : getO t' (_ ++ _) = some (c', s') := hg
    rw [gj] at hg'
    cases ha : getO t' A.outs with
    | some z =>
      obtain ⟨c1, z⟩ := z
      have := h3 t' c1 z hne ha
      rw [ha] at hg'
      cases hb' : getO t' B.outs with
      | some w =>
        obtain ⟨d, w⟩ := w
        rw [hb'] at hg'; cases hg'
        rw [cval_or, this, cval_and, noneBut_no (Ne.symm hne) h1 h2]
        rfl
      | none => rw [hb'] at hg'; cases hg'; exact this
    | none =>
      rw [ha] at hg'
      cases hb' : getO t' B.outs with
      | some w =>
        obtain ⟨d, w⟩ := w
        rw [hb'] at hg'; cases hg'
        rw [cval_and, noneOf_no h1 h2]
        rfl
      | none => rw [hb'] at hg'; cases hg'
  cases hb : getO t B.outs with
  | none =>
    refine ⟨x, .inl ⟨t, c, rfl, ?_, h2, hbut⟩, fun h => ⟨_, h⟩⟩
    show getO t (_ ++ _) = _
    rw [gj, h1, hb]
    rfl
  | some y =>
    obtain ⟨d, y⟩ := y
    refine ⟨mergeS (cval c) s x y, .inl ⟨t, orO c (andO (noneBut t A.outs) d), rfl, ?_, ?_, hbut⟩, fun h => Rel.merge (hA.outs _ _ _ h1) ((hA.nrm _ hn).trans (hB.outs _ _ _ hb)) (g := cval c) (by rw [h2]; exact h)⟩
    · show getO t (_ ++ _) = _
      rw [gj, h1, hb]
      rfl
    · rw [cval_or, h2]
      rfl
/-- The first part has come to its end. -/
theorem oc_seq2 {s s1 : St} {A B : Res} {e : Exit} {x : St} (hA : Wf s A) (hn : A.nrm = some s1) (hB : Wf s1 B) (hall : AllF A.outs) (h : Oc B e x) :
    ∃ y, Oc (seqR s A B) e y ∧ ∀ {E : Env} {B : World} {σ a R}, RelE E B σ x a R → ∃ σ', RelE E B σ' y a R := by
  have gj := getO_join (f := seqF A.outs s) (h := andO (noneOf A.outs)) (A := A.outs) (B := B.outs)
  have hno := allF_noneOf hA.once hall
  have hnb : ∀ t, cval (noneBut t A.outs) = true := fun t => noneBut_ok fun e he => hall e.1 e.2.1 e.2.2 (mem_getO hA.once e he)
  rcases h with ⟨t, c, rfl, h1, h2, h3⟩ | ⟨rfl, h1, h2⟩
  · have hbut : ButF t (seqR s A B).outs := fun t' c' s' hne hg => by
      have hg' : getO t' (_ ++ _) = some (c', s') := hg
      rw [gj] at hg'
      cases ha : getO t' A.outs with
      | some z =>
        obtain ⟨c1, z⟩ := z
        have := hall t' c1 z ha
        rw [ha] at hg'
        cases hb' : getO t' B.outs with
        | some w =>
          obtain ⟨d, w⟩ := w
          rw [hb'] at hg'; cases hg'
          rw [cval_or, this, cval_and, h3 t' d _ hne hb', Bool.and_false]
          rfl
        | none => rw [hb'] at hg'; cases hg'; exact this
      | none =>
        rw [ha] at hg'
        cases hb' : getO t' B.outs with
        | some w =>
          obtain ⟨d, w⟩ := w
          rw [hb'] at hg'; cases hg'
          rw [cval_and, h3 t' d _ hne hb', Bool.and_false]
        | none => rw [hb'] at hg'; cases hg'
    cases ha : getO t A.outs with
    | none =>
      refine ⟨x, .inl ⟨t, andO (noneOf A.outs) c, rfl, ?_, by rw [cval_and, hno, h2]; rfl, hbut⟩, fun h => ⟨_, h⟩⟩
      show getO t (_ ++ _) = _
      rw [gj, ha, h1]
    | some y =>
      obtain ⟨d, y⟩ := y
      have hd := hall t d y ha
      refine ⟨mergeS (cval d) s y x, .inl ⟨t, orO d (andO (noneBut t A.outs) c), rfl, ?_, ?_, hbut⟩, fun h => Rel.merge (hA.outs _ _ _ ha) ((hA.nrm _ hn).trans (hB.outs _ _ _ h1)) (g := cval d) (by rw [hd]; exact h)⟩
      · show getO t (_ ++ _) = _
        rw [gj, ha, h1]
        rfl
      · rw [cval_or, cval_and, hnb t, h2, Bool.and_self, Bool.or_true]
  · refine ⟨x, .inr ⟨rfl, h1, fun t' c' s' hg => ?_⟩, fun h => ⟨_, h⟩⟩
    have hg' : getO t' (_ ++ _) = some (c', s') := hg
    rw [gj] at hg'
    cases ha : getO t' A.outs with
    | some z =>
      obtain ⟨c1, z⟩ := z
      have := hall t' c1 z ha
      rw [ha] at hg'
      cases hb' : getO t' B.outs with
      | some w =>
        obtain ⟨d, w⟩ := w
        rw [hb'] at hg'; cases hg'
        rw [cval_or, this, cval_and, h2 t' d _ hb', Bool.and_false]
        rfl
      | none => rw [hb'] at hg'; cases hg'; exact this
    | none =>
      rw [ha] at hg'
      cases hb' : getO t' B.outs with
      | some w =>
        obtain ⟨d, w⟩ := w
        rw [hb'] at hg'; cases hg'
        rw [cval_and, h2 t' d _ hb', Bool.and_false]
      | none => rw [hb'] at hg'; cases hg'

theorem seq_needs {s : St} {A B : Res} (hA : Wf s A) (hall : AllF A.outs) (h : ∀ p ∈ (seqR s A B).ps, p) : (∀ p ∈ B.ps, p) := by
  have h' := (all_append h).2
  refine gimps_ok h' fun q hq => ?_
  have hno := allF_noneOf hA.once hall
  cases hc : noneOf A.outs with
  | none => rw [hc] at hq; cases hq
  | some b =>
    rw [hc] at hq hno
    obtain rfl := List.mem_singleton.1 hq
    exact hno

theorem raw_cond {E : Env} {B : World} {σ : Nm} {s : St} {a : Act} {R : World} (h : RelE E B σ s a R) {c : Operand} {v : Value} (hc : s.raw [] c = some v) : a.eval c = v := raw_ok h (gok_nil _) hc

def Good (E : Env) (B : World) (f : St → Res) (c : Code) : Prop := ∀ (s : St) (σ : Nm) (a : Act) (R : World) (Q : Exit → Act → World → Prop), RelE E B σ s a R → (∀ p ∈ (f s).ps, p) →
  (∀ e x σ' a' R', Oc (f s) e x → RelE E B σ' x a' R' → Q e a' R') → c.wp E.P Q a R

theorem seq_good {E : Env} {W : World} {f : St → Res} {c d : Code} (hw : ∀ s, Wf s (f s)) (hf : Good E W f c) {s : St} {σ : Nm} {a : Act} {R : World} {Q : Exit → Act → World → Prop} {s1 : St} {B : Res} (h : RelE E W σ s a R) (hn : (f s).nrm = some s1) (hB : Wf s1 B)
    (hp : ∀ p ∈ (seqR s (f s) B).ps, p) (hk : ∀ e x σ' a' R', Oc (seqR s (f s) B) e x → RelE E W σ' x a' R' → Q e a' R')
    (hd : ∀ (σ' : Nm) (a' : Act) (R' : World), RelE E W σ' s1 a' R' → (∀ p ∈ B.ps, p) → (∀ e x σ' a' R', Oc B e x → RelE E W σ' x a' R' → Q e a' R') → d.wp E.P Q a' R') : c.wp E.P (Exit.then (d.wp E.P Q) Q) a R := by
  refine hf s σ a R _ h (all_append hp).1 fun e x σ' a' R' ho hr => ?_
  rcases ho with ⟨t, cc, rfl, h1, h2, h3⟩ | ⟨rfl, h1, h2⟩
  · obtain ⟨y, hy, hr'⟩ := oc_seq1 (hw s) hn hB h1 h2 h3
    obtain ⟨σ2, hr2⟩ := hr' hr
    have := hk _ y σ2 a' R' hy hr2
    cases t <;> exact this
  · rw [hn] at h1
    obtain rfl := Option.some.inj h1
    refine hd σ' a' R' hr (seq_needs (hw s) h2 hp) fun e x σ'' a'' R'' ho' hr' => ?_
    obtain ⟨y, hy, hr''⟩ := oc_seq2 (hw s) hn hB h2 ho'
    obtain ⟨σ2, hr2⟩ := hr'' hr'
    exact hk e y σ2 a'' R'' hy hr2

theorem code_ok {E : Env} {B : World} (ok : EnvOk E B) {u : Nat} : ∀ (c : Code) (hd : Bool), Good E B (evH E u c hd) c
  | .skip, _ => fun s σ a R Q h _ hk => wp_skip (hk _ s σ a R (.inr ⟨rfl, rfl, fun _ _ _ h => by cases h⟩) h)
  | .region id ops draw, _ => fun s σ a R Q h hp hk => by
    unfold evH at hp hk
    cases he : evR E ops.toList draw s with
    | none => rw [he] at hp; exact (hp (Stuck id) (List.mem_singleton.2 rfl)).elim
    | some x =>
      obtain ⟨s', ps⟩ := x
      rw [he] at hp hk
      have := region_ok ok h (id := id) he hp (Q := Q) fun σ' a' R' hr => hk _ s' σ' a' R' (.inr ⟨rfl, rfl, fun _ _ _ h => by cases h⟩) hr
      rwa [Array.toArray_toList] at this
  | .seq c d, hd => fun s σ a R Q h hp hk => by
    unfold evH at hp hk
    refine wp_seq ?_
    cases hn : (evH E u c hd s).nrm with
    | none =>
      rw [hn] at hp hk
      refine code_ok ok c hd s σ a R _ h hp fun e x σ' a' R' ho hr => ?_
      have := hk e x σ' a' R' ho hr
      rcases ho with ⟨t, cc, rfl, _, _, _⟩ | ⟨rfl, h1, _⟩
      · cases t <;> exact this
      · rw [hn] at h1
        cases h1
    | some s1 =>
      rw [hn] at hp hk
      exact seq_good (fun s => wf_code c hd s) (code_ok ok c hd) h hn (wf_code d _ s1) hp hk fun σ' a' R' hr hp' hk' => code_ok ok d _ s1 σ' a' R' Q hr hp' hk'
  | .cond c x y, hd => fun s σ a R Q h hp hk => by
    unfold evH at hp hk
    split at hp
    · rename_i g hg
      rw [hg] at hk
      simp only at hk
      have hev := raw_cond h hg
      generalize litH hd u = lt at hp hk
      cases lt with
      | true =>
        cases g with
        | true => exact wp_cond_true hev (code_ok ok x false s σ a R Q h hp hk)
        | false => exact wp_cond_false hev (code_ok ok y false s σ a R Q h hp hk)
      | false =>
      obtain ⟨hp1, hp2⟩ := all_append hp
      have main : ∀ z : Exit × St, Oc (bif g then evH E u x false s else evH E u y false s) z.1 z.2 → ∀ σ' a' R', RelE E B σ' z.2 a' R' → Q z.1 a' R' := fun z hz σ' a' R' hr => by
        obtain ⟨w, hw, hr'⟩ := oc_join (wf_code x _ s) (wf_code y _ s) hz
        obtain ⟨σ2, hr2⟩ := hr' hr
        exact hk z.1 w σ2 a' R' hw hr2
      cases g with
      | true =>
        refine wp_cond_true hev (code_ok ok x false s σ a R Q h (gimps_ok hp1 fun q hq => by obtain rfl := List.mem_singleton.1 hq; rfl) fun e z σ' a' R' ho hr => main (e, z) ho σ' a' R' hr)
      | false =>
        refine wp_cond_false hev (code_ok ok y false s σ a R Q h (gimps_ok hp2 fun q hq => by obtain rfl := List.mem_singleton.1 hq; rfl) fun e z σ' a' R' ho hr => main (e, z) ho σ' a' R' hr)
    · exact (hp (Stuck 1000001) (List.mem_singleton.2 rfl)).elim
  | .block id b, _ => fun s σ a R Q h hp hk => by
    refine wp_block ?_
    have hwf := wf_code (E := E) (u := u) b false s
    have hp' : ∀ p ∈ (evH E u b false s).ps, p := fun p hm => hp p (by
      show p ∈ (blockR s id (evH E u b false s)).ps
      unfold blockR
      cases hg : getO (some id) (evH E u b false s).outs with
      | none => exact hm
      | some y => exact hm)
    refine code_ok ok b false s σ a R _ h hp' fun e x σ' a' R' ho hr => ?_
    have hk' : ∀ e x σ' a' R', Oc (blockR s id (evH E u b false s)) e x → RelE E B σ' x a' R' → Q e a' R' := hk
    generalize evH E u b false s = A at *
    cases hg : getO (some id) A.outs with
    | none =>
      have hbl : blockR s id A = A := by unfold blockR; rw [hg]
      rw [hbl] at hk'
      have := hk' e x σ' a' R' ho hr
      rcases ho with ⟨t, cc, rfl, h1, _, _⟩ | ⟨rfl, _, _⟩
      · cases t with
        | none => exact this
        | some i =>
          have hne : i ≠ id := fun e => by subst e; rw [hg] at h1; cases h1
          show Exit.inBlock id Q (.exit i) a' R'
          unfold Exit.inBlock
          simp only [hne, if_false]
          exact this
      · exact this
    | some y =>
      obtain ⟨c, y⟩ := y
      have hbl : blockR s id A = ⟨A.ps, dropO (some id) A.outs, match A.nrm with | none => some y | some z => some (mergeS (cval c) s y z)⟩ := by unfold blockR; rw [hg]
      rw [hbl] at hk'
      rcases ho with ⟨t, cc, rfl, h1, h2, h3⟩ | ⟨rfl, h1, h2⟩
      · by_cases ht : t = some id
        · subst ht
          rw [hg] at h1
          obtain ⟨rfl, rfl⟩ : c = cc ∧ y = x := by cases h1; exact ⟨rfl, rfl⟩
          have hall : AllF (dropO (some id) A.outs) := fun t' c' s' hg' => by
            rw [getO_dropO] at hg'
            split at hg'
            · cases hg'
            · rename_i hne
              exact h3 t' c' s' hne hg'
          show Exit.inBlock id Q (.exit id) a' R'
          unfold Exit.inBlock
          simp only [if_true]
          cases hn : A.nrm with
          | none =>
            rw [hn] at hk'
            exact hk' .normal y σ' a' R' (.inr ⟨rfl, rfl, hall⟩) hr
          | some z =>
            rw [hn] at hk'
            obtain ⟨σ2, hr2⟩ := Rel.merge (hwf.outs _ _ _ hg) (hwf.nrm _ hn) (g := cval c) (by rw [h2]; exact hr)
            exact hk' .normal _ σ2 a' R' (.inr ⟨rfl, rfl, hall⟩) hr2
        · have ho' : getO t (dropO (some id) A.outs) = some (cc, x) := by rw [getO_dropO, if_neg ht]; exact h1
          have := hk' (Tag.ex t) x σ' a' R' (.inl ⟨t, cc, rfl, ho', h2, fun t' c' s' hne hg' => by
            rw [getO_dropO] at hg'
            split at hg'
            · cases hg'
            · exact h3 t' c' s' hne hg'⟩) hr
          cases t with
          | none => exact this
          | some i =>
            have hne : i ≠ id := fun e => ht (by rw [e])
            show Exit.inBlock id Q (.exit i) a' R'
            unfold Exit.inBlock
            simp only [hne, if_false]
            exact this
      · have hall : AllF (dropO (some id) A.outs) := fun t' c' s' hg' => by
          rw [getO_dropO] at hg'
          split at hg'
          · cases hg'
          · exact h2 t' c' s' hg'
        rw [h1] at hk'
        obtain ⟨σ2, hr2⟩ := Rel.merge (hwf.outs _ _ _ hg) (hwf.nrm _ h1) (g := cval c) (by rw [h2 _ _ _ hg]; exact hr)
        exact hk' .normal _ σ2 a' R' (.inr ⟨rfl, rfl, hall⟩) hr2
  | .loop b, _ => fun s σ a R Q h hp hk => by
    have key : ∀ (n : Nat) (s : St) (σ : Nm) (a : Act) (R : World), RelE E B σ s a R → (∀ p ∈ (loopR (evH E u b true) n s).ps, p) → (∀ e x σ' a' R', Oc (loopR (evH E u b true) n s) e x → RelE E B σ' x a' R' → Q e a' R') →
        Code.rounds E.P b Q n a R := fun n => by
      induction n with
      | zero => intro s σ a R h hp hk; exact (hp (Stuck 1000000) (List.mem_singleton.2 rfl)).elim
      | succ n ih =>
        intro s σ a R h hp hk
        rw [rounds_succ]
        unfold loopR at hp hk
        cases hn : (evH E u b true s).nrm with
        | none =>
          rw [hn] at hp hk
          refine code_ok ok b true s σ a R _ h hp fun e x σ' a' R' ho hr => ?_
          have := hk e x σ' a' R' ho hr
          rcases ho with ⟨t, cc, rfl, _, _, _⟩ | ⟨rfl, h1, _⟩
          · cases t <;> exact this
          · rw [hn] at h1
            cases h1
        | some s1 =>
          rw [hn] at hp hk
          refine code_ok ok b true s σ a R _ h (all_append hp).1 fun e x σ' a' R' ho hr => ?_
          rcases ho with ⟨t, cc, rfl, h1, h2, h3⟩ | ⟨rfl, h1, h2⟩
          · obtain ⟨y, hy, hr'⟩ := oc_seq1 (wf_code b true s) hn (wf_loop (fun s => wf_code b true s) n s1) h1 h2 h3
            obtain ⟨σ2, hr2⟩ := hr' hr
            have := hk _ y σ2 a' R' hy hr2
            cases t <;> exact this
          · rw [hn] at h1
            obtain rfl := Option.some.inj h1
            refine ih s1 σ' a' R' hr (seq_needs (wf_code b true s) h2 hp) fun e x σ'' a'' R'' ho' hr' => ?_
            obtain ⟨y, hy, hr''⟩ := oc_seq2 (wf_code b true s) hn (wf_loop (fun s => wf_code b true s) n s1) h2 ho'
            obtain ⟨σ2, hr2⟩ := hr'' hr'
            exact hk e y σ2 a'' R'' hy hr2
    exact wp_loop_rounds u (key u s σ a R h hp hk)
  | .exit id, _ => fun s σ a R Q h _ hk => wp_exit (hk _ s σ a R (.inl ⟨some id, none, rfl, by show (bif tagB (some id) (some id) then some (none, s) else none) = _; rw [tagB_self]; rfl, rfl, fun t' c x hne hg => by
      have h' : (bif tagB (some id) t' then some (none, s) else none) = some (c, x) := hg
      rw [tagB_ne (Ne.symm hne)] at h'
      cases h'⟩) h)
  | .ret, _ => fun s σ a R Q h _ hk => wp_ret (hk _ s σ a R (.inl ⟨none, none, rfl, rfl, rfl, fun t' c x hne hg => by
      have h' : (bif tagB none t' then some (none, s) else none) = some (c, x) := hg
      rw [tagB_ne (Ne.symm hne)] at h'
      cases h'⟩) h)
  | .rangeFunc _ _ _ _, _ => fun s σ a R Q _ hp _ => (hp (Stuck 1000002) (List.mem_singleton.2 rfl)).elim
  | .scope _, _ => fun s σ a R Q _ hp _ => (hp (Stuck 1000002) (List.mem_singleton.2 rfl)).elim
  | .label _, _ => fun s σ a R Q _ hp _ => (hp (Stuck 1000002) (List.mem_singleton.2 rfl)).elim
  | .goto _, _ => fun s σ a R Q _ hp _ => (hp (Stuck 1000002) (List.mem_singleton.2 rfl)).elim
  | .refuse _, _ => fun s σ a R Q _ hp _ => (hp (Stuck 1000002) (List.mem_singleton.2 rfl)).elim
end Go.Proofs.Yteebobbhhgmeiaa
