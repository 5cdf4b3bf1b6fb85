/- A symbolic run over typed data, part N: code. -/
import Derived.Test.YteebobbhhgmeiaaTM
import Derived.LoopN
namespace Go.Proofs.Yteebobbhhgmeiaa
open Go.RowKit

/-- A place of the program that the run does not get through. -/
def Stuck (_id : Nat) : Prop := False

/-- The slots that a code writes. -/
def wrC : Code → List Nat
  | .region _ ops _ => dstL ops.toList
  | .seq a b => wrC a ++ wrC b
  | .cond _ a b => wrC a ++ wrC b
  | .block _ b => wrC b
  | .loop b => wrC b
  | _ => []
theorem inW_append {u : Nat} : ∀ {A B : List Nat}, inW u (A ++ B) = (inW u A || inW u B)
  | [], B => rfl
  | k :: r, B => by
    show (bif Nat.beq k u then true else inW u (r ++ B)) = ((bif Nat.beq k u then true else inW u r) || inW u B)
    rw [inW_append]
    cases Nat.beq k u <;> rfl
abbrev Tag := Option Nat
abbrev Outs := List (Tag × Cnd × St)
def tagB : Tag → Tag → Bool
  | none, none => true
  | some i, some j => Nat.beq i j
  | _, _ => false
theorem tagB_eq {x y : Tag} (h : tagB x y = true) : x = y := by
  cases x <;> cases y <;> first | rfl | (cases h; done) | skip
  rw [Nat.eq_of_beq_eq_true h]
theorem tagB_self (x : Tag) : tagB x x = true := by cases x <;> simp [tagB]
theorem tagB_ne {x y : Tag} (h : x ≠ y) : tagB x y = false := by
  cases hb : tagB x y with
  | true => exact absurd (tagB_eq hb) h
  | false => rfl

def getO (t : Tag) : Outs → Option (Cnd × St)
  | [] => none
  | (k, c, s) :: r => bif tagB k t then some (c, s) else getO t r
/-- None of the others. -/
def noneBut (t : Tag) : Outs → Cnd
  | [] => none
  | (k, c, _) :: r => bif tagB k t then noneBut t r else andO (notO c) (noneBut t r)
def noneOf : Outs → Cnd
  | [] => none
  | (_, c, _) :: r => andO (notO c) (noneOf r)

structure Res where
  ps : List Prop
  outs : Outs
  nrm : Option St

/-- The outs of A in a join or a row with B. -/
def withB (f : Tag → Cnd → St → Option (Cnd × St) → Cnd × St) (B : Outs) : Outs → Outs
  | [] => []
  | (t, c, s) :: r => (t, f t c s (getO t B)) :: withB f B r
def onlyB (f : Cnd → Cnd) (A : Outs) : Outs → Outs
  | [] => []
  | (t, d, s) :: r => match getO t A with
    | some _ => onlyB f A r
    | none => (t, f d, s) :: onlyB f A r

def joinF (g : Bool) (W : List Nat) (s : St) (_t : Tag) (c : Cnd) (x : St) : Option (Cnd × St) → Cnd × St
  | none => (andO (some g) c, x)
  | some (d, y) => (iteO g c d, mergeS g W s x y)
def joinN (g : Bool) (W : List Nat) (s : St) : Option St → Option St → Option St
  | none, none => none
  | some x, none => some x
  | none, some y => some y
  | some x, some y => some (mergeS g W s x y)
def joinR (g : Bool) (W : List Nat) (s : St) (A B : Res) : Res :=
  ⟨gimps [g = true] A.ps ++ gimps [g = false] B.ps, withB (joinF g W s) B.outs A.outs ++ onlyB (andO (some !g)) A.outs B.outs, joinN g W s A.nrm B.nrm⟩

def seqF (A : Outs) (W : List Nat) (s : St) (t : Tag) (c : Cnd) (x : St) : Option (Cnd × St) → Cnd × St
  | none => (c, x)
  | some (d, y) => (orO c (andO (noneBut t A) d), mergeS (cval c) W s x y)
def seqR (W : List Nat) (s : St) (A B : Res) : Res :=
  ⟨A.ps ++ gimps (cndP (noneOf A.outs)) B.ps, withB (seqF A.outs W s) B.outs A.outs ++ onlyB (andO (noneOf A.outs)) A.outs B.outs, B.nrm⟩

def dropO (t : Tag) : Outs → Outs
  | [] => []
  | (k, c, s) :: r => bif tagB k t then dropO t r else (k, c, s) :: dropO t r
def blockR (W : List Nat) (s : St) (id : Nat) (A : Res) : Res := match getO (some id) A.outs with
  | none => A
  | some (c, x) => ⟨A.ps, dropO (some id) A.outs, match A.nrm with
    | none => some x
    | some y => some (mergeS (cval c) W s x y)⟩

def stuckR (id : Nat) : Res := ⟨[Stuck id], [], none⟩

def loopR (W : List Nat) (f : St → Res) : Nat → St → Res
  | 0, _ => stuckR 1000000
  | n + 1, s => match (f s).nrm with
    | none => f s
    | some s1 => seqR W s (f s) (loopR W f n s1)

def isRegion : Code → Bool
  | .region _ _ _ => true
  | _ => false
/-- u from 1000 on: every test is a literal. -/
def litH (h : Bool) (u : Nat) : Bool := bif h then true else Nat.ble 1000 u
/-- 'h': this is a loop's head, whose test is a literal; l: the block around. -/
def evH (E : Env) (u : Nat) : Nat → Code → Bool → St → Res
  | _, .skip, _, s => ⟨[], [], some s⟩
  | _, .region id ops draw, _, s => match evR E ops.toList draw s with
    | some (s', ps) => ⟨ps, [], some s'⟩
    | none => stuckR id
  | _, .seq a b, h, s => match (evH E u 0 a h s).nrm with
    | none => evH E u 0 a h s
    | some s1 => seqR (wrC a ++ wrC b) s (evH E u 0 a h s) (evH E u 0 b (bif isRegion a then h else false) s1)
  | _, .cond c x y, h, s => match s.raw [] c with
    | some (.bool g) => match litH h u with
      | true => match g with
        | true => evH E u 0 x false s
        | false => evH E u 0 y false s
      | false => joinR g (wrC x ++ wrC y) s (evH E u 0 x false s) (evH E u 0 y false s)
    | _ => stuckR 1000001
  | _, .block id b, _, s => blockR (wrC b) s id (evH E u id b false s)
  | l, .loop b, _, s => match E.L l s with
    | some (b0, ps, outs) => ⟨(b = b0) :: ps, outs, none⟩
    | none => loopR (wrC b) (evH E u 0 b true) u s
  | _, .exit id, _, s => ⟨[], [(some id, none, s)], none⟩
  | _, .ret, _, s => ⟨[], [(none, none, s)], none⟩
  | _, _, _, _ => stuckR 1000002
abbrev evC (E : Env) (u : Nat) (c : Code) (s : St) : Res := evH E u 0 c false s

/-! ### what comes out -/
def Tag.ex : Tag → Exit
  | none => .ret
  | some i => .exit i
def AllF (o : Outs) : Prop := ∀ t c s, getO t o = some (c, s) → cval c = false
def ButF (t : Tag) (o : Outs) : Prop := ∀ t' c s, t' ≠ t → getO t' o = some (c, s) → cval c = false
/-- How a result ends. -/
def Oc (r : Res) (e : Exit) (s : St) : Prop :=
  (∃ t c, e = Tag.ex t ∧ getO t r.outs = some (c, s) ∧ cval c = true ∧ ButF t r.outs) ∨ (e = .normal ∧ r.nrm = some s ∧ AllF r.outs)

theorem getO_append (t : Tag) : ∀ (A B : Outs), getO t (A ++ B) = match getO t A with | some x => some x | none => getO t B
  | [], B => rfl
  | (k, c, s) :: r, B => by
    show (bif tagB k t then some (c, s) else getO t (r ++ B)) = match (bif tagB k t then some (c, s) else getO t r) with | some x => some x | none => getO t B
    cases tagB k t with
    | true => rfl
    | false => exact getO_append t r B
theorem getO_withB (f : Tag → Cnd → St → Option (Cnd × St) → Cnd × St) (B : Outs) (t : Tag) : ∀ (A : Outs), getO t (withB f B A) = match getO t A with | some (c, s) => some (f t c s (getO t B)) | none => none
  | [] => rfl
  | (k, c, s) :: r => by
    show (bif tagB k t then some (f k c s (getO k B)) else getO t (withB f B r)) = match (bif tagB k t then some (c, s) else getO t r) with | some (c, s) => some (f t c s (getO t B)) | none => none
    cases h : tagB k t with
    | true => rw [tagB_eq h]; rfl
    | false => exact getO_withB f B t r
theorem getO_onlyB (f : Cnd → Cnd) (A : Outs) (t : Tag) (hA : getO t A = none) : ∀ (B : Outs), getO t (onlyB f A B) = match getO t B with | some (d, s) => some (f d, s) | none => none
  | [] => rfl
  | (k, d, s) :: r => by
    show getO t (match getO k A with | some _ => onlyB f A r | none => (k, f d, s) :: onlyB f A r) = match (bif tagB k t then some (d, s) else getO t r) with | some (d, s) => some (f d, s) | none => none
    cases h : tagB k t with
    | true =>
      obtain rfl := tagB_eq h
      rw [hA]
      show (bif tagB k k then some (f d, s) else getO k (onlyB f A r)) = _
      rw [tagB_self]
      rfl
    | false =>
      have ih := getO_onlyB f A t hA r
      cases hk : getO k A with
      | some x => exact ih
      | none =>
        show (bif tagB k t then some (f d, s) else getO t (onlyB f A r)) = _
        rw [h]
        exact ih
theorem getO_join (t : Tag) (f : Tag → Cnd → St → Option (Cnd × St) → Cnd × St) (h : Cnd → Cnd) (A B : Outs) :
    getO t (withB f B A ++ onlyB h A B) = match getO t A with | some (c, s) => some (f t c s (getO t B)) | none => match getO t B with | some (d, s) => some (h d, s) | none => none := by
  rw [getO_append, getO_withB]
  cases hA : getO t A with
  | some x => rfl
  | none => exact getO_onlyB h A t hA B
theorem noneOf_ok : ∀ {o : Outs}, (∀ e ∈ o, cval e.2.1 = false) → cval (noneOf o) = true
  | [], _ => rfl
  | (k, c, s) :: r, h => by
    show cval (andO (notO c) (noneOf r)) = true
    rw [cval_and, cval_not, h (k, c, s) (List.mem_cons_self ..), noneOf_ok fun e he => h e (List.mem_cons_of_mem _ he)]
    rfl
/-- The tags of a list stand once each. -/
def Once : Outs → Prop
  | [] => True
  | (k, _, _) :: r => getO k r = none ∧ Once r
theorem mem_getO : ∀ {o : Outs}, Once o → ∀ e ∈ o, getO e.1 o = some e.2
  | [], _, e, h => by cases h
  | (k, c, s) :: r, ⟨h1, h2⟩, e, h => by
    rcases List.mem_cons.1 h with rfl | h
    · show (bif tagB k k then some (c, s) else getO k r) = _
      rw [tagB_self]
      rfl
    · have := mem_getO h2 e h
      show (bif tagB k e.1 then some (c, s) else getO e.1 r) = _
      cases hb : tagB k e.1 with
      | true =>
        obtain rfl := tagB_eq hb
        rw [h1] at this
        cases this
      | false => exact this
theorem allF_noneOf {o : Outs} (ho : Once o) (h : AllF o) : cval (noneOf o) = true := noneOf_ok fun e he => h e.1 e.2.1 e.2.2 (mem_getO ho e he)
theorem noneOf_no : ∀ {o : Outs} {t : Tag} {c : Cnd} {s : St}, getO t o = some (c, s) → cval c = true → cval (noneOf o) = false
  | [], _, _, _, h, _ => by cases h
  | (k, d, x) :: r, t, c, s, h, hc => by
    show cval (andO (notO d) (noneOf r)) = false
    rw [cval_and, cval_not]
    have h' : (bif tagB k t then some (d, x) else getO t r) = some (c, s) := h
    cases hb : tagB k t with
    | true =>
      rw [hb] at h'
      obtain ⟨rfl, rfl⟩ : d = c ∧ x = s := by cases h'; exact ⟨rfl, rfl⟩
      rw [hc]
      rfl
    | false =>
      rw [hb] at h'
      rw [noneOf_no h' hc, Bool.and_false]
theorem noneBut_no : ∀ {o : Outs} {t u : Tag} {c : Cnd} {s : St}, t ≠ u → getO t o = some (c, s) → cval c = true → cval (noneBut u o) = false
  | [], _, _, _, _, _, h, _ => by cases h
  | (k, d, x) :: r, t, u, c, s, hu, h, hc => by
    have h' : (bif tagB k t then some (d, x) else getO t r) = some (c, s) := h
    show cval (bif tagB k u then noneBut u r else andO (notO d) (noneBut u r)) = false
    cases hb : tagB k t with
    | true =>
      rw [hb] at h'
      obtain ⟨rfl, rfl⟩ : d = c ∧ x = s := by cases h'; exact ⟨rfl, rfl⟩
      obtain rfl := tagB_eq hb
      rw [tagB_ne hu]
      show cval (andO (notO d) (noneBut u r)) = false
      rw [cval_and, cval_not, hc]
      rfl
    | false =>
      rw [hb] at h'
      have ih := noneBut_no hu h' hc
      cases tagB k u with
      | true => exact ih
      | false =>
        show cval (andO (notO d) (noneBut u r)) = false
        rw [cval_and, ih, Bool.and_false]
theorem noneBut_ok : ∀ {o : Outs} {u : Tag}, (∀ e ∈ o, cval e.2.1 = false) → cval (noneBut u o) = true
  | [], _, _ => rfl
  | (k, c, s) :: r, u, h => by
    have ih := noneBut_ok (u := u) (o := r) fun e he => h e (List.mem_cons_of_mem _ he)
    show cval (bif tagB k u then noneBut u r else andO (notO c) (noneBut u r)) = true
    cases tagB k u with
    | true => exact ih
    | false =>
      show cval (andO (notO c) (noneBut u r)) = true
      rw [cval_and, cval_not, h (k, c, s) (List.mem_cons_self ..), ih]
      rfl

theorem once_append : ∀ {A B : Outs}, Once A → Once B → (∀ t x, getO t A = some x → getO t B = none) → Once (A ++ B)
  | [], B, _, hB, _ => hB
  | (k, c, s) :: r, B, ⟨h1, h2⟩, hB, h => by
    refine ⟨?_, once_append h2 hB fun t x hx => h t x ?_⟩
    · show getO k (r ++ B) = none
      rw [getO_append, h1]
      exact h k (c, s) (by show (bif tagB k k then some (c, s) else getO k r) = _; rw [tagB_self]; rfl)
    · show (bif tagB k t then some (c, s) else getO t r) = some x
      cases hb : tagB k t with
      | true =>
        obtain rfl := tagB_eq hb
        rw [h1] at hx
        cases hx
      | false => exact hx
theorem once_withB (f : Tag → Cnd → St → Option (Cnd × St) → Cnd × St) (B : Outs) : ∀ {A : Outs}, Once A → Once (withB f B A)
  | [], _ => trivial
  | (k, c, s) :: r, ⟨h1, h2⟩ => ⟨by rw [getO_withB, h1], once_withB f B h2⟩
theorem getO_onlyB_none (f : Cnd → Cnd) (A : Outs) (t : Tag) (hA : getO t A ≠ none) : ∀ (B : Outs), getO t (onlyB f A B) = none
  | [] => rfl
  | (k, d, s) :: r => by
    have ih := getO_onlyB_none f A t hA r
    show getO t (match getO k A with | some _ => onlyB f A r | none => (k, f d, s) :: onlyB f A r) = none
    cases hk : getO k A with
    | some x => exact ih
    | none =>
      show (bif tagB k t then some (f d, s) else getO t (onlyB f A r)) = none
      cases hb : tagB k t with
      | true => exact absurd (tagB_eq hb ▸ hk) hA
      | false => exact ih
theorem once_onlyB (f : Cnd → Cnd) (A : Outs) : ∀ {B : Outs}, Once B → Once (onlyB f A B)
  | [], _ => trivial
  | (k, d, s) :: r, ⟨h1, h2⟩ => by
    have ih := once_onlyB f A h2
    show Once (match getO k A with | some _ => onlyB f A r | none => (k, f d, s) :: onlyB f A r)
    cases hk : getO k A with
    | some x => exact ih
    | none => exact ⟨by rw [getO_onlyB f A k hk, h1], ih⟩
theorem once_join (f : Tag → Cnd → St → Option (Cnd × St) → Cnd × St) (h : Cnd → Cnd) {A B : Outs} (hA : Once A) (hB : Once B) : Once (withB f B A ++ onlyB h A B) :=
  once_append (once_withB f B hA) (once_onlyB h A hB) fun t x hx => by
    refine getO_onlyB_none h A t (fun hn => ?_) B
    rw [getO_withB, hn] at hx
    cases hx
theorem getO_dropO (u t : Tag) : ∀ (o : Outs), getO t (dropO u o) = if t = u then none else getO t o
  | [] => by split <;> rfl
  | (k, c, s) :: r => by
    have ih := getO_dropO u t r
    show getO t (bif tagB k u then dropO u r else (k, c, s) :: dropO u r) = if t = u then none else (bif tagB k t then some (c, s) else getO t r)
    by_cases hku : k = u
    · subst hku
      rw [tagB_self]
      show getO t (dropO k r) = _
      rw [ih]
      by_cases htk : t = k
      · rw [if_pos htk, if_pos htk]
      · rw [if_neg htk, if_neg htk, tagB_ne (Ne.symm htk)]
        rfl
    · rw [tagB_ne hku]
      show (bif tagB k t then some (c, s) else getO t (dropO u r)) = _
      rw [ih]
      by_cases htu : t = u
      · subst htu
        rw [if_pos rfl, if_pos rfl, tagB_ne hku]
        rfl
      · rw [if_neg htu, if_neg htu]
theorem once_dropO (u : Tag) : ∀ {o : Outs}, Once o → Once (dropO u o)
  | [], _ => trivial
  | (k, c, s) :: r, ⟨h1, h2⟩ => by
    have ih := once_dropO u h2
    show Once (bif tagB k u then dropO u r else (k, c, s) :: dropO u r)
    cases tagB k u with
    | true => exact ih
    | false => exact ⟨by rw [getO_dropO, h1]; split <;> rfl, ih⟩

/-- All states of a result are its beginning, and more. -/
structure Wf (s : St) (r : Res) : Prop where
  outs : ∀ t c x, getO t r.outs = some (c, x) → Sub s x
  nrm : ∀ x, r.nrm = some x → Sub s x
  once : Once r.outs

theorem wf_join {s : St} {g : Bool} {W : List Nat} {A B : Res} (hA : Wf s A) (hB : Wf s B) : Wf s (joinR g W s A B) := by
  refine ⟨fun t c x h => ?_, fun x h => ?_, once_join _ _ hA.once hB.once⟩
  · have h' : getO t (withB (joinF g W s) B.outs A.outs ++ onlyB (andO (some !g)) A.outs B.outs) = some (c, x) := h
    rw [getO_join] at h'
    cases h1 : getO t A.outs with
    | some y =>
      obtain ⟨c1, y⟩ := y
      rw [h1] at h'
      cases h2 : getO t B.outs with
      | some z =>
        obtain ⟨c2, z⟩ := z
        rw [h2] at h'
        cases h'
        exact Sub.merge _ _ _ _ _
      | none =>
        rw [h2] at h'
        cases h'
        exact hA.outs _ _ _ h1
    | none =>
      rw [h1] at h'
      cases h2 : getO t B.outs with
      | some z =>
        obtain ⟨c2, z⟩ := z
        rw [h2] at h'
        cases h'
        exact hB.outs _ _ _ h2
      | none =>
        rw [h2] at h'
        cases h'
  · have h' : joinN g W s A.nrm B.nrm = some x := h
    cases h1 : A.nrm with
    | some y =>
      cases h2 : B.nrm with
      | some z => rw [h1, h2] at h'; cases h'; exact Sub.merge _ _ _ _ _
      | none => rw [h1, h2] at h'; cases h'; exact hA.nrm _ h1
    | none =>
      cases h2 : B.nrm with
      | some z => rw [h1, h2] at h'; cases h'; exact hB.nrm _ h2
      | none => rw [h1, h2] at h'; cases h'
theorem wf_seq {s s1 : St} {W : List Nat} {A B : Res} (hA : Wf s A) (h1 : A.nrm = some s1) (hB : Wf s1 B) : Wf s (seqR W s A B) := by
  have hs := hA.nrm _ h1
  refine ⟨fun t c x h => ?_, fun x h => hs.trans (hB.nrm _ h), once_join _ _ hA.once hB.once⟩
  have h' : getO t (withB (seqF A.outs W s) B.outs A.outs ++ onlyB (andO (noneOf A.outs)) A.outs B.outs) = some (c, x) := h
  rw [getO_join] at h'
  cases h1 : getO t A.outs with
  | some y =>
    obtain ⟨c1, y⟩ := y
    rw [h1] at h'
    cases h2 : getO t B.outs with
    | some z =>
      obtain ⟨c2, z⟩ := z
      rw [h2] at h'
      cases h'
      exact Sub.merge _ _ _ _ _
    | none =>
      rw [h2] at h'
      cases h'
      exact hA.outs _ _ _ h1
  | none =>
    rw [h1] at h'
    cases h2 : getO t B.outs with
    | some z =>
      obtain ⟨c2, z⟩ := z
      rw [h2] at h'
      cases h'
      exact hs.trans (hB.outs _ _ _ h2)
    | none =>
      rw [h2] at h'
      cases h'
theorem wf_block {s : St} {W : List Nat} {id : Nat} {A : Res} (hA : Wf s A) : Wf s (blockR W s id A) := by
  unfold blockR
  cases h1 : getO (some id) A.outs with
  | none => exact hA
  | some y =>
    obtain ⟨c, y⟩ := y
    refine ⟨fun t c' x h => ?_, fun x h => ?_, once_dropO _ hA.once⟩
    · have h' : getO t (dropO (some id) A.outs) = some (c', x) := h
      rw [getO_dropO] at h'
      split at h'
      · cases h'
      · exact hA.outs _ _ _ h'
    · have h' : (match A.nrm with | none => some y | some z => some (mergeS (cval c) W s y z)) = some x := h
      cases h2 : A.nrm with
      | none => rw [h2] at h'; cases h'; exact hA.outs _ _ _ h1
      | some z => rw [h2] at h'; cases h'; exact Sub.merge _ _ _ _ _
theorem wf_stuck (s : St) (id : Nat) : Wf s (stuckR id) := ⟨fun _ _ _ h => (by cases h), fun _ h => (by cases h), trivial⟩
theorem wf_loop {W : List Nat} {f : St → Res} (hf : ∀ s, Wf s (f s)) : ∀ (n : Nat) (s : St), Wf s (loopR W f n s)
  | 0, s => wf_stuck s _
  | n + 1, s => by
    unfold loopR
    cases h : (f s).nrm with
    | none => exact hf s
    | some s1 => exact wf_seq (hf s) h (wf_loop hf n s1)
theorem wf_one (s : St) (t : Tag) : Wf s ⟨[], [(t, none, s)], none⟩ :=
  ⟨fun t' c x h => (by
    have h' : (bif tagB t t' then some (none, s) else none) = some (c, x) := h
    cases hb : tagB t t' with
    | true => rw [hb] at h'; cases h'; exact Sub.refl s
    | false => rw [hb] at h'; cases h'),
   fun x h => (by cases h), rfl, trivial⟩
/-- What a loop comes to, by a table. -/
def LoopOk (E : Env) (b : Code) (s : St) (ps : List Prop) (outs : Outs) : Prop := ∀ (Z : Base) (F : Nat → Prop) (N : Nm) (a : Act) (R : World) (Q : Exit → Act → World → Prop), Rel Z F N s a R → (∀ u, inW u (wrC b) = true → Z.W u) → (∀ p ∈ ps, p) →
  (∀ e x F' N' a' R', Oc ⟨ps, outs, none⟩ e x → Rel Z F' N' x a' R' → Q e a' R') → (Code.loop b).wp E.P Q a R
structure CodeOk (E : Env) : Prop extends EnvOk E where
  loops : ∀ l s b ps outs, E.L l s = some (b, ps, outs) → Wf s ⟨ps, outs, none⟩ ∧ LoopOk E b s ps outs
theorem wf_code {E : Env} (ok : CodeOk E) {u : Nat} : ∀ (l : Nat) (c : Code) (h : Bool) (s : St), Wf s (evH E u l c h s)
  | _, .skip, _, s => ⟨fun _ _ _ h => (by cases h), fun x h => (by cases h; exact Sub.refl s), trivial⟩
  | _, .region id ops draw, _, s => by
    unfold evH
    cases h : evR E ops.toList draw s with
    | none => exact wf_stuck s _
    | some x =>
      obtain ⟨s', ps⟩ := x
      exact ⟨fun _ _ _ h => (by cases h), fun x h' => (by cases h'; exact region_sub ok.toEnvOk h), trivial⟩
  | _, .seq a b, hd, s => by
    unfold evH
    cases h : (evH E u 0 a hd s).nrm with
    | none => exact wf_code ok 0 a hd s
    | some s1 => exact wf_seq (wf_code ok 0 a hd s) h (wf_code ok 0 b _ s1)
  | _, .cond c x y, hd, s => by
    unfold evH
    split
    · rename_i g _
      cases litH hd u with
      | true =>
        cases g with
        | true => exact wf_code ok 0 x _ s
        | false => exact wf_code ok 0 y _ s
      | false => exact wf_join (wf_code ok 0 x _ s) (wf_code ok 0 y _ s)
    · exact wf_stuck s _
  | _, .block id b, _, s => wf_block (wf_code ok id b _ s)
  | l, .loop b, _, s => by
    unfold evH
    split
    · rename_i b0 ps outs h
      obtain ⟨h1, h2, h3⟩ := (ok.loops _ _ _ _ _ h).1
      exact ⟨h1, h2, h3⟩
    · exact wf_loop (fun s => wf_code ok 0 b _ s) u s
  | _, .exit id, _, s => wf_one s (some id)
  | _, .ret, _, s => wf_one s none
  | _, .rangeFunc _ _ _ _, _, s => wf_stuck s _
  | _, .scope _, _, s => wf_stuck s _
  | _, .label _, _, s => wf_stuck s _
  | _, .goto _, _, s => wf_stuck s _
  | _, .refuse _, _, s => wf_stuck s _

theorem all_append {ps qs : List Prop} (h : ∀ p ∈ ps ++ qs, p) : (∀ p ∈ ps, p) ∧ (∀ p ∈ qs, p) := ⟨fun p hp => h p (List.mem_append.2 (.inl hp)), fun p hp => h p (List.mem_append.2 (.inr hp))⟩

def Lift (M : Base) (x y : St) : Prop := ∀ a' R', At M a' R' x → At M a' R' y
theorem lift_m {Z : Base} {F : Nat → Prop} {N : Nm} {s : St} {a : Act} {R : World} {W : List Nat} (h0 : Rel Z F N s a R) {g : Bool} {x y z : St} (e1 : Sub s x) (e2 : Sub s y) (hz : z = bif g then x else y) : Lift (midB F N s a R W) z (mergeS g W s x y) := fun a' R' ⟨F', N', h⟩ => by
  subst hz
  obtain ⟨N'', h'⟩ := Rel.merge (h0.start W) h (fun _ h => h) e1 e2
  exact ⟨F', N'', h'⟩
/-- How a join ends, by its parts. -/
theorem oc_join {Z : Base} {F : Nat → Prop} {N : Nm} {a : Act} {R : World} {W : List Nat} {s : St} (h0 : Rel Z F N s a R) {g : Bool} {A B : Res} {e : Exit} {x : St} (hA : Wf s A) (hB : Wf s B) (h : Oc (bif g then A else B) e x) :
    ∃ y, Oc (joinR g W s A B) e y ∧ Lift (midB F N s a R W) x y := by
  have gj := getO_join (f := joinF g W s) (h := andO (some !g)) (A := A.outs) (B := B.outs)
  rcases h with ⟨t, c, rfl, h1, h2, h3⟩ | ⟨rfl, h1, h2⟩
  · cases g with
    | true =>
      have h1' : getO t A.outs = some (c, x) := h1
      cases hb : getO t B.outs with
      | none =>
        refine ⟨x, .inl ⟨t, andO (some true) c, rfl, ?_, ?_, fun t' c' s' hne hg => ?_⟩, fun _ _ h => h⟩
        · show getO t (_ ++ _) = _
          rw [gj, h1', hb]
          rfl
        · rw [cval_and, h2]; rfl
        · have hg' : getO t' (_ ++ _) = some (c', s') := hg
          rw [gj] at hg'
          cases ha : getO t' A.outs with
          | some z =>
            obtain ⟨c1, z⟩ := z
            have := h3 t' c1 z hne ha
            rw [ha] at hg'
            cases hb' : getO t' B.outs with
            | some w => obtain ⟨d, w⟩ := w; rw [hb'] at hg'; cases hg'; rw [cval_ite]; exact this
            | none => rw [hb'] at hg'; cases hg'; rw [cval_and, this]; rfl
          | none =>
            rw [ha] at hg'
            cases hb' : getO t' B.outs with
            | some w => obtain ⟨d, w⟩ := w; rw [hb'] at hg'; cases hg'; rw [cval_and]; rfl
            | none => rw [hb'] at hg'; cases hg'
      | some y =>
        obtain ⟨d, y⟩ := y
        refine ⟨mergeS true W s x y, .inl ⟨t, iteO true c d, rfl, ?_, ?_, fun t' c' s' hne hg => ?_⟩, lift_m (g := true) h0 (hA.outs _ _ _ h1') (hB.outs _ _ _ hb) rfl⟩
        · show getO t (_ ++ _) = _
          rw [gj, h1', hb]
          rfl
        · rw [cval_ite]; exact h2
        · have hg' : getO t' (_ ++ _) = some (c', s') := hg
          rw [gj] at hg'
          cases ha : getO t' A.outs with
          | some z =>
            obtain ⟨c1, z⟩ := z
            have := h3 t' c1 z hne ha
            rw [ha] at hg'
            cases hb' : getO t' B.outs with
            | some w => obtain ⟨d, w⟩ := w; rw [hb'] at hg'; cases hg'; rw [cval_ite]; exact this
            | none => rw [hb'] at hg'; cases hg'; rw [cval_and, this]; rfl
          | none =>
            rw [ha] at hg'
            cases hb' : getO t' B.outs with
            | some w => obtain ⟨d, w⟩ := w; rw [hb'] at hg'; cases hg'; rw [cval_and]; rfl
            | none => rw [hb'] at hg'; cases hg'
    | false =>
      have h1' : getO t B.outs = some (c, x) := h1
      have hbut : ∀ t' c' s', t' ≠ t → getO t' (joinR false W s A B).outs = some (c', s') → cval c' = false := fun t' c' s' hne hg => by
        have hg' : getO t' (_ ++ _) = some (c', s') := hg
        rw [gj] at hg'
        cases ha : getO t' A.outs with
        | some z =>
          obtain ⟨c1, z⟩ := z
          rw [ha] at hg'
          cases hb' : getO t' B.outs with
          | some w =>
            obtain ⟨d, w⟩ := w
            have := h3 t' d w hne hb'
            rw [hb'] at hg'; cases hg'; rw [cval_ite]; exact this
          | none => rw [hb'] at hg'; cases hg'; rw [cval_and]; rfl
        | none =>
          rw [ha] at hg'
          cases hb' : getO t' B.outs with
          | some w =>
            obtain ⟨d, w⟩ := w
            have := h3 t' d w hne hb'
            rw [hb'] at hg'; cases hg'; rw [cval_and, this]; rfl
          | none => rw [hb'] at hg'; cases hg'
      cases ha : getO t A.outs with
      | none =>
        refine ⟨x, .inl ⟨t, andO (some !false) c, rfl, ?_, ?_, hbut⟩, fun _ _ h => h⟩
        · show getO t (_ ++ _) = _
          rw [gj, ha, h1']
        · rw [cval_and, h2]; rfl
      | some y =>
        obtain ⟨d, y⟩ := y
        refine ⟨mergeS false W s y x, .inl ⟨t, iteO false d c, rfl, ?_, ?_, hbut⟩, lift_m (g := false) h0 (hA.outs _ _ _ ha) (hB.outs _ _ _ h1') rfl⟩
        · show getO t (_ ++ _) = _
          rw [gj, ha, h1']
          rfl
        · rw [cval_ite]; exact h2
  · have hall : AllF (joinR g W s A B).outs := fun t' c' s' hg => by
      have hg' : getO t' (_ ++ _) = some (c', s') := hg
      rw [gj] at hg'
      cases ha : getO t' A.outs with
      | some z =>
        obtain ⟨c1, z⟩ := z
        rw [ha] at hg'
        cases hb' : getO t' B.outs with
        | some w =>
          obtain ⟨d, w⟩ := w
          rw [hb'] at hg'; cases hg'; rw [cval_ite]
          cases g with
          | true => exact h2 t' c1 _ ha
          | false => exact h2 t' d _ hb'
        | none =>
          rw [hb'] at hg'; cases hg'; rw [cval_and]
          cases g with
          | true => rw [h2 t' c1 _ ha]; rfl
          | false => rfl
      | none =>
        rw [ha] at hg'
        cases hb' : getO t' B.outs with
        | some w =>
          obtain ⟨d, w⟩ := w
          rw [hb'] at hg'; cases hg'; rw [cval_and]
          cases g with
          | true => rfl
          | false => rw [h2 t' d _ hb']; rfl
        | none => rw [hb'] at hg'; cases hg'
    cases g with
    | true =>
      have h1' : A.nrm = some x := h1
      cases hb : B.nrm with
      | none => exact ⟨x, .inr ⟨rfl, by show joinN true W s A.nrm B.nrm = _; rw [h1', hb]; rfl, hall⟩, fun _ _ h => h⟩
      | some y => exact ⟨_, .inr ⟨rfl, by show joinN true W s A.nrm B.nrm = _; rw [h1', hb]; rfl, hall⟩, lift_m (g := true) h0 (hA.nrm _ h1') (hB.nrm _ hb) rfl⟩
    | false =>
      have h1' : B.nrm = some x := h1
      cases ha : A.nrm with
      | none => exact ⟨x, .inr ⟨rfl, by show joinN false W s A.nrm B.nrm = _; rw [ha, h1']; rfl, hall⟩, fun _ _ h => h⟩
      | some y => exact ⟨_, .inr ⟨rfl, by show joinN false W s A.nrm B.nrm = _; rw [ha, h1']; rfl, hall⟩, lift_m (g := false) h0 (hA.nrm _ ha) (hB.nrm _ h1') rfl⟩

/-- The first part of a row of two has left. -/
theorem oc_seq1 {Z : Base} {F : Nat → Prop} {N : Nm} {a : Act} {R : World} {W : List Nat} {s s1 : St} (h0 : Rel Z F N s a R) {A B : Res} {t : Tag} {c : Cnd} {x : St} (hA : Wf s A) (hn : A.nrm = some s1) (hB : Wf s1 B) (h1 : getO t A.outs = some (c, x)) (h2 : cval c = true) (h3 : ButF t A.outs) :
    ∃ y, Oc (seqR W s A B) (Tag.ex t) y ∧ Lift (midB F N s a R W) x y := by
  have gj := getO_join (f := seqF A.outs W s) (h := andO (noneOf A.outs)) (A := A.outs) (B := B.outs)
  have hbut : ButF t (seqR W s A B).outs := fun t' c' s' hne hg => by
    have hg' : getO t' (_ ++ _) = some (c', s') := hg
    rw [gj] at hg'
    cases ha : getO t' A.outs with
    | some z =>
      obtain ⟨c1, z⟩ := z
      have := h3 t' c1 z hne ha
      rw [ha] at hg'
      cases hb' : getO t' B.outs with
      | some w =>
        obtain ⟨d, w⟩ := w
        rw [hb'] at hg'; cases hg'
        rw [cval_or, this, cval_and, noneBut_no (Ne.symm hne) h1 h2]
        rfl
      | none => rw [hb'] at hg'; cases hg'; exact this
    | none =>
      rw [ha] at hg'
      cases hb' : getO t' B.outs with
      | some w =>
        obtain ⟨d, w⟩ := w
        rw [hb'] at hg'; cases hg'
        rw [cval_and, noneOf_no h1 h2]
        rfl
      | none => rw [hb'] at hg'; cases hg'
  cases hb : getO t B.outs with
  | none =>
    refine ⟨x, .inl ⟨t, c, rfl, ?_, h2, hbut⟩, fun _ _ h => h⟩
    show getO t (_ ++ _) = _
    rw [gj, h1, hb]
    rfl
  | some y =>
    obtain ⟨d, y⟩ := y
    refine ⟨mergeS (cval c) W s x y, .inl ⟨t, orO c (andO (noneBut t A.outs) d), rfl, ?_, ?_, hbut⟩, lift_m (g := cval c) h0 (hA.outs _ _ _ h1) ((hA.nrm _ hn).trans (hB.outs _ _ _ hb)) (by rw [h2]; rfl)⟩
    · show getO t (_ ++ _) = _
      rw [gj, h1, hb]
      rfl
    · rw [cval_or, h2]
      rfl
/-- The first part has come to its end. -/
theorem oc_seq2 {Z : Base} {F : Nat → Prop} {N : Nm} {a : Act} {R : World} {W : List Nat} {s s1 : St} (h0 : Rel Z F N s a R) {A B : Res} {e : Exit} {x : St} (hA : Wf s A) (hn : A.nrm = some s1) (hB : Wf s1 B) (hall : AllF A.outs) (h : Oc B e x) :
    ∃ y, Oc (seqR W s A B) e y ∧ Lift (midB F N s a R W) x y := by
  have gj := getO_join (f := seqF A.outs W s) (h := andO (noneOf A.outs)) (A := A.outs) (B := B.outs)
  have hno := allF_noneOf hA.once hall
  have hnb : ∀ t, cval (noneBut t A.outs) = true := fun t => noneBut_ok fun e he => hall e.1 e.2.1 e.2.2 (mem_getO hA.once e he)
  rcases h with ⟨t, c, rfl, h1, h2, h3⟩ | ⟨rfl, h1, h2⟩
  · have hbut : ButF t (seqR W s A B).outs := fun t' c' s' hne hg => by
      have hg' : getO t' (_ ++ _) = some (c', s') := hg
      rw [gj] at hg'
      cases ha : getO t' A.outs with
      | some z =>
        obtain ⟨c1, z⟩ := z
        have := hall t' c1 z ha
        rw [ha] at hg'
        cases hb' : getO t' B.outs with
        | some w =>
          obtain ⟨d, w⟩ := w
          rw [hb'] at hg'; cases hg'
          rw [cval_or, this, cval_and, h3 t' d _ hne hb', Bool.and_false]
          rfl
        | none => rw [hb'] at hg'; cases hg'; exact this
      | none =>
        rw [ha] at hg'
        cases hb' : getO t' B.outs with
        | some w =>
          obtain ⟨d, w⟩ := w
          rw [hb'] at hg'; cases hg'
          rw [cval_and, h3 t' d _ hne hb', Bool.and_false]
        | none => rw [hb'] at hg'; cases hg'
    cases ha : getO t A.outs with
    | none =>
      refine ⟨x, .inl ⟨t, andO (noneOf A.outs) c, rfl, ?_, by rw [cval_and, hno, h2]; rfl, hbut⟩, fun _ _ h => h⟩
      show getO t (_ ++ _) = _
      rw [gj, ha, h1]
    | some y =>
      obtain ⟨d, y⟩ := y
      have hd := hall t d y ha
      refine ⟨mergeS (cval d) W s y x, .inl ⟨t, orO d (andO (noneBut t A.outs) c), rfl, ?_, ?_, hbut⟩, lift_m (g := cval d) h0 (hA.outs _ _ _ ha) ((hA.nrm _ hn).trans (hB.outs _ _ _ h1)) (by rw [hd]; rfl)⟩
      · show getO t (_ ++ _) = _
        rw [gj, ha, h1]
        rfl
      · rw [cval_or, cval_and, hnb t, h2, Bool.and_self, Bool.or_true]
  · refine ⟨x, .inr ⟨rfl, h1, fun t' c' s' hg => ?_⟩, fun _ _ h => h⟩
    have hg' : getO t' (_ ++ _) = some (c', s') := hg
    rw [gj] at hg'
    cases ha : getO t' A.outs with
    | some z =>
      obtain ⟨c1, z⟩ := z
      have := hall t' c1 z ha
      rw [ha] at hg'
      cases hb' : getO t' B.outs with
      | some w =>
        obtain ⟨d, w⟩ := w
        rw [hb'] at hg'; cases hg'
        rw [cval_or, this, cval_and, h2 t' d _ hb', Bool.and_false]
        rfl
      | none => rw [hb'] at hg'; cases hg'; exact this
    | none =>
      rw [ha] at hg'
      cases hb' : getO t' B.outs with
      | some w =>
        obtain ⟨d, w⟩ := w
        rw [hb'] at hg'; cases hg'
        rw [cval_and, h2 t' d _ hb', Bool.and_false]
      | none => rw [hb'] at hg'; cases hg'

theorem seq_needs {W : List Nat} {s : St} {A B : Res} (hA : Wf s A) (hall : AllF A.outs) (h : ∀ p ∈ (seqR W s A B).ps, p) : (∀ p ∈ B.ps, p) := by
  have h' := (all_append h).2
  refine gimps_ok h' fun q hq => ?_
  have hno := allF_noneOf hA.once hall
  cases hc : noneOf A.outs with
  | none => rw [hc] at hq; cases hq
  | some b =>
    rw [hc] at hq hno
    obtain rfl := List.mem_singleton.1 hq
    exact hno

def Good (E : Env) (f : St → Res) (c : Code) : Prop := ∀ (Z : Base) (s : St) (a : Act) (R : World) (Q : Exit → Act → World → Prop), At Z a R s → (∀ u, inW u (wrC c) = true → Z.W u) → (∀ p ∈ (f s).ps, p) →
  (∀ e x a' R', Oc (f s) e x → At Z a' R' x → Q e a' R') → c.wp E.P Q a R
theorem At.over {Z : Base} {F : Nat → Prop} {N : Nm} {s x : St} {a a' : Act} {R R' : World} {W : List Nat} (h0 : Rel Z F N s a R) (hW : ∀ u, inW u W = true → Z.W u) (h : At (midB F N s a R W) a' R' x) : At Z a' R' x := by
  obtain ⟨F', N', h⟩ := h
  exact ⟨F', N', h0.over h hW⟩

theorem seq_good {E : Env} {W : List Nat} {f : St → Res} {c : Code} (hw : ∀ s, Wf s (f s)) (hf : Good E f c) {Z : Base} {F : Nat → Prop} {N : Nm} {s : St} {a : Act} {R : World} {Q : Exit → Act → World → Prop} {s1 : St} {B : Res} (h0 : Rel Z F N s a R) (hW : ∀ u, inW u W = true → Z.W u) (hc : ∀ u, inW u (wrC c) = true → inW u W = true) (hn : (f s).nrm = some s1) (hB : Wf s1 B)
    (hp : ∀ p ∈ (seqR W s (f s) B).ps, p) (hk : ∀ e x a' R', Oc (seqR W s (f s) B) e x → At Z a' R' x → Q e a' R')
    {K : Act → World → Prop} (hd : ∀ (a' : Act) (R' : World), At (midB F N s a R W) a' R' s1 → (∀ p ∈ B.ps, p) → (∀ e x a'' R'', Oc B e x → At (midB F N s a R W) a'' R'' x → Q e a'' R'') → K a' R') : c.wp E.P (Exit.then K Q) a R := by
  refine hf (midB F N s a R W) s a R _ ⟨F, N, h0.start W⟩ (fun u hu => hc u hu) (all_append hp).1 fun e x a' R' ho hr => ?_
  rcases ho with ⟨t, cc, rfl, h1, h2, h3⟩ | ⟨rfl, h1, h2⟩
  · obtain ⟨y, hy, hr'⟩ := oc_seq1 h0 (hw s) hn hB h1 h2 h3
    have := hk _ y a' R' hy (At.over h0 hW (hr' _ _ hr))
    cases t <;> exact this
  · rw [hn] at h1
    obtain rfl := Option.some.inj h1
    refine hd a' R' hr (seq_needs (hw s) h2 hp) fun e x a'' R'' ho' hr' => ?_
    obtain ⟨y, hy, hr''⟩ := oc_seq2 h0 (hw s) hn hB h2 ho'
    exact hk e y a'' R'' hy (At.over h0 hW (hr'' _ _ hr'))

theorem inW_left {u : Nat} {A B : List Nat} (h : inW u A = true) : inW u (A ++ B) = true := by rw [inW_append, h]; rfl
theorem inW_right {u : Nat} {A B : List Nat} (h : inW u B = true) : inW u (A ++ B) = true := by rw [inW_append, h]; cases inW u A <;> rfl

theorem code_ok {E : Env} (ok : CodeOk E) {u : Nat} : ∀ (l : Nat) (c : Code) (hd : Bool), Good E (evH E u l c hd) c
  | _, .skip, _ => fun Z s a R Q h _ _ hk => wp_skip (hk _ s a R (.inr ⟨rfl, rfl, fun _ _ _ h => by cases h⟩) h)
  | _, .region id ops draw, _ => fun Z s a R Q h hW hp hk => by
    unfold evH at hp hk
    cases he : evR E ops.toList draw s with
    | none => rw [he] at hp; exact (hp (Stuck id) (List.mem_singleton.2 rfl)).elim
    | some x =>
      obtain ⟨s', ps⟩ := x
      rw [he] at hp hk
      obtain ⟨F, N, h⟩ := h
      have := region_ok ok.toEnvOk h (id := id) hW he hp (Q := Q) fun F' N' a' R' hr => hk _ s' a' R' (.inr ⟨rfl, rfl, fun _ _ _ h => by cases h⟩) ⟨F', N', hr⟩
      rwa [Array.toArray_toList] at this
  | _, .seq c d, hd => fun Z s a R Q h hW hp hk => by
    unfold evH at hp hk
    refine wp_seq ?_
    cases hn : (evH E u 0 c hd s).nrm with
    | none =>
      rw [hn] at hp hk
      refine code_ok ok 0 c hd Z s a R _ h (fun u hu => hW u (inW_left hu)) hp fun e x a' R' ho hr => ?_
      have := hk e x a' R' ho hr
      rcases ho with ⟨t, cc, rfl, _, _, _⟩ | ⟨rfl, h1, _⟩
      · cases t <;> exact this
      · rw [hn] at h1
        cases h1
    | some s1 =>
      rw [hn] at hp hk
      obtain ⟨F, N, h⟩ := h
      exact seq_good (fun s => wf_code ok 0 c hd s) (code_ok ok 0 c hd) h hW (fun u hu => inW_left hu) hn (wf_code ok 0 d _ s1) hp hk fun a' R' hr hp' hk' => code_ok ok 0 d _ _ s1 a' R' Q hr (fun u hu => inW_right hu) hp' hk'
  | _, .cond c x y, hd => fun Z s a R Q h hW hp hk => by
    unfold evH at hp hk
    split at hp
    · rename_i g hg
      rw [hg] at hk
      simp only at hk
      obtain ⟨F, N, h⟩ := h
      have hev := raw_ok h (gok_nil _) hg
      generalize litH hd u = lt at hp hk
      cases lt with
      | true =>
        cases g with
        | true => exact wp_cond_true hev (code_ok ok 0 x false Z s a R Q ⟨F, N, h⟩ (fun u hu => hW u (inW_left hu)) hp hk)
        | false => exact wp_cond_false hev (code_ok ok 0 y false Z s a R Q ⟨F, N, h⟩ (fun u hu => hW u (inW_right hu)) hp hk)
      | false =>
      obtain ⟨hp1, hp2⟩ := all_append hp
      have main : ∀ z : Exit × St, Oc (bif g then evH E u 0 x false s else evH E u 0 y false s) z.1 z.2 → ∀ a' R', At (midB F N s a R (wrC x ++ wrC y)) a' R' z.2 → Q z.1 a' R' := fun z hz a' R' hr => by
        obtain ⟨w, hw, hr'⟩ := oc_join h (wf_code ok 0 x _ s) (wf_code ok 0 y _ s) hz
        exact hk z.1 w a' R' hw (At.over h hW (hr' _ _ hr))
      cases g with
      | true =>
        exact wp_cond_true hev (code_ok ok 0 x false (midB F N s a R (wrC x ++ wrC y)) s a R Q ⟨F, N, h.start _⟩ (fun u hu => inW_left hu) (gimps_ok hp1 fun q hq => by obtain rfl := List.mem_singleton.1 hq; rfl) fun e z a' R' ho hr => main (e, z) ho a' R' hr)
      | false =>
        exact wp_cond_false hev (code_ok ok 0 y false (midB F N s a R (wrC x ++ wrC y)) s a R Q ⟨F, N, h.start _⟩ (fun u hu => inW_right hu) (gimps_ok hp2 fun q hq => by obtain rfl := List.mem_singleton.1 hq; rfl) fun e z a' R' ho hr => main (e, z) ho a' R' hr)
    · exact (hp (Stuck 1000001) (List.mem_singleton.2 rfl)).elim
  | _, .block id b, _ => fun Z s a R Q h hW hp hk => by
    refine wp_block ?_
    obtain ⟨F, N, h⟩ := h
    have hwf := wf_code ok (u := u) id b false s
    have hp' : ∀ p ∈ (evH E u id b false s).ps, p := fun p hm => hp p (by
      show p ∈ (blockR (wrC b) s id (evH E u id b false s)).ps
      unfold blockR
      cases hg : getO (some id) (evH E u id b false s).outs with
      | none => exact hm
      | some y => exact hm)
    refine code_ok ok id b false (midB F N s a R (wrC b)) s a R _ ⟨F, N, h.start _⟩ (fun u hu => hu) hp' fun e x a' R' ho hr => ?_
    have hk' : ∀ e x a' R', Oc (blockR (wrC b) s id (evH E u id b false s)) e x → At Z a' R' x → Q e a' R' := hk
    have hz : At Z a' R' x := At.over h hW hr
    generalize evH E u id b false s = A at *
    cases hg : getO (some id) A.outs with
    | none =>
      have hbl : blockR (wrC b) s id A = A := by unfold blockR; rw [hg]
      rw [hbl] at hk'
      have := hk' e x a' R' ho hz
      rcases ho with ⟨t, cc, rfl, h1, _, _⟩ | ⟨rfl, _, _⟩
      · cases t with
        | none => exact this
        | some i =>
          have hne : i ≠ id := fun e => by subst e; rw [hg] at h1; cases h1
          show Exit.inBlock id Q (.exit i) a' R'
          unfold Exit.inBlock
          simp only [hne, if_false]
          exact this
      · exact this
    | some y =>
      obtain ⟨c, y⟩ := y
      have hbl : blockR (wrC b) s id A = ⟨A.ps, dropO (some id) A.outs, match A.nrm with | none => some y | some z => some (mergeS (cval c) (wrC b) s y z)⟩ := by unfold blockR; rw [hg]
      rw [hbl] at hk'
      rcases ho with ⟨t, cc, rfl, h1, h2, h3⟩ | ⟨rfl, h1, h2⟩
      · by_cases ht : t = some id
        · subst ht
          rw [hg] at h1
          obtain ⟨rfl, rfl⟩ : c = cc ∧ y = x := by cases h1; exact ⟨rfl, rfl⟩
          have hall : AllF (dropO (some id) A.outs) := fun t' c' s' hg' => by
            rw [getO_dropO] at hg'
            split at hg'
            · cases hg'
            · rename_i hne
              exact h3 t' c' s' hne hg'
          show Exit.inBlock id Q (.exit id) a' R'
          unfold Exit.inBlock
          simp only [if_true]
          cases hn : A.nrm with
          | none =>
            rw [hn] at hk'
            exact hk' .normal y a' R' (.inr ⟨rfl, rfl, hall⟩) hz
          | some z =>
            rw [hn] at hk'
            have := lift_m (g := cval c) h (hwf.outs _ _ _ hg) (hwf.nrm _ hn) (by rw [h2]; rfl) _ _ hr
            exact hk' .normal _ a' R' (.inr ⟨rfl, rfl, hall⟩) (At.over h hW this)
        · have ho' : getO t (dropO (some id) A.outs) = some (cc, x) := by rw [getO_dropO, if_neg ht]; exact h1
          have := hk' (Tag.ex t) x a' R' (.inl ⟨t, cc, rfl, ho', h2, fun t' c' s' hne hg' => by
            rw [getO_dropO] at hg'
            split at hg'
            · cases hg'
            · exact h3 t' c' s' hne hg'⟩) hz
          cases t with
          | none => exact this
          | some i =>
            have hne : i ≠ id := fun e => ht (by rw [e])
            show Exit.inBlock id Q (.exit i) a' R'
            unfold Exit.inBlock
            simp only [hne, if_false]
            exact this
      · have hall : AllF (dropO (some id) A.outs) := fun t' c' s' hg' => by
          rw [getO_dropO] at hg'
          split at hg'
          · cases hg'
          · exact h2 t' c' s' hg'
        rw [h1] at hk'
        have := lift_m (g := cval c) h (hwf.outs _ _ _ hg) (hwf.nrm _ h1) (by rw [h2 _ _ _ hg]; rfl) _ _ hr
        exact hk' .normal _ a' R' (.inr ⟨rfl, rfl, hall⟩) (At.over h hW this)
  | l, .loop b, _ => fun Z s a R Q h hW hp hk => by
    unfold evH at hp hk
    cases hL : E.L l s with
    | some r =>
      obtain ⟨b0, ps, outs⟩ := r
      rw [hL] at hp hk
      have hb : b = b0 := hp _ (List.mem_cons_self ..)
      subst hb
      obtain ⟨F, N, h⟩ := h
      refine (ok.loops _ _ _ _ _ hL).2 Z F N a R Q h hW (fun p hm => hp p (List.mem_cons_of_mem _ hm)) fun e x F' N' a' R' ho hr => hk e x a' R' ?_ ⟨F', N', hr⟩
      rcases ho with ⟨t, c, rfl, h1, h2, h3⟩ | ⟨rfl, h1, h2⟩
      · exact .inl ⟨t, c, rfl, h1, h2, h3⟩
      · cases h1
    | none =>
    rw [hL] at hp hk
    have key : ∀ (n : Nat) (Z : Base) (s : St) (a : Act) (R : World) (Q : Exit → Act → World → Prop), At Z a R s → (∀ u, inW u (wrC b) = true → Z.W u) → (∀ p ∈ (loopR (wrC b) (evH E u 0 b true) n s).ps, p) → (∀ e x a' R', Oc (loopR (wrC b) (evH E u 0 b true) n s) e x → At Z a' R' x → Q e a' R') →
        Code.rounds E.P b Q n a R := fun n => by
      induction n with
      | zero => intro Z s a R Q h hW hp hk; exact (hp (Stuck 1000000) (List.mem_singleton.2 rfl)).elim
      | succ n ih =>
        intro Z s a R Q h hW hp hk
        rw [rounds_succ]
        unfold loopR at hp hk
        cases hn : (evH E u 0 b true s).nrm with
        | none =>
          rw [hn] at hp hk
          refine code_ok ok 0 b true Z s a R _ h hW hp fun e x a' R' ho hr => ?_
          have := hk e x a' R' ho hr
          rcases ho with ⟨t, cc, rfl, _, _, _⟩ | ⟨rfl, h1, _⟩
          · cases t <;> exact this
          · rw [hn] at h1
            cases h1
        | some s1 =>
          rw [hn] at hp hk
          obtain ⟨F, N, h⟩ := h
          exact seq_good (fun s => wf_code ok 0 b true s) (code_ok ok 0 b true) h hW (fun u hu => hu) hn (wf_loop (fun s => wf_code ok 0 b true s) n s1) hp hk fun a' R' hr hp' hk' => ih _ s1 a' R' Q hr (fun u hu => hu) hp' hk'
    exact wp_loop_rounds u (key u Z s a R Q h hW hp hk)
  | _, .exit id, _ => fun Z s a R Q h _ _ hk => wp_exit (hk _ s a R (.inl ⟨some id, none, rfl, by show (bif tagB (some id) (some id) then some (none, s) else none) = _; rw [tagB_self]; rfl, rfl, fun t' c x hne hg => by
      have h' : (bif tagB (some id) t' then some (none, s) else none) = some (c, x) := hg
      rw [tagB_ne (Ne.symm hne)] at h'
      cases h'⟩) h)
  | _, .ret, _ => fun Z s a R Q h _ _ hk => wp_ret (hk _ s a R (.inl ⟨none, none, rfl, rfl, rfl, fun t' c x hne hg => by
      have h' : (bif tagB none t' then some (none, s) else none) = some (c, x) := hg
      rw [tagB_ne (Ne.symm hne)] at h'
      cases h'⟩) h)
  | _, .rangeFunc _ _ _ _, _ => fun Z s a R Q _ _ hp _ => (hp (Stuck 1000002) (List.mem_singleton.2 rfl)).elim
  | _, .scope _, _ => fun Z s a R Q _ _ hp _ => (hp (Stuck 1000002) (List.mem_singleton.2 rfl)).elim
  | _, .label _, _ => fun Z s a R Q _ _ hp _ => (hp (Stuck 1000002) (List.mem_singleton.2 rfl)).elim
  | _, .goto _, _ => fun Z s a R Q _ _ hp _ => (hp (Stuck 1000002) (List.mem_singleton.2 rfl)).elim
  | _, .refuse _, _ => fun Z s a R Q _ _ hp _ => (hp (Stuck 1000002) (List.mem_singleton.2 rfl)).elim
end Go.Proofs.Yteebobbhhgmeiaa
