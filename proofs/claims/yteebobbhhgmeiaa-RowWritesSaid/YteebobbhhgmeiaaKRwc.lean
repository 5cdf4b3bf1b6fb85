/- made by a program (rowgen.py): RowWrites: for every input the law returns true, and each argument reads behind the call as it read before. -/
import Derived.Test.YteebobbhhgmeiaaKRwb

namespace Go.Proofs.Yteebobbhhgmeiaa
open Go.RowKit
def Stuck (_id : Nat) : Prop := False
def wrC : Code → List Nat
 | .region _ ops _ => dstL ops.toList
 | .seq a b => wrC a ++ wrC b
 | .cond _ a b => wrC a ++ wrC b
 | .block _ b => wrC b
 | .loop b => wrC b
 | .scope b => wrC b
 | _ => []
theorem inW_append {u : Nat} : ∀ {A B : List Nat}, inW u (A ++ B) = (inW u A || inW u B)
 | [], B => rfl
 | k :: r, B => by
  show (bif Nat.beq k u then true else inW u (r ++ B)) = ((bif Nat.beq k u then true else inW u r) || inW u B)
  rw [inW_append]
  cases Nat.beq k u <;> rfl
abbrev Tag := Option Nat
abbrev Outs := List (Tag × Cnd × St)
def tagB : Tag → Tag → Bool
 | none, none => true
 | some i, some j => Nat.beq i j
 | _, _ => false
theorem tagB_eq {x y : Tag} (h : tagB x y = true) : x = y := by
 cases x <;> cases y <;> first | rfl | (cases h; done) | skip
 rw [Nat.eq_of_beq_eq_true h]
theorem tagB_self (x : Tag) : tagB x x = true := by cases x <;> simp [tagB]
theorem tagB_ne {x y : Tag} (h : x ≠ y) : tagB x y = false := by
 cases hb : tagB x y with
 | true => exact absurd (tagB_eq hb) h
 | false => rfl
def getO (t : Tag) : Outs → Option (Cnd × St)
 | [] => none
 | (k, c, s) :: r => bif tagB k t then some (c, s) else getO t r
def noneBut (t : Tag) : Outs → Cnd
 | [] => none
 | (k, c, _) :: r => bif tagB k t then noneBut t r else andO (notO c) (noneBut t r)
def noneOf : Outs → Cnd
 | [] => none
 | (_, c, _) :: r => andO (notO c) (noneOf r)
structure Res where
 ps : List Prop
 outs : Outs
 nrm : Option St
def withB (f : Tag → Cnd → St → Option (Cnd × St) → Cnd × St) (B : Outs) : Outs → Outs
 | [] => []
 | (t, c, s) :: r => (t, f t c s (getO t B)) :: withB f B r
def onlyB (f : Cnd → Cnd) (A : Outs) : Outs → Outs
 | [] => []
 | (t, d, s) :: r => match getO t A with
  | some _ => onlyB f A r
  | none => (t, f d, s) :: onlyB f A r
def joinF (g : Bool) (W : List Nat) (s : St) (_t : Tag) (c : Cnd) (x : St) : Option (Cnd × St) → Cnd × St
 | none => (andO (some g) c, x)
 | some (d, y) => (iteO g c d, mergeS g W s x y)
def joinN (g : Bool) (W : List Nat) (s : St) : Option St → Option St → Option St
 | none, none => none
 | some x, none => some x
 | none, some y => some y
 | some x, some y => some (mergeS g W s x y)
def joinR (g : Bool) (W : List Nat) (s : St) (A B : Res) : Res :=
 ⟨gimps [g = true] A.ps ++ gimps [g = false] B.ps, withB (joinF g W s) B.outs A.outs ++ onlyB (andO (some !g)) A.outs B.outs, joinN g W s A.nrm B.nrm⟩
def seqF (A : Outs) (W : List Nat) (s : St) (t : Tag) (c : Cnd) (x : St) : Option (Cnd × St) → Cnd × St
 | none => (c, x)
 | some (d, y) => (orO c (andO (noneBut t A) d), mergeS (cval c) W s x y)
def seqR (W : List Nat) (s : St) (A B : Res) : Res :=
 ⟨A.ps ++ gimps (cndP (noneOf A.outs)) B.ps, withB (seqF A.outs W s) B.outs A.outs ++ onlyB (andO (noneOf A.outs)) A.outs B.outs, B.nrm⟩
def dropO (t : Tag) : Outs → Outs
 | [] => []
 | (k, c, s) :: r => bif tagB k t then dropO t r else (k, c, s) :: dropO t r
def blockR (W : List Nat) (s : St) (id : Nat) (A : Res) : Res := match getO (some id) A.outs with
 | none => A
 | some (c, x) => ⟨A.ps, dropO (some id) A.outs, match A.nrm with
  | none => some x
  | some y => some (mergeS (cval c) W s x y)⟩
def stuckR (id : Nat) : Res := ⟨[Stuck id], [], none⟩
def loopR (W : List Nat) (f : St → Res) : Nat → St → Res
 | 0, _ => stuckR 1000000
 | n + 1, s => match (f s).nrm with
  | none => f s
  | some s1 => seqR W s (f s) (loopR W f n s1)
def isRegion : Code → Bool
 | .region _ _ _ => true
 | _ => false
def litH (h : Bool) (u : Nat) : Bool := bif h then true else Nat.ble 1000 u
def evH (E : Env) (u : Nat) : Nat → Code → Bool → St → Res
 | _, .skip, _, s => ⟨[], [], some s⟩
 | _, .region id ops draw, _, s => match evR E ops.toList draw s with
  | some (s', ps) => ⟨ps, [], some s'⟩
  | none => stuckR id
 | _, .seq a b, h, s => match (evH E u 0 a h s).nrm with
  | none => evH E u 0 a h s
  | some s1 => seqR (wrC a ++ wrC b) s (evH E u 0 a h s) (evH E u 0 b (bif isRegion a then h else false) s1)
 | _, .cond c x y, h, s => match s.raw [] c with
  | some (.bool g) => match litH h u with
   | true => match g with
    | true => evH E u 0 x false s
    | false => evH E u 0 y false s
   | false => joinR g (wrC x ++ wrC y) s (evH E u 0 x false s) (evH E u 0 y false s)
  | _ => stuckR 1000001
 | _, .block id b, _, s => blockR (wrC b) s id (evH E u id b false s)
 | l, .loop b, _, s => match E.L l s with
  | some (b0, ps, outs) => ⟨(b = b0) :: ps, outs, none⟩
  | none => loopR (wrC b) (evH E u 0 b true) u s
 | _, .exit id, _, s => ⟨[], [(some id, none, s)], none⟩
 | _, .ret, _, s => ⟨[], [(none, none, s)], none⟩
 | _, .scope b, _, s => evH E u 0 b false s
 | _, .label _, _, s => ⟨[], [], some s⟩
 | _, _, _, _ => stuckR 1000002
abbrev evC (E : Env) (u : Nat) (c : Code) (s : St) : Res := evH E u 0 c false s
def Tag.ex : Tag → Exit
 | none => .ret
 | some i => .exit i
def AllF (o : Outs) : Prop := ∀ t c s, getO t o = some (c, s) → cval c = false
def ButF (t : Tag) (o : Outs) : Prop := ∀ t' c s, t' ≠ t → getO t' o = some (c, s) → cval c = false
def Oc (r : Res) (e : Exit) (s : St) : Prop :=
 (∃ t c, e = Tag.ex t ∧ getO t r.outs = some (c, s) ∧ cval c = true ∧ ButF t r.outs) ∨ (e = .normal ∧ r.nrm = some s ∧ AllF r.outs)
theorem getO_append (t : Tag) : ∀ (A B : Outs), getO t (A ++ B) = match getO t A with | some x => some x | none => getO t B
 | [], B => rfl
 | (k, c, s) :: r, B => by
  show (bif tagB k t then some (c, s) else getO t (r ++ B)) = match (bif tagB k t then some (c, s) else getO t r) with | some x => some x | none => getO t B
  cases tagB k t with
  | true => rfl
  | false => exact getO_append t r B
theorem getO_withB (f : Tag → Cnd → St → Option (Cnd × St) → Cnd × St) (B : Outs) (t : Tag) : ∀ (A : Outs), getO t (withB f B A) = match getO t A with | some (c, s) => some (f t c s (getO t B)) | none => none
 | [] => rfl
 | (k, c, s) :: r => by
  show (bif tagB k t then some (f k c s (getO k B)) else getO t (withB f B r)) = match (bif tagB k t then some (c, s) else getO t r) with | some (c, s) => some (f t c s (getO t B)) | none => none
  cases h : tagB k t with
  | true => rw [tagB_eq h]; rfl
  | false => exact getO_withB f B t r
theorem getO_onlyB (f : Cnd → Cnd) (A : Outs) (t : Tag) (hA : getO t A = none) : ∀ (B : Outs), getO t (onlyB f A B) = match getO t B with | some (d, s) => some (f d, s) | none => none
 | [] => rfl
 | (k, d, s) :: r => by
  show getO t (match getO k A with | some _ => onlyB f A r | none => (k, f d, s) :: onlyB f A r) = match (bif tagB k t then some (d, s) else getO t r) with | some (d, s) => some (f d, s) | none => none
  cases h : tagB k t with
  | true =>
   obtain rfl := tagB_eq h
   rw [hA]
   show (bif tagB k k then some (f d, s) else getO k (onlyB f A r)) = _
   rw [tagB_self]
   rfl
  | false =>
   have ih := getO_onlyB f A t hA r
   cases hk : getO k A with
   | some x => exact ih
   | none =>
    show (bif tagB k t then some (f d, s) else getO t (onlyB f A r)) = _
    rw [h]
    exact ih
theorem getO_join (t : Tag) (f : Tag → Cnd → St → Option (Cnd × St) → Cnd × St) (h : Cnd → Cnd) (A B : Outs) :
  getO t (withB f B A ++ onlyB h A B) = match getO t A with | some (c, s) => some (f t c s (getO t B)) | none => match getO t B with | some (d, s) => some (h d, s) | none => none := by
 rw [getO_append, getO_withB]
 cases hA : getO t A with
 | some x => rfl
 | none => exact getO_onlyB h A t hA B
theorem noneOf_ok : ∀ {o : Outs}, (∀ e ∈ o, cval e.2.1 = false) → cval (noneOf o) = true
 | [], _ => rfl
 | (k, c, s) :: r, h => by
  show cval (andO (notO c) (noneOf r)) = true
  rw [cval_and, cval_not, h (k, c, s) (List.mem_cons_self ..), noneOf_ok fun e he => h e (List.mem_cons_of_mem _ he)]
  rfl
def Once : Outs → Prop
 | [] => True
 | (k, _, _) :: r => getO k r = none ∧ Once r
theorem mem_getO : ∀ {o : Outs}, Once o → ∀ e ∈ o, getO e.1 o = some e.2
 | [], _, e, h => by cases h
 | (k, c, s) :: r, ⟨h1, h2⟩, e, h => by
  rcases List.mem_cons.1 h with rfl | h
  ·show (bif tagB k k then some (c, s) else getO k r) = _
   rw [tagB_self]
   rfl
  ·have := mem_getO h2 e h
   show (bif tagB k e.1 then some (c, s) else getO e.1 r) = _
   cases hb : tagB k e.1 with
   | true =>
    obtain rfl := tagB_eq hb
    rw [h1] at this
    cases this
   | false => exact this
theorem allF_noneOf {o : Outs} (ho : Once o) (h : AllF o) : cval (noneOf o) = true := noneOf_ok fun e he => h e.1 e.2.1 e.2.2 (mem_getO ho e he)
theorem noneOf_no : ∀ {o : Outs} {t : Tag} {c : Cnd} {s : St}, getO t o = some (c, s) → cval c = true → cval (noneOf o) = false
 | [], _, _, _, h, _ => by cases h
 | (k, d, x) :: r, t, c, s, h, hc => by
  show cval (andO (notO d) (noneOf r)) = false
  rw [cval_and, cval_not]
  have h' : (bif tagB k t then some (d, x) else getO t r) = some (c, s) := h
  cases hb : tagB k t with
  | true =>
   rw [hb] at h'
   obtain ⟨rfl, rfl⟩ : d = c ∧ x = s := by cases h'; exact ⟨rfl, rfl⟩
   rw [hc]
   rfl
  | false =>
   rw [hb] at h'
   rw [noneOf_no h' hc, Bool.and_false]
theorem noneBut_no : ∀ {o : Outs} {t u : Tag} {c : Cnd} {s : St}, t ≠ u → getO t o = some (c, s) → cval c = true → cval (noneBut u o) = false
 | [], _, _, _, _, _, h, _ => by cases h
 | (k, d, x) :: r, t, u, c, s, hu, h, hc => by
  have h' : (bif tagB k t then some (d, x) else getO t r) = some (c, s) := h
  show cval (bif tagB k u then noneBut u r else andO (notO d) (noneBut u r)) = false
  cases hb : tagB k t with
  | true =>
   rw [hb] at h'
   obtain ⟨rfl, rfl⟩ : d = c ∧ x = s := by cases h'; exact ⟨rfl, rfl⟩
   obtain rfl := tagB_eq hb
   rw [tagB_ne hu]
   show cval (andO (notO d) (noneBut u r)) = false
   rw [cval_and, cval_not, hc]
   rfl
  | false =>
   rw [hb] at h'
   have ih := noneBut_no hu h' hc
   cases tagB k u with
   | true => exact ih
   | false =>
    show cval (andO (notO d) (noneBut u r)) = false
    rw [cval_and, ih, Bool.and_false]
theorem noneBut_ok : ∀ {o : Outs} {u : Tag}, (∀ e ∈ o, cval e.2.1 = false) → cval (noneBut u o) = true
 | [], _, _ => rfl
 | (k, c, s) :: r, u, h => by
  have ih := noneBut_ok (u := u) (o := r) fun e he => h e (List.mem_cons_of_mem _ he)
  show cval (bif tagB k u then noneBut u r else andO (notO c) (noneBut u r)) = true
  cases tagB k u with
  | true => exact ih
  | false =>
   show cval (andO (notO c) (noneBut u r)) = true
   rw [cval_and, cval_not, h (k, c, s) (List.mem_cons_self ..), ih]
   rfl
theorem once_append : ∀ {A B : Outs}, Once A → Once B → (∀ t x, getO t A = some x → getO t B = none) → Once (A ++ B)
 | [], B, _, hB, _ => hB
 | (k, c, s) :: r, B, ⟨h1, h2⟩, hB, h => by
  refine ⟨?_, once_append h2 hB fun t x hx => h t x ?_⟩
  ·show getO k (r ++ B) = none
   rw [getO_append, h1]
   exact h k (c, s) (by show (bif tagB k k then some (c, s) else getO k r) = _; rw [tagB_self]; rfl)
  ·show (bif tagB k t then some (c, s) else getO t r) = some x
   cases hb : tagB k t with
   | true =>
    obtain rfl := tagB_eq hb
    rw [h1] at hx
    cases hx
   | false => exact hx
theorem once_withB (f : Tag → Cnd → St → Option (Cnd × St) → Cnd × St) (B : Outs) : ∀ {A : Outs}, Once A → Once (withB f B A)
 | [], _ => trivial
 | (k, c, s) :: r, ⟨h1, h2⟩ => ⟨by rw [getO_withB, h1], once_withB f B h2⟩
theorem getO_onlyB_none (f : Cnd → Cnd) (A : Outs) (t : Tag) (hA : getO t A ≠ none) : ∀ (B : Outs), getO t (onlyB f A B) = none
 | [] => rfl
 | (k, d, s) :: r => by
  have ih := getO_onlyB_none f A t hA r
  show getO t (match getO k A with | some _ => onlyB f A r | none => (k, f d, s) :: onlyB f A r) = none
  cases hk : getO k A with
  | some x => exact ih
  | none =>
   show (bif tagB k t then some (f d, s) else getO t (onlyB f A r)) = none
   cases hb : tagB k t with
   | true => exact absurd (tagB_eq hb ▸ hk) hA
   | false => exact ih
theorem once_onlyB (f : Cnd → Cnd) (A : Outs) : ∀ {B : Outs}, Once B → Once (onlyB f A B)
 | [], _ => trivial
 | (k, d, s) :: r, ⟨h1, h2⟩ => by
  have ih := once_onlyB f A h2
  show Once (match getO k A with | some _ => onlyB f A r | none => (k, f d, s) :: onlyB f A r)
  cases hk : getO k A with
  | some x => exact ih
  | none => exact ⟨by rw [getO_onlyB f A k hk, h1], ih⟩
theorem once_join (f : Tag → Cnd → St → Option (Cnd × St) → Cnd × St) (h : Cnd → Cnd) {A B : Outs} (hA : Once A) (hB : Once B) : Once (withB f B A ++ onlyB h A B) :=
 once_append (once_withB f B hA) (once_onlyB h A hB) fun t x hx => by
  refine getO_onlyB_none h A t (fun hn => ?_) B
  rw [getO_withB, hn] at hx
  cases hx
theorem getO_dropO (u t : Tag) : ∀ (o : Outs), getO t (dropO u o) = if t = u then none else getO t o
 | [] => by split <;> rfl
 | (k, c, s) :: r => by
  have ih := getO_dropO u t r
  show getO t (bif tagB k u then dropO u r else (k, c, s) :: dropO u r) = if t = u then none else (bif tagB k t then some (c, s) else getO t r)
  by_cases hku : k = u
  ·subst hku
   rw [tagB_self]
   show getO t (dropO k r) = _
   rw [ih]
   by_cases htk : t = k
   ·rw [if_pos htk, if_pos htk]
   ·rw [if_neg htk, if_neg htk, tagB_ne (Ne.symm htk)]
    rfl
  ·rw [tagB_ne hku]
   show (bif tagB k t then some (c, s) else getO t (dropO u r)) = _
   rw [ih]
   by_cases htu : t = u
   ·subst htu
    rw [if_pos rfl, if_pos rfl, tagB_ne hku]
    rfl
   ·rw [if_neg htu, if_neg htu]
theorem once_dropO (u : Tag) : ∀ {o : Outs}, Once o → Once (dropO u o)
 | [], _ => trivial
 | (k, c, s) :: r, ⟨h1, h2⟩ => by
  have ih := once_dropO u h2
  show Once (bif tagB k u then dropO u r else (k, c, s) :: dropO u r)
  cases tagB k u with
  | true => exact ih
  | false => exact ⟨by rw [getO_dropO, h1]; split <;> rfl, ih⟩
structure Wf (s : St) (r : Res) : Prop where
 outs : ∀ t c x, getO t r.outs = some (c, x) → Sub s x
 nrm : ∀ x, r.nrm = some x → Sub s x
 once : Once r.outs
theorem wf_join {s : St} {g : Bool} {W : List Nat} {A B : Res} (hA : Wf s A) (hB : Wf s B) : Wf s (joinR g W s A B) := by
 refine ⟨fun t c x h => ?_, fun x h => ?_, once_join _ _ hA.once hB.once⟩
 ·have h' : getO t (withB (joinF g W s) B.outs A.outs ++ onlyB (andO (some !g)) A.outs B.outs) = some (c, x) := h
  rw [getO_join] at h'
  cases h1 : getO t A.outs with
  | some y =>
   obtain ⟨c1, y⟩ := y
   rw [h1] at h'
   cases h2 : getO t B.outs with
   | some z =>
    obtain ⟨c2, z⟩ := z
    rw [h2] at h'
    cases h'
    exact Sub.merge _ _ _ _ _
   | none =>
    rw [h2] at h'
    cases h'
    exact hA.outs _ _ _ h1
  | none =>
   rw [h1] at h'
   cases h2 : getO t B.outs with
   | some z =>
    obtain ⟨c2, z⟩ := z
    rw [h2] at h'
    cases h'
    exact hB.outs _ _ _ h2
   | none =>
    rw [h2] at h'
    cases h'
 ·have h' : joinN g W s A.nrm B.nrm = some x := h
  cases h1 : A.nrm with
  | some y =>
   cases h2 : B.nrm with
   | some z => rw [h1, h2] at h'; cases h'; exact Sub.merge _ _ _ _ _
   | none => rw [h1, h2] at h'; cases h'; exact hA.nrm _ h1
  | none =>
   cases h2 : B.nrm with
   | some z => rw [h1, h2] at h'; cases h'; exact hB.nrm _ h2
   | none => rw [h1, h2] at h'; cases h'
theorem wf_seq {s s1 : St} {W : List Nat} {A B : Res} (hA : Wf s A) (h1 : A.nrm = some s1) (hB : Wf s1 B) : Wf s (seqR W s A B) := by
 have hs := hA.nrm _ h1
 refine ⟨fun t c x h => ?_, fun x h => hs.trans (hB.nrm _ h), once_join _ _ hA.once hB.once⟩
 have h' : getO t (withB (seqF A.outs W s) B.outs A.outs ++ onlyB (andO (noneOf A.outs)) A.outs B.outs) = some (c, x) := h
 rw [getO_join] at h'
 cases h1 : getO t A.outs with
 | some y =>
  obtain ⟨c1, y⟩ := y
  rw [h1] at h'
  cases h2 : getO t B.outs with
  | some z =>
   obtain ⟨c2, z⟩ := z
   rw [h2] at h'
   cases h'
   exact Sub.merge _ _ _ _ _
  | none =>
   rw [h2] at h'
   cases h'
   exact hA.outs _ _ _ h1
 | none =>
  rw [h1] at h'
  cases h2 : getO t B.outs with
  | some z =>
   obtain ⟨c2, z⟩ := z
   rw [h2] at h'
   cases h'
   exact hs.trans (hB.outs _ _ _ h2)
  | none =>
   rw [h2] at h'
   cases h'
theorem wf_block {s : St} {W : List Nat} {id : Nat} {A : Res} (hA : Wf s A) : Wf s (blockR W s id A) := by
 unfold blockR
 cases h1 : getO (some id) A.outs with
 | none => exact hA
 | some y =>
  obtain ⟨c, y⟩ := y
  refine ⟨fun t c' x h => ?_, fun x h => ?_, once_dropO _ hA.once⟩
  ·have h' : getO t (dropO (some id) A.outs) = some (c', x) := h
   rw [getO_dropO] at h'
   split at h'
   ·cases h'
   ·exact hA.outs _ _ _ h'
  ·have h' : (match A.nrm with | none => some y | some z => some (mergeS (cval c) W s y z)) = some x := h
   cases h2 : A.nrm with
   | none => rw [h2] at h'; cases h'; exact hA.outs _ _ _ h1
   | some z => rw [h2] at h'; cases h'; exact Sub.merge _ _ _ _ _
theorem wf_stuck (s : St) (id : Nat) : Wf s (stuckR id) := ⟨fun _ _ _ h => (by cases h), fun _ h => (by cases h), trivial⟩
theorem wf_loop {W : List Nat} {f : St → Res} (hf : ∀ s, Wf s (f s)) : ∀ (n : Nat) (s : St), Wf s (loopR W f n s)
 | 0, s => wf_stuck s _
 | n + 1, s => by
  unfold loopR
  cases h : (f s).nrm with
  | none => exact hf s
  | some s1 => exact wf_seq (hf s) h (wf_loop hf n s1)
theorem wf_one (s : St) (t : Tag) : Wf s ⟨[], [(t, none, s)], none⟩ :=
  ⟨fun t' c x h => (by
    have h' : (bif tagB t t' then some (none, s) else none) = some (c, x) := h
    cases hb : tagB t t' with
    | true => rw [hb] at h'; cases h'; exact Sub.refl s
    | false => rw [hb] at h'; cases h'),
   fun x h => (by cases h), rfl, trivial⟩
def LoopOk (E : Env) (b : Code) (s : St) (ps : List Prop) (outs : Outs) : Prop := ∀ (Z : Base) (F : Nat → Prop) (N : Nm) (a : Act) (R : World) (Q : Exit → Act → World → Prop), Rel Z F N s a R → (∀ u, inW u (wrC b) = true → Z.W u) → (∀ p ∈ ps, p) →
 (∀ e x F' N' a' R', Oc ⟨ps, outs, none⟩ e x → Rel Z F' N' x a' R' → Q e a' R') → (Code.loop b).wp E.P Q a R
structure CodeOk (E : Env) : Prop extends EnvOk E where
 loops : ∀ l s b ps outs, E.L l s = some (b, ps, outs) → Wf s ⟨ps, outs, none⟩ ∧ LoopOk E b s ps outs
theorem wf_code {E : Env} (ok : CodeOk E) {u : Nat} : ∀ (l : Nat) (c : Code) (h : Bool) (s : St), Wf s (evH E u l c h s)
 | _, .skip, _, s => ⟨fun _ _ _ h => (by cases h), fun x h => (by cases h; exact Sub.refl s), trivial⟩
 | _, .region id ops draw, _, s => by
  unfold evH
  cases h : evR E ops.toList draw s with
  | none => exact wf_stuck s _
  | some x =>
   obtain ⟨s', ps⟩ := x
   exact ⟨fun _ _ _ h => (by cases h), fun x h' => (by cases h'; exact region_sub ok.toEnvOk h), trivial⟩
 | _, .seq a b, hd, s => by
  unfold evH
  cases h : (evH E u 0 a hd s).nrm with
  | none => exact wf_code ok 0 a hd s
  | some s1 => exact wf_seq (wf_code ok 0 a hd s) h (wf_code ok 0 b _ s1)
 | _, .cond c x y, hd, s => by
  unfold evH
  split
  ·rename_i g _
   cases litH hd u with
   | true =>
    cases g with
    | true => exact wf_code ok 0 x _ s
    | false => exact wf_code ok 0 y _ s
   | false => exact wf_join (wf_code ok 0 x _ s) (wf_code ok 0 y _ s)
  ·exact wf_stuck s _
 | _, .block id b, _, s => wf_block (wf_code ok id b _ s)
 | l, .loop b, _, s => by
  unfold evH
  split
  ·rename_i b0 ps outs h
   obtain ⟨h1, h2, h3⟩ := (ok.loops _ _ _ _ _ h).1
   exact ⟨h1, h2, h3⟩
  ·exact wf_loop (fun s => wf_code ok 0 b _ s) u s
 | _, .exit id, _, s => wf_one s (some id)
 | _, .ret, _, s => wf_one s none
 | _, .rangeFunc _ _ _ _, _, s => wf_stuck s _
 | _, .scope b, _, s => wf_code ok 0 b false s
 | _, .label _, _, s => ⟨fun _ _ _ h => (by cases h), fun x h => (by cases h; exact Sub.refl s), trivial⟩
 | _, .goto _, _, s => wf_stuck s _
 | _, .refuse _, _, s => wf_stuck s _
theorem all_append {ps qs : List Prop} (h : ∀ p ∈ ps ++ qs, p) : (∀ p ∈ ps, p) ∧ (∀ p ∈ qs, p) := ⟨fun p hp => h p (List.mem_append.2 (.inl hp)), fun p hp => h p (List.mem_append.2 (.inr hp))⟩
def Lift (M : Base) (x y : St) : Prop := ∀ a' R', At M a' R' x → At M a' R' y
theorem lift_m {Z : Base} {F : Nat → Prop} {N : Nm} {s : St} {a : Act} {R : World} {W : List Nat} (h0 : Rel Z F N s a R) {g : Bool} {x y z : St} (e1 : Sub s x) (e2 : Sub s y) (hz : z = bif g then x else y) : Lift (midB F N s a R W) z (mergeS g W s x y) := fun a' R' ⟨F', N', h⟩ => by
 subst hz
 obtain ⟨N'', h'⟩ := Rel.merge (h0.start W) h (fun _ h => h) e1 e2
 exact ⟨F', N'', h'⟩
theorem oc_join {Z : Base} {F : Nat → Prop} {N : Nm} {a : Act} {R : World} {W : List Nat} {s : St} (h0 : Rel Z F N s a R) {g : Bool} {A B : Res} {e : Exit} {x : St} (hA : Wf s A) (hB : Wf s B) (h : Oc (bif g then A else B) e x) :
  ∃ y, Oc (joinR g W s A B) e y ∧ Lift (midB F N s a R W) x y := by
 have gj := getO_join (f := joinF g W s) (h := andO (some !g)) (A := A.outs) (B := B.outs)
 rcases h with ⟨t, c, rfl, h1, h2, h3⟩ | ⟨rfl, h1, h2⟩
 ·cases g with
  | true =>
   have h1' : getO t A.outs = some (c, x) := h1
   cases hb : getO t B.outs with
   | none =>
    refine ⟨x, .inl ⟨t, andO (some true) c, rfl, ?_, ?_, fun t' c' s' hne hg => ?_⟩, fun _ _ h => h⟩
    ·show getO t (_ ++ _) = _
     rw [gj, h1', hb]
     rfl
    ·rw [cval_and, h2]; rfl
    ·have hg' : getO t' (_ ++ _) = some (c', s') := hg
     rw [gj] at hg'
     cases ha : getO t' A.outs with
     | some z =>
      obtain ⟨c1, z⟩ := z
      have := h3 t' c1 z hne ha
      rw [ha] at hg'
      cases hb' : getO t' B.outs with
      | some w => obtain ⟨d, w⟩ := w; rw [hb'] at hg'; cases hg'; rw [cval_ite]; exact this
      | none => rw [hb'] at hg'; cases hg'; rw [cval_and, this]; rfl
     | none =>
      rw [ha] at hg'
      cases hb' : getO t' B.outs with
      | some w => obtain ⟨d, w⟩ := w; rw [hb'] at hg'; cases hg'; rw [cval_and]; rfl
      | none => rw [hb'] at hg'; cases hg'
   | some y =>
    obtain ⟨d, y⟩ := y
    refine ⟨mergeS true W s x y, .inl ⟨t, iteO true c d, rfl, ?_, ?_, fun t' c' s' hne hg => ?_⟩, lift_m (g := true) h0 (hA.outs _ _ _ h1') (hB.outs _ _ _ hb) rfl⟩
    ·show getO t (_ ++ _) = _
     rw [gj, h1', hb]
     rfl
    ·rw [cval_ite]; exact h2
    ·have hg' : getO t' (_ ++ _) = some (c', s') := hg
     rw [gj] at hg'
     cases ha : getO t' A.outs with
     | some z =>
      obtain ⟨c1, z⟩ := z
      have := h3 t' c1 z hne ha
      rw [ha] at hg'
      cases hb' : getO t' B.outs with
      | some w => obtain ⟨d, w⟩ := w; rw [hb'] at hg'; cases hg'; rw [cval_ite]; exact this
      | none => rw [hb'] at hg'; cases hg'; rw [cval_and, this]; rfl
     | none =>
      rw [ha] at hg'
      cases hb' : getO t' B.outs with
      | some w => obtain ⟨d, w⟩ := w; rw [hb'] at hg'; cases hg'; rw [cval_and]; rfl
      | none => rw [hb'] at hg'; cases hg'
  | false =>
   have h1' : getO t B.outs = some (c, x) := h1
   have hbut : ∀ t' c' s', t' ≠ t → getO t' (joinR false W s A B).outs = some (c', s') → cval c' = false := fun t' c' s' hne hg => by
    have hg' : getO t' (_ ++ _) = some (c', s') := hg
    rw [gj] at hg'
    cases ha : getO t' A.outs with
    | some z =>
     obtain ⟨c1, z⟩ := z
     rw [ha] at hg'
     cases hb' : getO t' B.outs with
     | some w =>
      obtain ⟨d, w⟩ := w
      have := h3 t' d w hne hb'
      rw [hb'] at hg'; cases hg'; rw [cval_ite]; exact this
     | none => rw [hb'] at hg'; cases hg'; rw [cval_and]; rfl
    | none =>
     rw [ha] at hg'
     cases hb' : getO t' B.outs with
     | some w =>
      obtain ⟨d, w⟩ := w
      have := h3 t' d w hne hb'
      rw [hb'] at hg'; cases hg'; rw [cval_and, this]; rfl
     | none => rw [hb'] at hg'; cases hg'
   cases ha : getO t A.outs with
   | none =>
    refine ⟨x, .inl ⟨t, andO (some !false) c, rfl, ?_, ?_, hbut⟩, fun _ _ h => h⟩
    ·show getO t (_ ++ _) = _
     rw [gj, ha, h1']
    ·rw [cval_and, h2]; rfl
   | some y =>
    obtain ⟨d, y⟩ := y
    refine ⟨mergeS false W s y x, .inl ⟨t, iteO false d c, rfl, ?_, ?_, hbut⟩, lift_m (g := false) h0 (hA.outs _ _ _ ha) (hB.outs _ _ _ h1') rfl⟩
    ·show getO t (_ ++ _) = _
     rw [gj, ha, h1']
     rfl
    ·rw [cval_ite]; exact h2
 ·have hall : AllF (joinR g W s A B).outs := fun t' c' s' hg => by
   have hg' : getO t' (_ ++ _) = some (c', s') := hg
   rw [gj] at hg'
   cases ha : getO t' A.outs with
   | some z =>
    obtain ⟨c1, z⟩ := z
    rw [ha] at hg'
    cases hb' : getO t' B.outs with
    | some w =>
     obtain ⟨d, w⟩ := w
     rw [hb'] at hg'; cases hg'; rw [cval_ite]
     cases g with
     | true => exact h2 t' c1 _ ha
     | false => exact h2 t' d _ hb'
    | none =>
     rw [hb'] at hg'; cases hg'; rw [cval_and]
     cases g with
     | true => rw [h2 t' c1 _ ha]; rfl
     | false => rfl
   | none =>
    rw [ha] at hg'
    cases hb' : getO t' B.outs with
    | some w =>
     obtain ⟨d, w⟩ := w
     rw [hb'] at hg'; cases hg'; rw [cval_and]
     cases g with
     | true => rfl
     | false => rw [h2 t' d _ hb']; rfl
    | none => rw [hb'] at hg'; cases hg'
  cases g with
  | true =>
   have h1' : A.nrm = some x := h1
   cases hb : B.nrm with
   | none => exact ⟨x, .inr ⟨rfl, by show joinN true W s A.nrm B.nrm = _; rw [h1', hb]; rfl, hall⟩, fun _ _ h => h⟩
   | some y => exact ⟨_, .inr ⟨rfl, by show joinN true W s A.nrm B.nrm = _; rw [h1', hb]; rfl, hall⟩, lift_m (g := true) h0 (hA.nrm _ h1') (hB.nrm _ hb) rfl⟩
  | false =>
   have h1' : B.nrm = some x := h1
   cases ha : A.nrm with
   | none => exact ⟨x, .inr ⟨rfl, by show joinN false W s A.nrm B.nrm = _; rw [ha, h1']; rfl, hall⟩, fun _ _ h => h⟩
   | some y => exact ⟨_, .inr ⟨rfl, by show joinN false W s A.nrm B.nrm = _; rw [ha, h1']; rfl, hall⟩, lift_m (g := false) h0 (hA.nrm _ ha) (hB.nrm _ h1') rfl⟩
theorem oc_seq1 {Z : Base} {F : Nat → Prop} {N : Nm} {a : Act} {R : World} {W : List Nat} {s s1 : St} (h0 : Rel Z F N s a R) {A B : Res} {t : Tag} {c : Cnd} {x : St} (hA : Wf s A) (hn : A.nrm = some s1) (hB : Wf s1 B) (h1 : getO t A.outs = some (c, x)) (h2 : cval c = true) (h3 : ButF t A.outs) :
  ∃ y, Oc (seqR W s A B) (Tag.ex t) y ∧ Lift (midB F N s a R W) x y := by
 have gj := getO_join (f := seqF A.outs W s) (h := andO (noneOf A.outs)) (A := A.outs) (B := B.outs)
 have hbut : ButF t (seqR W s A B).outs := fun t' c' s' hne hg => by
  have hg' : getO t' (_ ++ _) = some (c', s') := hg
  rw [gj] at hg'
  cases ha : getO t' A.outs with
  | some z =>
   obtain ⟨c1, z⟩ := z
   have := h3 t' c1 z hne ha
   rw [ha] at hg'
   cases hb' : getO t' B.outs with
   | some w =>
    obtain ⟨d, w⟩ := w
    rw [hb'] at hg'; cases hg'
    rw [cval_or, this, cval_and, noneBut_no (Ne.symm hne) h1 h2]
    rfl
   | none => rw [hb'] at hg'; cases hg'; exact this
  | none =>
   rw [ha] at hg'
   cases hb' : getO t' B.outs with
   | some w =>
    obtain ⟨d, w⟩ := w
    rw [hb'] at hg'; cases hg'
    rw [cval_and, noneOf_no h1 h2]
    rfl
   | none => rw [hb'] at hg'; cases hg'
 cases hb : getO t B.outs with
 | none =>
  refine ⟨x, .inl ⟨t, c, rfl, ?_, h2, hbut⟩, fun _ _ h => h⟩
  show getO t (_ ++ _) = _
  rw [gj, h1, hb]
  rfl
 | some y =>
  obtain ⟨d, y⟩ := y
  refine ⟨mergeS (cval c) W s x y, .inl ⟨t, orO c (andO (noneBut t A.outs) d), rfl, ?_, ?_, hbut⟩, lift_m (g := cval c) h0 (hA.outs _ _ _ h1) ((hA.nrm _ hn).trans (hB.outs _ _ _ hb)) (by rw [h2]; rfl)⟩
  ·show getO t (_ ++ _) = _
   rw [gj, h1, hb]
   rfl
  ·rw [cval_or, h2]
   rfl
theorem oc_seq2 {Z : Base} {F : Nat → Prop} {N : Nm} {a : Act} {R : World} {W : List Nat} {s s1 : St} (h0 : Rel Z F N s a R) {A B : Res} {e : Exit} {x : St} (hA : Wf s A) (hn : A.nrm = some s1) (hB : Wf s1 B) (hall : AllF A.outs) (h : Oc B e x) :
  ∃ y, Oc (seqR W s A B) e y ∧ Lift (midB F N s a R W) x y := by
 have gj := getO_join (f := seqF A.outs W s) (h := andO (noneOf A.outs)) (A := A.outs) (B := B.outs)
 have hno := allF_noneOf hA.once hall
 have hnb : ∀ t, cval (noneBut t A.outs) = true := fun t => noneBut_ok fun e he => hall e.1 e.2.1 e.2.2 (mem_getO hA.once e he)
 rcases h with ⟨t, c, rfl, h1, h2, h3⟩ | ⟨rfl, h1, h2⟩
 ·have hbut : ButF t (seqR W s A B).outs := fun t' c' s' hne hg => by
   have hg' : getO t' (_ ++ _) = some (c', s') := hg
   rw [gj] at hg'
   cases ha : getO t' A.outs with
   | some z =>
    obtain ⟨c1, z⟩ := z
    have := hall t' c1 z ha
    rw [ha] at hg'
    cases hb' : getO t' B.outs with
    | some w =>
     obtain ⟨d, w⟩ := w
     rw [hb'] at hg'; cases hg'
     rw [cval_or, this, cval_and, h3 t' d _ hne hb', Bool.and_false]
     rfl
    | none => rw [hb'] at hg'; cases hg'; exact this
   | none =>
    rw [ha] at hg'
    cases hb' : getO t' B.outs with
    | some w =>
     obtain ⟨d, w⟩ := w
     rw [hb'] at hg'; cases hg'
     rw [cval_and, h3 t' d _ hne hb', Bool.and_false]
    | none => rw [hb'] at hg'; cases hg'
  cases ha : getO t A.outs with
  | none =>
   refine ⟨x, .inl ⟨t, andO (noneOf A.outs) c, rfl, ?_, by rw [cval_and, hno, h2]; rfl, hbut⟩, fun _ _ h => h⟩
   show getO t (_ ++ _) = _
   rw [gj, ha, h1]
  | some y =>
   obtain ⟨d, y⟩ := y
   have hd := hall t d y ha
   refine ⟨mergeS (cval d) W s y x, .inl ⟨t, orO d (andO (noneBut t A.outs) c), rfl, ?_, ?_, hbut⟩, lift_m (g := cval d) h0 (hA.outs _ _ _ ha) ((hA.nrm _ hn).trans (hB.outs _ _ _ h1)) (by rw [hd]; rfl)⟩
   ·show getO t (_ ++ _) = _
    rw [gj, ha, h1]
    rfl
   ·rw [cval_or, cval_and, hnb t, h2, Bool.and_self, Bool.or_true]
 ·refine ⟨x, .inr ⟨rfl, h1, fun t' c' s' hg => ?_⟩, fun _ _ h => h⟩
  have hg' : getO t' (_ ++ _) = some (c', s') := hg
  rw [gj] at hg'
  cases ha : getO t' A.outs with
  | some z =>
   obtain ⟨c1, z⟩ := z
   have := hall t' c1 z ha
   rw [ha] at hg'
   cases hb' : getO t' B.outs with
   | some w =>
    obtain ⟨d, w⟩ := w
    rw [hb'] at hg'; cases hg'
    rw [cval_or, this, cval_and, h2 t' d _ hb', Bool.and_false]
    rfl
   | none => rw [hb'] at hg'; cases hg'; exact this
  | none =>
   rw [ha] at hg'
   cases hb' : getO t' B.outs with
   | some w =>
    obtain ⟨d, w⟩ := w
    rw [hb'] at hg'; cases hg'
    rw [cval_and, h2 t' d _ hb', Bool.and_false]
   | none => rw [hb'] at hg'; cases hg'
theorem seq_needs {W : List Nat} {s : St} {A B : Res} (hA : Wf s A) (hall : AllF A.outs) (h : ∀ p ∈ (seqR W s A B).ps, p) : (∀ p ∈ B.ps, p) := by
 have h' := (all_append h).2
 refine gimps_ok h' fun q hq => ?_
 have hno := allF_noneOf hA.once hall
 cases hc : noneOf A.outs with
 | none => rw [hc] at hq; cases hq
 | some b =>
  rw [hc] at hq hno
  obtain rfl := List.mem_singleton.1 hq
  exact hno
def Good (E : Env) (f : St → Res) (c : Code) : Prop := ∀ (Z : Base) (s : St) (a : Act) (R : World) (Q : Exit → Act → World → Prop), At Z a R s → (∀ u, inW u (wrC c) = true → Z.W u) → (∀ p ∈ (f s).ps, p) →
 (∀ e x a' R', Oc (f s) e x → At Z a' R' x → Q e a' R') → c.wp E.P Q a R
theorem At.over {Z : Base} {F : Nat → Prop} {N : Nm} {s x : St} {a a' : Act} {R R' : World} {W : List Nat} (h0 : Rel Z F N s a R) (hW : ∀ u, inW u W = true → Z.W u) (h : At (midB F N s a R W) a' R' x) : At Z a' R' x := by
 obtain ⟨F', N', h⟩ := h
 exact ⟨F', N', h0.over h hW⟩
theorem seq_good {E : Env} {W : List Nat} {f : St → Res} {c : Code} (hw : ∀ s, Wf s (f s)) (hf : Good E f c) {Z : Base} {F : Nat → Prop} {N : Nm} {s : St} {a : Act} {R : World} {Q : Exit → Act → World → Prop} {s1 : St} {B : Res} (h0 : Rel Z F N s a R) (hW : ∀ u, inW u W = true → Z.W u) (hc : ∀ u, inW u (wrC c) = true → inW u W = true) (hn : (f s).nrm = some s1) (hB : Wf s1 B)
  (hp : ∀ p ∈ (seqR W s (f s) B).ps, p) (hk : ∀ e x a' R', Oc (seqR W s (f s) B) e x → At Z a' R' x → Q e a' R')
  {K : Act → World → Prop} (hd : ∀ (a' : Act) (R' : World), At (midB F N s a R W) a' R' s1 → (∀ p ∈ B.ps, p) → (∀ e x a'' R'', Oc B e x → At (midB F N s a R W) a'' R'' x → Q e a'' R'') → K a' R') : c.wp E.P (Exit.then K Q) a R := by
 refine hf (midB F N s a R W) s a R _ ⟨F, N, h0.start W⟩ (fun u hu => hc u hu) (all_append hp).1 fun e x a' R' ho hr => ?_
 rcases ho with ⟨t, cc, rfl, h1, h2, h3⟩ | ⟨rfl, h1, h2⟩
 ·obtain ⟨y, hy, hr'⟩ := oc_seq1 h0 (hw s) hn hB h1 h2 h3
  have := hk _ y a' R' hy (At.over h0 hW (hr' _ _ hr))
  cases t <;> exact this
 ·rw [hn] at h1
  obtain rfl := Option.some.inj h1
  refine hd a' R' hr (seq_needs (hw s) h2 hp) fun e x a'' R'' ho' hr' => ?_
  obtain ⟨y, hy, hr''⟩ := oc_seq2 h0 (hw s) hn hB h2 ho'
  exact hk e y a'' R'' hy (At.over h0 hW (hr'' _ _ hr'))
theorem inW_left {u : Nat} {A B : List Nat} (h : inW u A = true) : inW u (A ++ B) = true := by rw [inW_append, h]; rfl
theorem inW_right {u : Nat} {A B : List Nat} (h : inW u B = true) : inW u (A ++ B) = true := by rw [inW_append, h]; cases inW u A <;> rfl
theorem code_ok {E : Env} (ok : CodeOk E) {u : Nat} : ∀ (l : Nat) (c : Code) (hd : Bool), Good E (evH E u l c hd) c
 | _, .skip, _ => fun Z s a R Q h _ _ hk => wp_skip (hk _ s a R (.inr ⟨rfl, rfl, fun _ _ _ h => by cases h⟩) h)
 | _, .region id ops draw, _ => fun Z s a R Q h hW hp hk => by
  unfold evH at hp hk
  cases he : evR E ops.toList draw s with
  | none => rw [he] at hp; exact (hp (Stuck id) (List.mem_singleton.2 rfl)).elim
  | some x =>
   obtain ⟨s', ps⟩ := x
   rw [he] at hp hk
   obtain ⟨F, N, h⟩ := h
   have := region_ok ok.toEnvOk h (id := id) hW he hp (Q := Q) fun F' N' a' R' hr => hk _ s' a' R' (.inr ⟨rfl, rfl, fun _ _ _ h => by cases h⟩) ⟨F', N', hr⟩
   rwa [Array.toArray_toList] at this
 | _, .seq c d, hd => fun Z s a R Q h hW hp hk => by
  unfold evH at hp hk
  refine wp_seq ?_
  cases hn : (evH E u 0 c hd s).nrm with
  | none =>
   rw [hn] at hp hk
   refine code_ok ok 0 c hd Z s a R _ h (fun u hu => hW u (inW_left hu)) hp fun e x a' R' ho hr => ?_
   have := hk e x a' R' ho hr
   rcases ho with ⟨t, cc, rfl, _, _, _⟩ | ⟨rfl, h1, _⟩
   ·cases t <;> exact this
   ·rw [hn] at h1
    cases h1
  | some s1 =>
   rw [hn] at hp hk
   obtain ⟨F, N, h⟩ := h
   exact seq_good (fun s => wf_code ok 0 c hd s) (code_ok ok 0 c hd) h hW (fun u hu => inW_left hu) hn (wf_code ok 0 d _ s1) hp hk fun a' R' hr hp' hk' => code_ok ok 0 d _ _ s1 a' R' Q hr (fun u hu => inW_right hu) hp' hk'
 | _, .cond c x y, hd => fun Z s a R Q h hW hp hk => by
  unfold evH at hp hk
  split at hp
  ·rename_i g hg
   rw [hg] at hk
   simp only at hk
   obtain ⟨F, N, h⟩ := h
   have hev := raw_ok h (gok_nil _) hg
   generalize litH hd u = lt at hp hk
   cases lt with
   | true =>
    cases g with
    | true => exact wp_cond_true hev (code_ok ok 0 x false Z s a R Q ⟨F, N, h⟩ (fun u hu => hW u (inW_left hu)) hp hk)
    | false => exact wp_cond_false hev (code_ok ok 0 y false Z s a R Q ⟨F, N, h⟩ (fun u hu => hW u (inW_right hu)) hp hk)
   | false =>
   obtain ⟨hp1, hp2⟩ := all_append hp
   have main : ∀ z : Exit × St, Oc (bif g then evH E u 0 x false s else evH E u 0 y false s) z.1 z.2 → ∀ a' R', At (midB F N s a R (wrC x ++ wrC y)) a' R' z.2 → Q z.1 a' R' := fun z hz a' R' hr => by
    obtain ⟨w, hw, hr'⟩ := oc_join h (wf_code ok 0 x _ s) (wf_code ok 0 y _ s) hz
    exact hk z.1 w a' R' hw (At.over h hW (hr' _ _ hr))
   cases g with
   | true =>
    exact wp_cond_true hev (code_ok ok 0 x false (midB F N s a R (wrC x ++ wrC y)) s a R Q ⟨F, N, h.start _⟩ (fun u hu => inW_left hu) (gimps_ok hp1 fun q hq => by obtain rfl := List.mem_singleton.1 hq; rfl) fun e z a' R' ho hr => main (e, z) ho a' R' hr)
   | false =>
    exact wp_cond_false hev (code_ok ok 0 y false (midB F N s a R (wrC x ++ wrC y)) s a R Q ⟨F, N, h.start _⟩ (fun u hu => inW_right hu) (gimps_ok hp2 fun q hq => by obtain rfl := List.mem_singleton.1 hq; rfl) fun e z a' R' ho hr => main (e, z) ho a' R' hr)
  ·exact (hp (Stuck 1000001) (List.mem_singleton.2 rfl)).elim
 | _, .block id b, _ => fun Z s a R Q h hW hp hk => by
  refine wp_block ?_
  obtain ⟨F, N, h⟩ := h
  have hwf := wf_code ok (u := u) id b false s
  have hp' : ∀ p ∈ (evH E u id b false s).ps, p := fun p hm => hp p (by
   show p ∈ (blockR (wrC b) s id (evH E u id b false s)).ps
   unfold blockR
   cases hg : getO (some id) (evH E u id b false s).outs with
   | none => exact hm
   | some y => exact hm)
  refine code_ok ok id b false (midB F N s a R (wrC b)) s a R _ ⟨F, N, h.start _⟩ (fun u hu => hu) hp' fun e x a' R' ho hr => ?_
  have hk' : ∀ e x a' R', Oc (blockR (wrC b) s id (evH E u id b false s)) e x → At Z a' R' x → Q e a' R' := hk
  have hz : At Z a' R' x := At.over h hW hr
  generalize evH E u id b false s = A at *
  cases hg : getO (some id) A.outs with
  | none =>
   have hbl : blockR (wrC b) s id A = A := by unfold blockR; rw [hg]
   rw [hbl] at hk'
   have := hk' e x a' R' ho hz
   rcases ho with ⟨t, cc, rfl, h1, _, _⟩ | ⟨rfl, _, _⟩
   ·cases t with
    | none => exact this
    | some i =>
     have hne : i ≠ id := fun e => by subst e; rw [hg] at h1; cases h1
     show Exit.inBlock id Q (.exit i) a' R'
     unfold Exit.inBlock
     simp only [hne, if_false]
     exact this
   ·exact this
  | some y =>
   obtain ⟨c, y⟩ := y
   have hbl : blockR (wrC b) s id A = ⟨A.ps, dropO (some id) A.outs, match A.nrm with | none => some y | some z => some (mergeS (cval c) (wrC b) s y z)⟩ := by unfold blockR; rw [hg]
   rw [hbl] at hk'
   rcases ho with ⟨t, cc, rfl, h1, h2, h3⟩ | ⟨rfl, h1, h2⟩
   ·by_cases ht : t = some id
    ·subst ht
     rw [hg] at h1
     obtain ⟨rfl, rfl⟩ : c = cc ∧ y = x := by cases h1; exact ⟨rfl, rfl⟩
     have hall : AllF (dropO (some id) A.outs) := fun t' c' s' hg' => by
      rw [getO_dropO] at hg'
      split at hg'
      ·cases hg'
      ·rename_i hne
       exact h3 t' c' s' hne hg'
     show Exit.inBlock id Q (.exit id) a' R'
     unfold Exit.inBlock
     simp only [if_true]
     cases hn : A.nrm with
     | none =>
      rw [hn] at hk'
      exact hk' .normal y a' R' (.inr ⟨rfl, rfl, hall⟩) hz
     | some z =>
      rw [hn] at hk'
      have := lift_m (g := cval c) h (hwf.outs _ _ _ hg) (hwf.nrm _ hn) (by rw [h2]; rfl) _ _ hr
      exact hk' .normal _ a' R' (.inr ⟨rfl, rfl, hall⟩) (At.over h hW this)
    ·have ho' : getO t (dropO (some id) A.outs) = some (cc, x) := by rw [getO_dropO, if_neg ht]; exact h1
     have := hk' (Tag.ex t) x a' R' (.inl ⟨t, cc, rfl, ho', h2, fun t' c' s' hne hg' => by
      rw [getO_dropO] at hg'
      split at hg'
      ·cases hg'
      ·exact h3 t' c' s' hne hg'⟩) hz
     cases t with
     | none => exact this
     | some i =>
      have hne : i ≠ id := fun e => ht (by rw [e])
      show Exit.inBlock id Q (.exit i) a' R'
      unfold Exit.inBlock
      simp only [hne, if_false]
      exact this
   ·have hall : AllF (dropO (some id) A.outs) := fun t' c' s' hg' => by
     rw [getO_dropO] at hg'
     split at hg'
     ·cases hg'
     ·exact h2 t' c' s' hg'
    rw [h1] at hk'
    have := lift_m (g := cval c) h (hwf.outs _ _ _ hg) (hwf.nrm _ h1) (by rw [h2 _ _ _ hg]; rfl) _ _ hr
    exact hk' .normal _ a' R' (.inr ⟨rfl, rfl, hall⟩) (At.over h hW this)
 | l, .loop b, _ => fun Z s a R Q h hW hp hk => by
  unfold evH at hp hk
  cases hL : E.L l s with
  | some r =>
   obtain ⟨b0, ps, outs⟩ := r
   rw [hL] at hp hk
   have hb : b = b0 := hp _ (List.mem_cons_self ..)
   subst hb
   obtain ⟨F, N, h⟩ := h
   refine (ok.loops _ _ _ _ _ hL).2 Z F N a R Q h hW (fun p hm => hp p (List.mem_cons_of_mem _ hm)) fun e x F' N' a' R' ho hr => hk e x a' R' ?_ ⟨F', N', hr⟩
   rcases ho with ⟨t, c, rfl, h1, h2, h3⟩ | ⟨rfl, h1, h2⟩
   ·exact .inl ⟨t, c, rfl, h1, h2, h3⟩
   ·cases h1
  | none =>
  rw [hL] at hp hk
  have key : ∀ (n : Nat) (Z : Base) (s : St) (a : Act) (R : World) (Q : Exit → Act → World → Prop), At Z a R s → (∀ u, inW u (wrC b) = true → Z.W u) → (∀ p ∈ (loopR (wrC b) (evH E u 0 b true) n s).ps, p) → (∀ e x a' R', Oc (loopR (wrC b) (evH E u 0 b true) n s) e x → At Z a' R' x → Q e a' R') →
    Code.rounds E.P b Q n a R := fun n => by
   induction n with
   | zero => intro Z s a R Q h hW hp hk; exact (hp (Stuck 1000000) (List.mem_singleton.2 rfl)).elim
   | succ n ih =>
    intro Z s a R Q h hW hp hk
    rw [rounds_succ]
    unfold loopR at hp hk
    cases hn : (evH E u 0 b true s).nrm with
    | none =>
     rw [hn] at hp hk
     refine code_ok ok 0 b true Z s a R _ h hW hp fun e x a' R' ho hr => ?_
     have := hk e x a' R' ho hr
     rcases ho with ⟨t, cc, rfl, _, _, _⟩ | ⟨rfl, h1, _⟩
     ·cases t <;> exact this
     ·rw [hn] at h1
      cases h1
    | some s1 =>
     rw [hn] at hp hk
     obtain ⟨F, N, h⟩ := h
     exact seq_good (fun s => wf_code ok 0 b true s) (code_ok ok 0 b true) h hW (fun u hu => hu) hn (wf_loop (fun s => wf_code ok 0 b true s) n s1) hp hk fun a' R' hr hp' hk' => ih _ s1 a' R' Q hr (fun u hu => hu) hp' hk'
  exact wp_loop_rounds u (key u Z s a R Q h hW hp hk)
 | _, .exit id, _ => fun Z s a R Q h _ _ hk => wp_exit (hk _ s a R (.inl ⟨some id, none, rfl, by show (bif tagB (some id) (some id) then some (none, s) else none) = _; rw [tagB_self]; rfl, rfl, fun t' c x hne hg => by
   have h' : (bif tagB (some id) t' then some (none, s) else none) = some (c, x) := hg
   rw [tagB_ne (Ne.symm hne)] at h'
   cases h'⟩) h)
 | _, .ret, _ => fun Z s a R Q h _ _ hk => wp_ret (hk _ s a R (.inl ⟨none, none, rfl, rfl, rfl, fun t' c x hne hg => by
   have h' : (bif tagB none t' then some (none, s) else none) = some (c, x) := hg
   rw [tagB_ne (Ne.symm hne)] at h'
   cases h'⟩) h)
 | _, .rangeFunc _ _ _ _, _ => fun Z s a R Q _ _ hp _ => (hp (Stuck 1000002) (List.mem_singleton.2 rfl)).elim
 | _, .scope b, _ => fun Z s a R Q h hW hp hk => wp_scope_straight (code_ok ok 0 b false Z s a R _ h hW hp fun e x a' R' ho hr => by
   have := hk e x a' R' ho hr
   rcases ho with ⟨t, c, rfl, _⟩ | ⟨rfl, _⟩
   ·cases t <;> exact this
   ·exact this)
 | _, .label _, _ => fun Z s a R Q h _ _ hk => wp_label (hk .normal s a R (.inr ⟨rfl, rfl, fun t c x hg => by cases hg⟩) h)
 | _, .goto _, _ => fun Z s a R Q _ _ hp _ => (hp (Stuck 1000002) (List.mem_singleton.2 rfl)).elim
 | _, .refuse _, _ => fun Z s a R Q _ _ hp _ => (hp (Stuck 1000002) (List.mem_singleton.2 rfl)).elim
end Go.Proofs.Yteebobbhhgmeiaa
namespace Go.Proofs.Yteebobbhhgmeiaa
open Go.RowKit
mutual
def A.pk (ρ : Nat → Option Nat) : A → A
 | .own i off => match ρ i with
  | some j => .own j off
  | none => .dead
 | .ownx i base len k => match ρ i with
  | some j => .ownx j base len k
  | none => .dead
 | .sq i => match ρ i with
  | some j => .sq j
  | none => .dead
 | .vw i size lo n full => match ρ i with
  | some j => .vw j size lo n full
  | none => .dead
 | .el i k size off => match ρ i with
  | some j => .el j k size off
  | none => .dead
 | .mp i => match ρ i with
  | some j => .mp j
  | none => .dead
 | .fn f first caps => .fn f (pkL ρ first) (pkL ρ caps)
 | .agg xs => .agg (pkL ρ xs)
 | .tup xs => .tup (pkL ρ xs)
 | .ref l => .ref (pkL ρ l)
 | .opt u b x => .opt u b (x.pk ρ)
 | .v x => .v x
 | .sl c l => .sl c l
 | .nl => .nl
 | .it q vs => .it q vs
 | .dead => .dead
def pkL (ρ : Nat → Option Nat) : List A → List A
 | [] => []
 | x :: r => x.pk ρ :: pkL ρ r
end
theorem pkL_get {ρ : Nat → Option Nat} : ∀ {l : List A} {j : Nat} {x : A}, (pkL ρ l)[j]? = some x → ∃ y, l[j]? = some y ∧ x = y.pk ρ
 | [], j, x, h => by unfold pkL at h; cases j <;> cases h
 | y :: r, 0, x, h => by unfold pkL at h; cases h; exact ⟨y, rfl, rfl⟩
 | y :: r, j + 1, x, h => by unfold pkL at h; exact pkL_get (l := r) h
theorem pkL_length {ρ : Nat → Option Nat} : ∀ l : List A, (pkL ρ l).length = l.length
 | [] => by unfold pkL; rfl
 | y :: r => by unfold pkL; rw [List.length_cons, List.length_cons, pkL_length r]
theorem enc_pk (ρ : Nat → Option Nat) (c : TC) (d : U c) : ∀ x ∈ enc c d, x.pk ρ = x := fun x hx => by
 have := enc_plain c d x hx
 cases x <;> first | (unfold A.pk; rfl) | exact this.elim
def Pk (ρ : Nat → Option Nat) (N : Nm) (nx : Nat) (N' : Nm) (nx' : Nat) : Prop := ∀ i j, i < nx → ρ i = some j → j < nx' ∧ N'.b j = N.b i ∧ N'.q j = N.q i
section
variable {F : Nat → Prop} {N N' : Nm} {nx nx' : Nat} {R : World} {ρ : Nat → Option Nat}
theorem Hv.pk (st : Pk ρ N nx N' nx') {x : A} {y : Value} (h : Hv F N nx R x y) : Hv F N' nx' R (x.pk ρ) y := by
 induction h with
 | v x => unfold A.pk; exact .v x
 | @sl c l a cap ad h1 h2 h3 h4 ih =>
  unfold A.pk
  refine .sl ad h1 h2 h3 (fun i d j x y hd hx hy => ?_)
  have := ih i d j x y hd hx hy
  rwa [enc_pk ρ c d x (List.mem_of_getElem? hx)] at this
 | @ref l ad h1 h2 h3 ih =>
  unfold A.pk
  refine .ref ad h1 (fun j x hx => ?_) (fun j x y hx hy => ?_)
  ·obtain ⟨z, hz, rfl⟩ := pkL_get hx; exact h2 j z hz
  ·obtain ⟨z, hz, rfl⟩ := pkL_get hx; exact ih j z y hz hy
 | own h =>
  unfold A.pk
  split
  ·rename_i j hj
   obtain ⟨h1, h2, _⟩ := st _ _ h hj
   rw [← h2]; exact .own h1
  ·exact .dead _
 | ownx h =>
  unfold A.pk
  split
  ·rename_i j hj
   obtain ⟨h1, h2, _⟩ := st _ _ h hj
   rw [← h2]; exact .ownx h1
  ·exact .dead _
 | sq h =>
  unfold A.pk
  split
  ·rename_i j hj
   obtain ⟨h1, _, h2⟩ := st _ _ h hj
   rw [← h2]; exact .sq h1
  ·exact .dead _
 | vw h h1 h2 h3 =>
  unfold A.pk
  split
  ·rename_i j hj
   obtain ⟨k1, _, k2⟩ := st _ _ h hj
   exact .vw k1 h1 h2 (fun hn => by rw [k2]; exact h3 hn)
  ·exact .dead _
 | el h =>
  unfold A.pk
  split
  ·rename_i j hj
   obtain ⟨h1, _, h2⟩ := st _ _ h hj
   rw [← h2]; exact .el h1
  ·exact .dead _
 | mp h =>
  unfold A.pk
  split
  ·rename_i j hj
   obtain ⟨h1, h2, _⟩ := st _ _ h hj
   rw [← h2]; exact .mp h1
  ·exact .dead _
 | nl a => unfold A.pk; exact .nl a
 | it q vs y h => unfold A.pk; exact .it q vs y h
 | fn vs us h1 _ h3 _ ih2 ih4 =>
  unfold A.pk
  exact .fn vs us (by rw [pkL_length]; exact h1) (fun j x v hx hv => by obtain ⟨z, hz, rfl⟩ := pkL_get hx; exact ih2 j z v hz hv) (by rw [pkL_length]; exact h3) (fun j x v hx hv => by obtain ⟨z, hz, rfl⟩ := pkL_get hx; exact ih4 j z v hz hv)
 | agg vs h1 _ ih => unfold A.pk; exact .agg vs (by rw [pkL_length]; exact h1) (fun j x v hx hv => by obtain ⟨z, hz, rfl⟩ := pkL_get hx; exact ih j z v hz hv)
 | tup vs h1 _ ih => unfold A.pk; exact .tup vs (by rw [pkL_length]; exact h1) (fun j x v hx hv => by obtain ⟨z, hz, rfl⟩ := pkL_get hx; exact ih j z v hz hv)
 | dead y => unfold A.pk; exact .dead y
theorem HL.pk (st : Pk ρ N nx N' nx') : ∀ {xs : List A} {vs : List Value}, HL F N nx R xs vs → HL F N' nx' R (pkL ρ xs) vs
 | [], _, h => by unfold pkL; exact h
 | x :: r, _, ⟨v, vs, h1, h2, h3⟩ => by
  unfold pkL
  exact ⟨v, vs, h1, h2.pk st, HL.pk st h3⟩
end
def Els.pk (ρ : Nat → Option Nat) : Els → Els
 | .lst cs => .lst (cs.map (pkL ρ))
 | .ty c l => .ty c l
def Ob.pk (ρ : Nat → Option Nat) : Ob → Ob
 | .box e cs => .box e (pkL ρ cs)
 | .arr e size els => .arr e size (els.pk ρ)
 | .map k v l => .map k v l
 | .sit s pos => .sit s pos
theorem pkL_enc (ρ : Nat → Option Nat) (c : TC) (d : U c) : pkL ρ (enc c d) = enc c d := by
 have : ∀ l : List A, (∀ x ∈ l, x.pk ρ = x) → pkL ρ l = l := fun l => by
  induction l with
  | nil => intro _; unfold pkL; rfl
  | cons x r ih => intro h; unfold pkL; rw [h x (List.mem_cons_self ..), ih fun y hy => h y (List.mem_cons_of_mem _ hy)]
 exact this _ (enc_pk ρ c d)
theorem valA_pk (ρ : Nat → Option Nat) (c : TC) (d : U c) : (valA c d).pk ρ = valA c d := by
 unfold valA
 cases c.isAgg with
 | true =>
  show (aggA (enc c d)).pk ρ = aggA (enc c d)
  unfold aggA
  split
  ·unfold A.pk; rfl
  ·unfold A.pk; rw [pkL_enc]
 | false =>
  have hp := enc_pk ρ c d
  simp only [cond_false]
  generalize enc c d = l at hp ⊢
  cases l with
  | nil => unfold A.pk; rfl
  | cons x r => exact hp x (List.mem_cons_self ..)
section
variable {F : Nat → Prop} {N N' : Nm} {nx nx' : Nat} {o o' : Objs} {R : World} {ρ : Nat → Option Nat} {i j : Nat} {ob : Ob}
theorem ObR.pk (st : Pk ρ N nx N' nx') (hi : i < nx) (hj : ρ i = some j) (h : ObR F N nx R i ob) : ObR F N' nx' R j (ob.pk ρ) := by
 obtain ⟨_, sb, sq⟩ := st i j hi hj
 cases ob with
 | box e cs =>
  obtain ⟨vs, h1, h2⟩ := h
  exact ⟨vs, h1.pk st, by rw [sb]; exact h2⟩
 | arr e size els =>
  obtain ⟨zs, h1, h2⟩ := h
  cases els with
  | lst cs =>
   have hn : (Els.pk ρ (.lst cs)).n = cs.length := by simp [Els.pk, Els.n]
   refine ⟨zs, by rw [sq, hn]; exact h1, fun k hk => ?_⟩
   rw [hn] at hk
   have := (h2 k hk).pk st
   show HL F N' nx' R (nthL (cs.map (pkL ρ)) k) _
   rw [nthL_get, List.getD_eq_getElem?_getD, List.getElem?_map]
   have h3 : (Els.lst cs).nth k = cs.getD k [] := nthL_get cs k
   rw [h3, List.getD_eq_getElem?_getD] at this
   have hk' : cs[k]? = some cs[k] := List.getElem?_eq_getElem hk
   rw [hk'] at this ⊢
   exact this
  | ty c l =>
   refine ⟨zs, by rw [sq]; exact h1, fun k hk => ?_⟩
   have := (h2 k hk).pk st
   have e : pkL ρ ((Els.ty c l).nth k) = (Els.ty c l).nth k := pkL_enc ρ c _
   rw [e] at this
   exact this
 | map k v l =>
  obtain ⟨es, cl, h1, h2, h3⟩ := h
  refine ⟨es, cl, by rw [sb]; exact h1, h2, fun j p e hp he => ⟨(h3 j p e hp he).1, ?_⟩⟩
  have := (h3 j p e hp he).2.pk st
  rwa [valA_pk] at this
 | sit s pos =>
  show R.heap[N'.b j]? = _
  rw [sb]
  exact h
theorem foot_pk (st : Pk ρ N nx N' nx') (hi : i < nx) (hj : ρ i = some j) {g : Nat} : foot N' j (ob.pk ρ) g ↔ foot N i ob g := by
 obtain ⟨_, sb, sq⟩ := st i j hi hj
 cases ob <;> simp only [foot, Ob.pk, sb, sq]
theorem HRel.pk (h : HRel F N nx o R) (st : Pk ρ N nx N' nx') (ho : ∀ j ob', lookO j o' = some ob' → ∃ i ob, ρ i = some j ∧ lookO i o = some ob ∧ ob' = ob.pk ρ) : HRel F N' nx' o' R ∧ ∀ g, Foot N' o' g → Foot N o g := by
 refine ⟨⟨h.flt, fun j ob' hj => ?_, fun j ob' g hj hg => ?_, fun j k x y g hj hk hx hy => ?_⟩, fun g ⟨j, ob', hj, hg⟩ => ?_⟩
 ·obtain ⟨i, ob, h1, h2, rfl⟩ := ho j ob' hj
  obtain ⟨h3, h4⟩ := h.ob i ob h2
  exact ⟨(st i j h3 h1).1, h4.pk st h3 h1⟩
 ·obtain ⟨i, ob, h1, h2, rfl⟩ := ho j ob' hj
  exact h.ff i ob g h2 ((foot_pk st (h.ob i ob h2).1 h1).1 hg)
 ·obtain ⟨i, ob, h1, h2, rfl⟩ := ho j x hj
  obtain ⟨i', ob', k1, k2, rfl⟩ := ho k y hk
  have := h.sep i i' ob ob' g h2 k2 ((foot_pk st (h.ob i ob h2).1 h1).1 hx) ((foot_pk st (h.ob i' ob' k2).1 k1).1 hy)
  subst this
  rw [h1] at k1
  exact Option.some.inj k1
 ·obtain ⟨i, ob, h1, h2, rfl⟩ := ho j ob' hj
  exact ⟨i, ob, h2, (foot_pk st (h.ob i ob h2).1 h1).1 hg⟩
end
abbrev Ren2 := List (Nat × Nat)
def fwd : Ren2 → Nat → Option Nat
 | [], _ => none
 | (k, j) :: r, i => bif Nat.beq k i then some j else fwd r i
def bck : Ren2 → Nat → Option Nat
 | [], _ => none
 | (k, j) :: r, i => bif Nat.beq j i then some k else bck r i
def rho2 (nb : Nat) (L : Ren2) (i : Nat) : Option Nat := bif Nat.blt i nb then some i else fwd L i
def inv2 (nb : Nat) (L : Ren2) (j : Nat) : Nat := bif Nat.blt j nb then j else match bck L j with
 | some k => k
 | none => 0
def okRen (nb nx' : Nat) : Ren2 → Bool
 | [] => true
 | (k, j) :: r => Nat.ble nb k && (Nat.ble nb j && (Nat.blt j nx' && (isNone (fwd r k) && (isNone (bck r j) && okRen nb nx' r))))
theorem isNone_iff {o : Option Nat} : isNone o = true ↔ o = none := by cases o <;> simp [isNone]
theorem fwd_bck {nb nx' : Nat} : ∀ {L : Ren2} {i j : Nat}, okRen nb nx' L = true → fwd L i = some j → bck L j = some i ∧ nb ≤ i ∧ nb ≤ j ∧ j < nx'
 | [], i, j, _, h => by cases h
 | (k, m) :: r, i, j, h0, h => by
  unfold okRen at h0
  simp only [Bool.and_eq_true] at h0
  obtain ⟨a1, a2, a3, a4, a5, a6⟩ := h0
  unfold fwd at h
  cases hb : Nat.beq k i with
  | true =>
   rw [hb] at h
   cases h
   obtain rfl := Nat.eq_of_beq_eq_true hb
   refine ⟨?_, Nat.le_of_ble_eq_true a1, Nat.le_of_ble_eq_true a2, Nat.le_of_ble_eq_true a3⟩
   unfold bck
   rw [beq_self]
   rfl
  | false =>
   rw [hb] at h
   obtain ⟨h1, h2⟩ := fwd_bck a6 h
   refine ⟨?_, h2⟩
   unfold bck
   cases hm : Nat.beq m j with
   | true =>
    obtain rfl := Nat.eq_of_beq_eq_true hm
    rw [isNone_iff.1 a5] at h1
    cases h1
   | false => exact h1
def nm2 (N : Nm) (nb : Nat) (L : Ren2) : Nm := ⟨fun j => N.b (inv2 nb L j), fun j => N.q (inv2 nb L j)⟩
theorem inv_rho {nb nx' : Nat} {L : Ren2} (h0 : okRen nb nx' L = true) {i j : Nat} (h : rho2 nb L i = some j) : inv2 nb L j = i ∧ (i < nb ∧ j = i ∨ nb ≤ i ∧ nb ≤ j ∧ j < nx') := by
 unfold rho2 at h
 cases hb : Nat.blt i nb with
 | true =>
  rw [hb] at h
  cases h
  refine ⟨?_, .inl ⟨Nat.le_of_ble_eq_true hb, rfl⟩⟩
  unfold inv2
  rw [hb]
  rfl
 | false =>
  rw [hb] at h
  obtain ⟨h1, h2, h3, h4⟩ := fwd_bck h0 h
  refine ⟨?_, .inr ⟨h2, h3, h4⟩⟩
  unfold inv2
  have : Nat.blt j nb = false := by
   cases hj : Nat.blt j nb with
   | false => rfl
   | true => exact absurd (Nat.le_of_ble_eq_true hj) (by omega)
  rw [this, h1]
  rfl
theorem pk2 {N : Nm} {nb n nx' : Nat} {L : Ren2} (h0 : okRen nb nx' L = true) (hnb : nb ≤ nx') : Pk (rho2 nb L) N n (nm2 N nb L) nx' := fun i j _ hj => by
 obtain ⟨h1, h2⟩ := inv_rho h0 hj
 refine ⟨?_, by show N.b (inv2 nb L j) = _; rw [h1], by show N.q (inv2 nb L j) = _; rw [h1]⟩
 rcases h2 with ⟨h2, rfl⟩ | ⟨_, _, h2⟩
 ·omega
 ·exact h2
def pkNew (nb : Nat) (L : Ren2) (o : Objs) : Ren2 → Objs
 | [] => []
 | (k, j) :: r => (j, match lookO k o with
  | some ob => some (ob.pk (rho2 nb L))
  | none => none) :: pkNew nb L o r
def pkOld (nb : Nat) (L : Ren2) (o : Objs) : List Nat → Objs
 | [] => []
 | k :: r => bif Nat.blt k nb then (k, match lookO k o with
  | some ob => some (ob.pk (rho2 nb L))
  | none => none) :: pkOld nb L o r else pkOld nb L o r
theorem lookO_pkNew {nb : Nat} {L : Ren2} {o : Objs} {j : Nat} {ob' : Ob} : ∀ {r : Ren2}, lookO j (pkNew nb L o r) = some ob' → ∃ k ob, (k, j) ∈ r ∧ lookO k o = some ob ∧ ob' = ob.pk (rho2 nb L)
 | [], h => by cases h
 | (k, m) :: r, h => by
  unfold pkNew at h
  have h' : (bif Nat.beq m j then (match lookO k o with | some ob => some (ob.pk (rho2 nb L)) | none => none) else lookO j (pkNew nb L o r)) = some ob' := h
  cases hb : Nat.beq m j with
  | true =>
   rw [hb] at h'
   obtain rfl := Nat.eq_of_beq_eq_true hb
   simp only [cond_true] at h'
   split at h' <;> first | (cases h'; done) | skip
   rename_i ob hob
   cases h'
   exact ⟨k, ob, List.mem_cons_self .., hob, rfl⟩
  | false =>
   rw [hb] at h'
   obtain ⟨k', ob, h1, h2⟩ := lookO_pkNew h'
   exact ⟨k', ob, List.mem_cons_of_mem _ h1, h2⟩
theorem lookO_pkOld {nb : Nat} {L : Ren2} {o : Objs} {j : Nat} {ob' : Ob} : ∀ {r : List Nat}, lookO j (pkOld nb L o r) = some ob' → j < nb ∧ ∃ ob, lookO j o = some ob ∧ ob' = ob.pk (rho2 nb L)
 | [], h => by cases h
 | k :: r, h => by
  unfold pkOld at h
  cases hk : Nat.blt k nb with
  | false => rw [hk] at h; exact lookO_pkOld h
  | true =>
   rw [hk] at h
   have h' : (bif Nat.beq k j then (match lookO k o with | some ob => some (ob.pk (rho2 nb L)) | none => none) else lookO j (pkOld nb L o r)) = some ob' := h
   cases hb : Nat.beq k j with
   | true =>
    rw [hb] at h'
    obtain rfl := Nat.eq_of_beq_eq_true hb
    simp only [cond_true] at h'
    split at h' <;> first | (cases h'; done) | skip
    rename_i ob hob
    cases h'
    exact ⟨Nat.le_of_ble_eq_true hk, ob, hob, rfl⟩
   | false => rw [hb] at h'; exact lookO_pkOld h'
theorem keysO_pkOld {nb : Nat} {L : Ren2} {o : Objs} {j : Nat} (hj : j < nb) : ∀ {r : List Nat}, j ∈ r → j ∈ keysO (pkOld nb L o r)
 | [], h => by cases h
 | k :: r, h => by
  unfold pkOld
  rcases List.mem_cons.1 h with rfl | h
  ·rw [show Nat.blt j nb = true from Nat.ble_eq_true_of_le hj]
   exact List.mem_cons_self ..
  ·cases Nat.blt k nb with
   | true => exact List.mem_cons_of_mem _ (keysO_pkOld hj h)
   | false => exact keysO_pkOld hj h
theorem lookO_split {i : Nat} {ob : Ob} {A B : Objs} (h : lookO i (A ++ B) = some ob) : (i ∈ keysO A ∧ lookO i A = some ob) ∨ (i ∉ keysO A ∧ lookO i B = some ob) := by
 by_cases hk : i ∈ keysO A
 ·rw [lookO_in hk] at h; exact .inl ⟨hk, h⟩
 ·rw [lookO_none hk] at h; exact .inr ⟨hk, h⟩
theorem ren_mem {nb nx' : Nat} : ∀ {L : Ren2} {k j : Nat}, okRen nb nx' L = true → (k, j) ∈ L → rho2 nb L k = some j
 | [], k, j, _, h => by cases h
 | (a, b) :: r, k, j, h0, h => by
  have h00 := h0
  unfold okRen at h0
  simp only [Bool.and_eq_true] at h0
  obtain ⟨a1, a2, a3, a4, a5, a6⟩ := h0
  have hge : ∀ {L : Ren2} {k j : Nat}, okRen nb nx' L = true → (k, j) ∈ L → nb ≤ k := fun {L} => by
   induction L with
   | nil => intro k j _ h; cases h
   | cons p r ih =>
    intro k j h0 h
    obtain ⟨x, y⟩ := p
    unfold okRen at h0
    simp only [Bool.and_eq_true] at h0
    rcases List.mem_cons.1 h with e | h
    ·cases e; exact Nat.le_of_ble_eq_true h0.1
    ·exact ih h0.2.2.2.2.2 h
  have hk : Nat.blt k nb = false := by
   cases hb : Nat.blt k nb with
   | false => rfl
   | true => exact absurd (hge h00 h) (by have := Nat.le_of_ble_eq_true hb; omega)
  have ih : ∀ {L : Ren2} {k j : Nat}, okRen nb nx' L = true → (k, j) ∈ L → fwd L k = some j := fun {L} => by
   induction L with
   | nil => intro k j _ h; cases h
   | cons p r ih =>
    intro k j h0 h
    obtain ⟨x, y⟩ := p
    unfold okRen at h0
    simp only [Bool.and_eq_true] at h0
    obtain ⟨_, _, _, b4, _, b6⟩ := h0
    unfold fwd
    rcases List.mem_cons.1 h with e | h
    ·cases e; rw [beq_self]; rfl
    ·have h1 := ih b6 h
     cases hb : Nat.beq x k with
     | true =>
      obtain rfl := Nat.eq_of_beq_eq_true hb
      rw [isNone_iff.1 b4] at h1
      cases h1
     | false => exact h1
  unfold rho2
  rw [hk]
  exact ih h00 h
section
variable {F : Nat → Prop} {N : Nm} {nx : Nat} {o : Objs} {R : World} {ρ : Nat → Option Nat}
theorem pkL_id {xs : List A} (h : ∀ (j : Nat) (x : A), xs[j]? = some x → x.pk ρ = x) : pkL ρ xs = xs := by
 induction xs with
 | nil => unfold pkL; rfl
 | cons x r ih => unfold pkL; rw [h 0 x rfl, ih fun j y hy => h (j + 1) y hy]
theorem Hv.pk_id (hρ : ∀ k, k < nx → ρ k = some k) {x : A} {y : Value} (h : Hv F N nx R x y) : x.pk ρ = x := by
 induction h with
 | v x => unfold A.pk; rfl
 | sl => unfold A.pk; rfl
 | @ref l ad h1 h2 h3 ih =>
  unfold A.pk
  rw [pkL_id fun j x hx => by obtain ⟨y, hy⟩ := h2 j x hx; exact ih j x y hx hy]
 | own h => unfold A.pk; rw [hρ _ h]
 | ownx h => unfold A.pk; rw [hρ _ h]
 | sq h => unfold A.pk; rw [hρ _ h]
 | vw h => unfold A.pk; rw [hρ _ h]
 | el h => unfold A.pk; rw [hρ _ h]
 | mp h => unfold A.pk; rw [hρ _ h]
 | nl a => unfold A.pk; rfl
 | it q vs y h => unfold A.pk; rfl
 | @fn f first caps vs us h1 _ h3 _ ih2 ih4 =>
  unfold A.pk
  have e1 : pkL ρ first = first := pkL_id fun j x hx => by
   have hj : j < vs.length := by rw [h1]; exact (List.getElem?_eq_some_iff.1 hx).1
   exact ih2 j x _ hx (List.getElem?_eq_getElem hj)
  have e2 : pkL ρ caps = caps := pkL_id fun j x hx => by
   have hj : j < us.length := by rw [h3]; exact (List.getElem?_eq_some_iff.1 hx).1
   exact ih4 j x _ hx (List.getElem?_eq_getElem hj)
  rw [e1, e2]
 | @agg xs vs h1 _ ih =>
  unfold A.pk
  rw [pkL_id fun j x hx => by
   have hj : j < vs.length := by rw [h1]; exact (List.getElem?_eq_some_iff.1 hx).1
   exact ih j x _ hx (List.getElem?_eq_getElem hj)]
 | @tup xs vs h1 _ ih =>
  unfold A.pk
  rw [pkL_id fun j x hx => by
   have hj : j < vs.length := by rw [h1]; exact (List.getElem?_eq_some_iff.1 hx).1
   exact ih j x _ hx (List.getElem?_eq_getElem hj)]
 | dead y => unfold A.pk; rfl
theorem HL.pk_id (hρ : ∀ k, k < nx → ρ k = some k) : ∀ {xs : List A} {vs : List Value}, HL F N nx R xs vs → pkL ρ xs = xs
 | [], _, _ => by unfold pkL; rfl
 | x :: r, _, ⟨v, vs, _, h2, h3⟩ => by unfold pkL; rw [h2.pk_id hρ, HL.pk_id hρ h3]
theorem HRel.pk_id (h : HRel F N nx o R) (hρ : ∀ k, k < nx → ρ k = some k) {i : Nat} {ob : Ob} (hi : lookO i o = some ob) : ob.pk ρ = ob := by
 obtain ⟨_, h2⟩ := h.ob i ob hi
 cases ob with
 | box e cs =>
  obtain ⟨vs, h1, _⟩ := h2
  show Ob.box e (pkL ρ cs) = _
  rw [h1.pk_id hρ]
 | arr e size els =>
  cases els with
  | ty c l => rfl
  | lst cs =>
   obtain ⟨zs, _, h3⟩ := h2
   show Ob.arr e size (.lst (cs.map (pkL ρ))) = _
   congr 2
   apply List.ext_getElem?
   intro k
   rw [List.getElem?_map]
   cases hk : cs[k]? with
   | none => rfl
   | some c =>
    have hk' : k < cs.length := (List.getElem?_eq_some_iff.1 hk).1
    have := (h3 k hk').pk_id hρ
    have e : (Els.lst cs).nth k = c := by
     show nthL cs k = c
     rw [nthL_get, List.getD_eq_getElem?_getD, hk]
     rfl
    rw [e] at this
    exact congrArg some this
 | map k v l => rfl
 | sit s pos => rfl
end
def pkObjs (nb : Nat) (L : Ren2) (o ob : Objs) : Objs := pkNew nb L o L ++ (pkOld nb L o (newK o ob.length) ++ ob)
theorem pkObjs_ok {F : Nat → Prop} {N : Nm} {nb n nx' : Nat} {o ob d : Objs} {R : World} {L : Ren2} (h : HRel F N n o R) (h0 : okRen nb nx' L = true) (hnb : nb ≤ nx') (hd : o = d ++ ob) {F0 : Nat → Prop} {N0 : Nm} {R0 : World} (hb : HRel F0 N0 nb ob R0) :
  HRel F (nm2 N nb L) nx' (pkObjs nb L o ob) R ∧ ∀ g, Foot (nm2 N nb L) (pkObjs nb L o ob) g → Foot N o g := by
 have small : ∀ k, k < nb → rho2 nb L k = some k := fun k hk => by unfold rho2; rw [show Nat.blt k nb = true from Nat.ble_eq_true_of_le hk]; rfl
 refine h.pk (pk2 h0 hnb) fun j ob' hj => ?_
 unfold pkObjs at hj
 rcases lookO_split hj with ⟨_, h1⟩ | ⟨_, h1⟩
 ·obtain ⟨k, x, h2, h3, h4⟩ := lookO_pkNew h1
  exact ⟨k, x, ren_mem h0 h2, h3, h4⟩
 ·rcases lookO_split h1 with ⟨_, h2⟩ | ⟨h2, h3⟩
  ·obtain ⟨h3, x, h4, h5⟩ := lookO_pkOld h2
   exact ⟨j, x, small j h3, h4, h5⟩
  ·have h4 := (hb.ob j ob' h3).1
   refine ⟨j, ob', small j h4, ?_, (hb.pk_id small h3).symm⟩
   subst hd
   rw [lookO_newK fun hm => h2 (keysO_pkOld h4 hm)]
   exact h3
end Go.Proofs.Yteebobbhhgmeiaa
namespace Go.Proofs.Yteebobbhhgmeiaa
open Go.RowKit
def resV (E : Env) (s : St) : ResultVar → R2
 | .tmp t => match s.ev [] (.tmp t) with
  | some x => some (x, [])
  | none => none
 | .cell a t => loadE E s [] t (.tmp a)
def resL (E : Env) (s : St) : List ResultVar → Option (List A × List Prop)
 | [] => some ([], [])
 | r :: rs => match resV E s r with
  | some (v, ps) => match resL E s rs with
   | some (vs, qs) => some (v :: vs, ps ++ qs)
   | none => none
  | none => none
def tupA : List A → A
 | [x] => x
 | l => match rawL l with
  | some vs => .v (.tuple vs.toArray)
  | none => .tup l
def tupV : List Value → Value
 | [v] => v
 | l => .tuple l.toArray
def resM (tmps : Array Value) : ResultVar → Sem Value
 | .tmp t => pure (tmps.getD t undef)
 | .cell a t => do loadVar t (← asAddr (tmps.getD a undef))
theorem results_eq (fn : Func) (tmps : Array Value) : results fn tmps = (do let vs ← fn.results.mapM (resM tmps); pure (if h : vs.size = 1 then vs[0] else .tuple vs)) := rfl
section
variable {E : Env} {Z : Base} {F : Nat → Prop} {N : Nm} {s : St} {a : Act} {R : World}
theorem tupA_ok {nx : Nat} {l : List A} {vs : List Value} (h : HL F N nx R l vs) : Hv F N nx R (tupA l) (tupV vs) := by
 match l, h with
 | [], h =>
  rw [h.inv0]
  exact .v _
 | [x], h =>
  obtain ⟨v, us, rfl, h2, h3⟩ := h.inv
  rw [h3.inv0]
  exact h2
 | x :: y :: r, h =>
  obtain ⟨v, us, rfl, h2, h3⟩ := h.inv
  obtain ⟨w, ws, rfl, h4, h5⟩ := h3.inv
  show Hv F N nx R (match rawL (x :: y :: r) with | some vs => .v (.tuple vs.toArray) | none => .tup (x :: y :: r)) (.tuple (v :: w :: ws).toArray)
  split
  ·rename_i us hu
   rw [rawL_ok hu h]
   exact .v _
  ·exact Hv.of_tup h
theorem resV_ok (h : Rel Z F N s a R) {r : ResultVar} {x : A} {ps : List Prop} (he : resV E s r = some (x, ps)) (hp : ∀ p ∈ ps, p) : ∃ v, Hv F N s.nx R x v ∧ (resM a.tmps r).run E.P R = .ok v R := by
 cases r with
 | tmp t =>
  unfold resV at he
  simp only at he
  split at he <;> first | (cases he; done) | skip
  rename_i z hz
  cases he
  exact ⟨_, (ev_ok h (gok_nil _) hz).2, rfl⟩
 | cell c t =>
  obtain ⟨v, h1, h2⟩ := load_ok h (gok_nil _) he hp
  refine ⟨v, h1, ?_⟩
  have h3 : (Instr.loadAt t (a.tmps.getD c undef)).run E.P R = .ok v R := h2 R (Below.refl _ _)
  show (do loadVar t (← asAddr (a.tmps.getD c undef)) : Sem Value).run E.P R = _
  unfold Instr.loadAt at h3
  generalize a.tmps.getD c undef = p at *
  cases p <;> first | (simp [Instr.sureAddr] at h3; done) | skip
  rename_i ad
  cases ad with
  | none => simp [Instr.sureAddr] at h3
  | some ad => simpa [Instr.sureAddr, asAddr] using h3
theorem resL_ok (h : Rel Z F N s a R) : ∀ {l : List ResultVar} {xs : List A} {ps : List Prop}, resL E s l = some (xs, ps) → (∀ p ∈ ps, p) → ∃ vs, HL F N s.nx R xs vs ∧ (l.mapM (resM a.tmps)).run E.P R = .ok vs R
 | [], xs, ps, he, _ => by cases he; exact ⟨[], HL.nil, rfl⟩
 | r :: rs, xs, ps, he, hp => by
  unfold resL at he
  split at he <;> first | (cases he; done) | skip
  rename_i x ps1 h1
  split at he <;> first | (cases he; done) | skip
  rename_i xs1 qs h2
  cases he
  obtain ⟨v, g1, g2⟩ := resV_ok h h1 fun p hm => hp p (List.mem_append.2 (.inl hm))
  obtain ⟨vs, g3, g4⟩ := resL_ok h h2 fun p hm => hp p (List.mem_append.2 (.inr hm))
  refine ⟨v :: vs, HL.cons g1 g3, ?_⟩
  rw [List.mapM_cons]
  simp only [Sem.run_bind, g2, Result.andThen_ok, g4, Sem.run_pure]
theorem results_ok (h : Rel Z F N s a R) {fn : Func} {xs : List A} {ps : List Prop} (he : resL E s fn.results.toList = some (xs, ps)) (hp : ∀ p ∈ ps, p) : ∃ v, Hv F N s.nx R (tupA xs) v ∧ (results fn a.tmps).run E.P R = .ok v R := by
 obtain ⟨vs, h1, h2⟩ := resL_ok h he hp
 refine ⟨tupV vs, tupA_ok h1, ?_⟩
 rw [results_eq, Array.mapM_eq_mapM_toList]
 simp only [Sem.run_bind, Sem.run_map, h2, Result.andThen_ok, Sem.run_pure]
 congr 1
 match vs with
 | [] => simp [tupV]
 | [x] => simp [tupV]
 | x :: y :: r => simp [tupV]
end
def refsA (nb : Nat) (o : Objs) : Nat → A → List Nat
 | 0, _ => []
 | d + 1, x => match x with
  | .sq i | .vw i _ _ _ _ | .el i _ _ _ | .own i _ | .ownx i _ _ _ | .mp i => bif Nat.blt i nb then [] else i :: (match lookO i o with
   | some (.box _ cs) => cs.flatMap (refsA nb o d)
   | some (.arr _ _ (.lst cs)) => cs.flatMap fun l => l.flatMap (refsA nb o d)
   | _ => [])
  | .agg xs => xs.flatMap (refsA nb o d)
  | .tup xs => xs.flatMap (refsA nb o d)
  | .fn _ xs ys => xs.flatMap (refsA nb o d) ++ ys.flatMap (refsA nb o d)
  | _ => []
def refsO (nb : Nat) (o : Objs) : List Nat → List Nat
 | [] => []
 | k :: r => (bif Nat.blt k nb then (match lookO k o with
  | some (.box _ cs) => cs.flatMap (refsA nb o 4)
  | some (.arr _ _ (.lst cs)) => cs.flatMap fun l => l.flatMap (refsA nb o 4)
  | _ => []) else []) ++ refsO nb o r
def mkRen : List Nat → Nat → Ren2 → Ren2
 | [], _, L => L
 | k :: r, j, L => match fwd L k with
  | some _ => mkRen r j L
  | none => mkRen r (j + 1) (L ++ [(k, j)])
def onlyRet : Outs → Bool
 | [] => true
 | (none, _, _) :: r => onlyRet r
 | _ => false
theorem onlyRet_ok : ∀ {o : Outs} {i : Nat}, onlyRet o = true → getO (some i) o = none
 | [], _, _ => rfl
 | (none, _, _) :: r, i, h => onlyRet_ok (o := r) h
 | (some _, _, _) :: _, _, h => by cases h
def endS (W : List Nat) (s0 : St) (r : Res) : Option St := bif onlyRet r.outs then (match getO none r.outs, r.nrm with
 | some (_, s), none => some s
 | none, some s => some s
 | some (c, s), some s' => some (mergeS (cval c) W s0 s s')
 | none, none => none) else none
def fin2 (k : Nat) (s0 s : St) (x : A) (ps : List Prop) (L : Ren2) : Option CRes :=
 bif okRen s0.nx (s0.nx + L.length) L then some (k, x.pk (rho2 s0.nx L), s0.nx + L.length, pkObjs s0.nx L s.o s0.o, ps) else none
def finR (E : Env) (fn : Func) (k : Nat) (W : List Nat) (s0 : St) (r : Res) : Option CRes := match endS W s0 r with
 | some s => match resL E s fn.results.toList with
  | some (l, ps) => fin2 k s0 s (tupA l) (r.ps ++ ps) (mkRen (refsA s0.nx s.o 6 (tupA l) ++ refsO s0.nx s.o (newK s.o s0.o.length)) s0.nx [])
  | none => none
 | none => none
def slotsOf : Nat → List A → Slots
 | _, [] => []
 | k, x :: r => (k, x) :: slotsOf (k + 1) r
def initS (n : Nat) (args : List A) (nx : Nat) (o : Objs) : St := ⟨n, nx, slotsOf 0 args, o⟩
def isNil0 : Objs → Bool
 | [] => true
 | _ => false
def evF (E : Env) (u : Nat) (f : FuncId) (args : List A) (nx : Nat) (o : Objs) : Option CRes := match E.P.funcs[f]? with
 | some fn => match fn.body with
  | some c => bif Nat.ble args.length fn.ntmps then finR E fn (bif isNil0 o then 1 else 2) (wrC c) (initS fn.ntmps args nx o) (evC E u c (initS fn.ntmps args nx o)) else none
  | none => none
 | none => none
theorem look_slots {u : Nat} {x : A} : ∀ {l : List A} {k : Nat}, look u (slotsOf k l) = some x → ∃ i, u = k + i ∧ l[i]? = some x
 | [], _, h => by cases h
 | y :: r, k, h => by
  have h' : (bif Nat.beq k u then some y else look u (slotsOf (k + 1) r)) = some x := h
  cases hb : Nat.beq k u with
  | true =>
   rw [hb] at h'
   exact ⟨0, (Nat.eq_of_beq_eq_true hb).symm, h'⟩
  | false =>
   rw [hb] at h'
   obtain ⟨i, h1, h2⟩ := look_slots h'
   exact ⟨i + 1, by omega, h2⟩
theorem init_rel {n nx : Nat} {args : List A} {o : Objs} {vs : List Value} {F : Nat → Prop} {N : Nm} {R : World} (hl : args.length ≤ n) (hh : HRel F N nx o R) (ha : HL F N nx R args vs) :
  Rel ⟨F, N, nx, o, R, tmOf { tmps := vs.toArray ++ Array.replicate (n - vs.toArray.size) undef, defers := [] }, fun _ => True⟩ F N (initS n args nx o) { tmps := vs.toArray ++ Array.replicate (n - vs.toArray.size) undef, defers := [] } R := by
 have hlen := ha.length
 refine ⟨rfl, ?_, fun u x hu => ?_, hh, .refl, fun _ _ => rfl⟩
 ·show (vs.toArray ++ Array.replicate (n - vs.toArray.size) undef).size = n
  simp
  omega
 ·obtain ⟨i, h1, h2⟩ := look_slots hu
  obtain rfl : u = i := by omega
  obtain ⟨v, h3, h4⟩ := ha.get h2
  have hu' : u < vs.length := (List.getElem?_eq_some_iff.1 h3).1
  have : tmOf { tmps := vs.toArray ++ Array.replicate (n - vs.toArray.size) undef, defers := [] } u = v := by
   unfold tmOf
   simp only [Array.getD_eq_getD_getElem?]
   rw [Array.getElem?_append_left (by simpa using hu'), List.getElem?_toArray, h3]
   rfl
  rw [this]
  exact (HS_plain h4.isPlain).2 h4
section
variable {E : Env}
theorem endS_ok {Z : Base} {F : Nat → Prop} {N : Nm} {a0 : Act} {R0 : World} {W : List Nat} {s0 : St} (h0 : Rel Z F N s0 a0 R0) {r : Res} (hw : Wf s0 r) {s : St} (he : endS W s0 r = some s) {e : Exit} {x : St} {a : Act} {R : World} (ho : Oc r e x) (hx : At (midB F N s0 a0 R0 W) a R x) :
  (e = .ret ∨ e = .normal) ∧ At (midB F N s0 a0 R0 W) a R s ∧ Sub s0 s := by
 unfold endS at he
 cases hr : onlyRet r.outs with
 | false => rw [hr] at he; cases he
 | true =>
  rw [hr] at he
  simp only [cond_true] at he
  split at he <;> first | (cases he; done) | skip
  ·rename_i c s' hg hn
   cases he
   rcases ho with ⟨t, c', rfl, h1, h2, h3⟩ | ⟨rfl, h1, h2⟩
   ·cases t with
    | none => rw [hg] at h1; cases h1; exact ⟨.inl rfl, hx, hw.outs _ _ _ hg⟩
    | some i => rw [onlyRet_ok hr] at h1; cases h1
   ·rw [hn] at h1; cases h1
  ·rename_i hg hn
   cases he
   rcases ho with ⟨t, c', rfl, h1, h2, h3⟩ | ⟨rfl, h1, h2⟩
   ·cases t with
    | none => rw [hg] at h1; cases h1
    | some i => rw [onlyRet_ok hr] at h1; cases h1
   ·rw [hn] at h1; cases h1; exact ⟨.inr rfl, hx, hw.nrm _ hn⟩
  ·rename_i c s1 s2 hg hn
   cases he
   rcases ho with ⟨t, c', rfl, h1, h2, h3⟩ | ⟨rfl, h1, h2⟩
   ·cases t with
    | none =>
     rw [hg] at h1; cases h1
     exact ⟨.inl rfl, lift_m (g := cval c) h0 (hw.outs _ _ _ hg) (hw.nrm _ hn) (by rw [h2]; rfl) _ _ hx, Sub.merge _ _ _ _ _⟩
    | some i => rw [onlyRet_ok hr] at h1; cases h1
   ·rw [hn] at h1
    cases h1
    exact ⟨.inr rfl, lift_m (g := cval c) h0 (hw.outs _ _ _ hg) (hw.nrm _ hn) (by rw [h2 _ _ _ hg]; rfl) _ _ hx, Sub.merge _ _ _ _ _⟩
theorem evF_ok (ok : CodeOk E) {u : Nat} {f : FuncId} {args : List A} {nx : Nat} {o : Objs} {k nx' : Nat} {x : A} {o' : Objs} {ps : List Prop} (he : evF E u f args nx o = some (k, x, nx', o', ps)) (hp : ∀ p ∈ ps, p) :
  CallOk E.P f args nx o k x nx' o' := by
 unfold evF at he
 split at he <;> first | (cases he; done) | skip
 rename_i fn hf
 split at he <;> first | (cases he; done) | skip
 rename_i c hc
 cases hl : Nat.ble args.length fn.ntmps with
 | false => rw [hl] at he; cases he
 | true =>
  rw [hl] at he
  simp only [cond_true] at he
  have hle := Nat.le_of_ble_eq_true hl
  generalize hk0 : (bif isNil0 o then 1 else 2) = k0 at he
  generalize hr : evC E u c (initS fn.ntmps args nx o) = r at he
  unfold finR at he
  split at he <;> first | (cases he; done) | skip
  rename_i s hs
  split at he <;> first | (cases he; done) | skip
  rename_i l qs hres
  generalize mkRen (refsA (initS fn.ntmps args nx o).nx s.o 6 (tupA l) ++ refsO (initS fn.ntmps args nx o).nx s.o (newK s.o (initS fn.ntmps args nx o).o.length)) (initS fn.ntmps args nx o).nx [] = L at he
  unfold fin2 at he
  cases hok : okRen (initS fn.ntmps args nx o).nx ((initS fn.ntmps args nx o).nx + L.length) L with
  | false => rw [hok] at he; cases he
  | true =>
   rw [hok] at he
   cases he
   intro F N R vs hh ha
   ·have h0 := init_rel hle hh ha
    have hlen := ha.length
    refine calls_of_wp hf hc ?_
    have hwf := wf_code ok (u := u) 0 c false (initS fn.ntmps args nx o)
    have hr' : evH E u 0 c false (initS fn.ntmps args nx o) = r := hr
    rw [hr'] at hwf
    have key := code_ok ok (u := u) 0 c false (midB F N (initS fn.ntmps args nx o) { tmps := vs.toArray ++ Array.replicate (fn.ntmps - vs.toArray.size) undef, defers := [] } R (wrC c)) (initS fn.ntmps args nx o) { tmps := vs.toArray ++ Array.replicate (fn.ntmps - vs.toArray.size) undef, defers := [] } R
     (bodyPost E.P fn fun e R' => ∃ y F' N', e = .returned y ∧ HRel F' N' (nx + L.length) (pkObjs nx L s.o o) R' ∧ Step F N nx o R F' N' (nx + L.length) (pkObjs nx L s.o o) R' ∧ Hv F' N' (nx + L.length) R' ((tupA l).pk (rho2 nx L)) y ∧ (k ≤ 1 → Below R.heap.size R R')) ⟨F, N, h0.start _⟩ (fun u hu => hu) (by rw [hr']; exact fun p hm => hp p (List.mem_append.2 (.inl hm)))
    refine key fun e z a' R' ho hz => ?_
    rw [hr'] at ho
    obtain ⟨h1, ⟨F', N', h2⟩, h3⟩ := endS_ok h0 hwf hs ho hz
    obtain ⟨y, g1, g2⟩ := results_ok h2 hres fun p hm => hp p (List.mem_append.2 (.inr hm))
    obtain ⟨d, hd⟩ := h3.seq
    have hd' : s.o = d ++ o := hd
    obtain ⟨q1, q2⟩ := pkObjs_ok (nb := nx) (nx' := nx + L.length) (L := L) h2.hp hok (Nat.le_add_right _ _) hd' hh
    have hst : Step F N nx o R F' N' s.nx s.o R' := h2.st
    have small : ∀ k, k < nx → inv2 nx L k = k := fun k hk => by unfold inv2; rw [show Nat.blt k nx = true from Nat.ble_eq_true_of_le hk]; rfl
    have hst2 : Step F N nx o R F' (nm2 N' nx L) (nx + L.length) (pkObjs nx L s.o o) R' := ⟨Nat.le_add_right _ _, fun i hi => by show N'.b (inv2 nx L i) = _; rw [small i hi]; exact hst.b i hi, fun i hi => by show N'.q (inv2 nx L i) = _; rw [small i hi]; exact hst.q i hi, hst.f, hst.fnew, fun g hg => hst.foot g (q2 g hg), hst.os, hst.tape, hst.output, hst.size, hst.keep⟩
    have post : a'.defers = [] ∧ ∃ v, (results fn a'.tmps).run E.P R' = .ok v R' ∧ ∃ y F' N', Ending.returned v = .returned y ∧ HRel F' N' (nx + L.length) (pkObjs nx L s.o o) R' ∧ Step F N nx o R F' N' (nx + L.length) (pkObjs nx L s.o o) R' ∧ Hv F' N' (nx + L.length) R' ((tupA l).pk (rho2 nx L)) y ∧ (k ≤ 1 → Below R.heap.size R R') := by
     refine ⟨h2.defers, y, g2, y, F', nm2 N' nx L, rfl, q1, hst2, g1.pk (pk2 hok (Nat.le_add_right _ _)), fun hk => ?_⟩
     cases o with
     | nil => exact hst.below
     | cons p r => rw [← hk0] at hk; cases hk with | step hk => cases hk
    rcases h1 with rfl | rfl
    ·exact post
    ·exact post
theorem evF_suf {u : Nat} {f : FuncId} {args : List A} {nx : Nat} {o : Objs} {k nx' : Nat} {x : A} {o' : Objs} {ps : List Prop} (he : evF E u f args nx o = some (k, x, nx', o', ps)) : ∃ d, o' = d ++ o := by
 unfold evF at he
 split at he <;> first | (cases he; done) | skip
 split at he <;> first | (cases he; done) | skip
 rename_i c hc
 replace he := bif_some he
 unfold finR at he
 split at he <;> first | (cases he; done) | skip
 rename_i s hs
 split at he <;> first | (cases he; done) | skip
 unfold fin2 at he
 replace he := bif_some he
 cases he
 exact ⟨_, by unfold pkObjs; rw [← List.append_assoc]; rfl⟩
end
def TOk (P : Program) (f : FuncId) (g : List A → Nat → Objs → Option CRes) : Prop :=
 ∀ args nx o k x nx' o' ps, g args nx o = some (k, x, nx', o', ps) → ((∀ p ∈ ps, p) → CallOk P f args nx o k x nx' o') ∧ ∃ d, o' = d ++ o
def COk (P : Program) (C : Tab) : Prop := ∀ f args nx o k x nx' o' ps, C f args nx o = some (k, x, nx', o', ps) → ((∀ p ∈ ps, p) → CallOk P f args nx o k x nx' o') ∧ ∃ d, o' = d ++ o
def EqOk (P : Program) (eq : TypeId → List Value → List Value → Option Bool) : Prop :=
 ∀ t xs ys b, eq t xs ys = some b → P.eqGuardType P.depth t = false ∧ ∀ R, (Op.equalIn 10000 t (.agg xs.toArray) (.agg ys.toArray)).run P R = .ok b R
def TcOk (P : Program) (tc : TypeId → Option TC) : Prop :=
 ∀ t c, tc t = some c → ∃ i, P.info? t = some i ∧ i.size = size c ∧ 0 < size c ∧ ∃ z, i.zero = some z ∧ ∀ (F : Nat → Prop) (N : Nm) (nx : Nat) (R : World), HL F N nx R (enc c (dflt c)) z.cells.toList
abbrev LTab := Nat → St → Option (Code × List Prop × Outs)
def C0 : Tab := fun _ _ _ _ => none
theorem C0_ok {P : Program} : COk P C0 := fun _ _ _ _ _ _ _ _ _ h => by cases h
def L0 : LTab := fun _ _ => none
def addC (f0 : FuncId) (g : List A → Nat → Objs → Option CRes) (C : Tab) : Tab := fun f args nx o => bif Nat.beq f f0 then g args nx o else C f args nx o
theorem addC_ok {P : Program} {f0 : FuncId} {g : List A → Nat → Objs → Option CRes} {C : Tab} (hg : TOk P f0 g) (hC : COk P C) : COk P (addC f0 g C) := fun f args nx o k x nx' o' ps h => by
 unfold addC at h
 cases hb : Nat.beq f f0 with
 | true =>
  rw [hb] at h
  rw [Nat.eq_of_beq_eq_true hb]
  exact hg args nx o k x nx' o' ps h
 | false => rw [hb] at h; exact hC f args nx o k x nx' o' ps h
theorem needs_nil : ∀ p ∈ ([] : List Prop), p := fun _ h => by cases h
theorem needs_cons {p : Prop} {ps : List Prop} (h : p) (t : ∀ q ∈ ps, q) : ∀ q ∈ p :: ps, q := fun q hq => by
 rcases List.mem_cons.1 hq with rfl | hq
 ·exact h
 ·exact t q hq
mutual
def A.free : A → Bool
 | .v _ => true
 | .sl _ _ => true
 | .nl => true
 | .agg xs => freeL xs
 | .tup xs => freeL xs
 | .fn _ xs ys => freeL xs && freeL ys
 | .ref xs => freeL xs
 | _ => false
def freeL : List A → Bool
 | [] => true
 | x :: r => x.free && freeL r
end
theorem freeL_get : ∀ {l : List A} {j : Nat} {x : A}, freeL l = true → l[j]? = some x → x.free = true
 | [], j, x, _, h => by cases j <;> cases h
 | y :: r, 0, x, hf, h => by cases h; unfold freeL at hf; rw [Bool.and_eq_true] at hf; exact hf.1
 | y :: r, j + 1, x, hf, h => by unfold freeL at hf; rw [Bool.and_eq_true] at hf; exact freeL_get (l := r) hf.2 h
theorem enc_free (c : TC) (d : U c) : ∀ x ∈ enc c d, x.free = true := fun x hx => by
 have := enc_plain c d x hx
 cases x <;> first | (unfold A.free; rfl) | exact this.elim
section
variable {F : Nat → Prop} {N N' : Nm} {nx nx' : Nat} {R : World}
theorem Hv.free {x : A} {y : Value} (h : Hv F N nx R x y) : x.free = true → Hv F N' nx' R x y := by
 induction h with
 | v x => intro _; exact .v x
 | @sl c l a cap ad h1 h2 h3 h4 ih => intro _; exact .sl ad h1 h2 h3 fun i d j x y hd hx hy => ih i d j x y hd hx hy (enc_free c d x (List.mem_of_getElem? hx))
 | @ref l ad h1 h2 h3 ih => intro hf; unfold A.free at hf; exact .ref ad h1 h2 fun j x y hx hy => ih j x y hx hy (freeL_get hf hx)
 | own h => intro hf; unfold A.free at hf; cases hf
 | ownx h => intro hf; unfold A.free at hf; cases hf
 | sq h => intro hf; unfold A.free at hf; cases hf
 | vw h => intro hf; unfold A.free at hf; cases hf
 | el h => intro hf; unfold A.free at hf; cases hf
 | mp h => intro hf; unfold A.free at hf; cases hf
 | nl a => intro _; exact .nl a
 | it q vs y h => intro hf; unfold A.free at hf; cases hf
 | fn vs us h1 _ h3 _ ih2 ih4 => intro hf; unfold A.free at hf; rw [Bool.and_eq_true] at hf; exact .fn vs us h1 (fun j x v hx hv => ih2 j x v hx hv (freeL_get hf.1 hx)) h3 fun j x v hx hv => ih4 j x v hx hv (freeL_get hf.2 hx)
 | agg vs h1 _ ih => intro hf; unfold A.free at hf; exact .agg vs h1 fun j x v hx hv => ih j x v hx hv (freeL_get hf hx)
 | tup vs h1 _ ih => intro hf; unfold A.free at hf; exact .tup vs h1 fun j x v hx hv => ih j x v hx hv (freeL_get hf hx)
 | dead y => intro hf; unfold A.free at hf; cases hf
theorem HL.free : ∀ {xs : List A} {vs : List Value}, freeL xs = true → HL F N nx R xs vs → HL F N' nx' R xs vs
 | [], _, _, h => h
 | x :: r, _, hf, ⟨v, vs, h1, h2, h3⟩ => by unfold freeL at hf; rw [Bool.and_eq_true] at hf; exact ⟨v, vs, h1, h2.free hf.1, HL.free hf.2 h3⟩
theorem HRel.none {o : Objs} (h : HRel F N nx o R) : HRel F N' nx' [] R := ⟨h.flt, (fun i ob hi => by cases hi), (fun i ob g hi => by cases hi), fun i j x y g hi => by cases hi⟩
end
theorem callOk_frame {P : Program} {f : FuncId} {args : List A} {nx k nx' : Nat} {x : A} {o o' : Objs} (h : CallOk P f args nx [] k x nx' o') (hk : k ≤ 1) : CallOk P f args nx o 1 x nx' (o' ++ o) := fun F N R vs hh ha => by
 refine (h F N R vs (hh.none) ha).mono fun e R' ⟨y, F', N', e1, e2, e3, e4, e5⟩ => ?_
 obtain ⟨g1, g2⟩ := hh.frame (o1 := []) (o' := o' ++ o) (fun i ob hi => by cases hi) e3 e2 fun i ob hi => by
  rcases lookO_split hi with ⟨_, h1⟩ | ⟨_, h1⟩
  ·exact .inl h1
  ·exact .inr ⟨h1, rfl⟩
 exact ⟨y, F', N', e1, g1, g2, e4, fun _ => e5 hk⟩
def shiftR (nx : Nat) : Nat → Option Nat := fun i => some (nx + i)
def shiftO (nx : Nat) : Objs → Objs
 | [] => []
 | (k, some ob) :: r => (nx + k, some (ob.pk (shiftR nx))) :: shiftO nx r
 | (k, none) :: r => (nx + k, none) :: shiftO nx r
theorem lookO_shift {nx j : Nat} {ob' : Ob} : ∀ {o : Objs}, lookO j (shiftO nx o) = some ob' → ∃ i ob, j = nx + i ∧ lookO i o = some ob ∧ ob' = ob.pk (shiftR nx)
 | [], h => by cases h
 | (k, x) :: r, h => by
  have step : ∀ z, (bif Nat.beq (nx + k) j then z else lookO j (shiftO nx r)) = some ob' → (∀ ob, x = some ob → z = some (ob.pk (shiftR nx))) → (x = none → z = none) → ∃ i ob, j = nx + i ∧ (bif Nat.beq k i then x else lookO i r) = some ob ∧ ob' = ob.pk (shiftR nx) := fun z hz h1 h2 => by
   cases hb : Nat.beq (nx + k) j with
   | true =>
    rw [hb] at hz
    obtain rfl := Nat.eq_of_beq_eq_true hb
    cases x with
    | none => rw [h2 rfl] at hz; cases hz
    | some ob =>
     rw [h1 ob rfl] at hz
     cases hz
     exact ⟨k, ob, rfl, by rw [beq_self]; rfl, rfl⟩
   | false =>
    rw [hb] at hz
    obtain ⟨i, ob, rfl, h3, h4⟩ := lookO_shift hz
    refine ⟨i, ob, rfl, ?_, h4⟩
    rw [beq_ne fun e => by subst e; simp at hb]
    exact h3
  cases x with
  | some ob => exact step _ h (fun ob' e => by cases e; rfl) (fun e => by cases e)
  | none => exact step _ h (fun ob' e => by cases e) (fun _ => rfl)
theorem callOk_shift {P : Program} {f : FuncId} {args : List A} {k m : Nat} {x : A} {os : Objs} (h : CallOk P f args 0 [] k x m os) (hk : k ≤ 1) (hf : freeL args = true) (nx : Nat) (o : Objs) : CallOk P f args nx o 1 (x.pk (shiftR nx)) (nx + m) (shiftO nx os ++ o) := by
 refine callOk_frame (k := 1) (fun F N R vs hh ha => ?_) (Nat.le_refl _)
 refine (h F N R vs hh.none (ha.free hf)).mono fun e R' ⟨y, F', N', e1, e2, e3, e4, e5⟩ => ?_
 let N2 : Nm := ⟨fun i => bif Nat.blt i nx then N.b i else N'.b (i - nx), fun i => bif Nat.blt i nx then N.q i else N'.q (i - nx)⟩
 have hbt : ∀ i, Nat.blt (nx + i) nx = false := fun i => by
  cases hb : Nat.blt (nx + i) nx with
  | false => rfl
  | true => exact absurd (Nat.le_of_ble_eq_true hb) (by omega)
 have st : Pk (shiftR nx) N' m N2 (nx + m) := fun i j hi hj => by
  cases hj
  refine ⟨by omega, ?_, ?_⟩
  ·show (bif Nat.blt (nx + i) nx then N.b (nx + i) else N'.b (nx + i - nx)) = _
   rw [hbt, Nat.add_sub_cancel_left]; rfl
  ·show (bif Nat.blt (nx + i) nx then N.q (nx + i) else N'.q (nx + i - nx)) = _
   rw [hbt, Nat.add_sub_cancel_left]; rfl
 obtain ⟨g1, g2⟩ := e2.pk (o' := shiftO nx os) st fun j ob' hj => by
  obtain ⟨i, ob, rfl, h3, h4⟩ := lookO_shift hj
  exact ⟨i, ob, rfl, h3, h4⟩
 have hlt : ∀ i, i < nx → Nat.blt i nx = true := fun i hi => Nat.ble_eq_true_of_le hi
 refine ⟨y, F', N2, e1, g1, ⟨Nat.le_add_right _ _, fun i hi => by show (bif Nat.blt i nx then N.b i else _) = _; rw [hlt i hi]; rfl, fun i hi => by show (bif Nat.blt i nx then N.q i else _) = _; rw [hlt i hi]; rfl, e3.f, fun g hg => ?_, fun g hg => ?_, e3.os, e3.tape, e3.output, e3.size, fun g hg hn => e3.keep g hg fun ⟨i, ob, hi, _⟩ => by cases hi⟩, e4.pk st, fun _ => e5 hk⟩
 ·rcases e3.fnew g hg with h1 | ⟨i, ob, hi, _⟩ | h1
  ·exact .inl h1
  ·cases hi
  ·exact .inr (.inr h1)
 ·rcases e3.foot g (g2 g hg) with ⟨i, ob, hi, _⟩ | h1
  ·cases hi
  ·exact .inr h1
def inl (E : Env) (u : Nat) (f : FuncId) : List A → Nat → Objs → Option CRes := fun args nx o =>
 bif freeL args then (match evF E u f args nx [] with
  | some (k, x, nx', o', ps) => bif Nat.ble k 1 then some (1, x, nx', o' ++ o, ps) else none
  | none => none) else evF E u f args nx o
theorem inl_ok {E : Env} (ok : CodeOk E) (u : Nat) (f : FuncId) : TOk E.P f (inl E u f) := fun args nx o k x nx' o' ps h => by
 unfold inl at h
 cases hf : freeL args with
 | true =>
  rw [hf] at h
  simp only [cond_true] at h
  split at h <;> first | (cases h; done) | skip
  rename_i k1 x1 nx1 o1 ps1 he
  cases hk : Nat.ble k1 1 with
  | false => rw [hk] at h; cases h
  | true =>
   rw [hk] at h
   cases h
   exact ⟨fun hp => callOk_frame (evF_ok ok he hp) (Nat.le_of_ble_eq_true hk), _, rfl⟩
 | false =>
  rw [hf] at h
  exact ⟨fun hp => evF_ok ok h hp, evF_suf h⟩
end Go.Proofs.Yteebobbhhgmeiaa
namespace Go.Proofs.Yteebobbhhgmeiaa
open Go.RowKit
inductive Dir where
 | frz (i : Nat)
 | nil (u : Nat) (t : TypeId) (c : TC)
 | nilB (b j : Nat) (t : TypeId) (c : TC)
 | ty (i : Nat) (c : TC)
 | nilF (u : Nat) (c : TC)
 | nilFB (b j : Nat) (c : TC)
def isNilA : A → Bool
 | .v x => isNilV x
 | .nl => true
 | _ => false
def isNilA1 : A → Bool
 | .v x => isNilV x
 | _ => false
def adj1 (E : Env) (s : St) : Dir → Option (St × List Prop)
 | .frz i => freezeS E i s
 | .nil u t c => match look u s.t with
  | some x => bif isNilA1 x then some (⟨s.n, s.nx + 1, (u, .sq s.nx) :: s.t, (s.nx, some (.arr t (size c) (.ty c []))) :: s.o⟩, []) else none
  | none => none
 | .nilB b j t c => match lookO b s.o with
  | some (.box e cs) => match cs[j]? with
   | some x => bif isNilA1 x then (bif Nat.blt b s.nx then some (⟨s.n, s.nx + 1, s.t, (b, some (.box e (cs.set j (.sq s.nx)))) :: (s.nx, some (.arr t (size c) (.ty c []))) :: s.o⟩, []) else none) else none
   | none => none
  | _ => none
 | .nilF u c => match look u s.t with
  | some x => bif isNilA x then some (⟨s.n, s.nx, (u, .sl c []) :: s.t, s.o⟩, []) else none
  | none => none
 | .nilFB b j c => match lookO b s.o with
  | some (.box e cs) => match cs[j]? with
   | some x => bif isNilA x then some (⟨s.n, s.nx, s.t, (b, some (.box e (cs.set j (.sl c [])))) :: s.o⟩, []) else none
   | none => none
  | _ => none
 | .ty i c => match lookO i s.o with
  | some (.arr e sz els) => match elsTy c els with
   | some (l, ps) => some (⟨s.n, s.nx, s.t, (i, some (.arr e sz (.ty c l))) :: s.o⟩, ps)
   | none => none
  | _ => none
def adj (E : Env) : List Dir → St → Option (St × List Prop)
 | [], s => some (s, [])
 | d :: r, s => match adj1 E s d with
  | some (s', ps) => match adj E r s' with
   | some (s'', qs) => some (s'', ps ++ qs)
   | none => none
  | none => none
section
variable {E : Env} {Z : Base} {F : Nat → Prop} {N : Nm} {s : St} {a : Act} {R : World}
theorem Rel.word (h : Rel Z F N s a R) {u : Nat} {x : A} (hx : Hv F N s.nx R x (tmOf a u)) : Rel Z F N ⟨s.n, s.nx, (u, x) :: s.t, s.o⟩ a R :=
 ⟨h.defers, h.size, fun v z hv => by
  have hv' : (bif Nat.beq u v then some x else look v s.t) = some z := hv
  cases hb : Nat.beq u v with
  | true =>
   rw [hb] at hv'
   obtain rfl := Nat.eq_of_beq_eq_true hb
   cases hv'
   exact (HS_plain hx.isPlain).2 hx
  | false => rw [hb] at hv'; exact h.slots v z hv', h.hp, h.st, h.tm⟩
theorem isNilA_plain {x : A} (h : isNilA x = true) : x.plain = true := by cases x <;> first | rfl | cases h
theorem isNilA_ok {x : A} {y : Value} {nx : Nat} (h : isNilA x = true) (hx : Hv F N nx R x y) : ∃ b, y = .slice b 0 0 := by
 cases x <;> first | (cases h; done) | skip
 ·rw [hx.v_inv, isNilV_ok h]; exact ⟨none, rfl⟩
 ·exact hx.nl_inv
theorem isNilA1_ok {x : A} {y : Value} {nx : Nat} (h : isNilA1 x = true) (hx : Hv F N nx R x y) : y = .slice none 0 0 := by
 cases x <;> first | (cases h; done) | skip
 rw [hx.v_inv, isNilV_ok h]
theorem isNilA1_plain {x : A} (h : isNilA1 x = true) : x.plain = true := by cases x <;> first | rfl | cases h
theorem HL.set {nx : Nat} {xs : List A} {vs : List Value} {j : Nat} {y : A} (h : HL F N nx R xs vs) (hy : ∀ v, vs[j]? = some v → Hv F N nx R y v) : HL F N nx R (xs.set j y) vs := by
 refine HL.of (by rw [List.length_set]; exact h.length) fun i x v hx hv => ?_
 by_cases hij : j = i
 ·subst hij
  have hlt : j < xs.length := by have := (List.getElem?_eq_some_iff.1 hx).1; rwa [List.length_set] at this
  rw [List.getElem?_set_self hlt] at hx
  cases hx
  exact hy v hv
 ·rw [List.getElem?_set_ne hij] at hx
  obtain ⟨w, h1, h2⟩ := h.get hx
  rw [hv] at h1
  cases h1
  exact h2
theorem adj1_ok (h : At Z a R s) {d : Dir} {s' : St} {ps : List Prop} (he : adj1 E s d = some (s', ps)) (hp : ∀ p ∈ ps, p) : At Z a R s' := by
 obtain ⟨F, N, h⟩ := h
 cases d with
 | frz i =>
  obtain ⟨F', h'⟩ := freeze_ok h he hp
  exact ⟨F', N, h'⟩
 | nil u t c =>
  unfold adj1 at he
  simp only at he
  split at he <;> first | (cases he; done) | skip
  rename_i x hx
  cases hn : isNilA1 x with
  | false => rw [hn] at he; cases he
  | true =>
   rw [hn] at he
   cases he
   have hv := isNilA1_ok hn ((HS_plain (isNilA1_plain hn)).1 (h.slots u x hx))
   obtain ⟨q1, q2⟩ := h.hp.nilRow t (size c) (els := .ty c []) rfl (Nat.le_refl _)
   have h2 := h.heap q2 q1
   refine ⟨_, _, h2.word (u := u) ?_⟩
   rw [hv]
   have := Hv.sq (F := F) (N := N.setQ s.nx (.slice none 0 0)) (nx := s.nx + 1) (R := R) (Nat.lt_succ_self s.nx)
   have e : (N.setQ s.nx (.slice none 0 0)).q s.nx = .slice none 0 0 := setF_same N.q s.nx _
   rw [e] at this
   exact this
 | nilB b j t c =>
  unfold adj1 at he
  simp only at he
  split at he <;> first | (cases he; done) | skip
  rename_i e cs hl
  split at he <;> first | (cases he; done) | skip
  rename_i x hx
  cases hn : isNilA1 x with
  | false => rw [hn] at he; cases he
  | true =>
   rw [hn] at he
   cases hb : Nat.blt b s.nx with
   | false => rw [hb] at he; cases he
   | true =>
    rw [hb] at he
    cases he
    have hbn : b < s.nx := Nat.le_of_ble_eq_true hb
    obtain ⟨q1, q2⟩ := h.hp.nilRow t (size c) (els := .ty c []) rfl (Nat.le_refl _)
    have e0 : (N.setQ s.nx (.slice none 0 0)).q s.nx = .slice none 0 0 := setF_same N.q s.nx _
    obtain ⟨r1, r2⟩ := q1.less (o' := (b, some (.box e (cs.set j (.sq s.nx)))) :: (s.nx, some (.arr t (size c) (.ty c []))) :: s.o) fun i ob hi => by
     rw [lookO_cons] at hi
     by_cases hib : i = b
     ·rw [if_pos hib] at hi
      cases hi
      subst hib
      refine ⟨.box e cs, by rw [lookO_cons, if_neg (by omega)]; exact hl, fun ⟨vs, k1, k2⟩ => ⟨vs, k1.set fun v hv => ?_, k2⟩, fun g => Iff.rfl⟩
      obtain ⟨w, k3, k4⟩ := k1.get hx
      rw [hv] at k3
      cases k3
      rw [isNilA1_ok hn k4]
      have := Hv.sq (F := F) (N := N.setQ s.nx (.slice none 0 0)) (nx := s.nx + 1) (R := R) (Nat.lt_succ_self s.nx)
      rw [e0] at this
      exact this
     ·rw [if_neg hib] at hi
      exact ⟨ob, hi, id, fun g => Iff.rfl⟩
    exact ⟨_, _, h.heap (q2.trans r2) r1⟩
 | nilF u c =>
  unfold adj1 at he
  simp only at he
  split at he <;> first | (cases he; done) | skip
  rename_i x hx
  cases hn : isNilA x with
  | false => rw [hn] at he; cases he
  | true =>
   rw [hn] at he
   cases he
   obtain ⟨b, hv⟩ := isNilA_ok hn ((HS_plain (isNilA_plain hn)).1 (h.slots u x hx))
   exact ⟨_, _, h.word (u := u) (Hv.sl_nil hv)⟩
 | nilFB b j c =>
  unfold adj1 at he
  simp only at he
  split at he <;> first | (cases he; done) | skip
  rename_i e cs hl
  split at he <;> first | (cases he; done) | skip
  rename_i x hx
  cases hn : isNilA x with
  | false => rw [hn] at he; cases he
  | true =>
   rw [hn] at he
   cases he
   obtain ⟨r1, r2⟩ := h.hp.less (o' := (b, some (.box e (cs.set j (.sl c [])))) :: s.o) fun i ob hi => by
    rw [lookO_cons] at hi
    by_cases hib : i = b
    ·rw [if_pos hib] at hi
     cases hi
     subst hib
     refine ⟨.box e cs, hl, fun ⟨vs, k1, k2⟩ => ⟨vs, k1.set fun v hv => ?_, k2⟩, fun g => Iff.rfl⟩
     obtain ⟨w, k3, k4⟩ := k1.get hx
     rw [hv] at k3
     cases k3
     obtain ⟨b, hb⟩ := isNilA_ok hn k4
     exact Hv.sl_nil hb
    ·rw [if_neg hib] at hi
     exact ⟨ob, hi, id, fun g => Iff.rfl⟩
   exact ⟨_, _, h.heap r2 r1⟩
 | ty i c =>
  unfold adj1 at he
  simp only at he
  split at he <;> first | (cases he; done) | skip
  rename_i e sz els hl
  split at he <;> first | (cases he; done) | skip
  rename_i l qs hty
  cases he
  obtain ⟨r1, r2⟩ := h.hp.less (o' := (i, some (.arr e sz (.ty c l))) :: s.o) fun k ob hi => by
   rw [lookO_cons] at hi
   by_cases hib : k = i
   ·rw [if_pos hib] at hi
    cases hi
    subst hib
    refine ⟨.arr e sz els, hl, fun ⟨zs, k1, k2⟩ => ?_, fun g => Iff.rfl⟩
    obtain ⟨e1, _⟩ := elsTy_ok (F := F) (N := N) (nx := s.nx) (R := R) hty hp
    have hr := RowHL.ty (els := els) ⟨k1.1, k2⟩ hty hp
    have hn : (Els.ty c l).n = els.n := e1
    exact ⟨zs, by rw [hn]; exact k1, hr.2⟩
   ·rw [if_neg hib] at hi
    exact ⟨ob, hi, id, fun g => Iff.rfl⟩
  exact ⟨_, _, h.heap r2 r1⟩
theorem adj_ok : ∀ {D : List Dir} {s s' : St} {ps : List Prop}, At Z a R s → adj E D s = some (s', ps) → (∀ p ∈ ps, p) → At Z a R s'
 | [], s, s', ps, h, he, _ => by cases he; exact h
 | d :: r, s, s', ps, h, he, hp => by
  unfold adj at he
  split at he <;> first | (cases he; done) | skip
  rename_i s1 ps1 h1
  split at he <;> first | (cases he; done) | skip
  rename_i s2 ps2 h2
  cases he
  exact adj_ok (adj1_ok h h1 fun p hm => hp p (List.mem_append.2 (.inl hm))) h2 fun p hm => hp p (List.mem_append.2 (.inr hm))
theorem adj_sub : ∀ {D : List Dir} {s s' : St} {ps : List Prop}, adj E D s = some (s', ps) → Sub s s'
 | [], s, s', ps, he => by cases he; exact Sub.refl _
 | d :: r, s, s', ps, he => by
  unfold adj at he
  split at he <;> first | (cases he; done) | skip
  rename_i s1 ps1 h1
  split at he <;> first | (cases he; done) | skip
  rename_i s2 ps2 h2
  cases he
  refine Sub.trans ?_ (adj_sub h2)
  cases d with
  | frz i => exact ⟨(freeze_sub h1).1, (freeze_sub h1).2⟩
  | nil u t c =>
   unfold adj1 at h1
   simp only at h1
   split at h1 <;> first | (cases h1; done) | skip
   replace h1 := bif_some h1
   cases h1
   exact ⟨rfl, [_], rfl⟩
  | nilB b j t c =>
   unfold adj1 at h1
   simp only at h1
   split at h1 <;> first | (cases h1; done) | skip
   split at h1 <;> first | (cases h1; done) | skip
   replace h1 := bif_some (bif_some h1)
   cases h1
   exact ⟨rfl, [_, _], rfl⟩
  | nilF u c =>
   unfold adj1 at h1
   simp only at h1
   split at h1 <;> first | (cases h1; done) | skip
   replace h1 := bif_some h1
   cases h1
   exact ⟨rfl, [], rfl⟩
  | nilFB b j c =>
   unfold adj1 at h1
   simp only at h1
   split at h1 <;> first | (cases h1; done) | skip
   split at h1 <;> first | (cases h1; done) | skip
   replace h1 := bif_some h1
   cases h1
   exact ⟨rfl, [_], rfl⟩
  | ty i c =>
   unfold adj1 at h1
   simp only at h1
   split at h1 <;> first | (cases h1; done) | skip
   split at h1 <;> first | (cases h1; done) | skip
   cases h1
   exact ⟨rfl, [_], rfl⟩
end
def okL (nb nx1 : Nat) : Ren2 → Bool
 | [] => true
 | (k, j) :: r => Nat.blt j nx1 && ((bif Nat.blt j nb then Nat.beq k j else true) && (isNone (fwd r k) && (isNone (bck r j) && okL nb nx1 r)))
theorem fwd_okL {nb nx1 : Nat} : ∀ {L : Ren2} {i j : Nat}, okL nb nx1 L = true → fwd L i = some j → bck L j = some i ∧ j < nx1 ∧ (j < nb → i = j)
 | [], i, j, _, h => by cases h
 | (k, m) :: r, i, j, h0, h => by
  unfold okL at h0
  simp only [Bool.and_eq_true] at h0
  obtain ⟨a1, a2, a3, a4, a5⟩ := h0
  unfold fwd at h
  cases hb : Nat.beq k i with
  | true =>
   rw [hb] at h
   cases h
   obtain rfl := Nat.eq_of_beq_eq_true hb
   refine ⟨?_, Nat.le_of_ble_eq_true a1, fun hlt => ?_⟩
   ·unfold bck
    rw [beq_self]
    rfl
   ·rw [show Nat.blt m nb = true from Nat.ble_eq_true_of_le hlt] at a2
    exact Nat.eq_of_beq_eq_true a2
  | false =>
   rw [hb] at h
   obtain ⟨h1, h2⟩ := fwd_okL a5 h
   refine ⟨?_, h2⟩
   unfold bck
   cases hm : Nat.beq m j with
   | true =>
    obtain rfl := Nat.eq_of_beq_eq_true hm
    rw [isNone_iff.1 a4] at h1
    cases h1
   | false => exact h1
def inv3 (nb : Nat) (L : Ren2) (j : Nat) : Nat := bif Nat.blt j nb then j else match bck L j with
 | some k => k
 | none => 0
def nm3 (N : Nm) (nb : Nat) (L : Ren2) : Nm := ⟨fun j => N.b (inv3 nb L j), fun j => N.q (inv3 nb L j)⟩
theorem inv3_fwd {nb nx1 : Nat} {L : Ren2} (h0 : okL nb nx1 L = true) {i j : Nat} (h : fwd L i = some j) : inv3 nb L j = i := by
 obtain ⟨h1, _, h3⟩ := fwd_okL h0 h
 unfold inv3
 cases hb : Nat.blt j nb with
 | true => exact (h3 (Nat.le_of_ble_eq_true hb)).symm
 | false => rw [h1]; rfl
theorem inv3_small {nb : Nat} {L : Ren2} {j : Nat} (h : j < nb) : inv3 nb L j = j := by
 unfold inv3
 rw [show Nat.blt j nb = true from Nat.ble_eq_true_of_le h]
 rfl
theorem pk3 {N : Nm} {nb n nx1 : Nat} {L : Ren2} (h0 : okL nb nx1 L = true) : Pk (fwd L) N n (nm3 N nb L) nx1 := fun i j _ hj => by
 have h1 := inv3_fwd h0 hj
 exact ⟨(fwd_okL h0 hj).2.1, by show N.b (inv3 nb L j) = _; rw [h1], by show N.q (inv3 nb L j) = _; rw [h1]⟩
def getD (u : Nat) (t : Slots) : A := match look u t with
 | some x => x
 | none => .dead
def pickT (L : Ren2) (t : Slots) : List Nat → Slots
 | [] => []
 | u :: r => (u, (getD u t).pk (fwd L)) :: pickT L t r
def pickO (L : Ren2) (o : Objs) : List Nat → Objs
 | [] => []
 | i :: r => match fwd L i with
  | some j => (j, match lookO i o with
   | some ob => some (ob.pk (fwd L))
   | none => none) :: pickO L o r
  | none => pickO L o r
def pickS (nx1 : Nat) (L : Ren2) (us os : List Nat) (s : St) : St := ⟨s.n, nx1, pickT L s.t us, pickO L s.o os⟩
section
variable {Z : Base} {F : Nat → Prop} {N N' : Nm} {nx nx' : Nat} {s : St} {a : Act} {R : World} {tm : Nat → Value} {ρ : Nat → Option Nat}
theorem HS.pk (st : Pk ρ N nx N' nx') : ∀ {x : A} {y : Value}, HS F N nx R tm x y → HS F N' nx' R tm (x.pk ρ) y
 | .opt u b x, y, h => by
  unfold A.pk
  simp only [HS] at h ⊢
  exact ⟨fun hb => HS.pk st (h.1 hb), h.2⟩
 | .v _, _, h => (HS_plain (by unfold A.pk; rfl)).2 (((HS_plain rfl).1 h).pk st)
 | .sl _ _, _, h => (HS_plain (by unfold A.pk; rfl)).2 (((HS_plain rfl).1 h).pk st)
 | .ref _, _, h => (HS_plain (by unfold A.pk; rfl)).2 (((HS_plain rfl).1 h).pk st)
 | .nl, _, h => (HS_plain (by unfold A.pk; rfl)).2 (((HS_plain rfl).1 h).pk st)
 | .it _ _, _, h => (HS_plain (by unfold A.pk; rfl)).2 (((HS_plain rfl).1 h).pk st)
 | .fn _ _ _, _, h => (HS_plain (by unfold A.pk; rfl)).2 (((HS_plain rfl).1 h).pk st)
 | .agg _, _, h => (HS_plain (by unfold A.pk; rfl)).2 (((HS_plain rfl).1 h).pk st)
 | .tup _, _, h => (HS_plain (by unfold A.pk; rfl)).2 (((HS_plain rfl).1 h).pk st)
 | .dead, _, h => (HS_plain (by unfold A.pk; rfl)).2 (((HS_plain rfl).1 h).pk st)
 | .own _ _, _, h => (HS_plain (((HS_plain rfl).1 h).pk st).isPlain).2 (((HS_plain rfl).1 h).pk st)
 | .ownx _ _ _ _, _, h => (HS_plain (((HS_plain rfl).1 h).pk st).isPlain).2 (((HS_plain rfl).1 h).pk st)
 | .sq _, _, h => (HS_plain (((HS_plain rfl).1 h).pk st).isPlain).2 (((HS_plain rfl).1 h).pk st)
 | .vw _ _ _ _ _, _, h => (HS_plain (((HS_plain rfl).1 h).pk st).isPlain).2 (((HS_plain rfl).1 h).pk st)
 | .el _ _ _ _, _, h => (HS_plain (((HS_plain rfl).1 h).pk st).isPlain).2 (((HS_plain rfl).1 h).pk st)
 | .mp _, _, h => (HS_plain (((HS_plain rfl).1 h).pk st).isPlain).2 (((HS_plain rfl).1 h).pk st)
theorem look_pickT {L : Ren2} {t : Slots} {u : Nat} {x : A} : ∀ {us : List Nat}, look u (pickT L t us) = some x → x = (getD u t).pk (fwd L)
 | [], h => by cases h
 | v :: r, h => by
  have h' : (bif Nat.beq v u then some ((getD v t).pk (fwd L)) else look u (pickT L t r)) = some x := h
  cases hb : Nat.beq v u with
  | true => rw [hb] at h'; obtain rfl := Nat.eq_of_beq_eq_true hb; cases h'; rfl
  | false => rw [hb] at h'; exact look_pickT h'
theorem lookO_pickO {L : Ren2} {o : Objs} {j : Nat} {ob' : Ob} : ∀ {os : List Nat}, lookO j (pickO L o os) = some ob' → ∃ i ob, i ∈ os ∧ fwd L i = some j ∧ lookO i o = some ob ∧ ob' = ob.pk (fwd L)
 | [], h => by cases h
 | i :: r, h => by
  unfold pickO at h
  cases hf : fwd L i with
  | none =>
   rw [hf] at h
   obtain ⟨i', ob, h1, h2⟩ := lookO_pickO h
   exact ⟨i', ob, List.mem_cons_of_mem _ h1, h2⟩
  | some m =>
   rw [hf] at h
   have h' : (bif Nat.beq m j then (match lookO i o with | some ob => some (ob.pk (fwd L)) | none => none) else lookO j (pickO L o r)) = some ob' := h
   cases hb : Nat.beq m j with
   | true =>
    rw [hb] at h'
    obtain rfl := Nat.eq_of_beq_eq_true hb
    simp only [cond_true] at h'
    split at h' <;> first | (cases h'; done) | skip
    rename_i ob hob
    cases h'
    exact ⟨i, ob, List.mem_cons_self .., hf, hob, rfl⟩
   | false =>
    rw [hb] at h'
    obtain ⟨i', ob, h1, h2⟩ := lookO_pickO h'
    exact ⟨i', ob, List.mem_cons_of_mem _ h1, h2⟩
theorem getD_ok (h : Rel Z F N s a R) (u : Nat) : HS F N s.nx R (tmOf a) (getD u s.t) (tmOf a u) := by
 unfold getD
 split
 ·rename_i x hx; exact h.slots u x hx
 ·exact (HS_plain rfl).2 (.dead _)
theorem Rel.pick (h : Rel Z F N s a R) {nb nx1 : Nat} {L : Ren2} (h0 : okL nb nx1 L = true) (hz : Z.nx ≤ nb) (hz1 : Z.nx ≤ nx1) (us os : List Nat) : Rel Z F (nm3 N nb L) (pickS nx1 L us os s) a R := by
 obtain ⟨q1, q2⟩ := h.hp.pk (o' := pickO L s.o os) (pk3 (N := N) (n := s.nx) h0) fun j ob' hj => by
  obtain ⟨i, ob, _, h1, h2⟩ := lookO_pickO hj
  exact ⟨i, ob, h1, h2⟩
 refine ⟨h.defers, h.size, fun u x hu => ?_, q1, ⟨hz1, fun i hi => ?_, fun i hi => ?_, h.st.f, h.st.fnew, fun g hg => h.st.foot g (q2 g hg), h.st.os, h.st.tape, h.st.output, h.st.size, h.st.keep⟩, h.tm⟩
 ·rw [look_pickT hu]
  exact (getD_ok h u).pk (pk3 h0)
 ·show N.b (inv3 nb L i) = _
  rw [inv3_small (by omega)]
  exact h.st.b i hi
 ·show N.q (inv3 nb L i) = _
  rw [inv3_small (by omega)]
  exact h.st.q i hi
end
def partT (t : Slots) : List Nat → Slots
 | [] => []
 | u :: r => (u, getD u t) :: partT t r
def partO (o : Objs) : List Nat → Objs
 | [] => []
 | i :: r => (i, lookO i o) :: partO o r
def partS (us os : List Nat) (s : St) : St := ⟨s.n, s.nx, partT s.t us, partO s.o os⟩
def partOuts (us os : List Nat) : Outs → Outs
 | [] => []
 | (t, c, s) :: r => (t, c, partS us os s) :: partOuts us os r
structure Shape where
 nb : Nat
 nx1 : Nat
 us : List Nat
 dirs : List Dir
 ren : Ren2
 os : List Nat
 usO : List Nat
 osO : List Nat
def roundE (E : Env) (u : Nat) (b : Code) (S : Shape) (s : St) : Option (List Prop × Outs × Cnd × St) :=
 let r := evH E u 0 b false s
 match r.nrm with
 | some s1 => match adj E S.dirs s1 with
  | some (s2, qs) => some (r.ps ++ gimps (cndP (noneOf r.outs)) qs, partOuts S.usO S.osO r.outs, noneOf r.outs, pickS S.nx1 S.ren S.us S.os s2)
  | none => none
 | none => none
section
variable {X : Type} (next : X → X) (goes : X → Cnd)
def iterX : Nat → X → X
 | 0, x => x
 | n + 1, x => bif cval (goes x) then iterX n (next x) else x
def needX (ps : X → List Prop) : Nat → X → Prop
 | 0, x => (∀ p ∈ ps x, p) ∧ cval (goes x) = false
 | n + 1, x => (∀ p ∈ ps x, p) ∧ (cval (goes x) = true → needX ps n (next x))
end
section
variable {Z : Base} {F : Nat → Prop} {N : Nm} {s : St} {a : Act} {R : World}
theorem look_partT {t : Slots} {u : Nat} {x : A} : ∀ {us : List Nat}, look u (partT t us) = some x → x = getD u t
 | [], h => by cases h
 | v :: r, h => by
  have h' : (bif Nat.beq v u then some (getD v t) else look u (partT t r)) = some x := h
  cases hb : Nat.beq v u with
  | true => rw [hb] at h'; obtain rfl := Nat.eq_of_beq_eq_true hb; cases h'; rfl
  | false => rw [hb] at h'; exact look_partT h'
theorem lookO_partO {o : Objs} {i : Nat} {ob : Ob} : ∀ {os : List Nat}, lookO i (partO o os) = some ob → lookO i o = some ob ∧ i ∈ os
 | [], h => by cases h
 | k :: r, h => by
  have h' : (bif Nat.beq k i then lookO k o else lookO i (partO o r)) = some ob := h
  cases hb : Nat.beq k i with
  | true => rw [hb] at h'; obtain rfl := Nat.eq_of_beq_eq_true hb; exact ⟨h', List.mem_cons_self ..⟩
  | false => rw [hb] at h'; exact ⟨(lookO_partO h').1, List.mem_cons_of_mem _ (lookO_partO h').2⟩
theorem Rel.part (h : Rel Z F N s a R) (us os : List Nat) : Rel Z F N (partS us os s) a R := by
 have ho : ∀ i ob, lookO i (partO s.o os) = some ob → lookO i s.o = some ob := fun i ob hi => (lookO_partO hi).1
 refine ⟨h.defers, h.size, fun u x hu => ?_, h.hp.weak ho, h.st.trans (Step.weak ho), h.tm⟩
 rw [look_partT hu]
 exact getD_ok h u
theorem getO_part {us os : List Nat} {t : Tag} : ∀ {o : Outs}, getO t (partOuts us os o) = match getO t o with | some (c, s) => some (c, partS us os s) | none => none
 | [] => rfl
 | (k, c, s) :: r => by
  show (bif tagB k t then some (c, partS us os s) else getO t (partOuts us os r)) = match (bif tagB k t then some (c, s) else getO t r) with | some (c, s) => some (c, partS us os s) | none => none
  cases tagB k t with
  | true => rfl
  | false => exact getO_part
theorem loop_ok {E : Env} (ok : CodeOk E) {u : Nat} {b : Code} {S : Shape} {X : Type} {T : X → St} {next : X → X} {goes : X → Cnd} {psA ps : X → List Prop} {outs : X → Outs} (hS : okL S.nb S.nx1 S.ren = true) (hnb : S.nb ≤ S.nx1)
  (hr : ∀ x, roundE E u b S (T x) = some (psA x, outs x, goes x, T (next x))) (hA : ∀ x, (∀ p ∈ ps x, p) → ∀ p ∈ psA x, p) {Z : Base} (hz : Z.nx ≤ S.nb) (hW : ∀ u, inW u (wrC b) = true → Z.W u) {Q : Exit → Act → World → Prop} : ∀ (n : Nat) (x : X) (a : Act) (R : World), At Z a R (T x) → needX next goes ps n x →
   (∀ e y a' R', Oc ⟨[], outs (iterX next goes n x), none⟩ e y → At Z a' R' y → Q e a' R') → Code.rounds E.P b Q (n + 1) a R := by
 intro n
 induction n with
 | zero =>
  intro x a R h hn hk
  obtain ⟨h1, h2⟩ := hn
  rw [rounds_succ]
  have hx := hr x
  unfold roundE at hx
  simp only at hx
  split at hx <;> first | (cases hx; done) | skip
  rename_i s1 hs1
  split at hx <;> first | (cases hx; done) | skip
  rename_i s2 qs hs2
  injection hx with hx
  injection hx with e1 hx
  injection hx with e2 hx
  injection hx with e3 e4
  replace h1 := hA x h1
  rw [← e1] at h1
  refine code_ok ok 0 b false Z (T x) a R _ h hW (all_append h1).1 fun e y a' R' ho hy => ?_
  have hwf := wf_code ok (u := u) 0 b false (T x)
  rcases ho with ⟨t, cc, rfl, g1, g2, g3⟩ | ⟨rfl, g1, g2⟩
  ·obtain ⟨F, N, hy⟩ := hy
   have : Oc ⟨[], outs x, none⟩ (Tag.ex t) (partS S.usO S.osO y) := by
    rw [← e2]
    refine .inl ⟨t, cc, rfl, by show getO t (partOuts _ _ _) = _; rw [getO_part, g1], g2, fun t' c' s' hne hg => ?_⟩
    have hg' : getO t' (partOuts S.usO S.osO (evH E u 0 b false (T x)).outs) = some (c', s') := hg
    rw [getO_part] at hg'
    cases h5 : getO t' (evH E u 0 b false (T x)).outs with
    | none => rw [h5] at hg'; cases hg'
    | some z => obtain ⟨c1, z⟩ := z; rw [h5] at hg'; cases hg'; exact g3 t' _ z hne h5
   have := hk _ _ a' R' this ⟨F, N, hy.part _ _⟩
   cases t <;> exact this
  ·exfalso
   have := allF_noneOf hwf.once g2
   rw [e3, h2] at this
   cases this
 | succ n ih =>
  intro x a R h hn hk
  obtain ⟨h1, h2⟩ := hn
  rw [rounds_succ]
  have hx := hr x
  unfold roundE at hx
  simp only at hx
  split at hx <;> first | (cases hx; done) | skip
  rename_i s1 hs1
  split at hx <;> first | (cases hx; done) | skip
  rename_i s2 qs hs2
  injection hx with hx
  injection hx with e1 hx
  injection hx with e2 hx
  injection hx with e3 e4
  replace h1 := hA x h1
  rw [← e1] at h1
  refine code_ok ok 0 b false Z (T x) a R _ h hW (all_append h1).1 fun e y a' R' ho hy => ?_
  have hwf := wf_code ok (u := u) 0 b false (T x)
  rcases ho with ⟨t, cc, rfl, g1, g2, g3⟩ | ⟨rfl, g1, g2⟩
  ·obtain ⟨F, N, hy⟩ := hy
   have hc : cval (goes x) = false := by rw [← e3]; exact noneOf_no g1 g2
   have hi : iterX next goes (n + 1) x = x := by unfold iterX; rw [hc]; rfl
   rw [hi] at hk
   have : Oc ⟨[], outs x, none⟩ (Tag.ex t) (partS S.usO S.osO y) := by
    rw [← e2]
    refine .inl ⟨t, cc, rfl, by show getO t (partOuts _ _ _) = _; rw [getO_part, g1], g2, fun t' c' s' hne hg => ?_⟩
    have hg' : getO t' (partOuts S.usO S.osO (evH E u 0 b false (T x)).outs) = some (c', s') := hg
    rw [getO_part] at hg'
    cases h5 : getO t' (evH E u 0 b false (T x)).outs with
    | none => rw [h5] at hg'; cases hg'
    | some z => obtain ⟨c1, z⟩ := z; rw [h5] at hg'; cases hg'; exact g3 t' _ z hne h5
   have := hk _ _ a' R' this ⟨F, N, hy.part _ _⟩
   cases t <;> exact this
  ·have hc : cval (goes x) = true := by rw [← e3]; exact allF_noneOf hwf.once g2
   have hi : iterX next goes (n + 1) x = iterX next goes n (next x) := by
    show (bif cval (goes x) then _ else _) = _
    rw [hc]; rfl
   rw [hi] at hk
   rw [hs1] at g1
   obtain rfl := Option.some.inj g1
   have hq : ∀ p ∈ qs, p := gimps_ok (all_append h1).2 (cndP_ok (by rw [e3]; exact hc))
   obtain ⟨F, N, h3⟩ := adj_ok hy hs2 hq
   have h4 := h3.pick hS hz (Nat.le_trans hz hnb) S.us S.os
   rw [e4] at h4
   exact ih (next x) a' R' ⟨F, _, h4⟩ (h2 hc) hk
end
def findLoop (l : Nat) : Code → Option Code
 | .seq a b => match findLoop l a with
  | some c => some c
  | none => findLoop l b
 | .cond _ a b => match findLoop l a with
  | some c => some c
  | none => findLoop l b
 | .block id b => match Nat.beq id l, b with
  | true, .loop c => some c
  | _, _ => findLoop l b
 | .loop b => findLoop l b
 | .scope b => findLoop l b
 | .rangeFunc _ _ _ b => findLoop l b
 | _ => none
def loopAt (P : Program) (f : FuncId) (l : Nat) : Code := match P.funcs[f]? with
 | some fn => match fn.body with
  | some c => match findLoop l c with
   | some b => b
   | none => .skip
  | none => .skip
 | none => .skip
def addLp (l0 : Nat) (g : St → Option (Code × List Prop × Outs)) (L : LTab) : LTab := fun l s => bif Nat.beq l l0 then g s else L l s
def deadW : List Nat → Slots
 | [] => []
 | u :: r => (u, .dead) :: deadW r
def maskO : List Nat → Objs
 | [] => []
 | i :: r => (i, none) :: maskO r
def combS (W os : List Nat) (sA st : St) : St := ⟨sA.n, st.nx, st.t ++ (deadW W ++ killW W sA.t), st.o ++ (maskO os ++ sA.o)⟩
def combOuts (W os : List Nat) (sA : St) : Outs → Outs
 | [] => []
 | (t, c, s) :: r => (t, c, combS W os sA s) :: combOuts W os sA r
structure Entry where
 dirs : List Dir
 ren : Ren2
 us : List Nat
 os : List Nat
def rowL (E : Env) (b : Code) (S : Shape) (En : Entry) {X : Type} (unT : St → Option X) (fuel : X → Nat) (next : X → X) (goes : X → Cnd) (ps : X → List Prop) (outs : X → Outs) (s : St) : Option (Code × List Prop × Outs) :=
 match adj E En.dirs s with
 | some (sA, qs) => bif Nat.beq sA.nx S.nb then (bif okL S.nb S.nx1 En.ren then (match unT (pickS S.nx1 En.ren En.us En.os sA) with
  | some x => some (b, qs ++ [needX next goes ps (fuel x) x], combOuts (wrC b) En.os sA (outs (iterX next goes (fuel x) x)))
  | none => none) else none) else none
 | none => none
section
theorem inW_mem {u : Nat} : ∀ {W : List Nat}, inW u W = true → look u (deadW W) = some .dead
 | [], h => by cases h
 | k :: r, h => by
  show (bif Nat.beq k u then some A.dead else look u (deadW r)) = _
  cases hb : Nat.beq k u with
  | true => rfl
  | false =>
   have h' : (bif Nat.beq k u then true else inW u r) = true := h
   rw [hb] at h'
   exact inW_mem h'
theorem look_deadW {u : Nat} {x : A} : ∀ {W : List Nat}, look u (deadW W) = some x → x = .dead
 | [], h => by cases h
 | k :: r, h => by
  have h' : (bif Nat.beq k u then some A.dead else look u (deadW r)) = some x := h
  cases hb : Nat.beq k u with
  | true => rw [hb] at h'; cases h'; rfl
  | false => rw [hb] at h'; exact look_deadW h'
theorem lookO_maskO {i : Nat} : ∀ {os : List Nat}, lookO i (maskO os) = none
 | [] => rfl
 | k :: r => by
  show (bif Nat.beq k i then none else lookO i (maskO r)) = none
  cases Nat.beq k i with
  | true => rfl
  | false => exact lookO_maskO
theorem keysO_maskO {i : Nat} : ∀ {os : List Nat}, i ∈ os → i ∈ keysO (maskO os)
 | [], h => by cases h
 | k :: r, h => by
  rcases List.mem_cons.1 h with rfl | h
  ·exact List.mem_cons_self ..
  ·exact List.mem_cons_of_mem _ (keysO_maskO h)
theorem getO_comb {W os : List Nat} {sA : St} {t : Tag} : ∀ {o : Outs}, getO t (combOuts W os sA o) = match getO t o with | some (c, s) => some (c, combS W os sA s) | none => none
 | [] => rfl
 | (k, c, s) :: r => by
  show (bif tagB k t then some (c, combS W os sA s) else getO t (combOuts W os sA r)) = match (bif tagB k t then some (c, s) else getO t r) with | some (c, s) => some (c, combS W os sA s) | none => none
  cases tagB k t with
  | true => rfl
  | false => exact getO_comb
theorem once_comb {W os : List Nat} {sA : St} : ∀ {o : Outs}, Once o → Once (combOuts W os sA o)
 | [], _ => trivial
 | (k, c, s) :: r, ⟨h1, h2⟩ => ⟨by rw [getO_comb, h1], once_comb h2⟩
theorem comb_ok {Z : Base} {F F' : Nat → Prop} {N N' : Nm} {sA st : St} {a a' : Act} {R R' : World} {nb nx1 : Nat} {L : Ren2} {os W : List Nat} (h : Rel Z F N sA a R) (hn : st.n = sA.n) (hW : ∀ u, inW u W = true → Z.W u) (hnb : sA.nx = nb) (hL : okL nb nx1 L = true)
  (h' : Rel ⟨F, nm3 N nb L, nb, pickO L sA.o os, R, tmOf a, fun u => inW u W = true⟩ F' N' st a' R') : Rel Z F' N' (combS W os sA st) a' R' := by
 subst hnb
 let o1 := partO sA.o os
 have ho1 : ∀ i ob, lookO i o1 = some ob → lookO i sA.o = some ob := fun i ob hi => (lookO_partO hi).1
 have hfoot : ∀ g, Foot (nm3 N sA.nx L) (pickO L sA.o os) g → Foot N o1 g := fun g ⟨j, ob', hj, hg⟩ => by
  obtain ⟨i, ob, hi, h1, h2, rfl⟩ := lookO_pickO hj
  have hlt := (h.hp.ob i ob h2).1
  refine ⟨i, ob, ?_, (foot_pk (pk3 (N := N) (n := sA.nx) hL) hlt h1).1 hg⟩
  have : ∀ {l : List Nat}, i ∈ l → lookO i (partO sA.o l) = lookO i sA.o := fun {l} => by
   induction l with
   | nil => intro hm; cases hm
   | cons k r ih =>
    intro hm
    show (bif Nat.beq k i then lookO k sA.o else lookO i (partO sA.o r)) = _
    cases hb : Nat.beq k i with
    | true => rw [Nat.eq_of_beq_eq_true hb]; rfl
    | false =>
     rcases List.mem_cons.1 hm with rfl | hm
     ·simp at hb
     ·exact ih hm
  rw [this hi]
  exact h2
 have st1 : Step F N sA.nx o1 R F' N' st.nx st.o R' := ⟨h'.st.le, fun i hi => by
   have := h'.st.b i hi
   rw [this]
   show N.b (inv3 sA.nx L i) = _
   rw [inv3_small hi], fun i hi => by
   have := h'.st.q i hi
   rw [this]
   show N.q (inv3 sA.nx L i) = _
   rw [inv3_small hi], h'.st.f, fun g hg => by
   rcases h'.st.fnew g hg with h1 | h1 | h1
   ·exact .inl h1
   ·exact .inr (.inl (hfoot g h1))
   ·exact .inr (.inr h1), fun g hg => by
   rcases h'.st.foot g hg with h1 | h1
   ·exact .inl (hfoot g h1)
   ·exact .inr h1, h'.st.os, h'.st.tape, h'.st.output, h'.st.size, fun g hg hn => h'.st.keep g hg fun hf => hn (hfoot g hf)⟩
 obtain ⟨q1, q2⟩ := h.hp.frame (o' := st.o ++ (maskO os ++ sA.o)) ho1 st1 h'.hp fun i ob hi => by
  rcases lookO_split hi with ⟨_, h1⟩ | ⟨_, h1⟩
  ·exact .inl h1
  ·rcases lookO_split h1 with ⟨_, h2⟩ | ⟨h2, h3⟩
   ·rw [lookO_maskO] at h2; cases h2
   ·refine .inr ⟨h3, ?_⟩
    cases h4 : lookO i o1 with
    | none => rfl
    | some ob2 => exact absurd (keysO_maskO (lookO_partO h4).2) h2
 have htm : ∀ u, inW u W = false → tmOf a' u = tmOf a u := fun u hu => h'.tm u fun hh => by
  have hh' : inW u W = true := hh
  rw [hu] at hh'; cases hh'
 refine ⟨h'.defers, h'.size.trans hn, fun u x hu => ?_, q1, h.st.trans q2, fun u hu => ?_⟩
 ·have hu' : look u (st.t ++ (deadW W ++ killW W sA.t)) = some x := hu
  rw [look_append] at hu'
  cases h1 : look u st.t with
  | some y => rw [h1] at hu'; cases hu'; exact h'.slots u x h1
  | none =>
   rw [h1] at hu'
   have hu2 : look u (deadW W ++ killW W sA.t) = some x := hu'
   rw [look_append] at hu2
   cases h2 : look u (deadW W) with
   | some y => rw [h2] at hu2; cases hu2; rw [look_deadW h2]; exact (HS_plain rfl).2 (.dead _)
   | none =>
    rw [h2] at hu2
    have hu3 : look u (killW W sA.t) = some x := hu2
    have hw : inW u W = false := by
     cases hw : inW u W with
     | false => rfl
     | true => rw [inW_mem hw] at h2; cases h2
    rcases look_killW hu3 with rfl | ⟨k1, k2⟩
    ·exact (HS_plain rfl).2 (.dead _)
    ·rw [htm u hw]
     exact HS.congrW htm k2 ((h.slots u x k1).step (q2.ext h.hp))
 ·rw [h'.tm u fun hw => hu (hW u hw)]
  exact h.tm u hu
theorem rowL_ok {E : Env} (ok : CodeOk E) {u : Nat} {b : Code} {S : Shape} {En : Entry} {X : Type} {T : X → St} {unT : St → Option X} {fuel : X → Nat} {next : X → X} {goes : X → Cnd} {psA ps : X → List Prop} {outs : X → Outs} (hS : okL S.nb S.nx1 S.ren = true) (hnb : S.nb ≤ S.nx1)
  (hr : ∀ x, roundE E u b S (T x) = some (psA x, outs x, goes x, T (next x))) (hA : ∀ x, (∀ p ∈ ps x, p) → ∀ p ∈ psA x, p) (hu : ∀ s x, unT s = some x → s = T x)
  (hw : ∀ x, Once (outs x) ∧ ∀ t c y, getO t (outs x) = some (c, y) → y.n = (T x).n) (hTn : ∀ x y, (T x).n = (T y).n) {s : St} {b0 : Code} {qs : List Prop} {os : Outs} (he : rowL E b S En unT fuel next goes ps outs s = some (b0, qs, os)) :
  Wf s ⟨qs, os, none⟩ ∧ LoopOk E b0 s qs os := by
 unfold rowL at he
 split at he <;> first | (cases he; done) | skip
 rename_i sA ps1 hAd
 cases hq1 : Nat.beq sA.nx S.nb with
 | false => rw [hq1] at he; cases he
 | true =>
  cases hq2 : okL S.nb S.nx1 En.ren with
  | false => rw [hq1, hq2] at he; cases he
  | true =>
   rw [hq1, hq2] at he
   simp only [cond_true] at he
   split at he <;> first | (cases he; done) | skip
   rename_i x hx
   cases he
   have hnx := Nat.eq_of_beq_eq_true hq1
   have hT := hu _ _ hx
   have hsub := adj_sub hAd
   have hnT : ∀ y, (T y).n = sA.n := fun y => by rw [hTn y x, ← hT]; rfl
   refine ⟨⟨fun t c y hy => ?_, fun y hy => (by cases hy), once_comb (hw _).1⟩, ?_⟩
   ·have hy' : getO t (combOuts (wrC b) En.os sA (outs (iterX next goes (fuel x) x))) = some (c, y) := hy
    rw [getO_comb] at hy'
    split at hy' <;> first | (cases hy'; done) | skip
    cases hy'
    obtain ⟨d, hd⟩ := hsub.seq
    exact ⟨hsub.n, by show ∃ d, _ ++ (maskO En.os ++ sA.o) = d ++ s.o; rw [hd]; exact ⟨_, by rw [← List.append_assoc, ← List.append_assoc]⟩⟩
   ·intro Z F N a R Q h hW hp hk
    have hp1 : ∀ p ∈ ps1, p := fun p hm => hp p (List.mem_append.2 (.inl hm))
    have hneed : needX next goes ps (fuel x) x := hp _ (List.mem_append.2 (.inr (List.mem_singleton.2 rfl)))
    obtain ⟨F1, N1, h1⟩ := adj_ok ⟨F, N, h⟩ hAd hp1
    have hpick := (h1.start (wrC b)).pick (L := En.ren) hq2 (by show sA.nx ≤ S.nb; omega) (by show sA.nx ≤ S.nx1; omega) En.us En.os
    have hrel : Rel ⟨F1, nm3 N1 S.nb En.ren, S.nb, pickO En.ren sA.o En.os, R, tmOf a, fun u => inW u (wrC b) = true⟩ F1 (nm3 N1 S.nb En.ren) (T x) a R := by
     rw [← hT]
     exact ⟨hpick.defers, hpick.size, hpick.slots, hpick.hp, ⟨hnb, fun _ _ => rfl, fun _ _ => rfl, fun _ h => h, fun _ h => .inl h, fun _ h => .inl h, rfl, rfl, rfl, Nat.le_refl _, fun _ _ _ => rfl⟩, fun _ _ => rfl⟩
    refine wp_loop_rounds (fuel x + 1) (loop_ok ok (u := u) (b := b) hS hnb hr hA (Nat.le_refl _) (fun u hu => hu) (fuel x) x a R ⟨F1, _, hrel⟩ hneed fun e y a' R' ho ⟨F2, N2, hy⟩ => ?_)
    rcases ho with ⟨t, c, rfl, g1, g2, g3⟩ | ⟨rfl, g1, g2⟩
    ·have g1' : getO t (outs (iterX next goes (fuel x) x)) = some (c, y) := g1
     refine hk _ (combS (wrC b) En.os sA y) F2 N2 a' R' (.inl ⟨t, c, rfl, by show getO t (combOuts _ _ _ _) = _; rw [getO_comb, g1'], g2, fun t' c' s' hne hg => ?_⟩) (comb_ok h1 (by rw [(hw _).2 t c y g1', hnT]) hW hnx hq2 hy)
     have hg' : getO t' (combOuts (wrC b) En.os sA (outs (iterX next goes (fuel x) x))) = some (c', s') := hg
     rw [getO_comb] at hg'
     split at hg' <;> first | (cases hg'; done) | skip
     rename_i c1 z hz
     cases hg'
     exact g3 t' _ z hne hz
    ·cases g1
end
end Go.Proofs.Yteebobbhhgmeiaa
namespace Go.Proofs.Yteebobbhhgmeiaa
open Go.RowKit
def zc : TC → List Value
 | .u8 => [.int .u8 0]
 | .i64 => [.int .i64 0]
 | .u32 => [.int .u32 0]
 | .bool => [.bool false]
 | .str => [.string ByteArray.empty]
 | .bytes => [.slice none 0 0]
 | .ints => [.slice none 0 0]
 | .cells => [.slice none 0 0]
 | .rows => [.slice none 0 0]
 | .digest => List.replicate 32 (.int .u8 0)
 | c => (enc c (dflt c)).map fun x => match x with
  | .v y => y
  | _ => .slice none 0 0
theorem zc_ok (c : TC) (F : Nat → Prop) (N : Nm) (nx : Nat) (R : World) : HL F N nx R (enc c (dflt c)) (zc c) := by
 cases c <;> (repeat' (first | exact HL.nil | exact Hv.v _ | exact Hv.sl_nil rfl | apply HL.cons))
def tcRow (P : Program) (t : TypeId) : Option (Nat × Option (List Value)) := (P.info? t).map fun i => (i.size, i.zero.map fun z => z.cells.toList)
theorem tcRow_ok {P : Program} {t : TypeId} {c : TC} (h : tcRow P t = some (size c, some (zc c))) (h0 : 0 < size c) : ∃ i, P.info? t = some i ∧ i.size = size c ∧ 0 < size c ∧ ∃ z, i.zero = some z ∧ ∀ (F : Nat → Prop) (N : Nm) (nx : Nat) (R : World), HL F N nx R (enc c (dflt c)) z.cells.toList := by
 unfold tcRow at h
 cases hi : P.info? t with
 | none => rw [hi] at h; cases h
 | some i =>
  rw [hi] at h
  have h' : some (i.size, i.zero.map fun z => z.cells.toList) = some (size c, some (zc c)) := h
  injection h' with h'
  injection h' with h1 h2
  cases hz : i.zero with
  | none => rw [hz] at h2; cases h2
  | some z =>
   rw [hz] at h2
   injection h2 with h2
   have h3 : z.cells.toList = zc c := h2
   exact ⟨i, rfl, h1, h0, z, hz, fun F N nx R => by rw [h3]; exact zc_ok c F N nx R⟩
theorem size_pos (c : TC) : 0 < size c := by cases c <;> decide
def tcTab (t : TypeId) : Option TC := bif Nat.beq t 2 then some .i64 else bif Nat.beq t 3 then some .i64 else bif Nat.beq t 4 then some .bool else bif Nat.beq t 5 then some .u8 else bif Nat.beq t 9 then some .str else bif Nat.beq t 25 then some .front else bif Nat.beq t 26 then some .i64 else bif Nat.beq t 30 then some .vec else bif Nat.beq t 31 then some .vec else bif Nat.beq t 33 then some .told else bif Nat.beq t 37 then some .front else bif Nat.beq t 51 then some .stamp else bif Nat.beq t 53 then some .ask else bif Nat.beq t 55 then some .cell else bif Nat.beq t 67 then some .rows else bif Nat.beq t 69 then some .cells else bif Nat.beq t 71 then some .row else bif Nat.beq t 79 then some .group else bif Nat.beq t 84 then some .bytes else bif Nat.beq t 94 then some .view else bif Nat.beq t 108 then some .three else bif Nat.beq t 112 then some .two else bif Nat.beq t 133 then some .ints else bif Nat.beq t 136 then some .change else bif Nat.beq t 139 then some .write else bif Nat.beq t 142 then some .field else bif Nat.beq t 226 then some .place else bif Nat.beq t 239 then some .u32 else none
theorem tc2_row : tcRow Try.prog 2 = some (size .i64, some (zc .i64)) := by kernel_rfl
theorem tc3_row : tcRow Try.prog 3 = some (size .i64, some (zc .i64)) := by kernel_rfl
theorem tc4_row : tcRow Try.prog 4 = some (size .bool, some (zc .bool)) := by kernel_rfl
theorem tc5_row : tcRow Try.prog 5 = some (size .u8, some (zc .u8)) := by kernel_rfl
theorem tc9_row : tcRow Try.prog 9 = some (size .str, some (zc .str)) := by kernel_rfl
theorem tc25_row : tcRow Try.prog 25 = some (size .front, some (zc .front)) := by kernel_rfl
theorem tc26_row : tcRow Try.prog 26 = some (size .i64, some (zc .i64)) := by kernel_rfl
theorem tc30_row : tcRow Try.prog 30 = some (size .vec, some (zc .vec)) := by kernel_rfl
theorem tc31_row : tcRow Try.prog 31 = some (size .vec, some (zc .vec)) := by kernel_rfl
theorem tc33_row : tcRow Try.prog 33 = some (size .told, some (zc .told)) := by kernel_rfl
theorem tc37_row : tcRow Try.prog 37 = some (size .front, some (zc .front)) := by kernel_rfl
theorem tc51_row : tcRow Try.prog 51 = some (size .stamp, some (zc .stamp)) := by kernel_rfl
theorem tc53_row : tcRow Try.prog 53 = some (size .ask, some (zc .ask)) := by kernel_rfl
theorem tc55_row : tcRow Try.prog 55 = some (size .cell, some (zc .cell)) := by kernel_rfl
theorem tc67_row : tcRow Try.prog 67 = some (size .rows, some (zc .rows)) := by kernel_rfl
theorem tc69_row : tcRow Try.prog 69 = some (size .cells, some (zc .cells)) := by kernel_rfl
theorem tc71_row : tcRow Try.prog 71 = some (size .row, some (zc .row)) := by kernel_rfl
theorem tc79_row : tcRow Try.prog 79 = some (size .group, some (zc .group)) := by kernel_rfl
theorem tc84_row : tcRow Try.prog 84 = some (size .bytes, some (zc .bytes)) := by kernel_rfl
theorem tc94_row : tcRow Try.prog 94 = some (size .view, some (zc .view)) := by kernel_rfl
theorem tc108_row : tcRow Try.prog 108 = some (size .three, some (zc .three)) := by kernel_rfl
theorem tc112_row : tcRow Try.prog 112 = some (size .two, some (zc .two)) := by kernel_rfl
theorem tc133_row : tcRow Try.prog 133 = some (size .ints, some (zc .ints)) := by kernel_rfl
theorem tc136_row : tcRow Try.prog 136 = some (size .change, some (zc .change)) := by kernel_rfl
theorem tc139_row : tcRow Try.prog 139 = some (size .write, some (zc .write)) := by kernel_rfl
theorem tc142_row : tcRow Try.prog 142 = some (size .field, some (zc .field)) := by kernel_rfl
theorem tc226_row : tcRow Try.prog 226 = some (size .place, some (zc .place)) := by kernel_rfl
theorem tc239_row : tcRow Try.prog 239 = some (size .u32, some (zc .u32)) := by kernel_rfl
theorem tcStep {P : Program} {t k : TypeId} {c c0 : TC} {r : Option TC} (h : (bif Nat.beq t k then some c0 else r) = some c) (hk : tcRow P k = some (size c0, some (zc c0))) : tcRow P t = some (size c, some (zc c)) ∨ r = some c := by
 cases hb : Nat.beq t k with
 | true => rw [hb] at h; cases h; rw [Nat.eq_of_beq_eq_true hb]; exact .inl hk
 | false => rw [hb] at h; exact .inr h
theorem tcTab_ok : TcOk Try.prog tcTab := fun t c h => by
 refine tcRow_ok ?_ (size_pos c)
 unfold tcTab at h
 rcases tcStep h tc2_row with h | h
 ·exact h
 rcases tcStep h tc3_row with h | h
 ·exact h
 rcases tcStep h tc4_row with h | h
 ·exact h
 rcases tcStep h tc5_row with h | h
 ·exact h
 rcases tcStep h tc9_row with h | h
 ·exact h
 rcases tcStep h tc25_row with h | h
 ·exact h
 rcases tcStep h tc26_row with h | h
 ·exact h
 rcases tcStep h tc30_row with h | h
 ·exact h
 rcases tcStep h tc31_row with h | h
 ·exact h
 rcases tcStep h tc33_row with h | h
 ·exact h
 rcases tcStep h tc37_row with h | h
 ·exact h
 rcases tcStep h tc51_row with h | h
 ·exact h
 rcases tcStep h tc53_row with h | h
 ·exact h
 rcases tcStep h tc55_row with h | h
 ·exact h
 rcases tcStep h tc67_row with h | h
 ·exact h
 rcases tcStep h tc69_row with h | h
 ·exact h
 rcases tcStep h tc71_row with h | h
 ·exact h
 rcases tcStep h tc79_row with h | h
 ·exact h
 rcases tcStep h tc84_row with h | h
 ·exact h
 rcases tcStep h tc94_row with h | h
 ·exact h
 rcases tcStep h tc108_row with h | h
 ·exact h
 rcases tcStep h tc112_row with h | h
 ·exact h
 rcases tcStep h tc133_row with h | h
 ·exact h
 rcases tcStep h tc136_row with h | h
 ·exact h
 rcases tcStep h tc139_row with h | h
 ·exact h
 rcases tcStep h tc142_row with h | h
 ·exact h
 rcases tcStep h tc226_row with h | h
 ·exact h
 rcases tcStep h tc239_row with h | h
 ·exact h
 cases h
end Go.Proofs.Yteebobbhhgmeiaa
namespace Go.Proofs.Yteebobbhhgmeiaa
open Go.RowKit
theorem eqi (d : Nat) (a b : Int) (w : World) : (Op.equalIn (d + 1) 3 (.int .i64 a) (.int .i64 b)).run Try.prog w = .ok (a == b) w := run_equalIn_int w d 3 .i64 .i64 a b Try.underlying3
theorem eqb (d : Nat) (a b : Bool) (w : World) : (Op.equalIn (d + 1) 4 (.bool a) (.bool b)).run Try.prog w = .ok (a == b) w := run_equalIn_bool' w d 4 a b Try.underlying4
theorem eqs (d : Nat) (a b : ByteArray) (w : World) : (Op.equalIn (d + 1) 9 (.string a) (.string b)).run Try.prog w = .ok (a.toList == b.toList) w := run_equalIn_string w d 9 a b Try.underlying9
@[go_sem] theorem eqVec (d : Nat) (a b x y : Int) (w : World) : (Op.equalIn (d + 2) 31 (.agg #[.int .i64 a, .int .i64 b]) (.agg #[.int .i64 x, .int .i64 y])).run Try.prog w = .ok (a == x && b == y) w := by
 have p0 : ∀ a b w, (part 3 #[.int .i64 a, .int .i64 b] 0).run Try.prog w = Result.ok (.int .i64 a) w := fun a b w => by kernel_rfl
 have p1 : ∀ a b w, (part 3 #[.int .i64 a, .int .i64 b] 1).run Try.prog w = Result.ok (.int .i64 b) w := fun a b w => by kernel_rfl
 unfold Op.equalIn
 cases h : a == x
 ·simp [Sem.run_bind, run_underlying Try.underlying31, List.range', p0, eqi, h]
 ·cases h' : b == y <;> simp [Sem.run_bind, run_underlying Try.underlying31, List.range', p0, p1, eqi, h, h']
@[go_sem] theorem eqInt2 (d : Nat) (a b x y : Int) (w : World) : (Op.equalIn (d + 2) 30 (.agg #[.int .i64 a, .int .i64 b]) (.agg #[.int .i64 x, .int .i64 y])).run Try.prog w = .ok (a == x && b == y) w := by
 have p0 : ∀ a b w, (part 3 #[.int .i64 a, .int .i64 b] 0).run Try.prog w = Result.ok (.int .i64 a) w := fun a b w => by kernel_rfl
 have p1 : ∀ a b w, (part 3 #[.int .i64 a, .int .i64 b] 1).run Try.prog w = Result.ok (.int .i64 b) w := fun a b w => by kernel_rfl
 unfold Op.equalIn
 cases h : a == x
 ·simp [Sem.run_bind, run_underlying Try.underlying30, List.range', p0, eqi, h]
 ·cases h' : b == y <;> simp [Sem.run_bind, run_underlying Try.underlying30, List.range', p0, p1, eqi, h, h']
@[go_sem] theorem eqStamp (d : Nat) (a b x y : Int) (w : World) : (Op.equalIn (d + 2) 51 (.agg #[.int .i64 a, .int .i64 b]) (.agg #[.int .i64 x, .int .i64 y])).run Try.prog w = .ok (a == x && b == y) w := by
 rw [run_equalIn_struct w (d + 1) 51 _ _ (by kernel_rfl) (by kernel_rfl)]
 have p0 : ∀ a b w, (part 3 #[.int .i64 a, .int .i64 b] 0).run Try.prog w = Result.ok (.int .i64 a) w := fun a b w => by kernel_rfl
 have p1 : ∀ a b w, (part 3 #[.int .i64 a, .int .i64 b] 1).run Try.prog w = Result.ok (.int .i64 b) w := fun a b w => by kernel_rfl
 cases h : a == x
 ·simp [Program.fieldsOf, Try.underlying51, Op.eqFields, Sem.run_bind, p0, eqi, h]
 ·cases h' : b == y <;> simp [Program.fieldsOf, Try.underlying51, Op.eqFields, Sem.run_bind, p0, p1, eqi, h, h']
@[go_sem] theorem eqFront (d : Nat) (a b c e f u v x y z : Int) (w : World) : (Op.equalIn (d + 2) 25 (.agg #[.int .i64 a, .int .i64 b, .int .i64 c, .int .i64 e, .int .i64 f]) (.agg #[.int .i64 u, .int .i64 v, .int .i64 x, .int .i64 y, .int .i64 z])).run Try.prog w = .ok (a == u && (b == v && (c == x && (e == y && (f == z))))) w := by
 rw [run_equalIn_struct w (d + 1) 25 _ _ (by kernel_rfl) (by kernel_rfl)]
 have p0 : ∀ a b c e f w, (part 3 #[.int .i64 a, .int .i64 b, .int .i64 c, .int .i64 e, .int .i64 f] 0).run Try.prog w = Result.ok (.int .i64 a) w := fun a b c e f w => by kernel_rfl
 have p1 : ∀ a b c e f w, (part 3 #[.int .i64 a, .int .i64 b, .int .i64 c, .int .i64 e, .int .i64 f] 1).run Try.prog w = Result.ok (.int .i64 b) w := fun a b c e f w => by kernel_rfl
 have p2 : ∀ a b c e f w, (part 3 #[.int .i64 a, .int .i64 b, .int .i64 c, .int .i64 e, .int .i64 f] 2).run Try.prog w = Result.ok (.int .i64 c) w := fun a b c e f w => by kernel_rfl
 have p3 : ∀ a b c e f w, (part 3 #[.int .i64 a, .int .i64 b, .int .i64 c, .int .i64 e, .int .i64 f] 3).run Try.prog w = Result.ok (.int .i64 e) w := fun a b c e f w => by kernel_rfl
 have p4 : ∀ a b c e f w, (part 3 #[.int .i64 a, .int .i64 b, .int .i64 c, .int .i64 e, .int .i64 f] 4).run Try.prog w = Result.ok (.int .i64 f) w := fun a b c e f w => by kernel_rfl
 cases h0 : a == u
 ·simp [Program.fieldsOf, Try.underlying25, Op.eqFields, Sem.run_bind, p0, eqi, h0]
 ·cases h1 : b == v
  ·simp [Program.fieldsOf, Try.underlying25, Op.eqFields, Sem.run_bind, p0, p1, eqi, h0, h1]
  ·cases h2 : c == x
   ·simp [Program.fieldsOf, Try.underlying25, Op.eqFields, Sem.run_bind, p0, p1, p2, eqi, h0, h1, h2]
   ·cases h3 : e == y
    ·simp [Program.fieldsOf, Try.underlying25, Op.eqFields, Sem.run_bind, p0, p1, p2, p3, eqi, h0, h1, h2, h3]
    ·cases h4 : f == z
     ·simp [Program.fieldsOf, Try.underlying25, Op.eqFields, Sem.run_bind, p0, p1, p2, p3, p4, eqi, h0, h1, h2, h3, h4]
     ·simp [Program.fieldsOf, Try.underlying25, Op.eqFields, Sem.run_bind, p0, p1, p2, p3, p4, eqi, h0, h1, h2, h3, h4]
@[go_sem] theorem eqRFront (d : Nat) (a b c e f u v x y z : Int) (w : World) : (Op.equalIn (d + 2) 37 (.agg #[.int .i64 a, .int .i64 b, .int .i64 c, .int .i64 e, .int .i64 f]) (.agg #[.int .i64 u, .int .i64 v, .int .i64 x, .int .i64 y, .int .i64 z])).run Try.prog w = .ok (a == u && (b == v && (c == x && (e == y && (f == z))))) w := by
 rw [run_equalIn_struct w (d + 1) 37 _ _ (by kernel_rfl) (by kernel_rfl)]
 have p0 : ∀ a b c e f w, (part 3 #[.int .i64 a, .int .i64 b, .int .i64 c, .int .i64 e, .int .i64 f] 0).run Try.prog w = Result.ok (.int .i64 a) w := fun a b c e f w => by kernel_rfl
 have p1 : ∀ a b c e f w, (part 3 #[.int .i64 a, .int .i64 b, .int .i64 c, .int .i64 e, .int .i64 f] 1).run Try.prog w = Result.ok (.int .i64 b) w := fun a b c e f w => by kernel_rfl
 have p2 : ∀ a b c e f w, (part 3 #[.int .i64 a, .int .i64 b, .int .i64 c, .int .i64 e, .int .i64 f] 2).run Try.prog w = Result.ok (.int .i64 c) w := fun a b c e f w => by kernel_rfl
 have p3 : ∀ a b c e f w, (part 3 #[.int .i64 a, .int .i64 b, .int .i64 c, .int .i64 e, .int .i64 f] 3).run Try.prog w = Result.ok (.int .i64 e) w := fun a b c e f w => by kernel_rfl
 have p4 : ∀ a b c e f w, (part 3 #[.int .i64 a, .int .i64 b, .int .i64 c, .int .i64 e, .int .i64 f] 4).run Try.prog w = Result.ok (.int .i64 f) w := fun a b c e f w => by kernel_rfl
 cases h0 : a == u
 ·simp [Program.fieldsOf, Try.underlying37, Op.eqFields, Sem.run_bind, p0, eqi, h0]
 ·cases h1 : b == v
  ·simp [Program.fieldsOf, Try.underlying37, Op.eqFields, Sem.run_bind, p0, p1, eqi, h0, h1]
  ·cases h2 : c == x
   ·simp [Program.fieldsOf, Try.underlying37, Op.eqFields, Sem.run_bind, p0, p1, p2, eqi, h0, h1, h2]
   ·cases h3 : e == y
    ·simp [Program.fieldsOf, Try.underlying37, Op.eqFields, Sem.run_bind, p0, p1, p2, p3, eqi, h0, h1, h2, h3]
    ·cases h4 : f == z
     ·simp [Program.fieldsOf, Try.underlying37, Op.eqFields, Sem.run_bind, p0, p1, p2, p3, p4, eqi, h0, h1, h2, h3, h4]
     ·simp [Program.fieldsOf, Try.underlying37, Op.eqFields, Sem.run_bind, p0, p1, p2, p3, p4, eqi, h0, h1, h2, h3, h4]
@[go_sem] theorem eqCell (d : Nat) (a0 a1 a2 a3 a6 a7 b0 b1 b2 b3 b6 b7 : Int) (a4 b4 : Bool) (a5 b5 : ByteArray) (w : World) : (Op.equalIn (d + 3) 55 (.agg #[.int .i64 a0, .int .i64 a1, .int .i64 a2, .int .i64 a3, .bool a4, .string a5, .int .i64 a6, .int .i64 a7]) (.agg #[.int .i64 b0, .int .i64 b1, .int .i64 b2, .int .i64 b3, .bool b4, .string b5, .int .i64 b6, .int .i64 b7])).run Try.prog w = .ok ((a0 == b0 && a1 == b1) && ((a2 == b2 && a3 == b3) && ((a4 == b4) && ((a5.toList == b5.toList) && (a6 == b6 && a7 == b7))))) w := by
 rw [run_equalIn_struct w (d + 2) 55 _ _ (by kernel_rfl) (by kernel_rfl)]
 have p0 : ∀ (a0 a1 a2 a3 a6 a7 : Int) (a4 : Bool) (a5 : ByteArray) (w : World), (part 51 #[.int .i64 a0, .int .i64 a1, .int .i64 a2, .int .i64 a3, .bool a4, .string a5, .int .i64 a6, .int .i64 a7] 0).run Try.prog w = Result.ok (.agg #[.int .i64 a0, .int .i64 a1]) w := fun _ _ _ _ _ _ _ _ _ => by kernel_rfl
 have p1 : ∀ (a0 a1 a2 a3 a6 a7 : Int) (a4 : Bool) (a5 : ByteArray) (w : World), (part 31 #[.int .i64 a0, .int .i64 a1, .int .i64 a2, .int .i64 a3, .bool a4, .string a5, .int .i64 a6, .int .i64 a7] 2).run Try.prog w = Result.ok (.agg #[.int .i64 a2, .int .i64 a3]) w := fun _ _ _ _ _ _ _ _ _ => by kernel_rfl
 have p2 : ∀ (a0 a1 a2 a3 a6 a7 : Int) (a4 : Bool) (a5 : ByteArray) (w : World), (part 4 #[.int .i64 a0, .int .i64 a1, .int .i64 a2, .int .i64 a3, .bool a4, .string a5, .int .i64 a6, .int .i64 a7] 4).run Try.prog w = Result.ok (.bool a4) w := fun _ _ _ _ _ _ _ _ _ => by kernel_rfl
 have p3 : ∀ (a0 a1 a2 a3 a6 a7 : Int) (a4 : Bool) (a5 : ByteArray) (w : World), (part 9 #[.int .i64 a0, .int .i64 a1, .int .i64 a2, .int .i64 a3, .bool a4, .string a5, .int .i64 a6, .int .i64 a7] 5).run Try.prog w = Result.ok (.string a5) w := fun _ _ _ _ _ _ _ _ _ => by kernel_rfl
 have p4 : ∀ (a0 a1 a2 a3 a6 a7 : Int) (a4 : Bool) (a5 : ByteArray) (w : World), (part 31 #[.int .i64 a0, .int .i64 a1, .int .i64 a2, .int .i64 a3, .bool a4, .string a5, .int .i64 a6, .int .i64 a7] 6).run Try.prog w = Result.ok (.agg #[.int .i64 a6, .int .i64 a7]) w := fun _ _ _ _ _ _ _ _ _ => by kernel_rfl
 cases h0 : (a0 == b0 && a1 == b1)
 ·simp only [Program.fieldsOf, Try.underlying55, Op.eqFields, Sem.run_bind, Sem.run_ite, Sem.run_pure, Result.andThen_ok, p0, eqStamp, h0]; simp
 ·cases h1 : (a2 == b2 && a3 == b3)
  ·simp only [Program.fieldsOf, Try.underlying55, Op.eqFields, Sem.run_bind, Sem.run_ite, Sem.run_pure, Result.andThen_ok, p0, p1, eqStamp, eqVec, h0, h1]; simp
  ·cases h2 : (a4 == b4)
   ·simp only [Program.fieldsOf, Try.underlying55, Op.eqFields, Sem.run_bind, Sem.run_ite, Sem.run_pure, Result.andThen_ok, p0, p1, p2, eqStamp, eqVec, eqb, h0, h1, h2]; simp
   ·cases h3 : (a5.toList == b5.toList)
    ·simp only [Program.fieldsOf, Try.underlying55, Op.eqFields, Sem.run_bind, Sem.run_ite, Sem.run_pure, Result.andThen_ok, p0, p1, p2, p3, eqStamp, eqVec, eqb, eqs, h0, h1, h2, h3]; simp
    ·cases h4 : (a6 == b6 && a7 == b7)
     ·simp only [Program.fieldsOf, Try.underlying55, Op.eqFields, Sem.run_bind, Sem.run_ite, Sem.run_pure, Result.andThen_ok, p0, p1, p2, p3, p4, eqStamp, eqVec, eqb, eqs, h0, h1, h2, h3, h4]; simp
     ·simp only [Program.fieldsOf, Try.underlying55, Op.eqFields, Sem.run_bind, Sem.run_ite, Sem.run_pure, Result.andThen_ok, p0, p1, p2, p3, p4, eqStamp, eqVec, eqb, eqs, h0, h1, h2, h3, h4]; simp
theorem guardVec : Try.prog.eqGuardType Try.prog.depth 31 = false := by kernel_rfl
@[go_sem] theorem grdVec (op : BinOp) (x y : Operand) (xs ys : Array Value) (w : World) : (eqGuard op 31 x y (.agg xs) (.agg ys)).run Try.prog w = .ok () w := run_eqGuard_agg w op 31 x y xs ys guardVec
theorem guardInt2 : Try.prog.eqGuardType Try.prog.depth 30 = false := by kernel_rfl
@[go_sem] theorem grdInt2 (op : BinOp) (x y : Operand) (xs ys : Array Value) (w : World) : (eqGuard op 30 x y (.agg xs) (.agg ys)).run Try.prog w = .ok () w := run_eqGuard_agg w op 30 x y xs ys guardInt2
theorem guardStamp : Try.prog.eqGuardType Try.prog.depth 51 = false := by kernel_rfl
@[go_sem] theorem grdStamp (op : BinOp) (x y : Operand) (xs ys : Array Value) (w : World) : (eqGuard op 51 x y (.agg xs) (.agg ys)).run Try.prog w = .ok () w := run_eqGuard_agg w op 51 x y xs ys guardStamp
theorem guardFront : Try.prog.eqGuardType Try.prog.depth 25 = false := by kernel_rfl
@[go_sem] theorem grdFront (op : BinOp) (x y : Operand) (xs ys : Array Value) (w : World) : (eqGuard op 25 x y (.agg xs) (.agg ys)).run Try.prog w = .ok () w := run_eqGuard_agg w op 25 x y xs ys guardFront
theorem guardRFront : Try.prog.eqGuardType Try.prog.depth 37 = false := by kernel_rfl
@[go_sem] theorem grdRFront (op : BinOp) (x y : Operand) (xs ys : Array Value) (w : World) : (eqGuard op 37 x y (.agg xs) (.agg ys)).run Try.prog w = .ok () w := run_eqGuard_agg w op 37 x y xs ys guardRFront
theorem guardCell : Try.prog.eqGuardType Try.prog.depth 55 = false := by kernel_rfl
@[go_sem] theorem grdCell (op : BinOp) (x y : Operand) (xs ys : Array Value) (w : World) : (eqGuard op 55 x y (.agg xs) (.agg ys)).run Try.prog w = .ok () w := run_eqGuard_agg w op 55 x y xs ys guardCell
end Go.Proofs.Yteebobbhhgmeiaa
namespace Go.Proofs.Yteebobbhhgmeiaa
open Go.RowKit
instance (n : Nat) : Decidable (Stuck n) := .isFalse id
theorem wideP : Try.prog.follows .mixedOrders = true := by kernel_rfl
theorem guardField : Try.prog.eqGuardType Try.prog.depth 142 = false := by kernel_rfl
theorem eqField (d : Nat) (a x : Int) (b y : ByteArray) (w : World) : (Op.equalIn (d + 2) 142 (.agg #[.int .i64 a, .string b]) (.agg #[.int .i64 x, .string y])).run Try.prog w = .ok (a == x && b.toList == y.toList) w := by
 rw [run_equalIn_struct w (d + 1) 142 _ _ (by kernel_rfl) (by kernel_rfl)]
 have p0 : ∀ a b w, (part 3 #[.int .i64 a, .string b] 0).run Try.prog w = Result.ok (.int .i64 a) w := fun a b w => by kernel_rfl
 have p1 : ∀ a b w, (part 9 #[.int .i64 a, .string b] 1).run Try.prog w = Result.ok (.string b) w := fun a b w => by kernel_rfl
 cases h : a == x
 ·simp [Program.fieldsOf, Try.underlying142, Op.eqFields, Sem.run_bind, p0, eqi, h]
 ·cases h' : b.toList == y.toList <;> simp [Program.fieldsOf, Try.underlying142, Op.eqFields, Sem.run_bind, p0, p1, eqi, eqs, h, h']
def eqV2 : List Value → List Value → Option Bool
 | [.int .i64 a, .int .i64 b], [.int .i64 x, .int .i64 y] => some (a == x && b == y)
 | _, _ => none
def eqF2 : List Value → List Value → Option Bool
 | [.int .i64 a, .string b], [.int .i64 x, .string y] => some (a == x && b.toList == y.toList)
 | _, _ => none
def eqF5 : List Value → List Value → Option Bool
 | [.int .i64 a, .int .i64 b, .int .i64 c, .int .i64 e, .int .i64 f], [.int .i64 u, .int .i64 v, .int .i64 x, .int .i64 y, .int .i64 z] => some (a == u && (b == v && (c == x && (e == y && f == z))))
 | _, _ => none
def eqC8 : List Value → List Value → Option Bool
 | [.int .i64 a0, .int .i64 a1, .int .i64 a2, .int .i64 a3, .bool a4, .string a5, .int .i64 a6, .int .i64 a7], [.int .i64 b0, .int .i64 b1, .int .i64 b2, .int .i64 b3, .bool b4, .string b5, .int .i64 b6, .int .i64 b7] =>
  some ((a0 == b0 && a1 == b1) && ((a2 == b2 && a3 == b3) && ((a4 == b4) && ((a5.toList == b5.toList) && (a6 == b6 && a7 == b7)))))
 | _, _ => none
def eqTab (t : TypeId) (xs ys : List Value) : Option Bool :=
 bif Nat.beq t 31 then eqV2 xs ys else bif Nat.beq t 51 then eqV2 xs ys else bif Nat.beq t 55 then eqC8 xs ys else bif Nat.beq t 142 then eqF2 xs ys else bif Nat.beq t 37 then eqF5 xs ys else none
theorem eqTab_ok : EqOk Try.prog eqTab := fun t xs ys b h => by
 unfold eqTab at h
 cases h1 : Nat.beq t 31 with
 | true =>
  rw [h1] at h
  rw [Nat.eq_of_beq_eq_true h1]
  refine ⟨guardVec, fun R => ?_⟩
  unfold eqV2 at h
  simp only [cond_true] at h
  split at h <;> first | (cases h; done) | skip
  cases h
  exact eqVec 9998 _ _ _ _ R
 | false =>
 cases h2 : Nat.beq t 51 with
 | true =>
  rw [h1, h2] at h
  rw [Nat.eq_of_beq_eq_true h2]
  refine ⟨guardStamp, fun R => ?_⟩
  unfold eqV2 at h
  simp only [cond_true, cond_false] at h
  split at h <;> first | (cases h; done) | skip
  cases h
  exact eqStamp 9998 _ _ _ _ R
 | false =>
 cases h3 : Nat.beq t 55 with
 | true =>
  rw [h1, h2, h3] at h
  rw [Nat.eq_of_beq_eq_true h3]
  refine ⟨guardCell, fun R => ?_⟩
  unfold eqC8 at h
  simp only [cond_true, cond_false] at h
  split at h <;> first | (cases h; done) | skip
  cases h
  exact eqCell 9997 _ _ _ _ _ _ _ _ _ _ _ _ _ _ _ _ R
 | false =>
 cases h4 : Nat.beq t 142 with
 | true =>
  rw [h1, h2, h3, h4] at h
  rw [Nat.eq_of_beq_eq_true h4]
  refine ⟨guardField, fun R => ?_⟩
  unfold eqF2 at h
  simp only [cond_true, cond_false] at h
  split at h <;> first | (cases h; done) | skip
  cases h
  exact eqField 9998 _ _ _ _ R
 | false =>
 cases h5 : Nat.beq t 37 with
 | true =>
  rw [h1, h2, h3, h4, h5] at h
  rw [Nat.eq_of_beq_eq_true h5]
  refine ⟨guardRFront, fun R => ?_⟩
  unfold eqF5 at h
  simp only [cond_true, cond_false] at h
  split at h <;> first | (cases h; done) | skip
  cases h
  rw [eqRFront 9998]
 | false =>
  rw [h1, h2, h3, h4, h5] at h
  cases h
noncomputable def envT (C : Tab) (L : LTab) : Env := ⟨Try.prog, eqTab, C, false, tcTab, L⟩
theorem envT_ok {C : Tab} {L : LTab} (hC : COk Try.prog C) (hL : ∀ l s b ps outs, L l s = some (b, ps, outs) → Wf s ⟨ps, outs, none⟩ ∧ LoopOk (envT C L) b s ps outs) : CodeOk (envT C L) where
 suf f args nx o k x nx' o' ps h := (hC f args nx o k x nx' o' ps h).2
 wide := wideP
 eq := eqTab_ok
 C f args nx o k x nx' o' ps h := (hC f args nx o k x nx' o' ps h).1
 tc := tcTab_ok
 loops := hL
end Go.Proofs.Yteebobbhhgmeiaa
namespace Go.Proofs.Yteebobbhhgmeiaa
open Go.RowKit
def LpOk (L : LTab) : Prop := ∀ l s b ps outs, L l s = some (b, ps, outs) → Wf s ⟨ps, outs, none⟩ ∧ LoopOk (envT C0 L0) b s ps outs
theorem L0_ok : LpOk L0 := fun _ _ _ _ _ h => by cases h
theorem addLp_ok {l0 : Nat} {g : St → Option (Code × List Prop × Outs)} {L : LTab} (hg : ∀ s b ps outs, g s = some (b, ps, outs) → Wf s ⟨ps, outs, none⟩ ∧ LoopOk (envT C0 L0) b s ps outs) (hL : LpOk L) : LpOk (addLp l0 g L) := fun l s b ps outs h => by
 unfold addLp at h
 cases hb : Nat.beq l l0 with
 | true => rw [hb] at h; exact hg s b ps outs h
 | false => rw [hb] at h; exact hL l s b ps outs h
theorem envP_ok {C : Tab} {L : LTab} (hC : COk Try.prog C) (hL : LpOk L) : CodeOk (envT C L) := envT_ok hC hL
theorem rowP_ok {C : Tab} {L : LTab} (hC : COk Try.prog C) (hL : LpOk L) {u : Nat} {b : Code} {S : Shape} {En : Entry} {X : Type} {T : X → St} {unT : St → Option X} {fuel : X → Nat} {next : X → X} {goes : X → Cnd} {psA ps : X → List Prop} {outs : X → Outs} (hS : okL S.nb S.nx1 S.ren = true) (hnb : S.nb ≤ S.nx1)
  (hr : ∀ x, roundE (envT C L) u b S (T x) = some (psA x, outs x, goes x, T (next x))) (hA : ∀ x, (∀ p ∈ ps x, p) → ∀ p ∈ psA x, p) (hu : ∀ s x, unT s = some x → s = T x)
  (hw : ∀ x, Once (outs x) ∧ ∀ t c y, getO t (outs x) = some (c, y) → y.n = (T x).n) (hTn : ∀ x y, (T x).n = (T y).n) : ∀ s b0 qs os, rowL (envT C L) b S En unT fuel next goes ps outs s = some (b0, qs, os) → Wf s ⟨qs, os, none⟩ ∧ LoopOk (envT C0 L0) b0 s qs os :=
 fun _ _ _ _ he => rowL_ok (envP_ok hC hL) hS hnb hr hA hu hw hTn he
def okOuts (n : Nat) : Outs → Bool
 | [] => true
 | (t, _, s) :: r => Nat.beq s.n n && ((match getO t r with | some _ => false | none => true) && okOuts n r)
theorem okOuts_ok {n : Nat} : ∀ {o : Outs}, okOuts n o = true → Once o ∧ ∀ t c y, getO t o = some (c, y) → y.n = n
 | [], _ => ⟨trivial, fun t c y h => by cases h⟩
 | (k, d, s) :: r, h => by
  unfold okOuts at h
  simp only [Bool.and_eq_true] at h
  obtain ⟨h1, h2, h3⟩ := h
  obtain ⟨g1, g2⟩ := okOuts_ok h3
  refine ⟨⟨?_, g1⟩, fun t c y hy => ?_⟩
  ·cases hg : getO k r with
   | none => rfl
   | some x => rw [hg] at h2; cases h2
  ·have hy' : (bif tagB k t then some (d, s) else getO t r) = some (c, y) := hy
   cases hb : tagB k t with
   | true => rw [hb] at hy'; cases hy'; exact Nat.eq_of_beq_eq_true h1
   | false => rw [hb] at hy'; exact g2 t c y hy'
theorem wrapU8 (x : Int) : 0 ≤ IntKind.u8.wrap x ∧ IntKind.u8.wrap x < 256 := by
 simp only [IntKind.wrap, IntKind.bits, IntKind.signed]
 have h1 := Int.emod_nonneg x (show (256 : Int) ≠ 0 by decide)
 have h2 := Int.emod_lt_of_pos x (show (0 : Int) < 256 by decide)
 exact ⟨h1, h2⟩
theorem wrapU64 (x : Int) : 0 ≤ IntKind.u64.wrap x := by
 simp only [IntKind.wrap, IntKind.bits, IntKind.signed]
 exact Int.emod_nonneg x (by decide)
def argT (c : TC) (x : A) : Option (U c × List Prop) := match cellsA x with
 | some cs => dec c cs
 | none => none
def argL (c : TC) : A → Option (List (U c))
 | .sl c' l => match TC.same c' c with
  | some h => some (castL h.down l)
  | none => none
 | .nl => some []
 | .v x => bif isNilV x then some [] else none
 | _ => none
section
variable {F : Nat → Prop} {N : Nm} {nx : Nat} {R : World}
theorem argL_ok {c : TC} {x : A} {l : List (U c)} {v : Value} (he : argL c x = some l) (h : Hv F N nx R x v) : Hv F N nx R (.sl c l) v := by
 unfold argL at he
 split at he <;> first | (cases he; done) | skip
 ·split at he <;> first | (cases he; done) | skip
  rename_i h1 _
  obtain ⟨h1⟩ := h1
  subst h1
  cases he
  exact h
 ·cases he
  obtain ⟨a, e⟩ := h.nl_inv
  exact Hv.sl_nil e
 ·rename_i x
  cases hb : isNilV x with
  | false => rw [hb] at he; cases he
  | true =>
   rw [hb] at he
   cases he
   exact Hv.sl_nil (by rw [h.v_inv, isNilV_ok hb])
theorem hl_agg {c : TC} {d : U c} {vs : List Value} (h : HL F N nx R (enc c d) vs) (ha : c.isAgg = true) : Hv F N nx R (valA c d) (.agg vs.toArray) := by
 unfold valA
 rw [ha]
 exact aggA_ok h
theorem hl_one {c : TC} {d : U c} {vs : List Value} {v : Value} (h : HL F N nx R (enc c d) vs) (ha : c.isAgg = false) (hv : vs[0]? = some v) : Hv F N nx R (valA c d) v := by
 unfold valA
 rw [ha]
 show Hv F N nx R (match enc c d with | x :: _ => x | [] => .dead) v
 generalize enc c d = l at h
 cases l with
 | nil => exact .dead _
 | cons x r =>
  obtain ⟨w, ws, rfl, h1, _⟩ := h.inv
  cases hv
  exact h1
def fitsT (c : TC) : A → Bool
 | .v (.agg _) => c.isAgg
 | .agg _ => c.isAgg
 | .v (.tuple _) => false
 | .v x => !c.isAgg && x.oneCell'
 | .opt _ _ _ => false
 | .tup _ => false
 | .dead => false
 | .it _ _ => false
 | .sq _ => false
 | _ => !c.isAgg
def argU (c : TC) (x : A) : Option (U c × List Prop) := bif fitsT c x then argT c x else none
theorem argU_ok {c : TC} {x : A} {d : U c} {ps : List Prop} {v : Value} (he : argU c x = some (d, ps)) (hp : ∀ p ∈ ps, p) (h : Hv F N nx R x v) : Hv F N nx R (valA c d) v := by
 unfold argU at he
 cases hf : fitsT c x with
 | false => rw [hf] at he; cases he
 | true =>
  rw [hf] at he
  simp only [cond_true] at he
  unfold argT at he
  split at he <;> first | (cases he; done) | skip
  rename_i cs hcs
  have hd := dec_ok (F := F) (N := N) (nx := nx) (R := R) he hp
  have single : ∀ {y : A}, Hv F N nx R y v → cs = [y] → c.isAgg = false → Hv F N nx R (valA c d) v := fun {y} hy e hc => by
   subst e
   exact hl_one (hd [v] (HL.cons hy HL.nil)) hc rfl
  cases x <;> first | (cases hf; done) | skip
  ·rename_i y
   have hv := h.v_inv
   subst hv
   cases hcs
   have hl : HL F N nx R (toL v.cells.toList) v.cells.toList := HL.toL _
   cases v with
   | agg xs =>
    have hl' : HL F N nx R (toL xs.toList) xs.toList := hl
    have := hl_agg (hd _ hl') hf
    simpa using this
   | tuple xs => cases hf
   | _ =>
    simp only [fitsT, Bool.and_eq_true, Bool.not_eq_true'] at hf
    exact hl_one (hd _ hl) hf.1 rfl
  ·cases hcs
   exact single h rfl (by simpa [fitsT] using hf)
  ·cases hcs
   exact single h rfl (by simpa [fitsT] using hf)
  ·cases hcs
   exact single h rfl (by simpa [fitsT] using hf)
  ·cases hcs
   exact single h rfl (by simpa [fitsT] using hf)
  ·cases hcs
   exact single h rfl (by simpa [fitsT] using hf)
  ·cases hcs
   exact single h rfl (by simpa [fitsT] using hf)
  ·cases hcs
   exact single h rfl (by simpa [fitsT] using hf)
  ·cases hcs
   exact single h rfl (by simpa [fitsT] using hf)
  ·cases hcs
   exact single h rfl (by simpa [fitsT] using hf)
  ·cases hcs
   obtain ⟨vs, rfl, h2⟩ := h.agg_inv
   exact hl_agg (hd _ h2) hf
end
theorem freeL_nil : freeL [] = true := by unfold freeL; rfl
theorem freeL_cons {x : A} {r : List A} (h : x.free = true) (k : freeL r = true) : freeL (x :: r) = true := by unfold freeL; rw [h, k]; rfl
theorem valA_free (c : TC) (d : U c) : (valA c d).free = true := by
 have hfr : ∀ l : List A, (∀ x ∈ l, x.free = true) → freeL l = true := fun l => by
  induction l with
  | nil => intro _; unfold freeL; rfl
  | cons x r ih => intro h; unfold freeL; rw [h x (List.mem_cons_self ..), ih fun y hy => h y (List.mem_cons_of_mem _ hy)]; rfl
 have h := enc_free c d
 unfold valA
 cases c.isAgg with
 | true =>
  show (aggA (enc c d)).free = true
  unfold aggA
  split
  ·unfold A.free; rfl
  ·unfold A.free; exact hfr _ h
 | false =>
  show A.free (match enc c d with | x :: _ => x | [] => .dead) = true
  have hl := enc_length c d
  have hs : 0 < size c := by cases c <;> decide
  generalize enc c d = l at h hl
  cases l with
  | nil => rw [← hl] at hs; cases hs
  | cons x r => exact h x (List.mem_cons_self ..)
theorem callOk_args {P : Program} {f : FuncId} {args args' : List A} {nx k nx' : Nat} {o o' : Objs} {x : A} (h : CallOk P f args' nx o k x nx' o') (ha : ∀ (F : Nat → Prop) (N : Nm) (R : World) (vs : List Value), HL F N nx R args vs → HL F N nx R args' vs) : CallOk P f args nx o k x nx' o' :=
 fun F N R vs hh hl => h F N R vs hh (ha F N R vs hl)
end Go.Proofs.Yteebobbhhgmeiaa
namespace Go.Proofs.Yteebobbhhgmeiaa
open Go.RowKit
def wfInt (k : IntKind) (n : Int) : Prop := (Lit.int k n).wf = true
def WfS (x : TStamp) : Prop := wfInt .i64 x.n ∧ wfInt .i64 x.site
def WfV (x : TVec) : Prop := wfInt .i64 x.a ∧ wfInt .i64 x.b
def WfCell (x : TCell) : Prop := WfS x.stamp ∧ WfV x.vec ∧ True ∧ x.value.size ≤ maxLen ∧ WfV x.dead
def WfRow (x : TRow) : Prop := x.key.size ≤ maxLen ∧ (x.cells.length ≤ maxLen ∧ ∀ y ∈ x.cells, WfCell y)
def WfWrite (x : TWrite) : Prop := x.key.size ≤ maxLen ∧ wfInt .i64 x.group ∧ True ∧ x.value.size ≤ maxLen
def WfField (x : TField) : Prop := wfInt .i64 x.group ∧ x.value.size ≤ maxLen
def Wfd : (c : TC) → U c → Prop
 | .i64, n => wfInt .i64 n
 | .u32, n => wfInt .u32 n
 | .str, s => s.size ≤ maxLen
 | .vec, x => WfV x
 | .stamp, x => WfS x
 | .cell, x => WfCell x
 | .group, x => x.name.size ≤ maxLen ∧ wfInt .i64 x.policy
 | .write, x => WfWrite x
 | .row, x => WfRow x
 | .change, x => wfInt .i64 x.site ∧ wfInt .i64 x.seq ∧ WfS x.stamp ∧ WfV x.vec ∧ (x.writes.length ≤ maxLen ∧ ∀ y ∈ x.writes, WfWrite y)
 | .field, x => WfField x
 | .view, x => x.key.size ≤ maxLen ∧ (x.fields.length ≤ maxLen ∧ ∀ y ∈ x.fields, WfField y)
 | .told, x => wfInt .i64 x.ack ∧ wfInt .i64 x.own ∧ wfInt .i64 x.come
 | .act, x => wfInt .i64 x.kind ∧ WfRow x.row ∧ x.til.size ≤ maxLen ∧ wfInt .i64 x.n
 | .front, x => wfInt .i64 x.site ∧ wfInt .i64 x.acked ∧ wfInt .i64 x.stable ∧ wfInt .i64 x.wait ∧ wfInt .i64 x.til
 | .ask, x => WfS x.stamp ∧ WfV x.vec ∧ True ∧ x.value.size ≤ maxLen
 | .two, x => WfRow x.row ∧ wfInt .i64 x.group ∧ WfCell x.cell
 | .note, x => x.name.size ≤ maxLen ∧ x.text.size ≤ maxLen
 | .packet, x => wfInt .i64 x.src ∧ x.bytes.size ≤ maxLen
 | .place, x => x.key.size ≤ maxLen ∧ wfInt .i64 x.group
 | .bytes, l => l.length ≤ maxLen ∧ ∀ y ∈ l, True
 | .ints, l => l.length ≤ maxLen ∧ ∀ y ∈ l, wfInt .i64 y
 | .cells, l => l.length ≤ maxLen ∧ ∀ y ∈ l, WfCell y
 | .rows, l => l.length ≤ maxLen ∧ ∀ y ∈ l, WfRow y
 | .three, x => (x.a.length ≤ maxLen ∧ ∀ y ∈ x.a, WfCell y) ∧ (x.b.length ≤ maxLen ∧ ∀ y ∈ x.b, WfCell y) ∧ (x.c.length ≤ maxLen ∧ ∀ y ∈ x.c, WfCell y)
 | _, _ => True
def FB (w : World) (F : Nat → Prop) : Prop := ∀ b, b < w.heap.size → F b
def OpnAt (P : Program) (c : TC) (t : TypeId) {H : Type} (en : TypeId × Value → H) (w : World) (base : Nat) (spare : Nat → Bool) (held : Bool) : Prop :=
 ∀ (m : Nat) (cs : List Value) (y : DataW H × List MemPlace), DataW.trod en P w base spare held m t cs = some y → ∃ x : U c, Wfd c x ∧ ∀ (F : Nat → Prop) (N : Nm) (nx : Nat), FB w F → HL F N nx w (enc c x) cs
def Opn (P : Program) (c : TC) (t : TypeId) : Prop := ∀ {H : Type} (en : TypeId × Value → H) (w : World) (base : Nat) (spare : Nat → Bool) (held : Bool), OpnAt P c t en w base spare held
def OpnLs (P : Program) (c : TC) (t : TypeId) : Prop := ∀ {H : Type} (en : TypeId × Value → H) (w : World) (base : Nat) (spare : Nat → Bool) (held : Bool) (m : Nat) (cs : List Value) (y : DataW H × List MemPlace),
 DataW.trod en P w base spare held m t cs = some y → ∃ l : List (U c), (l.length ≤ maxLen ∧ ∀ x ∈ l, Wfd c x) ∧ ∀ (F : Nat → Prop) (N : Nm) (nx : Nat), FB w F → HL F N nx w [.sl c l] cs
section
variable {P : Program} {t : TypeId}
theorem opn_i64 (hu : P.underlying t = some (.int .i64)) : Opn P .i64 t := fun en w base spare held m cs y h => by
 obtain ⟨n, rfl, _, hw⟩ := DataW.trod_int hu h
 exact ⟨n, hw, fun F N nx _ => HL.cons (Hv.v _) HL.nil⟩
theorem opn_bool (hu : P.underlying t = some .bool) : Opn P .bool t := fun en w base spare held m cs y h => by
 obtain ⟨n, rfl, _⟩ := DataW.trod_bool hu h
 exact ⟨n, trivial, fun F N nx _ => HL.cons (Hv.v _) HL.nil⟩
theorem opn_str (hu : P.underlying t = some .string) : Opn P .str t := fun en w base spare held m cs y h => by
 obtain ⟨n, rfl, _, hw⟩ := DataW.trod_string hu h
 exact ⟨n, hw, fun F N nx _ => HL.cons (Hv.v _) HL.nil⟩
theorem list_of {α : Type} {Q : Nat → α → Prop} : ∀ (n : Nat), (∀ i, i < n → ∃ x, Q i x) → ∃ l : List α, l.length = n ∧ ∀ (i : Nat) (x : α), l[i]? = some x → Q i x
 | 0, _ => ⟨[], rfl, fun i x h => by cases h⟩
 | n + 1, h => by
  obtain ⟨l, h1, h2⟩ := list_of n fun i hi => h i (by omega)
  obtain ⟨x, hx⟩ := h n (by omega)
  refine ⟨l ++ [x], by simp [h1], fun i y hy => ?_⟩
  rcases Nat.lt_trichotomy i n with hi | rfl | hi
  ·rw [List.getElem?_append_left (by omega)] at hy
   exact h2 i y hy
  ·rw [List.getElem?_append_right (by omega)] at hy
   simp [h1] at hy
   subst hy
   exact hx
  ·rw [List.getElem?_eq_none (by simp; omega)] at hy
   cases hy
theorem cells_get {w : World} {base : Nat} {a : Addr} {n : Nat} {cs : List Value} (h : w.cells? base a n = some cs) : base ≤ a.block ∧ cs.length = n ∧ ∀ (j : Nat) (v : Value), cs[j]? = some v → w.cell? (a.add j) = some v := by
 unfold World.cells? at h
 split at h
 ·rename_i hb
  refine ⟨hb, by simpa using mapM_some_length h, fun j v hv => ?_⟩
  have hl : cs.length = n := by simpa using mapM_some_length h
  have hj : j < n := by
   have := (List.getElem?_eq_some_iff.1 hv).1
   omega
  have := mapM_some_get h j j (by simp [hj])
  rw [this, hv]
 ·cases h
theorem opn_list {c : TC} {e : TypeId} (hu : P.underlying t = some (.slice e)) (hs : P.cellsOf e = size c) (he : Opn P c e) : OpnLs P c t := fun en w base spare held m cs y h => by
 rcases DataW.trod_slice hu h with ⟨rfl, _⟩ | ⟨a, len, cap, elems, rest, n, _, rfl, _, hb, hlc, hcm, hel, hg, _⟩
 ·exact ⟨[], ⟨Nat.zero_le _, fun x hx => by cases hx⟩, fun F N nx _ => HL.cons (Hv.sl_nil (a := none) rfl) HL.nil⟩
 ·have each : ∀ i, i < len → ∃ x : U c, Wfd c x ∧ ∃ zs, w.cells? base (a.add (i * size c)) (size c) = some zs ∧ ∀ (F : Nat → Prop) (N : Nm) (nx : Nat), FB w F → HL F N nx w (enc c x) zs := fun i hi => by
   have := hg i hi
   rw [hs] at this
   have h2 : elems[i]? ≠ none := by
    intro h0
    rw [List.getElem?_eq_none_iff] at h0
    omega
   obtain ⟨z, hz⟩ := Option.ne_none_iff_exists'.1 h2
   rw [hz] at this
   obtain ⟨zs, h3, h4⟩ := Option.bind_eq_some_iff.1 this
   obtain ⟨x, h5, h6⟩ := he en w base spare held n zs z h4
   exact ⟨x, h5, zs, h3, h6⟩
  obtain ⟨l, h1, h2⟩ := list_of len each
  refine ⟨l, ⟨by omega, fun x hx => ?_⟩, fun F N nx hF => HL.cons ?_ HL.nil⟩
  ·obtain ⟨i, hi⟩ := List.getElem?_of_mem hx
   exact (h2 i x hi).1
  ·subst h1
   refine Hv.sl a hlc (fun hp => ⟨rfl, ?_⟩) (fun i d j x hd hx => ?_) (fun i d j x y hd hx hy => ?_)
   ·obtain ⟨_, zs, h3, h4⟩ := h2 0 l[0] (by rw [List.getElem?_eq_getElem hp])
    obtain ⟨_, h5, h6⟩ := cells_get h3
    have hsz : 0 < zs.length := by rw [h5]; cases c <;> decide
    have := h6 0 zs[0] (by rw [List.getElem?_eq_getElem hsz])
    have := World.block_lt_of_cell? w _ this
    rw [add_block, add_block] at this
    exact hF _ this
   ·obtain ⟨_, zs, h3, h4⟩ := h2 i d hd
    obtain ⟨v, h5, h6⟩ := (h4 F N nx hF).get hx
    refine ⟨v, ?_⟩
    rw [← add_add]
    exact (cells_get h3).2.2 j v h5
   ·obtain ⟨_, zs, h3, h4⟩ := h2 i d hd
    obtain ⟨v, h5, h6⟩ := (h4 F N nx hF).get hx
    have := (cells_get h3).2.2 j v h5
    rw [add_add, hy] at this
    cases this
    exact h6
end
section
variable {H : Type} {en : TypeId × Value → H} {P : Program} {w : World} {base : Nat} {spare : Nat → Bool} {held : Bool} {F : Nat → Prop} {N : Nm} {nx : Nat}
theorem fldO {fs : Array Field} {cs : List Value} {m i : Nat} {xs : List (DataW H × List MemPlace)} {f : Field} {t : TypeId} {o k : Nat} {c : TC} (ho : Opn P c t) (hf : fs[i]? = some f) (ht : f.type = t) (hof : f.offset = o) (hk : P.cellsOf t = k) (hi : i < xs.length)
  (g : ∀ (i : Nat) (f : Field), fs[i]? = some f → DataW.trod en P w base spare held m f.type ((cs.drop f.offset).take (P.cellsOf f.type)) = xs[i]?) : ∃ x : U c, Wfd c x ∧ ∀ (F : Nat → Prop) (N : Nm) (nx : Nat), FB w F → HL F N nx w (enc c x) ((cs.drop o).take k) := by
 subst ht hof hk
 have := g i f hf
 rw [List.getElem?_eq_getElem hi] at this
 exact ho en w base spare held m _ _ this
theorem fldL {fs : Array Field} {cs : List Value} {m i : Nat} {xs : List (DataW H × List MemPlace)} {f : Field} {t : TypeId} {o k : Nat} {c : TC} (ho : OpnLs P c t) (hf : fs[i]? = some f) (ht : f.type = t) (hof : f.offset = o) (hk : P.cellsOf t = k) (hi : i < xs.length)
  (g : ∀ (i : Nat) (f : Field), fs[i]? = some f → DataW.trod en P w base spare held m f.type ((cs.drop f.offset).take (P.cellsOf f.type)) = xs[i]?) : ∃ l : List (U c), (l.length ≤ maxLen ∧ ∀ x ∈ l, Wfd c x) ∧ ∀ (F : Nat → Prop) (N : Nm) (nx : Nat), FB w F → HL F N nx w [.sl c l] ((cs.drop o).take k) := by
 subst ht hof hk
 have := g i f hf
 rw [List.getElem?_eq_getElem hi] at this
 exact ho en w base spare held m _ _ this
theorem arrO {cs : List Value} {m i n : Nat} {xs : List (DataW H × List MemPlace)} {t : TypeId} {k : Nat} {c : TC} (ho : Opn P c t) (hk : P.cellsOf t = k) (hx : i < xs.length) (hn : i < n)
  (g : ∀ (i : Nat), i < n → DataW.trod en P w base spare held m t ((cs.drop (i * P.cellsOf t)).take (P.cellsOf t)) = xs[i]?) : ∃ x : U c, Wfd c x ∧ ∀ (F : Nat → Prop) (N : Nm) (nx : Nat), FB w F → HL F N nx w (enc c x) ((cs.drop (i * k)).take k) := by
 subst hk
 have := g i hn
 rw [List.getElem?_eq_getElem hx] at this
 exact ho en w base spare held m _ _ this
theorem HLd {o k : Nat} {cs : List Value} {l r : List A} (h : HL F N nx w l ((cs.drop o).take k)) (h' : HL F N nx w r (cs.drop (o + k))) : HL F N nx w (l ++ r) (cs.drop o) := by
 have e : cs.drop o = (cs.drop o).take k ++ cs.drop (o + k) := by
  rw [← List.drop_drop, List.take_append_drop]
 rw [e]
 exact h.append h'
theorem HLe {o : Nat} {cs : List Value} (h : cs.length = o) : HL F N nx w [] (cs.drop o) := by
 rw [List.drop_eq_nil_of_le (by omega)]
 exact HL.nil
end
end Go.Proofs.Yteebobbhhgmeiaa
namespace Go.Proofs.Yteebobbhhgmeiaa
open Go.RowKit
theorem loop_inv {X : Type} {next : X → X} {goes : X → Cnd} {ps : X → List Prop} (I : X → Prop) (m : X → Nat) (h : ∀ x, I x → (∀ p ∈ ps x, p) ∧ (cval (goes x) = true → I (next x) ∧ m (next x) < m x)) :
  ∀ (n : Nat) (x : X), I x → m x ≤ n → needX next goes ps n x ∧ I (iterX next goes n x) ∧ cval (goes (iterX next goes n x)) = false
 | 0, x, hi, hm => by
  obtain ⟨h1, h2⟩ := h x hi
  have hg : cval (goes x) = false := by
   cases hc : cval (goes x) with
   | false => rfl
   | true => have := (h2 hc).2; omega
  exact ⟨⟨h1, hg⟩, hi, hg⟩
 | n + 1, x, hi, hm => by
  obtain ⟨h1, h2⟩ := h x hi
  cases hc : cval (goes x) with
  | false =>
   have e : iterX next goes (n + 1) x = x := by
    show (bif cval (goes x) then _ else x) = x
    rw [hc]; rfl
   rw [e]
   exact ⟨⟨h1, fun hh => by rw [hc] at hh; cases hh⟩, hi, hc⟩
  | true =>
   have e : iterX next goes (n + 1) x = iterX next goes n (next x) := by
    show (bif cval (goes x) then _ else x) = _
    rw [hc]; rfl
   obtain ⟨h3, h4⟩ := h2 hc
   obtain ⟨g1, g2, g3⟩ := loop_inv I m h n (next x) h3 (by omega)
   rw [e]
   exact ⟨⟨h1, fun _ => g1⟩, g2, g3⟩
theorem i64_in {n : Int} (h : -9223372036854775808 ≤ n ∧ n ≤ 9223372036854775807) : IntKind.i64.wrap n = n := IntWalk.i64_in n h
end Go.Proofs.Yteebobbhhgmeiaa
namespace Go.Proofs.Yteebobbhhgmeiaa
open Go.RowKit
def szN (n : Int) : Nat := if n < 0 ∨ n > 4611686018427387903 then 0 else if n ≥ 1073741824 then 8 else if n ≥ 16384 then 4 else if n ≥ 64 then 2 else 1
def be : Nat → Nat → List UInt8
 | 0, _ => []
 | k + 1, N => UInt8.ofNat (N / 256 ^ k) :: be k N
def tagN (k : Nat) : Nat := if k = 2 then 1 else if k = 4 then 2 else if k = 8 then 3 else 0
def putN (n : Int) : List UInt8 := be (szN n) (n.toNat + tagN (szN n) * (64 * 256 ^ (szN n - 1)))
def val (acc : Nat) (l : List UInt8) : Nat := l.foldl (fun a y => a * 256 + y.toNat) acc
def getN : List UInt8 → Int × Int × Int
 | [] => (0, 0, 10)
 | x :: r => if r.length + 1 < 2 ^ (x.toNat / 64) then (0, 0, 10) else if szN (val (x.toNat % 64) (r.take (2 ^ (x.toNat / 64) - 1))) < 2 ^ (x.toNat / 64) then (0, 0, 11) else ((val (x.toNat % 64) (r.take (2 ^ (x.toNat / 64) - 1)) : Int), ((2 ^ (x.toNat / 64) : Nat) : Int), 0)
theorem getN_cons (x : UInt8) (r : List UInt8) : getN (x :: r) = if r.length + 1 < 2 ^ (x.toNat / 64) then (0, 0, 10) else if szN (val (x.toNat % 64) (r.take (2 ^ (x.toNat / 64) - 1))) < 2 ^ (x.toNat / 64) then (0, 0, 11) else ((val (x.toNat % 64) (r.take (2 ^ (x.toNat / 64) - 1)) : Int), ((2 ^ (x.toNat / 64) : Nat) : Int), 0) := rfl
theorem be_length : ∀ (k N : Nat), (be k N).length = k
 | 0, _ => rfl
 | k + 1, N => by unfold be; rw [List.length_cons, be_length]
theorem val_cons (acc : Nat) (x : UInt8) (r : List UInt8) : val acc (x :: r) = val (acc * 256 + x.toNat) r := rfl
theorem val_acc : ∀ (l : List UInt8) (acc : Nat), val acc l = acc * 256 ^ l.length + val 0 l
 | [], acc => by show acc = acc * 256 ^ 0 + 0; omega
 | x :: r, acc => by
  rw [val_cons, val_cons, val_acc r, val_acc r (0 * 256 + x.toNat), List.length_cons, Nat.pow_succ, Nat.zero_mul, Nat.zero_add, Nat.add_mul, Nat.mul_assoc, Nat.mul_comm 256]
  omega
theorem val_lt : ∀ (l : List UInt8), val 0 l < 256 ^ l.length
 | [] => by show 0 < 256 ^ 0; decide
 | x :: r => by
  rw [val_cons, val_acc, List.length_cons, Nat.pow_succ, Nat.zero_mul, Nat.zero_add]
  have h1 := val_lt r
  have h2 : x.toNat + 1 ≤ 256 := x.toNat_lt
  have := Nat.mul_le_mul_right (256 ^ r.length) h2
  rw [Nat.add_mul, Nat.one_mul] at this
  rw [Nat.mul_comm (256 ^ r.length)]
  omega
theorem be_add : ∀ (k N a : Nat), be k (N + a * 256 ^ k) = be k N
 | 0, _, _ => rfl
 | k + 1, N, a => by
  unfold be
  have h : N + a * 256 ^ (k + 1) = N + a * 256 * 256 ^ k := by rw [Nat.pow_succ, Nat.mul_assoc, Nat.mul_comm (256 ^ k)]
  rw [h, be_add k N (a * 256), Nat.add_mul_div_right _ _ (Nat.pow_pos (by decide))]
  congr 1
  apply UInt8.toNat_inj.1
  rw [UInt8.toNat_ofNat', UInt8.toNat_ofNat']
  omega
theorem be_val : ∀ (l : List UInt8), be l.length (val 0 l) = l
 | [] => rfl
 | x :: r => by
  rw [List.length_cons]
  have e : val 0 (x :: r) = val 0 r + x.toNat * 256 ^ r.length := by
   rw [val_cons, val_acc, Nat.zero_mul, Nat.zero_add, Nat.add_comm]
  unfold be
  rw [e, be_add, be_val r, Nat.add_mul_div_right _ _ (Nat.pow_pos (by decide)), Nat.div_eq_of_lt (val_lt r), Nat.zero_add]
  congr 1
  exact UInt8.ofNat_toNat
theorem val_be : ∀ (k N acc : Nat), val acc (be k N) = acc * 256 ^ k + N % 256 ^ k
 | 0, N, acc => by show acc = acc * 256 ^ 0 + N % 256 ^ 0; omega
 | k + 1, N, acc => by
  unfold be
  have h8 : (UInt8.ofNat (N / 256 ^ k)).toNat = N / 256 ^ k % 256 := by rw [UInt8.toNat_ofNat']
  have hm := Nat.mod_pow_succ (x := N) (b := 256) (k := k)
  rw [val_cons, val_be k, h8, hm, Nat.pow_succ, Nat.add_mul, Nat.mul_assoc, Nat.mul_comm 256 (256 ^ k), Nat.mul_comm (256 ^ k) (N / 256 ^ k % 256)]
  omega
def szs (k : Nat) : Prop := k = 1 ∨ k = 2 ∨ k = 4 ∨ k = 8
theorem sz_ok {n : Int} (h0 : 0 ≤ n) (h1 : n ≤ 4611686018427387903) : szs (szN n) ∧ n.toNat < 64 * 256 ^ (szN n - 1) := by
 unfold szN szs
 rw [if_neg (by omega)]
 split
 ·exact ⟨by decide, by show n.toNat < 64 * 256 ^ 7; omega⟩
 ·split
  ·exact ⟨by decide, by show n.toNat < 64 * 256 ^ 3; omega⟩
  ·split
   ·exact ⟨by decide, by show n.toNat < 64 * 256 ^ 1; omega⟩
   ·exact ⟨by decide, by show n.toNat < 64 * 256 ^ 0; omega⟩
theorem sz_le {n k : Nat} (hk : szs k) (h : n < 64 * 256 ^ (k - 1)) : szN n ≤ k ∧ 1 ≤ szN n ∧ n ≤ 4611686018427387903 := by
 unfold szN
 rcases hk with rfl | rfl | rfl | rfl
 ·have h' : n < 64 := h
  rw [if_neg (by omega), if_neg (by omega), if_neg (by omega), if_neg (by omega)]; omega
 ·have h' : n < 64 * 256 := h
  rw [if_neg (by omega), if_neg (by omega), if_neg (by omega)]
  split <;> omega
 ·have h' : n < 64 * 256 ^ 3 := h
  have h'' : n < 1073741824 := by omega
  rw [if_neg (by omega), if_neg (by omega)]
  split
  ·omega
  ·split <;> omega
 ·have h' : n < 64 * 256 ^ 7 := h
  have h'' : n < 4611686018427387904 := by omega
  rw [if_neg (by omega)]
  split
  ·omega
  ·split
   ·omega
   ·split <;> omega
theorem tag_ok {k : Nat} (hk : szs k) : tagN k ≤ 3 ∧ 2 ^ tagN k = k := by
 rcases hk with rfl | rfl | rfl | rfl <;> decide
theorem tag_of {t : Nat} (h : t ≤ 3) : szs (2 ^ t) ∧ tagN (2 ^ t) = t := by
 match t, h with
 | 0, _ => exact ⟨by unfold szs; decide, rfl⟩
 | 1, _ => exact ⟨by unfold szs; decide, rfl⟩
 | 2, _ => exact ⟨by unfold szs; decide, rfl⟩
 | 3, _ => exact ⟨by unfold szs; decide, rfl⟩
 | n + 4, h => omega
theorem putN_length (n : Int) : (putN n).length = szN n := be_length _ _
theorem get_put {n : Int} (h0 : 0 ≤ n) (h1 : n ≤ 4611686018427387903) (r : List UInt8) : getN (putN n ++ r) = (n, (szN n : Int), 0) := by
 obtain ⟨hk, hn⟩ := sz_ok h0 h1
 unfold putN
 generalize hkk : szN n = k at *
 obtain ⟨m, rfl⟩ : ∃ m, k = m + 1 := ⟨k - 1, by unfold szs at hk; omega⟩
 obtain ⟨t1, t2⟩ := tag_ok hk
 generalize tagN (m + 1) = t at *
 rw [Nat.add_sub_cancel] at hn ⊢
 have hp : 0 < 256 ^ m := Nat.pow_pos (by decide)
 have e1 : (n.toNat + t * (64 * 256 ^ m)) / 256 ^ m = n.toNat / 256 ^ m + t * 64 := by rw [← Nat.mul_assoc, Nat.add_mul_div_right _ _ hp]
 have e2 : n.toNat / 256 ^ m < 64 := by rw [Nat.div_lt_iff_lt_mul hp]; exact hn
 have e3 : (n.toNat + t * (64 * 256 ^ m)) % 256 ^ m = n.toNat % 256 ^ m := by rw [← Nat.mul_assoc, Nat.add_mul_mod_self_right]
 unfold be
 rw [e1]
 have aux : ∀ q : Nat, q < 64 → (UInt8.ofNat (q + t * 64)).toNat = q + t * 64 ∧ (q + t * 64) / 64 = t ∧ (q + t * 64) % 64 = q := fun q hq => by
  rw [UInt8.toNat_ofNat']
  omega
 obtain ⟨hx, ht, hm⟩ := aux _ e2
 show getN (UInt8.ofNat (n.toNat / 256 ^ m + t * 64) :: (be m (n.toNat + t * (64 * 256 ^ m)) ++ r)) = _
 rw [getN_cons, hx, ht, hm, t2, Nat.add_sub_cancel]
 have hl : (be m (n.toNat + t * (64 * 256 ^ m)) ++ r).take m = be m (n.toNat + t * (64 * 256 ^ m)) := by
  rw [List.take_append_of_le_length (by rw [be_length]; exact Nat.le_refl _), List.take_of_length_le (by rw [be_length]; exact Nat.le_refl _)]
 rw [hl, val_be, e3]
 have hv : n.toNat / 256 ^ m * 256 ^ m + n.toNat % 256 ^ m = n.toNat := by rw [Nat.mul_comm]; exact Nat.div_add_mod _ _
 rw [hv, if_neg (by rw [List.length_append, be_length]; omega)]
 have hnn : (n.toNat : Int) = n := Int.toNat_of_nonneg h0
 rw [hnn, hkk, if_neg (by omega)]
theorem put_get {b : List UInt8} {n k : Int} (h : getN b = (n, k, 0)) : 0 ≤ n ∧ n ≤ 4611686018427387903 ∧ k = (szN n : Int) ∧ szN n ≤ b.length ∧ b.take (szN n) = putN n := by
 cases b with
 | nil => cases h
 | cons x r =>
  rw [getN_cons] at h
  split at h
  ·cases h
  ·rename_i hlen
   split at h
   ·cases h
   ·rename_i hsz
    have hxl : x.toNat < 256 := x.toNat_lt
    obtain ⟨k1, k2⟩ := tag_of (t := x.toNat / 64) (by omega)
    generalize hK : 2 ^ (x.toNat / 64) = K at *
    obtain ⟨m, rfl⟩ : ∃ m, K = m + 1 := ⟨K - 1, by unfold szs at k1; omega⟩
    rw [Nat.add_sub_cancel] at *
    have hrl : (r.take m).length = m := by rw [List.length_take]; omega
    have hv := val_acc (r.take m) (x.toNat % 64)
    have hlt := val_lt (r.take m)
    rw [hrl] at hv hlt
    generalize hN : val (x.toNat % 64) (r.take m) = M at *
    have hM : M < 64 * 256 ^ m := by
     have : x.toNat % 64 + 1 ≤ 64 := by omega
     have := Nat.mul_le_mul_right (256 ^ m) this
     rw [Nat.add_mul, Nat.one_mul] at this
     omega
    obtain ⟨s1, s2, s3⟩ := sz_le k1 (by rw [Nat.add_sub_cancel]; exact hM)
    have hs : szN (M : Int) = m + 1 := by omega
    injection h with h1 h
    injection h with h2 h3
    subst h1
    refine ⟨by omega, by omega, by rw [hs, ← h2], by rw [hs, List.length_cons]; omega, ?_⟩
    rw [hs]
    unfold putN
    rw [hs, k2, Nat.add_sub_cancel, Int.toNat_natCast]
    have e : M + x.toNat / 64 * (64 * 256 ^ m) = val 0 (x :: r.take m) := by
     rw [val_cons, Nat.zero_mul, Nat.zero_add, val_acc, hrl, hv, ← Nat.mul_assoc]
     have hx := Nat.div_add_mod x.toNat 64
     have : x.toNat * 256 ^ m = (x.toNat / 64 * 64 + x.toNat % 64) * 256 ^ m := by congr 1; omega
     rw [this, Nat.add_mul]
     omega
    rw [e]
    have hb := be_val (x :: r.take m)
    rw [List.length_cons, hrl] at hb
    rw [hb]
    rfl
theorem be_get : ∀ (k N i : Nat), i < k → (be k N)[i]? = some (UInt8.ofNat (N / 256 ^ (k - 1 - i)))
 | 0, _, _, h => by omega
 | k + 1, N, 0, _ => by unfold be; rfl
 | k + 1, N, i + 1, h => by
  unfold be
  rw [List.getElem?_cons_succ, be_get k N i (by omega)]
  have : k - 1 - i = k + 1 - 1 - (i + 1) := by omega
  rw [this]
theorem be_take {k N i : Nat} (h : i < k) : (be k N).take (i + 1) = (be k N).take i ++ [UInt8.ofNat (N / 256 ^ (k - 1 - i))] := by
 rw [List.take_add_one, be_get k N i h]
 rfl
theorem pow_256 (j : Nat) : (2 : Int) ^ (8 * j) = ((256 ^ j : Nat) : Int) := by
 rw [Int.pow_mul]
 norm_cast
theorem put_byte {n : Int} {k i : Nat} (hn : 0 ≤ n) (hk : k ≤ 8) (hi : i < k) :
  UInt8.ofNat (IntKind.u8.wrap (n.fdiv ((2 : Int) ^ min (IntKind.u64.wrap (IntKind.i64.wrap ((8 : Int) * IntKind.i64.wrap (IntKind.i64.wrap ((k : Int) - (1 : Int)) - (i : Int))))).toNat (64 : Nat)))).toNat = UInt8.ofNat (n.toNat / 256 ^ (k - 1 - i)) := by
 have e1 : IntKind.u64.wrap (IntKind.i64.wrap ((8 : Int) * IntKind.i64.wrap (IntKind.i64.wrap ((k : Int) - (1 : Int)) - (i : Int)))) = ((8 * (k - 1 - i) : Nat) : Int) := by
  rw [i64_in (n := (k : Int) - 1) (by omega), i64_in (n := (k : Int) - 1 - (i : Int)) (by omega), i64_in (by omega), IntWalk.u64_in _ (by omega)]
  omega
 rw [e1, Int.toNat_natCast, Nat.min_eq_left (by omega), pow_256]
 have e2 : n = (n.toNat : Int) := (Int.toNat_of_nonneg hn).symm
 have e3 : n.fdiv ((256 ^ (k - 1 - i) : Nat) : Int) = ((n.toNat / 256 ^ (k - 1 - i) : Nat) : Int) := by
  rw [Int.fdiv_eq_ediv_of_nonneg _ (Int.natCast_nonneg _)]
  conv => lhs; rw [e2]
  exact (Int.natCast_ediv _ _).symm
 rw [e3]
 generalize n.toNat / 256 ^ (k - 1 - i) = q
 have e4 : IntKind.u8.wrap (q : Int) = ((q % 256 : Nat) : Int) := by
  rw [IntKind.wrap_u8]
  omega
 rw [e4, Int.toNat_natCast]
 apply UInt8.toNat_inj.1
 rw [UInt8.toNat_ofNat', UInt8.toNat_ofNat']
 omega
theorem or_tag : ∀ (t : Fin 4) (q : Fin 64), (BitVec.ofInt 8 (q.val : Int) ||| BitVec.ofInt 8 ((64 * t.val : Nat) : Int)).toNat = q.val + t.val * 64 := by decide +kernel
theorem or_byte {q t : Nat} (hq : q < 64) (ht : t < 4) : UInt8.ofNat (IntKind.u8.wrap ((BitVec.ofInt 8 (((UInt8.ofNat q).toNat : Nat) : Int) ||| BitVec.ofInt 8 ((64 * t : Nat) : Int)).toNat : Int)).toNat = UInt8.ofNat (q + t * 64) := by
 have h1 : (UInt8.ofNat q).toNat = q := by rw [UInt8.toNat_ofNat']; omega
 rw [h1, or_tag ⟨t, ht⟩ ⟨q, hq⟩, IntWalk.u8_in _ (by show 0 ≤ ((q + t * 64 : Nat) : Int) ∧ ((q + t * 64 : Nat) : Int) ≤ 255; omega), Int.toNat_natCast]
theorem set_tag {m N t : Nat} (b : List UInt8) (hN : N < 64 * 256 ^ m) (ht : t < 4) (d : UInt8) :
  (b ++ be (m + 1) N).set b.length (UInt8.ofNat (IntKind.u8.wrap ((BitVec.ofInt 8 ((((b ++ be (m + 1) N).getD b.length d).toNat : Nat) : Int) ||| BitVec.ofInt 8 ((64 * t : Nat) : Int)).toNat : Int)).toNat) = b ++ be (m + 1) (N + t * (64 * 256 ^ m)) := by
 have hp : 0 < 256 ^ m := Nat.pow_pos (by decide)
 have e2 : N / 256 ^ m < 64 := by rw [Nat.div_lt_iff_lt_mul hp]; exact hN
 have e0 : be (m + 1) N = UInt8.ofNat (N / 256 ^ m) :: be m N := rfl
 have e1 : be (m + 1) (N + t * (64 * 256 ^ m)) = UInt8.ofNat (N / 256 ^ m + t * 64) :: be m N := by
  show UInt8.ofNat ((N + t * (64 * 256 ^ m)) / 256 ^ m) :: be m (N + t * (64 * 256 ^ m)) = _
  rw [← Nat.mul_assoc, be_add, Nat.add_mul_div_right _ _ hp]
 have hg : (b ++ be (m + 1) N).getD b.length d = UInt8.ofNat (N / 256 ^ m) := by
  rw [e0, List.getD_eq_getElem?_getD, List.getElem?_append_right (Nat.le_refl _), Nat.sub_self]
  rfl
 rw [hg, or_byte e2 ht, e0, e1, List.set_append_right _ _ (Nat.le_refl _), Nat.sub_self]
 rfl
theorem or_next {a : Nat} (ha : a < 64 * 256 ^ 6) {y : UInt8} : IntKind.i64.wrap ((BitVec.ofInt 64 (IntKind.i64.wrap ((a : Int) * 256)) ||| BitVec.ofInt 64 (IntKind.i64.wrap ((y.toNat : Nat) : Int))).toNat : Int) = ((a * 256 + y.toNat : Nat) : Int) := by
 have hy : y.toNat < 256 := y.toNat_lt
 have h6 : 64 * 256 ^ 6 = 18014398509481984 := by decide
 rw [h6] at ha
 rw [i64_in (n := (a : Int) * 256) (by omega), i64_in (n := ((y.toNat : Nat) : Int)) (by omega)]
 have e1 : (a : Int) * 256 = ((a * 256 : Nat) : Int) := by omega
 have e2 : (BitVec.ofInt 64 ((a * 256 : Nat) : Int) ||| BitVec.ofInt 64 ((y.toNat : Nat) : Int)).toNat = a * 256 + y.toNat := by
  rw [BitVec.toNat_or, BitVec.toNat_ofInt, BitVec.toNat_ofInt]
  have m1 : (((a * 256 : Nat) : Int) % ((2 ^ 64 : Nat) : Int)).toNat = 2 ^ 8 * a := by omega
  have m2 : (((y.toNat : Nat) : Int) % ((2 ^ 64 : Nat) : Int)).toNat = y.toNat := by omega
  rw [m1, m2, ← Nat.two_pow_add_eq_or_of_lt hy]
  omega
 rw [e1, e2, i64_in (by omega)]
theorem val_take (a : Nat) (L : List UInt8) (i : Nat) (h : i < L.length) {d : UInt8} : ((val a (L.take i) * 256 + (L.getD i d).toNat : Nat) : Int) = (val a (L.take (i + 1)) : Int) := by
 have e : L.take (i + 1) = L.take i ++ [L.getD i d] := by
  rw [List.take_add_one, List.getD_eq_getElem?_getD, List.getElem?_eq_getElem h]
  rfl
 rw [e]
 unfold val
 rw [List.foldl_append]
 rfl
theorem get_k (x : UInt8) : IntKind.i64.wrap ((1 : Int) * (2 : Int) ^ min ((((x.toNat : Nat) : Int)).fdiv (64 : Int)).toNat (64 : Nat)) = ((2 ^ (x.toNat / 64) : Nat) : Int) := by
 have hx : x.toNat < 256 := x.toNat_lt
 have e : ((((x.toNat : Nat) : Int)).fdiv (64 : Int)).toNat = x.toNat / 64 := by
  rw [Int.fdiv_eq_ediv_of_nonneg _ (by decide)]
  omega
 rw [e, Nat.min_eq_left (by omega)]
 have : x.toNat / 64 ≤ 3 := by omega
 generalize x.toNat / 64 = t at *
 match t, this with
 | 0, _ => rfl
 | 1, _ => rfl
 | 2, _ => rfl
 | 3, _ => rfl
 | n + 4, h => omega
theorem low_bits : ∀ q : Fin 256, (BitVec.ofInt 8 (q.val : Int) &&& BitVec.ofInt 8 63).toNat = q.val % 64 := by decide +kernel
theorem get_low (x : UInt8) : IntKind.i64.wrap (IntKind.u8.wrap ((BitVec.ofInt 8 ((x.toNat : Nat) : Int) &&& BitVec.ofInt 8 63).toNat : Int)) = ((x.toNat % 64 : Nat) : Int) := by
 have hx : x.toNat < 256 := x.toNat_lt
 rw [low_bits ⟨x.toNat, hx⟩, IntWalk.u8_in _ (by show 0 ≤ ((x.toNat % 64 : Nat) : Int) ∧ ((x.toNat % 64 : Nat) : Int) ≤ 255; omega), i64_in (by show -9223372036854775808 ≤ ((x.toNat % 64 : Nat) : Int) ∧ ((x.toNat % 64 : Nat) : Int) ≤ 9223372036854775807; omega)]
end Go.Proofs.Yteebobbhhgmeiaa
namespace Go.Proofs.Yteebobbhhgmeiaa
open Go.RowKit
def num_Size_k2 (a0 : Int) : Bool := !(decide (a0 < (0 : Int)) || decide (a0 > (4611686018427387903 : Int))) && (!decide (a0 ≥ (1073741824 : Int)) && decide (a0 ≥ (16384 : Int)))
def num_Size_k1 (a0 : Int) : Bool := !(decide (a0 < (0 : Int)) || decide (a0 > (4611686018427387903 : Int))) && (!decide (a0 ≥ (1073741824 : Int)) && (!decide (a0 ≥ (16384 : Int)) && decide (a0 ≥ (64 : Int))))
def num_Size_k0 (a0 : Int) : Bool := !(decide (a0 < (0 : Int)) || decide (a0 > (4611686018427387903 : Int))) && (!(!(decide (a0 < (0 : Int)) || decide (a0 > (4611686018427387903 : Int))) && decide (a0 ≥ (1073741824 : Int))) && (!(num_Size_k2 a0) && !(num_Size_k1 a0)))
def num_Size_0 (a0 : Int) : Int := bif !(!(decide (a0 < (0 : Int)) || decide (a0 > (4611686018427387903 : Int))) && decide (a0 ≥ (1073741824 : Int))) && (!(num_Size_k2 a0) && (!(num_Size_k1 a0) && !(num_Size_k0 a0))) then (0 : Int) else IntKind.i64.wrap ((bif (num_Size_k0 a0) then (0 : Int) else IntKind.i64.wrap ((bif (num_Size_k1 a0) then (0 : Int) else IntKind.i64.wrap ((bif (num_Size_k2 a0) then (0 : Int) else (4 : Int)) + (2 : Int))) + (1 : Int))) + (1 : Int))
def num_Size_r (a0 : Int) : A := .v (.int .i64 (num_Size_0 a0))
def num_Size_o (_a0 : Int) : Objs := []
def num_Size_ps (_a0 : Int) : List Prop := []
set_option maxRecDepth 100000 in
theorem num_Size_ev (a0 : Int) : evF (envT C0 L0) 9 157 [valA .i64 a0] 0 [] = some (1, num_Size_r a0, 0, num_Size_o a0, []) := by kernel_rfl
set_option maxRecDepth 100000 in
theorem num_Size_c (a0 : Int) (_hp : ∀ p ∈ num_Size_ps a0, p) : CallOk Try.prog 157 [valA .i64 a0] 0 [] 1 (num_Size_r a0) 0 (num_Size_o a0) := by
 exact evF_ok (envP_ok C0_ok L0_ok) (num_Size_ev a0) needs_nil
def num_Size_t : List A → Nat → Objs → Option CRes
 | [y0], nx, o => match argU .i64 y0 with
  | some (a0, p0) => some (1, (num_Size_r a0).pk (shiftR nx), nx + 0, shiftO nx (num_Size_o a0) ++ o, p0 ++ (num_Size_ps a0))
  | _ => none
 | _, _, _ => none
theorem num_Size_tok : TOk Try.prog 157 num_Size_t := fun args nx o k x nx' o' ps h => by
 unfold num_Size_t at h
 split at h <;> first | (cases h; done) | skip
 split at h <;> first | (cases h; done) | skip
 rename_i a0 p0 e0
 cases h
 refine ⟨fun hp => ?_, _, rfl⟩
 have q0 := fun p hm => hp p (List.mem_append.2 (.inl hm))
 have r0 := fun p hm => hp p (List.mem_append.2 (.inr hm))
 refine callOk_args (callOk_shift (num_Size_c a0 r0) (Nat.le_refl _) (freeL_cons (valA_free _ _) freeL_nil) nx o) fun F N R vs hl => ?_
 obtain ⟨v0, w0, rfl, h0, hl⟩ := hl.inv
 exact HL.cons (argU_ok e0 q0 h0) (hl)
noncomputable def Ca_1 := addC 157 num_Size_t C0
theorem Ca_1_ok : COk Try.prog Ca_1 := addC_ok num_Size_tok C0_ok
abbrev num_Put_l0_X : Type := Int × Int × Int × Int × (List UInt8)
def num_Put_l0_T (x : num_Put_l0_X) : St := ⟨59, 3, [(1, .v (.int .i64 x.1)), (5, .sq 2), (6, .v (.int .i64 x.2.1)), (16, .v (.int .i64 x.2.2.1)), (17, .v (.int .i64 x.2.2.2.1))], [(2, some (.arr 5 1 (.ty .u8 x.2.2.2.2)))]⟩
def num_Put_l0_un : St → Option num_Put_l0_X
 | ⟨59, 3, [(1, .v (.int .i64 z0)), (5, .sq 2), (6, .v (.int .i64 z1)), (16, .v (.int .i64 z2)), (17, .v (.int .i64 z3))], [(2, some (.arr 5 1 (.ty .u8 z4)))]⟩ => some (z0, z1, z2, z3, z4)
 | _ => none
theorem num_Put_l0_unok : ∀ s x, num_Put_l0_un s = some x → s = num_Put_l0_T x := fun s x h => by
 unfold num_Put_l0_un at h
 split at h
 ·cases h; rfl
 ·cases h
def num_Put_l0_S : Shape := ⟨2, 3, [1, 5, 6, 16, 17], [], [(4, 2)], [4], [5], [2]⟩
def num_Put_l0_E : Entry := ⟨[], [(1, 2)], [1, 5, 6, 16, 17], [1]⟩
def num_Put_l0_f_k0 (a0 : Int) (a1 : Int) (_a2 : Int) (a3 : Int) (_a4 : List UInt8) : Int := IntKind.u8.wrap (a0.fdiv ((2 : Int) ^ min (IntKind.u64.wrap (IntKind.i64.wrap ((8 : Int) * IntKind.i64.wrap (IntKind.i64.wrap (a1 - (1 : Int)) - a3)))).toNat (64 : Nat)))
def num_Put_l0_f_4 (a0 : Int) (a1 : Int) (a2 : Int) (a3 : Int) (a4 : List UInt8) : List UInt8 := a4 ++ [UInt8.ofNat (num_Put_l0_f_k0 a0 a1 a2 a3 a4).toNat]
def num_Put_l0_next (x : num_Put_l0_X) : num_Put_l0_X := (x.1, x.2.1, x.2.2.1, IntKind.i64.wrap (x.2.2.2.1 + (1 : Int)), num_Put_l0_f_4 x.1 x.2.1 x.2.2.1 x.2.2.2.1 x.2.2.2.2)
def num_Put_l0_goes (x : num_Put_l0_X) : Cnd := some (!!decide (x.2.2.2.1 < x.2.2.1))
def num_Put_l0_psA (x : num_Put_l0_X) : List Prop := [((!!decide (x.2.2.2.1 < x.2.2.1)) = true → (0 : Int) ≤ IntKind.u64.wrap (IntKind.i64.wrap ((8 : Int) * IntKind.i64.wrap (IntKind.i64.wrap (x.2.1 - (1 : Int)) - x.2.2.2.1)))), ((!!decide (x.2.2.2.1 < x.2.2.1)) = true → boundP (x.2.2.2.2.length + (1 : Nat))), ((!!decide (x.2.2.2.1 < x.2.2.1)) = true → (0 : Int) ≤ (num_Put_l0_f_k0 x.1 x.2.1 x.2.2.1 x.2.2.2.1 x.2.2.2.2) ∧ (num_Put_l0_f_k0 x.1 x.2.1 x.2.2.1 x.2.2.2.1 x.2.2.2.2) < (256 : Int))]
def num_Put_l0_ps (x : num_Put_l0_X) : List Prop := [((!!decide (x.2.2.2.1 < x.2.2.1)) = true → boundP (x.2.2.2.2.length + (1 : Nat)))]
def num_Put_l0_outs (x : num_Put_l0_X) : Outs := [(some 0, some (!decide (x.2.2.2.1 < x.2.2.1)), ⟨59, 3, [(5, .sq 2)], [(2, some (.arr 5 1 (.ty .u8 x.2.2.2.2)))]⟩)]
def num_Put_l0_fuel (x : num_Put_l0_X) : Nat := (x.2.2.1 - x.2.2.2.1).toNat
def num_Put_l0_run (x : num_Put_l0_X) : num_Put_l0_X := iterX num_Put_l0_next num_Put_l0_goes (num_Put_l0_fuel x) x
set_option maxRecDepth 100000 in
theorem num_Put_l0_ev (a0 : Int) (a1 : Int) (a2 : Int) (a3 : Int) (a4 : List UInt8) : roundE (envT Ca_1 L0) 9 (loopAt Try.prog 119 0) num_Put_l0_S (num_Put_l0_T (a0, a1, a2, a3, a4)) = some (num_Put_l0_psA (a0, a1, a2, a3, a4), num_Put_l0_outs (a0, a1, a2, a3, a4), num_Put_l0_goes (a0, a1, a2, a3, a4), num_Put_l0_T (num_Put_l0_next (a0, a1, a2, a3, a4))) := by kernel_rfl
set_option maxRecDepth 100000 in
theorem num_Put_l0_hA (a0 : Int) (a1 : Int) (a2 : Int) (a3 : Int) (a4 : List UInt8) (hp : ∀ p ∈ num_Put_l0_ps (a0, a1, a2, a3, a4), p) : ∀ p ∈ num_Put_l0_psA (a0, a1, a2, a3, a4), p := by
 have n0 : ((!!decide (a3 < a2)) = true → (0 : Int) ≤ IntKind.u64.wrap (IntKind.i64.wrap ((8 : Int) * IntKind.i64.wrap (IntKind.i64.wrap (a1 - (1 : Int)) - a3)))) := by intros; exact wrapU64 _
 have n1 : ((!!decide (a3 < a2)) = true → boundP (a4.length + (1 : Nat))) := hp _ (List.mem_cons_self ..)
 have n2 : ((!!decide (a3 < a2)) = true → (0 : Int) ≤ (num_Put_l0_f_k0 a0 a1 a2 a3 a4) ∧ (num_Put_l0_f_k0 a0 a1 a2 a3 a4) < (256 : Int)) := by intros; exact wrapU8 _
 exact (needs_cons n0 (needs_cons n1 (needs_cons n2 needs_nil)))
noncomputable def num_Put_l0_row := rowL (envT Ca_1 L0) (loopAt Try.prog 119 0) num_Put_l0_S num_Put_l0_E num_Put_l0_un num_Put_l0_fuel num_Put_l0_next num_Put_l0_goes num_Put_l0_ps num_Put_l0_outs
theorem num_Put_l0_rok : ∀ s b ps outs, num_Put_l0_row s = some (b, ps, outs) → Wf s ⟨ps, outs, none⟩ ∧ LoopOk (envT C0 L0) b s ps outs :=
 rowP_ok (T := num_Put_l0_T) Ca_1_ok L0_ok (u := 9) (by kernel_rfl) (by decide) (fun ⟨a0, a1, a2, a3, a4⟩ => num_Put_l0_ev a0 a1 a2 a3 a4) (fun ⟨a0, a1, a2, a3, a4⟩ => num_Put_l0_hA a0 a1 a2 a3 a4) num_Put_l0_unok (fun _ => okOuts_ok (n := 59) rfl) fun _ _ => rfl
noncomputable def num_Put_l0_L := addLp 0 num_Put_l0_row L0
theorem num_Put_l0_Lok : LpOk num_Put_l0_L := addLp_ok num_Put_l0_rok L0_ok
def num_Put_k7 (_a0 : List UInt8) (a1 : Int) : Bool := num_Size_0 a1 == (8 : Int)
def num_Put_k6 (_a0 : List UInt8) (a1 : Int) : Bool := num_Size_0 a1 == (4 : Int)
def num_Put_k5 (_a0 : List UInt8) (a1 : Int) : Bool := num_Size_0 a1 == (2 : Int)
def num_Put_k4 (a0 : List UInt8) (_a1 : Int) : Int := (↑([] ++ a0).length : Int)
def num_Put_k3 (a0 : List UInt8) (a1 : Int) : List UInt8 := (num_Put_l0_run (a1, num_Size_0 a1, num_Size_0 a1, (0 : Int), [] ++ a0)).snd.snd.snd.snd
def num_Put_k2 (a0 : List UInt8) (a1 : Int) : Int := IntKind.u8.wrap (↑(BitVec.ofInt (8 : Nat) (↑(UInt8.toNat ((num_Put_k3 a0 a1).getD (num_Put_k4 a0 a1).toNat (dflt TC.u8))) : Int) ||| BitVec.ofInt (8 : Nat) (192 : Int)).toNat : Int)
def num_Put_k1 (a0 : List UInt8) (a1 : Int) : Int := IntKind.u8.wrap (↑(BitVec.ofInt (8 : Nat) (↑(UInt8.toNat ((num_Put_k3 a0 a1).getD (num_Put_k4 a0 a1).toNat (dflt TC.u8))) : Int) ||| BitVec.ofInt (8 : Nat) (128 : Int)).toNat : Int)
def num_Put_k0 (a0 : List UInt8) (a1 : Int) : Int := IntKind.u8.wrap (↑(BitVec.ofInt (8 : Nat) (↑(UInt8.toNat ((num_Put_k3 a0 a1).getD (num_Put_k4 a0 a1).toNat (dflt TC.u8))) : Int) ||| BitVec.ofInt (8 : Nat) (64 : Int)).toNat : Int)
def num_Put_0 (a0 : List UInt8) (a1 : Int) : List UInt8 := bif (num_Put_k5 a0 a1) then (num_Put_k3 a0 a1).set (num_Put_k4 a0 a1).toNat (UInt8.ofNat (num_Put_k0 a0 a1).toNat) else bif (num_Put_k6 a0 a1) then (num_Put_k3 a0 a1).set (num_Put_k4 a0 a1).toNat (UInt8.ofNat (num_Put_k1 a0 a1).toNat) else bif (num_Put_k7 a0 a1) then (num_Put_k3 a0 a1).set (num_Put_k4 a0 a1).toNat (UInt8.ofNat (num_Put_k2 a0 a1).toNat) else (num_Put_k3 a0 a1)
def num_Put_r (_a0 : List UInt8) (_a1 : Int) : A := .sq 0
def num_Put_o (a0 : List UInt8) (a1 : Int) : Objs := [(0, some (.arr 5 1 (.ty .u8 (num_Put_0 a0 a1))))]
def num_Put_ps (a0 : List UInt8) (a1 : Int) : List Prop := [(boundP ((0 : Nat) + a0.length)), (needX num_Put_l0_next num_Put_l0_goes num_Put_l0_ps (num_Put_l0_fuel (a1, num_Size_0 a1, num_Size_0 a1, (0 : Int), [] ++ a0)) (a1, num_Size_0 a1, num_Size_0 a1, (0 : Int), [] ++ a0)), ((num_Put_k5 a0 a1) = true → (0 : Int) ≤ (num_Put_k4 a0 a1) ∧ (num_Put_k4 a0 a1) < (↑(num_Put_k3 a0 a1).length : Int)), ((num_Put_k5 a0 a1) = false → (num_Put_k6 a0 a1) = true → (0 : Int) ≤ (num_Put_k4 a0 a1) ∧ (num_Put_k4 a0 a1) < (↑(num_Put_k3 a0 a1).length : Int)), ((num_Put_k5 a0 a1) = false → (num_Put_k6 a0 a1) = false → (num_Put_k7 a0 a1) = true → (0 : Int) ≤ (num_Put_k4 a0 a1) ∧ (num_Put_k4 a0 a1) < (↑(num_Put_k3 a0 a1).length : Int))]
set_option maxRecDepth 100000 in
theorem num_Put_ev (a0 : List UInt8) (a1 : Int) : evF (envT Ca_1 num_Put_l0_L) 9 119 [valA .bytes a0, valA .i64 a1] 0 [] = some (1, num_Put_r a0 a1, 1, num_Put_o a0 a1, [(boundP ((0 : Nat) + a0.length)), (loopAt Try.prog (119 : FuncId) (0 : Nat) = loopAt Try.prog (119 : FuncId) (0 : Nat)), (needX num_Put_l0_next num_Put_l0_goes num_Put_l0_ps (num_Put_l0_fuel (a1, num_Size_0 a1, num_Size_0 a1, (0 : Int), [] ++ a0)) (a1, num_Size_0 a1, num_Size_0 a1, (0 : Int), [] ++ a0)), ((num_Put_k5 a0 a1) = true → (0 : Int) ≤ (num_Put_k4 a0 a1) ∧ (num_Put_k4 a0 a1) < (↑(num_Put_k3 a0 a1).length : Int)), ((num_Put_k5 a0 a1) = true → (num_Put_k4 a0 a1).toNat < (num_Put_k3 a0 a1).length), ((num_Put_k5 a0 a1) = true → (0 : Int) ≤ (num_Put_k4 a0 a1) ∧ (num_Put_k4 a0 a1) < (↑(num_Put_k3 a0 a1).length : Int)), ((num_Put_k5 a0 a1) = true → (num_Put_k4 a0 a1).toNat < (num_Put_k3 a0 a1).length), ((num_Put_k5 a0 a1) = true → (0 : Int) ≤ (num_Put_k0 a0 a1) ∧ (num_Put_k0 a0 a1) < (256 : Int)), ((num_Put_k5 a0 a1) = false → (num_Put_k6 a0 a1) = true → (0 : Int) ≤ (num_Put_k4 a0 a1) ∧ (num_Put_k4 a0 a1) < (↑(num_Put_k3 a0 a1).length : Int)), ((num_Put_k5 a0 a1) = false → (num_Put_k6 a0 a1) = true → (num_Put_k4 a0 a1).toNat < (num_Put_k3 a0 a1).length), ((num_Put_k5 a0 a1) = false → (num_Put_k6 a0 a1) = true → (0 : Int) ≤ (num_Put_k4 a0 a1) ∧ (num_Put_k4 a0 a1) < (↑(num_Put_k3 a0 a1).length : Int)), ((num_Put_k5 a0 a1) = false → (num_Put_k6 a0 a1) = true → (num_Put_k4 a0 a1).toNat < (num_Put_k3 a0 a1).length), ((num_Put_k5 a0 a1) = false → (num_Put_k6 a0 a1) = true → (0 : Int) ≤ (num_Put_k1 a0 a1) ∧ (num_Put_k1 a0 a1) < (256 : Int)), ((num_Put_k5 a0 a1) = false → (num_Put_k6 a0 a1) = false → (num_Put_k7 a0 a1) = true → (0 : Int) ≤ (num_Put_k4 a0 a1) ∧ (num_Put_k4 a0 a1) < (↑(num_Put_k3 a0 a1).length : Int)), ((num_Put_k5 a0 a1) = false → (num_Put_k6 a0 a1) = false → (num_Put_k7 a0 a1) = true → (num_Put_k4 a0 a1).toNat < (num_Put_k3 a0 a1).length), ((num_Put_k5 a0 a1) = false → (num_Put_k6 a0 a1) = false → (num_Put_k7 a0 a1) = true → (0 : Int) ≤ (num_Put_k4 a0 a1) ∧ (num_Put_k4 a0 a1) < (↑(num_Put_k3 a0 a1).length : Int)), ((num_Put_k5 a0 a1) = false → (num_Put_k6 a0 a1) = false → (num_Put_k7 a0 a1) = true → (num_Put_k4 a0 a1).toNat < (num_Put_k3 a0 a1).length), ((num_Put_k5 a0 a1) = false → (num_Put_k6 a0 a1) = false → (num_Put_k7 a0 a1) = true → (0 : Int) ≤ (num_Put_k2 a0 a1) ∧ (num_Put_k2 a0 a1) < (256 : Int))]) := by kernel_rfl
set_option maxRecDepth 100000 in
theorem num_Put_c (a0 : List UInt8) (a1 : Int) (hp : ∀ p ∈ num_Put_ps a0 a1, p) : CallOk Try.prog 119 [valA .bytes a0, valA .i64 a1] 0 [] 1 (num_Put_r a0 a1) 1 (num_Put_o a0 a1) := by
 have n0 : (boundP ((0 : Nat) + a0.length)) := hp _ (List.mem_cons_self ..)
 have n2 : (needX num_Put_l0_next num_Put_l0_goes num_Put_l0_ps (num_Put_l0_fuel (a1, num_Size_0 a1, num_Size_0 a1, (0 : Int), [] ++ a0)) (a1, num_Size_0 a1, num_Size_0 a1, (0 : Int), [] ++ a0)) := hp _ (List.mem_cons_of_mem _ (List.mem_cons_self ..))
 have n3 : ((num_Put_k5 a0 a1) = true → (0 : Int) ≤ (num_Put_k4 a0 a1) ∧ (num_Put_k4 a0 a1) < (↑(num_Put_k3 a0 a1).length : Int)) := hp _ (List.mem_cons_of_mem _ (List.mem_cons_of_mem _ (List.mem_cons_self ..)))
 have n4 : ((num_Put_k5 a0 a1) = true → (num_Put_k4 a0 a1).toNat < (num_Put_k3 a0 a1).length) := by intro h0; have g := n3 h0; omega
 have n7 : ((num_Put_k5 a0 a1) = true → (0 : Int) ≤ (num_Put_k0 a0 a1) ∧ (num_Put_k0 a0 a1) < (256 : Int)) := by intros; exact wrapU8 _
 have n8 : ((num_Put_k5 a0 a1) = false → (num_Put_k6 a0 a1) = true → (0 : Int) ≤ (num_Put_k4 a0 a1) ∧ (num_Put_k4 a0 a1) < (↑(num_Put_k3 a0 a1).length : Int)) := hp _ (List.mem_cons_of_mem _ (List.mem_cons_of_mem _ (List.mem_cons_of_mem _ (List.mem_cons_self ..))))
 have n9 : ((num_Put_k5 a0 a1) = false → (num_Put_k6 a0 a1) = true → (num_Put_k4 a0 a1).toNat < (num_Put_k3 a0 a1).length) := by intro h0 h1; have g := n8 h0 h1; omega
 have n12 : ((num_Put_k5 a0 a1) = false → (num_Put_k6 a0 a1) = true → (0 : Int) ≤ (num_Put_k1 a0 a1) ∧ (num_Put_k1 a0 a1) < (256 : Int)) := by intros; exact wrapU8 _
 have n13 : ((num_Put_k5 a0 a1) = false → (num_Put_k6 a0 a1) = false → (num_Put_k7 a0 a1) = true → (0 : Int) ≤ (num_Put_k4 a0 a1) ∧ (num_Put_k4 a0 a1) < (↑(num_Put_k3 a0 a1).length : Int)) := hp _ (List.mem_cons_of_mem _ (List.mem_cons_of_mem _ (List.mem_cons_of_mem _ (List.mem_cons_of_mem _ (List.mem_cons_self ..)))))
 have n14 : ((num_Put_k5 a0 a1) = false → (num_Put_k6 a0 a1) = false → (num_Put_k7 a0 a1) = true → (num_Put_k4 a0 a1).toNat < (num_Put_k3 a0 a1).length) := by intro h0 h1 h2; have g := n13 h0 h1 h2; omega
 have n17 : ((num_Put_k5 a0 a1) = false → (num_Put_k6 a0 a1) = false → (num_Put_k7 a0 a1) = true → (0 : Int) ≤ (num_Put_k2 a0 a1) ∧ (num_Put_k2 a0 a1) < (256 : Int)) := by intros; exact wrapU8 _
 exact evF_ok (envP_ok Ca_1_ok num_Put_l0_Lok) (num_Put_ev a0 a1) (needs_cons n0 (needs_cons rfl (needs_cons n2 (needs_cons n3 (needs_cons n4 (needs_cons n3 (needs_cons n4 (needs_cons n7 (needs_cons n8 (needs_cons n9 (needs_cons n8 (needs_cons n9 (needs_cons n12 (needs_cons n13 (needs_cons n14 (needs_cons n13 (needs_cons n14 (needs_cons n17 needs_nil))))))))))))))))))
def num_Put_r2 (_a0 : List UInt8) (_a1 : Int) : A := .sq 0
def num_Put_o2 (a0 : List UInt8) (a1 : Int) : Objs := [(0, some (.arr 5 1 (.ty .u8 (a0 ++ putN a1))))]
def num_Put_ps2 (a0 : List UInt8) (_a1 : Int) : List Prop := [boundP (a0.length + 8)]
theorem size_eq (n : Int) : num_Size_0 n = (szN n : Int) := by
 unfold num_Size_0 num_Size_k0 num_Size_k1 num_Size_k2 szN
 by_cases h0 : n < 0 ∨ n > 4611686018427387903
 ·have e : (decide (n < 0) || decide (n > 4611686018427387903)) = true := by simpa using h0
  rw [e, if_pos h0]; rfl
 ·have e : (decide (n < 0) || decide (n > 4611686018427387903)) = false := by
   rw [Bool.eq_false_iff]
   intro hh
   exact h0 (by simpa using hh)
  rw [e, if_neg h0]
  by_cases h1 : n ≥ 1073741824
  ·rw [if_pos h1, decide_eq_true h1]; rfl
  ·rw [if_neg h1, decide_eq_false h1]
   by_cases h2 : n ≥ 16384
   ·rw [if_pos h2, decide_eq_true h2]; rfl
   ·rw [if_neg h2, decide_eq_false h2]
    by_cases h3 : n ≥ 64
    ·rw [if_pos h3, decide_eq_true h3]; rfl
    ·rw [if_neg h3, decide_eq_false h3]; rfl
theorem sz_cases (n : Int) : szN n = 0 ∨ (0 ≤ n ∧ n ≤ 4611686018427387903 ∧ szs (szN n)) := by
 by_cases h : n < 0 ∨ n > 4611686018427387903
 ·left; unfold szN; rw [if_pos h]
 ·right; exact ⟨by omega, by omega, (sz_ok (by omega) (by omega)).1⟩
theorem put_loop (b : List UInt8) (n : Int) (hb : boundP (b.length + 8)) :
  needX num_Put_l0_next num_Put_l0_goes num_Put_l0_ps (num_Put_l0_fuel (n, num_Size_0 n, num_Size_0 n, 0, [] ++ b)) (n, num_Size_0 n, num_Size_0 n, 0, [] ++ b) ∧
  (num_Put_l0_run (n, num_Size_0 n, num_Size_0 n, 0, [] ++ b)).2.2.2.2 = b ++ be (szN n) n.toNat := by
 have hk8 : szN n ≤ 8 := by
  rcases sz_cases n with h | ⟨_, _, h⟩
  ·omega
  ·unfold szs at h; omega
 rw [size_eq]
 obtain ⟨h1, ⟨i, hi, h2⟩, h3⟩ := loop_inv (next := num_Put_l0_next) (goes := num_Put_l0_goes) (ps := num_Put_l0_ps)
  (fun x => ∃ i : Nat, i ≤ szN n ∧ x = (n, (szN n : Int), (szN n : Int), (i : Int), b ++ (be (szN n) n.toNat).take i)) num_Put_l0_fuel (by
   rintro x ⟨i, hi, rfl⟩
   refine ⟨needs_cons (fun hp => ?_) needs_nil, fun hg => ?_⟩
   ·have h' : (!!decide ((i : Int) < (szN n : Int))) = true := hp
    have hlt : i < szN n := by simpa using h'
    show boundP ((b ++ (be (szN n) n.toNat).take i).length + 1)
    unfold boundP at *
    rw [List.length_append, List.length_take, be_length]
    omega
   ·have h' : (!!decide ((i : Int) < (szN n : Int))) = true := hg
    have hlt : i < szN n := by simpa using h'
    have hw : IntKind.i64.wrap ((i : Int) + 1) = ((i + 1 : Nat) : Int) := by rw [i64_in (by omega)]; rfl
    have hn0 : 0 ≤ n := by rcases sz_cases n with h | ⟨h, _⟩ <;> omega
    refine ⟨⟨i + 1, hlt, ?_⟩, ?_⟩
    ·show (n, (szN n : Int), (szN n : Int), IntKind.i64.wrap ((i : Int) + 1), (b ++ (be (szN n) n.toNat).take i) ++ [UInt8.ofNat (IntKind.u8.wrap (n.fdiv ((2 : Int) ^ min (IntKind.u64.wrap (IntKind.i64.wrap ((8 : Int) * IntKind.i64.wrap (IntKind.i64.wrap ((szN n : Int) - (1 : Int)) - (i : Int))))).toNat (64 : Nat)))).toNat]) = _
     rw [hw, put_byte hn0 hk8 hlt, List.append_assoc, ← be_take hlt]
    ·show ((szN n : Int) - IntKind.i64.wrap ((i : Int) + 1)).toNat < ((szN n : Int) - (i : Int)).toNat
     rw [hw]
     omega) _ (n, (szN n : Int), (szN n : Int), 0, [] ++ b) ⟨0, Nat.zero_le _, by simp⟩ (Nat.le_refl _)
 refine ⟨h1, ?_⟩
 have h4 : num_Put_l0_run (n, (szN n : Int), (szN n : Int), 0, [] ++ b) = _ := h2
 rw [h2] at h3
 have h3' : (!!decide ((i : Int) < (szN n : Int))) = false := h3
 have hn : ¬ ((i : Int) < (szN n : Int)) := by simpa using h3'
 obtain rfl : i = szN n := by omega
 rw [h4, List.take_of_length_le (by rw [be_length]; exact Nat.le_refl _)]
theorem num_Put_eq (b : List UInt8) (n : Int) (hb : boundP (b.length + 8)) : (∀ p ∈ num_Put_ps b n, p) ∧ num_Put_0 b n = b ++ putN n := by
 obtain ⟨h1, h2⟩ := put_loop b n hb
 have h3 : num_Put_k3 b n = b ++ be (szN n) n.toNat := h2
 have h4 : (num_Put_k4 b n).toNat = b.length := rfl
 have hS := size_eq n
 have hlen : (b ++ be (szN n) n.toNat).length = b.length + szN n := by rw [List.length_append, be_length]
 have hpos : szN n ≠ 0 → (0 : Int) ≤ num_Put_k4 b n ∧ num_Put_k4 b n < ((num_Put_k3 b n).length : Int) := fun h0 => by
  rw [h3, hlen]
  show (0 : Int) ≤ (b.length : Int) ∧ (b.length : Int) < ((b.length + szN n : Nat) : Int)
  omega
 have sz2 : ∀ c : Int, c ≠ 0 → (num_Size_0 n == c) = true → szN n ≠ 0 := fun c hc h h0 => by
  rw [hS, h0] at h
  have h' : (0 : Int) = c := by simpa using h
  exact hc h'.symm
 refine ⟨needs_cons (by unfold boundP at *; omega) (needs_cons h1 (needs_cons (fun h => hpos (sz2 2 (by decide) h)) (needs_cons (fun _ h => hpos (sz2 4 (by decide) h)) (needs_cons (fun _ _ h => hpos (sz2 8 (by decide) h)) needs_nil)))), ?_⟩
 unfold num_Put_0
 rw [h3, h4]
 have k7 : num_Put_k5 b n = ((szN n : Int) == 2) := by show (num_Size_0 n == 2) = _; rw [hS]
 have k6 : num_Put_k6 b n = ((szN n : Int) == 4) := by show (num_Size_0 n == 4) = _; rw [hS]
 have k5 : num_Put_k7 b n = ((szN n : Int) == 8) := by show (num_Size_0 n == 8) = _; rw [hS]
 have b1 : num_Put_k0 b n = IntKind.u8.wrap ((BitVec.ofInt 8 ((((b ++ be (szN n) n.toNat).getD b.length (dflt TC.u8)).toNat : Nat) : Int) ||| BitVec.ofInt 8 ((64 * 1 : Nat) : Int)).toNat : Int) := by rw [← h3, ← h4]; rfl
 have b0 : num_Put_k1 b n = IntKind.u8.wrap ((BitVec.ofInt 8 ((((b ++ be (szN n) n.toNat).getD b.length (dflt TC.u8)).toNat : Nat) : Int) ||| BitVec.ofInt 8 ((64 * 2 : Nat) : Int)).toNat : Int) := by rw [← h3, ← h4]; rfl
 have b2 : num_Put_k2 b n = IntKind.u8.wrap ((BitVec.ofInt 8 ((((b ++ be (szN n) n.toNat).getD b.length (dflt TC.u8)).toNat : Nat) : Int) ||| BitVec.ofInt 8 ((64 * 3 : Nat) : Int)).toNat : Int) := by rw [← h3, ← h4]; rfl
 rw [k7, k6, k5, b1, b0, b2]
 unfold putN
 rcases sz_cases n with hz | ⟨g1, g2, g3⟩
 ·rw [hz]; rfl
 ·have hN := (sz_ok g1 g2).2
  generalize hk : szN n = k at *
  rcases g3 with rfl | rfl | rfl | rfl
  ·show b ++ be 1 n.toNat = b ++ be 1 (n.toNat + 0 * (64 * 256 ^ 0))
   rw [Nat.zero_mul, Nat.add_zero]
  ·exact set_tag (m := 1) (t := 1) b hN (by decide) _
  ·exact set_tag (m := 3) (t := 2) b hN (by decide) _
  ·exact set_tag (m := 7) (t := 3) b hN (by decide) _
theorem num_Put_c2 (a0 : List UInt8) (a1 : Int) (hp : ∀ p ∈ num_Put_ps2 a0 a1, p) : CallOk Try.prog 119 [valA .bytes a0, valA .i64 a1] 0 [] 1 (num_Put_r2 a0 a1) 1 (num_Put_o2 a0 a1) := by
 obtain ⟨h1, h2⟩ := num_Put_eq a0 a1 (hp _ (List.mem_cons_self ..))
 have h := num_Put_c a0 a1 h1
 have ho : num_Put_o a0 a1 = num_Put_o2 a0 a1 := by unfold num_Put_o num_Put_o2; rw [h2]
 rw [ho] at h
 exact h
def num_Put_t : List A → Nat → Objs → Option CRes
 | [y0, y1], nx, o => match argU .bytes y0, argU .i64 y1 with
  | some (a0, p0), some (a1, p1) => some (1, (num_Put_r2 a0 a1).pk (shiftR nx), nx + 1, shiftO nx (num_Put_o2 a0 a1) ++ o, p0 ++ (p1 ++ (num_Put_ps2 a0 a1)))
  | _, _ => none
 | _, _, _ => none
theorem num_Put_tok : TOk Try.prog 119 num_Put_t := fun args nx o k x nx' o' ps h => by
 unfold num_Put_t at h
 split at h <;> first | (cases h; done) | skip
 split at h <;> first | (cases h; done) | skip
 rename_i a0 p0 a1 p1 e0 e1
 cases h
 refine ⟨fun hp => ?_, _, rfl⟩
 have q0 := fun p hm => hp p (List.mem_append.2 (.inl hm))
 have r0 := fun p hm => hp p (List.mem_append.2 (.inr hm))
 have q1 := fun p hm => r0 p (List.mem_append.2 (.inl hm))
 have r1 := fun p hm => r0 p (List.mem_append.2 (.inr hm))
 refine callOk_args (callOk_shift (num_Put_c2 a0 a1 r1) (Nat.le_refl _) (freeL_cons (valA_free _ _) (freeL_cons (valA_free _ _) freeL_nil)) nx o) fun F N R vs hl => ?_
 obtain ⟨v0, w0, rfl, h0, hl⟩ := hl.inv
 obtain ⟨v1, w1, rfl, h1, hl⟩ := hl.inv
 exact HL.cons (argU_ok e0 q0 h0) (HL.cons (argU_ok e1 q1 h1) (hl))
noncomputable def Ca_2 := addC 119 num_Put_t Ca_1
theorem Ca_2_ok : COk Try.prog Ca_2 := addC_ok num_Put_tok Ca_1_ok
abbrev num_Get_l0_X : Type := Int × (List UInt8) × Int × Int
def num_Get_l0_T (x : num_Get_l0_X) : St := ⟨46, 0, [(6, .v (.int .i64 x.1)), (28, .sl .u8 x.2.1), (29, .v (.int .i64 x.2.2.1)), (30, .v (.int .i64 x.2.2.2))], []⟩
def num_Get_l0_un : St → Option num_Get_l0_X
 | ⟨46, 0, [(6, .v (.int .i64 z0)), (28, .sl .u8 z1), (29, .v (.int .i64 z2)), (30, .v (.int .i64 z3))], []⟩ => some (z0, z1, z2, z3)
 | _ => none
theorem num_Get_l0_unok : ∀ s x, num_Get_l0_un s = some x → s = num_Get_l0_T x := fun s x h => by
 unfold num_Get_l0_un at h
 split at h
 ·cases h; rfl
 ·cases h
def num_Get_l0_S : Shape := ⟨0, 0, [6, 28, 29, 30], [], [], [], [6], []⟩
def num_Get_l0_E : Entry := ⟨[], [], [6, 28, 29, 30], []⟩
def num_Get_l0_f_0 (a0 : Int) (a1 : List UInt8) (_a2 : Int) (a3 : Int) : Int := IntKind.i64.wrap (↑(BitVec.ofInt (64 : Nat) (IntKind.i64.wrap (a0 * (256 : Int))) ||| BitVec.ofInt (64 : Nat) (IntKind.i64.wrap (↑(UInt8.toNat (a1.getD a3.toNat (dflt TC.u8))) : Int))).toNat : Int)
def num_Get_l0_next (x : num_Get_l0_X) : num_Get_l0_X := (num_Get_l0_f_0 x.1 x.2.1 x.2.2.1 x.2.2.2, x.2.1, x.2.2.1, IntKind.i64.wrap (x.2.2.2 + (1 : Int)))
def num_Get_l0_goes (x : num_Get_l0_X) : Cnd := some (!!decide (x.2.2.2 < x.2.2.1))
def num_Get_l0_psA (x : num_Get_l0_X) : List Prop := [((!!decide (x.2.2.2 < x.2.2.1)) = true → (0 : Int) ≤ x.2.2.2 ∧ x.2.2.2 < (↑x.2.1.length : Int))]
def num_Get_l0_ps (x : num_Get_l0_X) : List Prop := [((!!decide (x.2.2.2 < x.2.2.1)) = true → (0 : Int) ≤ x.2.2.2 ∧ x.2.2.2 < (↑x.2.1.length : Int))]
def num_Get_l0_outs (x : num_Get_l0_X) : Outs := [(some 0, some (!decide (x.2.2.2 < x.2.2.1)), ⟨46, 0, [(6, .v (.int .i64 x.1))], []⟩)]
def num_Get_l0_fuel (x : num_Get_l0_X) : Nat := (x.2.2.1 - x.2.2.2).toNat
def num_Get_l0_run (x : num_Get_l0_X) : num_Get_l0_X := iterX num_Get_l0_next num_Get_l0_goes (num_Get_l0_fuel x) x
set_option maxRecDepth 100000 in
theorem num_Get_l0_ev (a0 : Int) (a1 : List UInt8) (a2 : Int) (a3 : Int) : roundE (envT Ca_2 L0) 9 (loopAt Try.prog 114 0) num_Get_l0_S (num_Get_l0_T (a0, a1, a2, a3)) = some (num_Get_l0_psA (a0, a1, a2, a3), num_Get_l0_outs (a0, a1, a2, a3), num_Get_l0_goes (a0, a1, a2, a3), num_Get_l0_T (num_Get_l0_next (a0, a1, a2, a3))) := by kernel_rfl
set_option maxRecDepth 100000 in
theorem num_Get_l0_hA (a0 : Int) (a1 : List UInt8) (a2 : Int) (a3 : Int) (hp : ∀ p ∈ num_Get_l0_ps (a0, a1, a2, a3), p) : ∀ p ∈ num_Get_l0_psA (a0, a1, a2, a3), p := by
 have n0 : ((!!decide (a3 < a2)) = true → (0 : Int) ≤ a3 ∧ a3 < (↑a1.length : Int)) := hp _ (List.mem_cons_self ..)
 exact (needs_cons n0 needs_nil)
noncomputable def num_Get_l0_row := rowL (envT Ca_2 L0) (loopAt Try.prog 114 0) num_Get_l0_S num_Get_l0_E num_Get_l0_un num_Get_l0_fuel num_Get_l0_next num_Get_l0_goes num_Get_l0_ps num_Get_l0_outs
theorem num_Get_l0_rok : ∀ s b ps outs, num_Get_l0_row s = some (b, ps, outs) → Wf s ⟨ps, outs, none⟩ ∧ LoopOk (envT C0 L0) b s ps outs :=
 rowP_ok (T := num_Get_l0_T) Ca_2_ok L0_ok (u := 9) (by kernel_rfl) (by decide) (fun ⟨a0, a1, a2, a3⟩ => num_Get_l0_ev a0 a1 a2 a3) (fun ⟨a0, a1, a2, a3⟩ => num_Get_l0_hA a0 a1 a2 a3) num_Get_l0_unok (fun _ => okOuts_ok (n := 46) rfl) fun _ _ => rfl
noncomputable def num_Get_l0_L := addLp 0 num_Get_l0_row L0
theorem num_Get_l0_Lok : LpOk num_Get_l0_L := addLp_ok num_Get_l0_rok L0_ok
def num_Get_k5 (a0 : List UInt8) : Int := (↑(UInt8.toNat (a0.getD (0 : Nat) (dflt TC.u8))) : Int)
def num_Get_k4 (a0 : List UInt8) : Bool := (↑a0.length : Int) == (0 : Int)
def num_Get_k3 (a0 : List UInt8) : Int := IntKind.i64.wrap ((1 : Int) * (2 : Int) ^ min ((num_Get_k5 a0).fdiv (64 : Int)).toNat (64 : Nat))
def num_Get_k2 (a0 : List UInt8) : List UInt8 := List.take ((num_Get_k3 a0).toNat - (1 : Nat)) (List.drop (1 : Nat) a0)
def num_Get_k1 (a0 : List UInt8) : Bool := decide ((↑a0.length : Int) < (num_Get_k3 a0))
def num_Get_k0 (a0 : List UInt8) : Bool := decide (num_Size_0 (num_Get_l0_run (IntKind.i64.wrap (IntKind.u8.wrap (↑(BitVec.ofInt (8 : Nat) (num_Get_k5 a0) &&& BitVec.ofInt (8 : Nat) (63 : Int)).toNat : Int)), (num_Get_k2 a0), (↑(num_Get_k2 a0).length : Int), (0 : Int))).fst < (num_Get_k3 a0))
def num_Get_0 (a0 : List UInt8) : Int := bif (num_Get_k4 a0) then (0 : Int) else bif (num_Get_k1 a0) then (0 : Int) else bif (num_Get_k0 a0) then (0 : Int) else (num_Get_l0_run (IntKind.i64.wrap (IntKind.u8.wrap (↑(BitVec.ofInt (8 : Nat) (num_Get_k5 a0) &&& BitVec.ofInt (8 : Nat) (63 : Int)).toNat : Int)), (num_Get_k2 a0), (↑(num_Get_k2 a0).length : Int), (0 : Int))).fst
def num_Get_1 (a0 : List UInt8) : Int := bif (num_Get_k4 a0) then (0 : Int) else bif (num_Get_k1 a0) then (0 : Int) else bif (num_Get_k0 a0) then (0 : Int) else (num_Get_k3 a0)
def num_Get_2 (a0 : List UInt8) : Int := bif (num_Get_k4 a0) then (10 : Int) else bif (num_Get_k1 a0) then (10 : Int) else bif (num_Get_k0 a0) then (11 : Int) else (0 : Int)
def num_Get_r (a0 : List UInt8) : A := .v (.tuple ⟨[.int .i64 (num_Get_0 a0), .int .i64 (num_Get_1 a0), .int .i64 (num_Get_2 a0)]⟩)
def num_Get_o (_a0 : List UInt8) : Objs := []
def num_Get_ps (a0 : List UInt8) : List Prop := [((!(num_Get_k4 a0)) = true → (0 : Int) ≤ (0 : Int) ∧ (0 : Int) < (↑a0.length : Int)), ((!(num_Get_k4 a0)) = true → (0 : Int) ≤ (num_Get_k5 a0).fdiv (64 : Int)), ((!(num_Get_k4 a0)) = true → (!(num_Get_k1 a0)) = true → (0 : Int) ≤ (0 : Int) ∧ (0 : Int) < (↑a0.length : Int)), ((!(num_Get_k4 a0)) = true → (!(num_Get_k1 a0)) = true → (0 : Int) ≤ (1 : Int) ∧ (1 : Int) ≤ (num_Get_k3 a0) ∧ (num_Get_k3 a0) ≤ (↑a0.length : Int)), ((!(num_Get_k4 a0)) = true → (!(num_Get_k1 a0)) = true → needX num_Get_l0_next num_Get_l0_goes num_Get_l0_ps (num_Get_l0_fuel (IntKind.i64.wrap (IntKind.u8.wrap (↑(BitVec.ofInt (8 : Nat) (num_Get_k5 a0) &&& BitVec.ofInt (8 : Nat) (63 : Int)).toNat : Int)), (num_Get_k2 a0), (↑(num_Get_k2 a0).length : Int), (0 : Int))) (IntKind.i64.wrap (IntKind.u8.wrap (↑(BitVec.ofInt (8 : Nat) (num_Get_k5 a0) &&& BitVec.ofInt (8 : Nat) (63 : Int)).toNat : Int)), (num_Get_k2 a0), (↑(num_Get_k2 a0).length : Int), (0 : Int)))]
set_option maxRecDepth 100000 in
theorem num_Get_ev (a0 : List UInt8) : evF (envT Ca_2 num_Get_l0_L) 9 114 [valA .bytes a0] 0 [] = some (1, num_Get_r a0, 0, num_Get_o a0, [((!(num_Get_k4 a0)) = true → (0 : Int) ≤ (0 : Int) ∧ (0 : Int) < (↑a0.length : Int)), ((!(num_Get_k4 a0)) = true → (0 : Int) ≤ (num_Get_k5 a0).fdiv (64 : Int)), ((!(num_Get_k4 a0)) = true → (!(num_Get_k1 a0)) = true → (0 : Int) ≤ (0 : Int) ∧ (0 : Int) < (↑a0.length : Int)), ((!(num_Get_k4 a0)) = true → (!(num_Get_k1 a0)) = true → (0 : Int) ≤ (1 : Int) ∧ (1 : Int) ≤ (num_Get_k3 a0) ∧ (num_Get_k3 a0) ≤ (↑a0.length : Int)), ((!(num_Get_k4 a0)) = true → (!(num_Get_k1 a0)) = true → loopAt Try.prog (114 : FuncId) (0 : Nat) = loopAt Try.prog (114 : FuncId) (0 : Nat)), ((!(num_Get_k4 a0)) = true → (!(num_Get_k1 a0)) = true → needX num_Get_l0_next num_Get_l0_goes num_Get_l0_ps (num_Get_l0_fuel (IntKind.i64.wrap (IntKind.u8.wrap (↑(BitVec.ofInt (8 : Nat) (num_Get_k5 a0) &&& BitVec.ofInt (8 : Nat) (63 : Int)).toNat : Int)), (num_Get_k2 a0), (↑(num_Get_k2 a0).length : Int), (0 : Int))) (IntKind.i64.wrap (IntKind.u8.wrap (↑(BitVec.ofInt (8 : Nat) (num_Get_k5 a0) &&& BitVec.ofInt (8 : Nat) (63 : Int)).toNat : Int)), (num_Get_k2 a0), (↑(num_Get_k2 a0).length : Int), (0 : Int)))]) := by kernel_rfl
set_option maxRecDepth 100000 in
theorem num_Get_c (a0 : List UInt8) (hp : ∀ p ∈ num_Get_ps a0, p) : CallOk Try.prog 114 [valA .bytes a0] 0 [] 1 (num_Get_r a0) 0 (num_Get_o a0) := by
 have n0 : ((!(num_Get_k4 a0)) = true → (0 : Int) ≤ (0 : Int) ∧ (0 : Int) < (↑a0.length : Int)) := hp _ (List.mem_cons_self ..)
 have n1 : ((!(num_Get_k4 a0)) = true → (0 : Int) ≤ (num_Get_k5 a0).fdiv (64 : Int)) := hp _ (List.mem_cons_of_mem _ (List.mem_cons_self ..))
 have n2 : ((!(num_Get_k4 a0)) = true → (!(num_Get_k1 a0)) = true → (0 : Int) ≤ (0 : Int) ∧ (0 : Int) < (↑a0.length : Int)) := hp _ (List.mem_cons_of_mem _ (List.mem_cons_of_mem _ (List.mem_cons_self ..)))
 have n3 : ((!(num_Get_k4 a0)) = true → (!(num_Get_k1 a0)) = true → (0 : Int) ≤ (1 : Int) ∧ (1 : Int) ≤ (num_Get_k3 a0) ∧ (num_Get_k3 a0) ≤ (↑a0.length : Int)) := hp _ (List.mem_cons_of_mem _ (List.mem_cons_of_mem _ (List.mem_cons_of_mem _ (List.mem_cons_self ..))))
 have n4 : ((!(num_Get_k4 a0)) = true → (!(num_Get_k1 a0)) = true → loopAt Try.prog (114 : FuncId) (0 : Nat) = loopAt Try.prog (114 : FuncId) (0 : Nat)) := by intros; rfl
 have n5 : ((!(num_Get_k4 a0)) = true → (!(num_Get_k1 a0)) = true → needX num_Get_l0_next num_Get_l0_goes num_Get_l0_ps (num_Get_l0_fuel (IntKind.i64.wrap (IntKind.u8.wrap (↑(BitVec.ofInt (8 : Nat) (num_Get_k5 a0) &&& BitVec.ofInt (8 : Nat) (63 : Int)).toNat : Int)), (num_Get_k2 a0), (↑(num_Get_k2 a0).length : Int), (0 : Int))) (IntKind.i64.wrap (IntKind.u8.wrap (↑(BitVec.ofInt (8 : Nat) (num_Get_k5 a0) &&& BitVec.ofInt (8 : Nat) (63 : Int)).toNat : Int)), (num_Get_k2 a0), (↑(num_Get_k2 a0).length : Int), (0 : Int))) := hp _ (List.mem_cons_of_mem _ (List.mem_cons_of_mem _ (List.mem_cons_of_mem _ (List.mem_cons_of_mem _ (List.mem_cons_self ..)))))
 exact evF_ok (envP_ok Ca_2_ok num_Get_l0_Lok) (num_Get_ev a0) (needs_cons n0 (needs_cons n1 (needs_cons n2 (needs_cons n3 (needs_cons n4 (needs_cons n5 needs_nil))))))
def num_Get_r2 (a0 : List UInt8) : A := .v (.tuple ⟨[.int .i64 (getN a0).1, .int .i64 (getN a0).2.1, .int .i64 (getN a0).2.2]⟩)
def num_Get_o2 (_a0 : List UInt8) : Objs := []
def num_Get_ps2 (_a0 : List UInt8) : List Prop := []
theorem get_loop (L : List UInt8) (h7 : L.length ≤ 7) (a : Nat) (ha : a < 64) :
  needX num_Get_l0_next num_Get_l0_goes num_Get_l0_ps (num_Get_l0_fuel ((a : Int), L, (L.length : Int), 0)) ((a : Int), L, (L.length : Int), 0) ∧
  (num_Get_l0_run ((a : Int), L, (L.length : Int), 0)).1 = (val a L : Int) := by
 obtain ⟨h1, ⟨i, hi, h2⟩, h3⟩ := loop_inv (next := num_Get_l0_next) (goes := num_Get_l0_goes) (ps := num_Get_l0_ps)
  (fun x => ∃ i : Nat, i ≤ L.length ∧ x = ((val a (L.take i) : Int), L, (L.length : Int), (i : Int))) num_Get_l0_fuel (by
   rintro x ⟨i, hi, rfl⟩
   refine ⟨needs_cons (fun hp => ?_) needs_nil, fun hg => ?_⟩
   ·have h' : (!!decide ((i : Int) < (L.length : Int))) = true := hp
    have hlt : (i : Int) < (L.length : Int) := by simpa using h'
    show (0 : Int) ≤ (i : Int) ∧ (i : Int) < (L.length : Int)
    exact ⟨by omega, hlt⟩
   ·have h' : (!!decide ((i : Int) < (L.length : Int))) = true := hg
    have hlt : i < L.length := by simpa using h'
    have hw : IntKind.i64.wrap ((i : Int) + 1) = ((i + 1 : Nat) : Int) := by rw [i64_in (by omega)]; rfl
    have hb : val a (L.take i) < 64 * 256 ^ 6 := by
     have hv := val_acc (L.take i) a
     have hl := val_lt (L.take i)
     have e : (L.take i).length = i := by rw [List.length_take]; omega
     rw [e] at hv hl
     have hm : 256 ^ i ≤ 256 ^ 6 := Nat.pow_le_pow_right (by decide) (by omega)
     have hq := Nat.mul_le_mul_right (256 ^ i) (show a + 1 ≤ 64 by omega)
     rw [Nat.add_mul, Nat.one_mul] at hq
     have hq2 := Nat.mul_le_mul_left 64 hm
     omega
    refine ⟨⟨i + 1, hlt, ?_⟩, ?_⟩
    ·show (IntKind.i64.wrap ((BitVec.ofInt 64 (IntKind.i64.wrap ((val a (L.take i) : Int) * 256)) ||| BitVec.ofInt 64 (IntKind.i64.wrap (((L.getD (i : Int).toNat (dflt TC.u8)).toNat : Nat) : Int))).toNat : Int), L, (L.length : Int), IntKind.i64.wrap ((i : Int) + 1)) = _
     rw [hw, or_next hb, Int.toNat_natCast, val_take _ _ _ hlt]
    ·show ((L.length : Int) - IntKind.i64.wrap ((i : Int) + 1)).toNat < ((L.length : Int) - (i : Int)).toNat
     rw [hw]
     omega) _ ((a : Int), L, (L.length : Int), 0) ⟨0, Nat.zero_le _, rfl⟩ (Nat.le_refl _)
 refine ⟨h1, ?_⟩
 have h4 : num_Get_l0_run ((a : Int), L, (L.length : Int), 0) = _ := h2
 rw [h2] at h3
 have h3' : (!!decide ((i : Int) < (L.length : Int))) = false := h3
 have hn : ¬ ((i : Int) < (L.length : Int)) := by simpa using h3'
 obtain rfl : i = L.length := by omega
 rw [h4, List.take_length]
theorem num_Get_eq (b : List UInt8) : (∀ p ∈ num_Get_ps b, p) ∧ num_Get_0 b = (getN b).1 ∧ num_Get_1 b = (getN b).2.1 ∧ num_Get_2 b = (getN b).2.2 := by
 cases b with
 | nil =>
  have no : (!(num_Get_k4 [])) = true → False := by intro h; cases h
  exact ⟨needs_cons (fun h => (no h).elim) (needs_cons (fun h => (no h).elim) (needs_cons (fun h => (no h).elim) (needs_cons (fun h => (no h).elim) (needs_cons (fun h => (no h).elim) needs_nil)))), rfl, rfl, rfl⟩
 | cons x r =>
  have hx : x.toNat < 256 := x.toNat_lt
  have k4 : num_Get_k4 (x :: r) = false := by
   show (((r.length + 1 : Nat) : Int) == 0) = false
   rw [Bool.eq_false_iff]
   intro h
   have : ((r.length + 1 : Nat) : Int) = 0 := by simpa using h
   omega
  have k3 : num_Get_k3 (x :: r) = ((2 ^ (x.toNat / 64) : Nat) : Int) := get_k x
  have t3 : x.toNat / 64 ≤ 3 := by omega
  have hK := (tag_of t3).1
  have k2 : num_Get_k2 (x :: r) = r.take (2 ^ (x.toNat / 64) - 1) := by
   show List.take ((num_Get_k3 (x :: r)).toNat - 1) r = _
   rw [k3, Int.toNat_natCast]
  have k1 : num_Get_k1 (x :: r) = decide (r.length + 1 < 2 ^ (x.toNat / 64)) := by
   show decide (((r.length + 1 : Nat) : Int) < num_Get_k3 (x :: r)) = _
   rw [k3]
   exact decide_eq_decide.2 Int.ofNat_lt
  have k6 : IntKind.i64.wrap (IntKind.u8.wrap ((BitVec.ofInt 8 (num_Get_k5 (x :: r)) &&& BitVec.ofInt 8 63).toNat : Int)) = ((x.toNat % 64 : Nat) : Int) := get_low x
  generalize hKK : 2 ^ (x.toNat / 64) = K at *
  have hlen : (r.take (K - 1)).length ≤ 7 := by rw [List.length_take]; unfold szs at hK; omega
  obtain ⟨n1, n2⟩ := get_loop (r.take (K - 1)) hlen (x.toNat % 64) (by omega)
  have k0 : num_Get_k0 (x :: r) = decide (szN (val (x.toNat % 64) (r.take (K - 1))) < K) := by
   unfold num_Get_k0
   rw [k6, k2, n2, size_eq, k3]
   exact decide_eq_decide.2 Int.ofNat_lt
  refine ⟨needs_cons (fun _ => ?_) (needs_cons (fun _ => ?_) (needs_cons (fun _ _ => (by show (0 : Int) ≤ 0 ∧ (0 : Int) < ((r.length + 1 : Nat) : Int); omega)) (needs_cons (fun _ h => ?_) (needs_cons (fun _ _ => ?_) needs_nil)))), ?_⟩
  ·show (0 : Int) ≤ 0 ∧ (0 : Int) < ((r.length + 1 : Nat) : Int)
   omega
  ·show (0 : Int) ≤ ((x.toNat : Nat) : Int).fdiv 64
   rw [Int.fdiv_eq_ediv_of_nonneg _ (by decide)]
   omega
  ·rw [k1] at h
   have h' : ¬ (r.length + 1 < K) := by simpa using h
   rw [k3]
   show (0 : Int) ≤ 1 ∧ (1 : Int) ≤ (K : Int) ∧ (K : Int) ≤ ((r.length + 1 : Nat) : Int)
   unfold szs at hK
   omega
  ·rw [k6, k2]
   exact n1
  ·unfold num_Get_0 num_Get_1 num_Get_2
   rw [k4, k1, k0, k6, k2, n2, k3, getN_cons, hKK]
   by_cases c1 : r.length + 1 < K
   ·rw [if_pos c1, decide_eq_true c1]; exact ⟨rfl, rfl, rfl⟩
   ·rw [if_neg c1, decide_eq_false c1]
    by_cases c2 : szN (val (x.toNat % 64) (r.take (K - 1))) < K
    ·rw [if_pos c2, decide_eq_true c2]; exact ⟨rfl, rfl, rfl⟩
    ·rw [if_neg c2, decide_eq_false c2]; exact ⟨rfl, rfl, rfl⟩
theorem num_Get_c2 (a0 : List UInt8) (_hp : ∀ p ∈ num_Get_ps2 a0, p) : CallOk Try.prog 114 [valA .bytes a0] 0 [] 1 (num_Get_r2 a0) 0 (num_Get_o2 a0) := by
 obtain ⟨h1, h2, h3, h4⟩ := num_Get_eq a0
 have h := num_Get_c a0 h1
 have hr : num_Get_r a0 = num_Get_r2 a0 := by unfold num_Get_r num_Get_r2; rw [h2, h3, h4]
 rw [hr] at h
 exact h
def num_Get_t : List A → Nat → Objs → Option CRes
 | [y0], nx, o => match argU .bytes y0 with
  | some (a0, p0) => some (1, (num_Get_r2 a0).pk (shiftR nx), nx + 0, shiftO nx (num_Get_o2 a0) ++ o, p0 ++ (num_Get_ps2 a0))
  | _ => none
 | _, _, _ => none
theorem num_Get_tok : TOk Try.prog 114 num_Get_t := fun args nx o k x nx' o' ps h => by
 unfold num_Get_t at h
 split at h <;> first | (cases h; done) | skip
 split at h <;> first | (cases h; done) | skip
 rename_i a0 p0 e0
 cases h
 refine ⟨fun hp => ?_, _, rfl⟩
 have q0 := fun p hm => hp p (List.mem_append.2 (.inl hm))
 have r0 := fun p hm => hp p (List.mem_append.2 (.inr hm))
 refine callOk_args (callOk_shift (num_Get_c2 a0 r0) (Nat.le_refl _) (freeL_cons (valA_free _ _) freeL_nil) nx o) fun F N R vs hl => ?_
 obtain ⟨v0, w0, rfl, h0, hl⟩ := hl.inv
 exact HL.cons (argU_ok e0 q0 h0) (hl)
noncomputable def Ca_3 := addC 114 num_Get_t Ca_2
theorem Ca_3_ok : COk Try.prog Ca_3 := addC_ok num_Get_tok Ca_2_ok
noncomputable def Ca := Ca_3
theorem Ca_ok : COk Try.prog Ca := Ca_3_ok
end Go.Proofs.Yteebobbhhgmeiaa
namespace Go.Proofs.Yteebobbhhgmeiaa
open Go.RowKit
def stamp_known_k0 (a0 : Int) : Bool := !a0 == (1 : Int)
def stamp_known_0 (a0 : Int) : Bool := bif !((stamp_known_k0 a0) && !((stamp_known_k0 a0) && a0 == (2 : Int))) then true else false
def stamp_known_r (a0 : Int) : A := .v (.bool (stamp_known_0 a0))
def stamp_known_o (_a0 : Int) : Objs := []
def stamp_known_ps (_a0 : Int) : List Prop := []
set_option maxRecDepth 100000 in
theorem stamp_known_ev (a0 : Int) : evF (envT Ca L0) 9 151 [valA .i64 a0] 0 [] = some (1, stamp_known_r a0, 0, stamp_known_o a0, []) := by kernel_rfl
set_option maxRecDepth 100000 in
theorem stamp_known_c (a0 : Int) (_hp : ∀ p ∈ stamp_known_ps a0, p) : CallOk Try.prog 151 [valA .i64 a0] 0 [] 1 (stamp_known_r a0) 0 (stamp_known_o a0) := by
 exact evF_ok (envP_ok Ca_ok L0_ok) (stamp_known_ev a0) needs_nil
def stamp_known_t : List A → Nat → Objs → Option CRes
 | [y0], nx, o => match argU .i64 y0 with
  | some (a0, p0) => some (1, (stamp_known_r a0).pk (shiftR nx), nx + 0, shiftO nx (stamp_known_o a0) ++ o, p0 ++ (stamp_known_ps a0))
  | _ => none
 | _, _, _ => none
theorem stamp_known_tok : TOk Try.prog 151 stamp_known_t := fun args nx o k x nx' o' ps h => by
 unfold stamp_known_t at h
 split at h <;> first | (cases h; done) | skip
 split at h <;> first | (cases h; done) | skip
 rename_i a0 p0 e0
 cases h
 refine ⟨fun hp => ?_, _, rfl⟩
 have q0 := fun p hm => hp p (List.mem_append.2 (.inl hm))
 have r0 := fun p hm => hp p (List.mem_append.2 (.inr hm))
 refine callOk_args (callOk_shift (stamp_known_c a0 r0) (Nat.le_refl _) (freeL_cons (valA_free _ _) freeL_nil) nx o) fun F N R vs hl => ?_
 obtain ⟨v0, w0, rfl, h0, hl⟩ := hl.inv
 exact HL.cons (argU_ok e0 q0 h0) (hl)
noncomputable def Cb_1 := addC 151 stamp_known_t Ca
theorem Cb_1_ok : COk Try.prog Cb_1 := addC_ok stamp_known_tok Ca_ok
def stamp_Good_0 (a0 : TStamp) : Bool := bif a0.1 == (0 : Int) && a0.2 == (0 : Int) then true else decide (a0.1 > (0 : Int)) && decide (a0.1 ≤ (281474976710656 : Int)) && stamp_known_0 a0.2
def stamp_Good_r (a0 : TStamp) : A := .v (.bool (stamp_Good_0 a0))
def stamp_Good_o (_a0 : TStamp) : Objs := []
def stamp_Good_ps (_a0 : TStamp) : List Prop := []
set_option maxRecDepth 100000 in
theorem stamp_Good_ev (a0 : TStamp) : evF (envT Cb_1 L0) 9 102 [valA .stamp a0] 0 [] = some (1, stamp_Good_r a0, 0, stamp_Good_o a0, []) := by kernel_rfl
set_option maxRecDepth 100000 in
theorem stamp_Good_c (a0 : TStamp) (_hp : ∀ p ∈ stamp_Good_ps a0, p) : CallOk Try.prog 102 [valA .stamp a0] 0 [] 1 (stamp_Good_r a0) 0 (stamp_Good_o a0) := by
 exact evF_ok (envP_ok Cb_1_ok L0_ok) (stamp_Good_ev a0) needs_nil
def stamp_Good_t : List A → Nat → Objs → Option CRes
 | [y0], nx, o => match argU .stamp y0 with
  | some (a0, p0) => some (1, (stamp_Good_r a0).pk (shiftR nx), nx + 0, shiftO nx (stamp_Good_o a0) ++ o, p0 ++ (stamp_Good_ps a0))
  | _ => none
 | _, _, _ => none
theorem stamp_Good_tok : TOk Try.prog 102 stamp_Good_t := fun args nx o k x nx' o' ps h => by
 unfold stamp_Good_t at h
 split at h <;> first | (cases h; done) | skip
 split at h <;> first | (cases h; done) | skip
 rename_i a0 p0 e0
 cases h
 refine ⟨fun hp => ?_, _, rfl⟩
 have q0 := fun p hm => hp p (List.mem_append.2 (.inl hm))
 have r0 := fun p hm => hp p (List.mem_append.2 (.inr hm))
 refine callOk_args (callOk_shift (stamp_Good_c a0 r0) (Nat.le_refl _) (freeL_cons (valA_free _ _) freeL_nil) nx o) fun F N R vs hl => ?_
 obtain ⟨v0, w0, rfl, h0, hl⟩ := hl.inv
 exact HL.cons (argU_ok e0 q0 h0) (hl)
noncomputable def Cb_2 := addC 102 stamp_Good_t Cb_1
theorem Cb_2_ok : COk Try.prog Cb_2 := addC_ok stamp_Good_tok Cb_1_ok
def r05_Good_0 (a0 : TStamp) : Bool := bif a0.1 == (0 : Int) && a0.2 == (0 : Int) then true else decide (a0.1 ≥ (1 : Int)) && decide (a0.1 ≤ (281474976710656 : Int)) && (a0.2 == (1 : Int) || a0.2 == (2 : Int))
def r05_Good_r (a0 : TStamp) : A := .v (.bool (r05_Good_0 a0))
def r05_Good_o (_a0 : TStamp) : Objs := []
def r05_Good_ps (_a0 : TStamp) : List Prop := []
set_option maxRecDepth 100000 in
theorem r05_Good_ev (a0 : TStamp) : evF (envT Cb_2 L0) 9 104 [valA .stamp a0] 0 [] = some (1, r05_Good_r a0, 0, r05_Good_o a0, []) := by kernel_rfl
set_option maxRecDepth 100000 in
theorem r05_Good_c (a0 : TStamp) (_hp : ∀ p ∈ r05_Good_ps a0, p) : CallOk Try.prog 104 [valA .stamp a0] 0 [] 1 (r05_Good_r a0) 0 (r05_Good_o a0) := by
 exact evF_ok (envP_ok Cb_2_ok L0_ok) (r05_Good_ev a0) needs_nil
def r05_Good_t : List A → Nat → Objs → Option CRes
 | [y0], nx, o => match argU .stamp y0 with
  | some (a0, p0) => some (1, (r05_Good_r a0).pk (shiftR nx), nx + 0, shiftO nx (r05_Good_o a0) ++ o, p0 ++ (r05_Good_ps a0))
  | _ => none
 | _, _, _ => none
theorem r05_Good_tok : TOk Try.prog 104 r05_Good_t := fun args nx o k x nx' o' ps h => by
 unfold r05_Good_t at h
 split at h <;> first | (cases h; done) | skip
 split at h <;> first | (cases h; done) | skip
 rename_i a0 p0 e0
 cases h
 refine ⟨fun hp => ?_, _, rfl⟩
 have q0 := fun p hm => hp p (List.mem_append.2 (.inl hm))
 have r0 := fun p hm => hp p (List.mem_append.2 (.inr hm))
 refine callOk_args (callOk_shift (r05_Good_c a0 r0) (Nat.le_refl _) (freeL_cons (valA_free _ _) freeL_nil) nx o) fun F N R vs hl => ?_
 obtain ⟨v0, w0, rfl, h0, hl⟩ := hl.inv
 exact HL.cons (argU_ok e0 q0 h0) (hl)
noncomputable def Cb_3 := addC 104 r05_Good_t Cb_2
theorem Cb_3_ok : COk Try.prog Cb_3 := addC_ok r05_Good_tok Cb_2_ok
def vec_Good_f1_0 (a0 : Int) (_a1 : Int) : Int := min (max a0 (0 : Int)) (1099511627776 : Int)
def vec_Good_f1_r (a0 : Int) (a1 : Int) : A := .v (.int .i64 (vec_Good_f1_0 a0 a1))
def vec_Good_f1_o (_a0 : Int) (_a1 : Int) : Objs := []
def vec_Good_f1_ps (_a0 : Int) (_a1 : Int) : List Prop := []
set_option maxRecDepth 100000 in
theorem vec_Good_f1_ev (a0 : Int) (a1 : Int) : evF (envT Cb_3 L0) 9 153 [valA .i64 a0, valA .i64 a1] 0 [] = some (1, vec_Good_f1_r a0 a1, 0, vec_Good_f1_o a0 a1, []) := by kernel_rfl
set_option maxRecDepth 100000 in
theorem vec_Good_f1_c (a0 : Int) (a1 : Int) (_hp : ∀ p ∈ vec_Good_f1_ps a0 a1, p) : CallOk Try.prog 153 [valA .i64 a0, valA .i64 a1] 0 [] 1 (vec_Good_f1_r a0 a1) 0 (vec_Good_f1_o a0 a1) := by
 exact evF_ok (envP_ok Cb_3_ok L0_ok) (vec_Good_f1_ev a0 a1) needs_nil
def vec_Good_f1_t : List A → Nat → Objs → Option CRes
 | [y0, y1], nx, o => match argU .i64 y0, argU .i64 y1 with
  | some (a0, p0), some (a1, p1) => some (1, (vec_Good_f1_r a0 a1).pk (shiftR nx), nx + 0, shiftO nx (vec_Good_f1_o a0 a1) ++ o, p0 ++ (p1 ++ (vec_Good_f1_ps a0 a1)))
  | _, _ => none
 | _, _, _ => none
theorem vec_Good_f1_tok : TOk Try.prog 153 vec_Good_f1_t := fun args nx o k x nx' o' ps h => by
 unfold vec_Good_f1_t at h
 split at h <;> first | (cases h; done) | skip
 split at h <;> first | (cases h; done) | skip
 rename_i a0 p0 a1 p1 e0 e1
 cases h
 refine ⟨fun hp => ?_, _, rfl⟩
 have q0 := fun p hm => hp p (List.mem_append.2 (.inl hm))
 have r0 := fun p hm => hp p (List.mem_append.2 (.inr hm))
 have q1 := fun p hm => r0 p (List.mem_append.2 (.inl hm))
 have r1 := fun p hm => r0 p (List.mem_append.2 (.inr hm))
 refine callOk_args (callOk_shift (vec_Good_f1_c a0 a1 r1) (Nat.le_refl _) (freeL_cons (valA_free _ _) (freeL_cons (valA_free _ _) freeL_nil)) nx o) fun F N R vs hl => ?_
 obtain ⟨v0, w0, rfl, h0, hl⟩ := hl.inv
 obtain ⟨v1, w1, rfl, h1, hl⟩ := hl.inv
 exact HL.cons (argU_ok e0 q0 h0) (HL.cons (argU_ok e1 q1 h1) (hl))
noncomputable def Cb_4 := addC 153 vec_Good_f1_t Cb_3
theorem Cb_4_ok : COk Try.prog Cb_4 := addC_ok vec_Good_f1_tok Cb_3_ok
def vec_Join_f1_r (a0 : Int) (a1 : Int) : A := .v (.int .i64 (max a0 a1))
def vec_Join_f1_o (_a0 : Int) (_a1 : Int) : Objs := []
def vec_Join_f1_ps (_a0 : Int) (_a1 : Int) : List Prop := []
set_option maxRecDepth 100000 in
theorem vec_Join_f1_ev (a0 : Int) (a1 : Int) : evF (envT Cb_4 L0) 9 154 [valA .i64 a0, valA .i64 a1] 0 [] = some (1, vec_Join_f1_r a0 a1, 0, vec_Join_f1_o a0 a1, []) := by kernel_rfl
set_option maxRecDepth 100000 in
theorem vec_Join_f1_c (a0 : Int) (a1 : Int) (_hp : ∀ p ∈ vec_Join_f1_ps a0 a1, p) : CallOk Try.prog 154 [valA .i64 a0, valA .i64 a1] 0 [] 1 (vec_Join_f1_r a0 a1) 0 (vec_Join_f1_o a0 a1) := by
 exact evF_ok (envP_ok Cb_4_ok L0_ok) (vec_Join_f1_ev a0 a1) needs_nil
def vec_Join_f1_t : List A → Nat → Objs → Option CRes
 | [y0, y1], nx, o => match argU .i64 y0, argU .i64 y1 with
  | some (a0, p0), some (a1, p1) => some (1, (vec_Join_f1_r a0 a1).pk (shiftR nx), nx + 0, shiftO nx (vec_Join_f1_o a0 a1) ++ o, p0 ++ (p1 ++ (vec_Join_f1_ps a0 a1)))
  | _, _ => none
 | _, _, _ => none
theorem vec_Join_f1_tok : TOk Try.prog 154 vec_Join_f1_t := fun args nx o k x nx' o' ps h => by
 unfold vec_Join_f1_t at h
 split at h <;> first | (cases h; done) | skip
 split at h <;> first | (cases h; done) | skip
 rename_i a0 p0 a1 p1 e0 e1
 cases h
 refine ⟨fun hp => ?_, _, rfl⟩
 have q0 := fun p hm => hp p (List.mem_append.2 (.inl hm))
 have r0 := fun p hm => hp p (List.mem_append.2 (.inr hm))
 have q1 := fun p hm => r0 p (List.mem_append.2 (.inl hm))
 have r1 := fun p hm => r0 p (List.mem_append.2 (.inr hm))
 refine callOk_args (callOk_shift (vec_Join_f1_c a0 a1 r1) (Nat.le_refl _) (freeL_cons (valA_free _ _) (freeL_cons (valA_free _ _) freeL_nil)) nx o) fun F N R vs hl => ?_
 obtain ⟨v0, w0, rfl, h0, hl⟩ := hl.inv
 obtain ⟨v1, w1, rfl, h1, hl⟩ := hl.inv
 exact HL.cons (argU_ok e0 q0 h0) (HL.cons (argU_ok e1 q1 h1) (hl))
noncomputable def Cb_5 := addC 154 vec_Join_f1_t Cb_4
theorem Cb_5_ok : COk Try.prog Cb_5 := addC_ok vec_Join_f1_tok Cb_4_ok
def vec_Meet_f1_r (a0 : Int) (a1 : Int) : A := .v (.int .i64 (min a0 a1))
def vec_Meet_f1_o (_a0 : Int) (_a1 : Int) : Objs := []
def vec_Meet_f1_ps (_a0 : Int) (_a1 : Int) : List Prop := []
set_option maxRecDepth 100000 in
theorem vec_Meet_f1_ev (a0 : Int) (a1 : Int) : evF (envT Cb_5 L0) 9 156 [valA .i64 a0, valA .i64 a1] 0 [] = some (1, vec_Meet_f1_r a0 a1, 0, vec_Meet_f1_o a0 a1, []) := by kernel_rfl
set_option maxRecDepth 100000 in
theorem vec_Meet_f1_c (a0 : Int) (a1 : Int) (_hp : ∀ p ∈ vec_Meet_f1_ps a0 a1, p) : CallOk Try.prog 156 [valA .i64 a0, valA .i64 a1] 0 [] 1 (vec_Meet_f1_r a0 a1) 0 (vec_Meet_f1_o a0 a1) := by
 exact evF_ok (envP_ok Cb_5_ok L0_ok) (vec_Meet_f1_ev a0 a1) needs_nil
def vec_Meet_f1_t : List A → Nat → Objs → Option CRes
 | [y0, y1], nx, o => match argU .i64 y0, argU .i64 y1 with
  | some (a0, p0), some (a1, p1) => some (1, (vec_Meet_f1_r a0 a1).pk (shiftR nx), nx + 0, shiftO nx (vec_Meet_f1_o a0 a1) ++ o, p0 ++ (p1 ++ (vec_Meet_f1_ps a0 a1)))
  | _, _ => none
 | _, _, _ => none
theorem vec_Meet_f1_tok : TOk Try.prog 156 vec_Meet_f1_t := fun args nx o k x nx' o' ps h => by
 unfold vec_Meet_f1_t at h
 split at h <;> first | (cases h; done) | skip
 split at h <;> first | (cases h; done) | skip
 rename_i a0 p0 a1 p1 e0 e1
 cases h
 refine ⟨fun hp => ?_, _, rfl⟩
 have q0 := fun p hm => hp p (List.mem_append.2 (.inl hm))
 have r0 := fun p hm => hp p (List.mem_append.2 (.inr hm))
 have q1 := fun p hm => r0 p (List.mem_append.2 (.inl hm))
 have r1 := fun p hm => r0 p (List.mem_append.2 (.inr hm))
 refine callOk_args (callOk_shift (vec_Meet_f1_c a0 a1 r1) (Nat.le_refl _) (freeL_cons (valA_free _ _) (freeL_cons (valA_free _ _) freeL_nil)) nx o) fun F N R vs hl => ?_
 obtain ⟨v0, w0, rfl, h0, hl⟩ := hl.inv
 obtain ⟨v1, w1, rfl, h1, hl⟩ := hl.inv
 exact HL.cons (argU_ok e0 q0 h0) (HL.cons (argU_ok e1 q1 h1) (hl))
noncomputable def Cb_6 := addC 156 vec_Meet_f1_t Cb_5
theorem Cb_6_ok : COk Try.prog Cb_6 := addC_ok vec_Meet_f1_tok Cb_5_ok
noncomputable def Cb_7 := addC 152 (inl (envT Cb_6 L0) 4 152) Cb_6
theorem Cb_7_ok : COk Try.prog Cb_7 := addC_ok (inl_ok (envP_ok Cb_6_ok L0_ok) 4 152) Cb_6_ok
def vec_Good_0 (a0 : TVec) : Bool := vec_Good_f1_0 a0.1 (0 : Int) == a0.1 && vec_Good_f1_0 a0.2 (0 : Int) == a0.2
def vec_Good_r (a0 : TVec) : A := .v (.bool (vec_Good_0 a0))
def vec_Good_o (_a0 : TVec) : Objs := []
def vec_Good_ps (_a0 : TVec) : List Prop := []
set_option maxRecDepth 100000 in
theorem vec_Good_ev (a0 : TVec) : evF (envT Cb_7 L0) 9 103 [valA .vec a0] 0 [] = some (1, vec_Good_r a0, 0, vec_Good_o a0, [((0 : Int) ≤ (0 : Int) ∧ (0 : Int) < (2 : Int)), ((0 : Nat) < (2 : Nat)), ((0 : Int) ≤ (0 : Int) ∧ (0 : Int) < (2 : Int)), ((0 : Nat) < (2 : Nat)), ((0 : Int) ≤ (0 : Int) ∧ (0 : Int) < (2 : Int)), ((0 : Nat) < (2 : Nat)), ((0 : Int) ≤ (1 : Int) ∧ (1 : Int) < (2 : Int)), ((1 : Nat) < (2 : Nat)), ((0 : Int) ≤ (1 : Int) ∧ (1 : Int) < (2 : Int)), ((1 : Nat) < (2 : Nat)), ((0 : Int) ≤ (1 : Int) ∧ (1 : Int) < (2 : Int)), ((1 : Nat) < (2 : Nat))]) := by kernel_rfl
set_option maxRecDepth 100000 in
theorem vec_Good_c (a0 : TVec) (_hp : ∀ p ∈ vec_Good_ps a0, p) : CallOk Try.prog 103 [valA .vec a0] 0 [] 1 (vec_Good_r a0) 0 (vec_Good_o a0) := by
 have n0 : ((0 : Int) ≤ (0 : Int) ∧ (0 : Int) < (2 : Int)) := by first | rfl | decide +kernel
 have n1 : ((0 : Nat) < (2 : Nat)) := by first | rfl | decide +kernel
 have n6 : ((0 : Int) ≤ (1 : Int) ∧ (1 : Int) < (2 : Int)) := by first | rfl | decide +kernel
 have n7 : ((1 : Nat) < (2 : Nat)) := by first | rfl | decide +kernel
 exact evF_ok (envP_ok Cb_7_ok L0_ok) (vec_Good_ev a0) (needs_cons n0 (needs_cons n1 (needs_cons n0 (needs_cons n1 (needs_cons n0 (needs_cons n1 (needs_cons n6 (needs_cons n7 (needs_cons n6 (needs_cons n7 (needs_cons n6 (needs_cons n7 needs_nil))))))))))))
def vec_Good_t : List A → Nat → Objs → Option CRes
 | [y0], nx, o => match argU .vec y0 with
  | some (a0, p0) => some (1, (vec_Good_r a0).pk (shiftR nx), nx + 0, shiftO nx (vec_Good_o a0) ++ o, p0 ++ (vec_Good_ps a0))
  | _ => none
 | _, _, _ => none
theorem vec_Good_tok : TOk Try.prog 103 vec_Good_t := fun args nx o k x nx' o' ps h => by
 unfold vec_Good_t at h
 split at h <;> first | (cases h; done) | skip
 split at h <;> first | (cases h; done) | skip
 rename_i a0 p0 e0
 cases h
 refine ⟨fun hp => ?_, _, rfl⟩
 have q0 := fun p hm => hp p (List.mem_append.2 (.inl hm))
 have r0 := fun p hm => hp p (List.mem_append.2 (.inr hm))
 refine callOk_args (callOk_shift (vec_Good_c a0 r0) (Nat.le_refl _) (freeL_cons (valA_free _ _) freeL_nil) nx o) fun F N R vs hl => ?_
 obtain ⟨v0, w0, rfl, h0, hl⟩ := hl.inv
 exact HL.cons (argU_ok e0 q0 h0) (hl)
noncomputable def Cb_8 := addC 103 vec_Good_t Cb_7
theorem Cb_8_ok : COk Try.prog Cb_8 := addC_ok vec_Good_tok Cb_7_ok
def vec_Meet_0 (a0 : TVec) (a1 : TVec) : TVec := TVec.mk (min a0.1 a1.1) (min a0.2 a1.2)
def vec_Meet_r (a0 : TVec) (a1 : TVec) : A := .v (.agg ⟨[.int .i64 ((vec_Meet_0 a0 a1).a), .int .i64 ((vec_Meet_0 a0 a1).b)]⟩)
def vec_Meet_o (_a0 : TVec) (_a1 : TVec) : Objs := []
def vec_Meet_ps (_a0 : TVec) (_a1 : TVec) : List Prop := []
set_option maxRecDepth 100000 in
theorem vec_Meet_ev (a0 : TVec) (a1 : TVec) : evF (envT Cb_8 L0) 9 112 [valA .vec a0, valA .vec a1] 0 [] = some (1, vec_Meet_r a0 a1, 0, vec_Meet_o a0 a1, [((0 : Int) ≤ (0 : Int) ∧ (0 : Int) < (2 : Int)), ((0 : Nat) < (2 : Nat)), ((0 : Int) ≤ (0 : Int) ∧ (0 : Int) < (2 : Int)), ((0 : Nat) < (2 : Nat)), ((0 : Int) ≤ (0 : Int) ∧ (0 : Int) < (2 : Int)), ((0 : Nat) < (2 : Nat)), ((0 : Int) ≤ (1 : Int) ∧ (1 : Int) < (2 : Int)), ((1 : Nat) < (2 : Nat)), ((0 : Int) ≤ (1 : Int) ∧ (1 : Int) < (2 : Int)), ((1 : Nat) < (2 : Nat)), ((0 : Int) ≤ (1 : Int) ∧ (1 : Int) < (2 : Int)), ((1 : Nat) < (2 : Nat))]) := by kernel_rfl
set_option maxRecDepth 100000 in
theorem vec_Meet_c (a0 : TVec) (a1 : TVec) (_hp : ∀ p ∈ vec_Meet_ps a0 a1, p) : CallOk Try.prog 112 [valA .vec a0, valA .vec a1] 0 [] 1 (vec_Meet_r a0 a1) 0 (vec_Meet_o a0 a1) := by
 have n0 : ((0 : Int) ≤ (0 : Int) ∧ (0 : Int) < (2 : Int)) := by first | rfl | decide +kernel
 have n1 : ((0 : Nat) < (2 : Nat)) := by first | rfl | decide +kernel
 have n6 : ((0 : Int) ≤ (1 : Int) ∧ (1 : Int) < (2 : Int)) := by first | rfl | decide +kernel
 have n7 : ((1 : Nat) < (2 : Nat)) := by first | rfl | decide +kernel
 exact evF_ok (envP_ok Cb_8_ok L0_ok) (vec_Meet_ev a0 a1) (needs_cons n0 (needs_cons n1 (needs_cons n0 (needs_cons n1 (needs_cons n0 (needs_cons n1 (needs_cons n6 (needs_cons n7 (needs_cons n6 (needs_cons n7 (needs_cons n6 (needs_cons n7 needs_nil))))))))))))
def vec_Meet_t : List A → Nat → Objs → Option CRes
 | [y0, y1], nx, o => match argU .vec y0, argU .vec y1 with
  | some (a0, p0), some (a1, p1) => some (1, (vec_Meet_r a0 a1).pk (shiftR nx), nx + 0, shiftO nx (vec_Meet_o a0 a1) ++ o, p0 ++ (p1 ++ (vec_Meet_ps a0 a1)))
  | _, _ => none
 | _, _, _ => none
theorem vec_Meet_tok : TOk Try.prog 112 vec_Meet_t := fun args nx o k x nx' o' ps h => by
 unfold vec_Meet_t at h
 split at h <;> first | (cases h; done) | skip
 split at h <;> first | (cases h; done) | skip
 rename_i a0 p0 a1 p1 e0 e1
 cases h
 refine ⟨fun hp => ?_, _, rfl⟩
 have q0 := fun p hm => hp p (List.mem_append.2 (.inl hm))
 have r0 := fun p hm => hp p (List.mem_append.2 (.inr hm))
 have q1 := fun p hm => r0 p (List.mem_append.2 (.inl hm))
 have r1 := fun p hm => r0 p (List.mem_append.2 (.inr hm))
 refine callOk_args (callOk_shift (vec_Meet_c a0 a1 r1) (Nat.le_refl _) (freeL_cons (valA_free _ _) (freeL_cons (valA_free _ _) freeL_nil)) nx o) fun F N R vs hl => ?_
 obtain ⟨v0, w0, rfl, h0, hl⟩ := hl.inv
 obtain ⟨v1, w1, rfl, h1, hl⟩ := hl.inv
 exact HL.cons (argU_ok e0 q0 h0) (HL.cons (argU_ok e1 q1 h1) (hl))
noncomputable def Cb_9 := addC 112 vec_Meet_t Cb_8
theorem Cb_9_ok : COk Try.prog Cb_9 := addC_ok vec_Meet_tok Cb_8_ok
def vec_Covers_0 (a0 : TVec) (a1 : TVec) : Bool := (vec_Meet_0 a0 a1).1 == a1.1 && (vec_Meet_0 a0 a1).2 == a1.2
def vec_Covers_r (a0 : TVec) (a1 : TVec) : A := .v (.bool (vec_Covers_0 a0 a1))
def vec_Covers_o (_a0 : TVec) (_a1 : TVec) : Objs := []
def vec_Covers_ps (_a0 : TVec) (_a1 : TVec) : List Prop := []
set_option maxRecDepth 100000 in
theorem vec_Covers_ev (a0 : TVec) (a1 : TVec) : evF (envT Cb_9 L0) 9 53 [valA .vec a0, valA .vec a1] 0 [] = some (1, vec_Covers_r a0 a1, 0, vec_Covers_o a0 a1, []) := by kernel_rfl
set_option maxRecDepth 100000 in
theorem vec_Covers_c (a0 : TVec) (a1 : TVec) (_hp : ∀ p ∈ vec_Covers_ps a0 a1, p) : CallOk Try.prog 53 [valA .vec a0, valA .vec a1] 0 [] 1 (vec_Covers_r a0 a1) 0 (vec_Covers_o a0 a1) := by
 exact evF_ok (envP_ok Cb_9_ok L0_ok) (vec_Covers_ev a0 a1) needs_nil
def vec_Covers_t : List A → Nat → Objs → Option CRes
 | [y0, y1], nx, o => match argU .vec y0, argU .vec y1 with
  | some (a0, p0), some (a1, p1) => some (1, (vec_Covers_r a0 a1).pk (shiftR nx), nx + 0, shiftO nx (vec_Covers_o a0 a1) ++ o, p0 ++ (p1 ++ (vec_Covers_ps a0 a1)))
  | _, _ => none
 | _, _, _ => none
theorem vec_Covers_tok : TOk Try.prog 53 vec_Covers_t := fun args nx o k x nx' o' ps h => by
 unfold vec_Covers_t at h
 split at h <;> first | (cases h; done) | skip
 split at h <;> first | (cases h; done) | skip
 rename_i a0 p0 a1 p1 e0 e1
 cases h
 refine ⟨fun hp => ?_, _, rfl⟩
 have q0 := fun p hm => hp p (List.mem_append.2 (.inl hm))
 have r0 := fun p hm => hp p (List.mem_append.2 (.inr hm))
 have q1 := fun p hm => r0 p (List.mem_append.2 (.inl hm))
 have r1 := fun p hm => r0 p (List.mem_append.2 (.inr hm))
 refine callOk_args (callOk_shift (vec_Covers_c a0 a1 r1) (Nat.le_refl _) (freeL_cons (valA_free _ _) (freeL_cons (valA_free _ _) freeL_nil)) nx o) fun F N R vs hl => ?_
 obtain ⟨v0, w0, rfl, h0, hl⟩ := hl.inv
 obtain ⟨v1, w1, rfl, h1, hl⟩ := hl.inv
 exact HL.cons (argU_ok e0 q0 h0) (HL.cons (argU_ok e1 q1 h1) (hl))
noncomputable def Cb_10 := addC 53 vec_Covers_t Cb_9
theorem Cb_10_ok : COk Try.prog Cb_10 := addC_ok vec_Covers_tok Cb_9_ok
def r06_Good_0 (a0 : TVec) : Bool := decide (a0.1 ≥ (0 : Int)) && decide (a0.1 ≤ (1099511627776 : Int)) && decide (a0.2 ≥ (0 : Int)) && decide (a0.2 ≤ (1099511627776 : Int))
def r06_Good_r (a0 : TVec) : A := .v (.bool (r06_Good_0 a0))
def r06_Good_o (_a0 : TVec) : Objs := []
def r06_Good_ps (_a0 : TVec) : List Prop := []
set_option maxRecDepth 100000 in
theorem r06_Good_ev (a0 : TVec) : evF (envT Cb_10 L0) 9 100 [valA .vec a0] 0 [] = some (1, r06_Good_r a0, 0, r06_Good_o a0, []) := by kernel_rfl
set_option maxRecDepth 100000 in
theorem r06_Good_c (a0 : TVec) (_hp : ∀ p ∈ r06_Good_ps a0, p) : CallOk Try.prog 100 [valA .vec a0] 0 [] 1 (r06_Good_r a0) 0 (r06_Good_o a0) := by
 exact evF_ok (envP_ok Cb_10_ok L0_ok) (r06_Good_ev a0) needs_nil
def r06_Good_t : List A → Nat → Objs → Option CRes
 | [y0], nx, o => match argU .vec y0 with
  | some (a0, p0) => some (1, (r06_Good_r a0).pk (shiftR nx), nx + 0, shiftO nx (r06_Good_o a0) ++ o, p0 ++ (r06_Good_ps a0))
  | _ => none
 | _, _, _ => none
theorem r06_Good_tok : TOk Try.prog 100 r06_Good_t := fun args nx o k x nx' o' ps h => by
 unfold r06_Good_t at h
 split at h <;> first | (cases h; done) | skip
 split at h <;> first | (cases h; done) | skip
 rename_i a0 p0 e0
 cases h
 refine ⟨fun hp => ?_, _, rfl⟩
 have q0 := fun p hm => hp p (List.mem_append.2 (.inl hm))
 have r0 := fun p hm => hp p (List.mem_append.2 (.inr hm))
 refine callOk_args (callOk_shift (r06_Good_c a0 r0) (Nat.le_refl _) (freeL_cons (valA_free _ _) freeL_nil) nx o) fun F N R vs hl => ?_
 obtain ⟨v0, w0, rfl, h0, hl⟩ := hl.inv
 exact HL.cons (argU_ok e0 q0 h0) (hl)
noncomputable def Cb_11 := addC 100 r06_Good_t Cb_10
theorem Cb_11_ok : COk Try.prog Cb_11 := addC_ok r06_Good_tok Cb_10_ok
def r06_Covers_0 (a0 : TVec) (a1 : TVec) : Bool := decide (a0.1 ≥ a1.1) && decide (a0.2 ≥ a1.2)
def r06_Covers_r (a0 : TVec) (a1 : TVec) : A := .v (.bool (r06_Covers_0 a0 a1))
def r06_Covers_o (_a0 : TVec) (_a1 : TVec) : Objs := []
def r06_Covers_ps (_a0 : TVec) (_a1 : TVec) : List Prop := []
set_option maxRecDepth 100000 in
theorem r06_Covers_ev (a0 : TVec) (a1 : TVec) : evF (envT Cb_11 L0) 9 107 [valA .vec a0, valA .vec a1] 0 [] = some (1, r06_Covers_r a0 a1, 0, r06_Covers_o a0 a1, []) := by kernel_rfl
set_option maxRecDepth 100000 in
theorem r06_Covers_c (a0 : TVec) (a1 : TVec) (_hp : ∀ p ∈ r06_Covers_ps a0 a1, p) : CallOk Try.prog 107 [valA .vec a0, valA .vec a1] 0 [] 1 (r06_Covers_r a0 a1) 0 (r06_Covers_o a0 a1) := by
 exact evF_ok (envP_ok Cb_11_ok L0_ok) (r06_Covers_ev a0 a1) needs_nil
def r06_Covers_t : List A → Nat → Objs → Option CRes
 | [y0, y1], nx, o => match argU .vec y0, argU .vec y1 with
  | some (a0, p0), some (a1, p1) => some (1, (r06_Covers_r a0 a1).pk (shiftR nx), nx + 0, shiftO nx (r06_Covers_o a0 a1) ++ o, p0 ++ (p1 ++ (r06_Covers_ps a0 a1)))
  | _, _ => none
 | _, _, _ => none
theorem r06_Covers_tok : TOk Try.prog 107 r06_Covers_t := fun args nx o k x nx' o' ps h => by
 unfold r06_Covers_t at h
 split at h <;> first | (cases h; done) | skip
 split at h <;> first | (cases h; done) | skip
 rename_i a0 p0 a1 p1 e0 e1
 cases h
 refine ⟨fun hp => ?_, _, rfl⟩
 have q0 := fun p hm => hp p (List.mem_append.2 (.inl hm))
 have r0 := fun p hm => hp p (List.mem_append.2 (.inr hm))
 have q1 := fun p hm => r0 p (List.mem_append.2 (.inl hm))
 have r1 := fun p hm => r0 p (List.mem_append.2 (.inr hm))
 refine callOk_args (callOk_shift (r06_Covers_c a0 a1 r1) (Nat.le_refl _) (freeL_cons (valA_free _ _) (freeL_cons (valA_free _ _) freeL_nil)) nx o) fun F N R vs hl => ?_
 obtain ⟨v0, w0, rfl, h0, hl⟩ := hl.inv
 obtain ⟨v1, w1, rfl, h1, hl⟩ := hl.inv
 exact HL.cons (argU_ok e0 q0 h0) (HL.cons (argU_ok e1 q1 h1) (hl))
noncomputable def Cb_12 := addC 107 r06_Covers_t Cb_11
theorem Cb_12_ok : COk Try.prog Cb_12 := addC_ok r06_Covers_tok Cb_11_ok
noncomputable def Cb := Cb_12
theorem Cb_ok : COk Try.prog Cb := Cb_12_ok
end Go.Proofs.Yteebobbhhgmeiaa
