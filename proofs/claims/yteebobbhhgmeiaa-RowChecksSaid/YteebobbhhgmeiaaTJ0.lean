/- A symbolic run over typed data, part J0: a row of one's own that is written no more. -/
import Derived.Test.YteebobbhhgmeiaaTI3
namespace Go.Proofs.Yteebobbhhgmeiaa
open Go.RowKit

mutual
def fzA (i : Nat) (c : TC) (l : List (U c)) : A → A
  | .sq j => bif Nat.beq j i then .sl c l else .sq j
  | .vw j sz lo n f => bif Nat.beq j i then (bif Nat.beq sz (size c) then .sl c ((l.drop lo).take n) else .dead) else .vw j sz lo n f
  | .el j k sz off => bif Nat.beq j i then .dead else .el j k sz off
  | .fn f xs ys => .fn f (fzL i c l xs) (fzL i c l ys)
  | .agg xs => .agg (fzL i c l xs)
  | .tup xs => .tup (fzL i c l xs)
  | .ref xs => .ref (fzL i c l xs)
  | .opt u b x => .opt u b (fzA i c l x)
  | .v x => .v x
  | .sl c' l' => .sl c' l'
  | .own j o => .own j o
  | .ownx j b n k => .ownx j b n k
  | .mp j => .mp j
  | .nl => .nl
  | .it q vs => .it q vs
  | .dead => .dead
def fzL (i : Nat) (c : TC) (l : List (U c)) : List A → List A
  | [] => []
  | x :: r => fzA i c l x :: fzL i c l r
end
mutual
def inA (i n : Nat) : A → List Prop
  | .vw j _ lo m _ => bif Nat.beq j i then [lo + m ≤ n] else []
  | .fn _ xs ys => inL i n xs ++ inL i n ys
  | .agg xs => inL i n xs
  | .tup xs => inL i n xs
  | .ref xs => inL i n xs
  | .opt _ _ x => inA i n x
  | _ => []
def inL (i n : Nat) : List A → List Prop
  | [] => []
  | x :: r => inA i n x ++ inL i n r
end
theorem fzL_get {i : Nat} {c : TC} {l : List (U c)} : ∀ {xs : List A} {j : Nat} {x : A}, (fzL i c l xs)[j]? = some x → ∃ y, xs[j]? = some y ∧ x = fzA i c l y
  | [], j, x, h => by unfold fzL at h; cases j <;> cases h
  | y :: r, 0, x, h => by unfold fzL at h; cases h; exact ⟨y, rfl, rfl⟩
  | y :: r, j + 1, x, h => by unfold fzL at h; exact fzL_get (xs := r) h
theorem fzL_length {i : Nat} {c : TC} {l : List (U c)} : ∀ xs : List A, (fzL i c l xs).length = xs.length
  | [] => by unfold fzL; rfl
  | y :: r => by unfold fzL; rw [List.length_cons, List.length_cons, fzL_length r]
theorem inL_get {i n : Nat} : ∀ {xs : List A} {j : Nat} {x : A}, xs[j]? = some x → ∀ p ∈ inA i n x, p ∈ inL i n xs
  | [], j, x, h => by cases j <;> cases h
  | y :: r, 0, x, h => by cases h; intro p hp; unfold inL; exact List.mem_append.2 (.inl hp)
  | y :: r, j + 1, x, h => by intro p hp; unfold inL; exact List.mem_append.2 (.inr (inL_get (xs := r) h p hp))
theorem enc_fz {i : Nat} {c : TC} {l : List (U c)} (c' : TC) (d : U c') : ∀ x ∈ enc c' d, fzA i c l x = x := fun x hx => by
  have := enc_plain c' d x hx
  cases x <;> first | (unfold fzA; rfl) | exact this.elim
theorem enc_in {i n : Nat} (c' : TC) (d : U c') : ∀ x ∈ enc c' d, inA i n x = [] := fun x hx => by
  have := enc_plain c' d x hx
  cases x <;> first | (unfold inA; rfl) | exact this.elim

section
variable {F F' : Nat → Prop} {N : Nm} {nx : Nat} {R : World}
/-- What is said stays true when more stays as it is. -/
theorem Ext.wide (h : ∀ g, F g → F' g) : Ext F N nx R F' N nx R := ⟨Nat.le_refl _, fun _ _ => rfl, fun _ _ => rfl, h, fun _ _ => rfl⟩
theorem fzA_ok {i : Nat} {c : TC} {l : List (U c)} (hrow : Hv F' N nx R (.sl c l) (N.q i)) (hpl : 0 < l.length → ∃ ad, ad = placeOf (N.q i) ∧ F' ad.block ∧ ∀ (k : Nat) (d : U c), l[k]? = some d → HC F' N nx R (enc c d) (ad.add (k * size c)))
    (hF : ∀ g, F g → F' g) {x : A} {y : Value} (h : Hv F N nx R x y) : (∀ p ∈ inA i l.length x, p) → Hv F' N nx R (fzA i c l x) y := by
  induction h with
  | v x => intro _; unfold fzA; exact .v x
  | @sl c' l' a cap ad h1 h2 h3 h4 ih =>
    intro _
    unfold fzA
    refine .sl ad h1 (fun hn => ⟨(h2 hn).1, hF _ (h2 hn).2⟩) h3 (fun k d j x y hd hx hy => ?_)
    have hm := List.mem_of_getElem? hx
    have := ih k d j x y hd hx hy (fun p hp => by rw [enc_in c' d x hm] at hp; cases hp)
    rwa [enc_fz c' d x hm] at this
  | @ref xs ad h1 h2 h3 ih =>
    intro hp
    unfold fzA
    unfold inA at hp
    refine .ref ad (hF _ h1) (fun j x hx => ?_) (fun j x y hx hy => ?_)
    · obtain ⟨z, hz, rfl⟩ := fzL_get hx; exact h2 j z hz
    · obtain ⟨z, hz, rfl⟩ := fzL_get hx; exact ih j z y hz hy fun p hm => hp p (inL_get hz p hm)
  | own h => intro _; unfold fzA; exact .own h
  | ownx h => intro _; unfold fzA; exact .ownx h
  | @sq j h =>
    intro _
    unfold fzA
    cases hb : Nat.beq j i with
    | true => obtain rfl := Nat.eq_of_beq_eq_true hb; exact hrow
    | false => exact .sq h
  | @vw j sz lo n f a cap h h1 h2 h3 =>
    intro hp
    unfold fzA
    cases hb : Nat.beq j i with
    | false => exact .vw h h1 h2 h3
    | true =>
      obtain rfl := Nat.eq_of_beq_eq_true hb
      cases hb2 : Nat.beq sz (size c) with
      | false => exact .dead _
      | true =>
        obtain rfl := Nat.eq_of_beq_eq_true hb2
        unfold inA at hp
        rw [hb] at hp
        have hle : lo + n ≤ l.length := hp _ (List.mem_singleton.2 rfl)
        have hlen : ((l.drop lo).take n).length = n := by rw [List.length_take, List.length_drop]; omega
        have main : Hv F' N nx R (.sl c ((l.drop lo).take n)) (.slice a ((l.drop lo).take n).length cap) := by
          refine Hv.of_sl (by omega) fun hn => ?_
          rw [hlen] at hn
          obtain ⟨ad, e1, e2, e3⟩ := hpl (by omega)
          refine ⟨ad.add (lo * size c), by rw [h3 hn, e1], by rw [add_block]; exact e2, fun k d hd => ?_⟩
          rw [add_add, ← Nat.add_mul]
          refine e3 (lo + k) d ?_
          rw [List.getElem?_take] at hd
          split at hd <;> first | (cases hd; done) | skip
          rwa [List.getElem?_drop] at hd
        rw [hlen] at main
        exact main
  | @el j k sz off h =>
    intro _
    unfold fzA
    cases hb : Nat.beq j i with
    | false => exact .el h
    | true => exact .dead _
  | mp h => intro _; unfold fzA; exact .mp h
  | nl a => intro _; unfold fzA; exact .nl a
  | it q vs y h => intro _; unfold fzA; exact .it q vs y h
  | fn vs us h1 _ h3 _ ih2 ih4 =>
    intro hp
    unfold fzA
    unfold inA at hp
    exact .fn vs us (by rw [fzL_length]; exact h1) (fun j x v hx hv => by obtain ⟨z, hz, rfl⟩ := fzL_get hx; exact ih2 j z v hz hv fun p hm => hp p (List.mem_append.2 (.inl (inL_get hz p hm)))) (by rw [fzL_length]; exact h3)
      (fun j x v hx hv => by obtain ⟨z, hz, rfl⟩ := fzL_get hx; exact ih4 j z v hz hv fun p hm => hp p (List.mem_append.2 (.inr (inL_get hz p hm))))
  | agg vs h1 _ ih =>
    intro hp
    unfold fzA
    unfold inA at hp
    exact .agg vs (by rw [fzL_length]; exact h1) (fun j x v hx hv => by obtain ⟨z, hz, rfl⟩ := fzL_get hx; exact ih j z v hz hv fun p hm => hp p (inL_get hz p hm))
  | tup vs h1 _ ih =>
    intro hp
    unfold fzA
    unfold inA at hp
    exact .tup vs (by rw [fzL_length]; exact h1) (fun j x v hx hv => by obtain ⟨z, hz, rfl⟩ := fzL_get hx; exact ih j z v hz hv fun p hm => hp p (inL_get hz p hm))
  | dead y => intro _; unfold fzA; exact .dead y
theorem fzL_ok {i : Nat} {c : TC} {l : List (U c)} {n : Nat} (hf : ∀ {x : A} {y : Value}, Hv F N nx R x y → (∀ p ∈ inA i n x, p) → Hv F' N nx R (fzA i c l x) y) : ∀ {xs : List A} {vs : List Value}, HL F N nx R xs vs → (∀ p ∈ inL i n xs, p) → HL F' N nx R (fzL i c l xs) vs
  | [], _, h, _ => by unfold fzL; exact h
  | x :: r, _, ⟨v, vs, h1, h2, h3⟩, hp => by
    unfold fzL
    unfold inL at hp
    exact ⟨v, vs, h1, hf h2 fun p hm => hp p (List.mem_append.2 (.inl hm)), fzL_ok hf h3 fun p hm => hp p (List.mem_append.2 (.inr hm))⟩
end

section
variable {F F' : Nat → Prop} {N : Nm} {nx : Nat} {R : World} {tm : Nat → Value}
theorem fzS_ok {i : Nat} {c : TC} {l : List (U c)} {n : Nat} (fz : ∀ {x : A} {y : Value}, Hv F N nx R x y → (∀ p ∈ inA i n x, p) → Hv F' N nx R (fzA i c l x) y) : ∀ {x : A} {y : Value}, HS F N nx R tm x y → (∀ p ∈ inA i n x, p) → HS F' N nx R tm (fzA i c l x) y
  | .opt u b x, _, h, hp => by
    unfold inA at hp
    unfold fzA
    simp only [HS] at h ⊢
    exact ⟨fun hb => fzS_ok fz (h.1 hb) hp, h.2⟩
  | .sq j, _, h, hp => (HS_plain (by unfold fzA; cases Nat.beq j i <;> rfl)).2 (fz ((HS_plain rfl).1 h) hp)
  | .vw j z _ _ _, _, h, hp => (HS_plain (by unfold fzA; cases Nat.beq j i <;> first | rfl | (cases Nat.beq z (size c) <;> rfl))).2 (fz ((HS_plain rfl).1 h) hp)
  | .el j _ _ _, _, h, hp => (HS_plain (by unfold fzA; cases Nat.beq j i <;> rfl)).2 (fz ((HS_plain rfl).1 h) hp)
  | .v _, _, h, hp => (HS_plain (by unfold fzA; rfl)).2 (fz ((HS_plain rfl).1 h) hp)
  | .sl _ _, _, h, hp => (HS_plain (by unfold fzA; rfl)).2 (fz ((HS_plain rfl).1 h) hp)
  | .ref _, _, h, hp => (HS_plain (by unfold fzA; rfl)).2 (fz ((HS_plain rfl).1 h) hp)
  | .own _ _, _, h, hp => (HS_plain (by unfold fzA; rfl)).2 (fz ((HS_plain rfl).1 h) hp)
  | .ownx _ _ _ _, _, h, hp => (HS_plain (by unfold fzA; rfl)).2 (fz ((HS_plain rfl).1 h) hp)
  | .mp _, _, h, hp => (HS_plain (by unfold fzA; rfl)).2 (fz ((HS_plain rfl).1 h) hp)
  | .nl, _, h, hp => (HS_plain (by unfold fzA; rfl)).2 (fz ((HS_plain rfl).1 h) hp)
  | .it _ _, _, h, hp => (HS_plain (by unfold fzA; rfl)).2 (fz ((HS_plain rfl).1 h) hp)
  | .fn _ _ _, _, h, hp => (HS_plain (by unfold fzA; rfl)).2 (fz ((HS_plain rfl).1 h) hp)
  | .agg _, _, h, hp => (HS_plain (by unfold fzA; rfl)).2 (fz ((HS_plain rfl).1 h) hp)
  | .tup _, _, h, hp => (HS_plain (by unfold fzA; rfl)).2 (fz ((HS_plain rfl).1 h) hp)
  | .dead, _, h, hp => (HS_plain (by unfold fzA; rfl)).2 (fz ((HS_plain rfl).1 h) hp)
end

def fzT (i : Nat) (c : TC) (l : List (U c)) : Slots → Slots
  | [] => []
  | (k, x) :: r => (k, fzA i c l x) :: fzT i c l r
def inT (i n : Nat) : Slots → List Prop
  | [] => []
  | (_, x) :: r => inA i n x ++ inT i n r
def fzLL (i : Nat) (c : TC) (l : List (U c)) : List (List A) → List (List A)
  | [] => []
  | x :: r => fzL i c l x :: fzLL i c l r
def inLL (i n : Nat) : List (List A) → List Prop
  | [] => []
  | x :: r => inL i n x ++ inLL i n r
def fzOb (i : Nat) (c : TC) (l : List (U c)) : Ob → Ob
  | .box e cs => .box e (fzL i c l cs)
  | .arr e sz (.lst cs) => .arr e sz (.lst (fzLL i c l cs))
  | .arr e sz (.ty c' l') => .arr e sz (.ty c' l')
  | .map k v m => .map k v m
  | .sit s p => .sit s p
def inOb (i n : Nat) : Ob → List Prop
  | .box _ cs => inL i n cs
  | .arr _ _ (.lst cs) => inLL i n cs
  | _ => []
def fzO (i : Nat) (c : TC) (l : List (U c)) : Objs → Objs
  | [] => []
  | (k, x) :: r => (k, bif Nat.beq k i then none else (match x with
    | some ob => some (fzOb i c l ob)
    | none => none)) :: fzO i c l r
def inO (i n : Nat) : Objs → List Prop
  | [] => []
  | (_, some ob) :: r => inOb i n ob ++ inO i n r
  | (_, none) :: r => inO i n r
def keysO : Objs → List Nat
  | [] => []
  | (k, _) :: r => k :: keysO r
theorem lookO_none {i : Nat} : ∀ {A B : Objs}, i ∉ keysO A → lookO i (A ++ B) = lookO i B
  | [], _, _ => rfl
  | (k, x) :: r, B, h => by
    have hk : Nat.beq k i = false := beq_ne fun e => h (by rw [e]; exact List.mem_cons_self ..)
    show (bif Nat.beq k i then x else lookO i (r ++ B)) = lookO i B
    rw [hk]
    exact lookO_none fun hm => h (List.mem_cons_of_mem _ hm)
theorem lookO_in {i : Nat} : ∀ {A B : Objs}, i ∈ keysO A → lookO i (A ++ B) = lookO i A
  | [], _, h => by cases h
  | (k, x) :: r, B, h => by
    show (bif Nat.beq k i then x else lookO i (r ++ B)) = (bif Nat.beq k i then x else lookO i r)
    cases hb : Nat.beq k i with
    | true => rfl
    | false =>
      rcases List.mem_cons.1 h with rfl | h
      · simp at hb
      · exact lookO_in h
theorem keysO_fz {i : Nat} {c : TC} {l : List (U c)} : ∀ {o : Objs}, keysO (fzO i c l o) = keysO o
  | [] => rfl
  | (k, x) :: r => by
    show k :: keysO (fzO i c l r) = k :: keysO r
    rw [keysO_fz]
def freezeS (E : Env) (i : Nat) (s : St) : Option (St × List Prop) := match lookO i s.o with
  | some (.arr e sz els) => match E.tc e with
    | some c => bif Nat.beq sz (size c) then (match elsTy c els with
      | some (l, ps) => some ({ s with t := fzT i c l s.t, o := fzO i c l s.o ++ s.o }, ps ++ (inT i l.length s.t ++ inO i l.length s.o))
      | none => none) else none
    | none => none
  | _ => none
theorem look_fzT {i : Nat} {c : TC} {l : List (U c)} {u : Nat} {x : A} : ∀ {t : Slots}, look u (fzT i c l t) = some x → ∃ y, look u t = some y ∧ x = fzA i c l y ∧ ∀ n, ∀ p ∈ inA i n y, p ∈ inT i n t
  | [], h => by cases h
  | (k, y) :: r, h => by
    have h' : (bif Nat.beq k u then some (fzA i c l y) else look u (fzT i c l r)) = some x := h
    show ∃ z, (bif Nat.beq k u then some y else look u r) = some z ∧ _ ∧ ∀ n, ∀ p ∈ inA i n z, p ∈ inA i n y ++ inT i n r
    cases hb : Nat.beq k u with
    | true => rw [hb] at h'; cases h'; exact ⟨y, rfl, rfl, fun n p hp => List.mem_append.2 (.inl hp)⟩
    | false =>
      rw [hb] at h'
      obtain ⟨z, h1, h2, h3⟩ := look_fzT h'
      exact ⟨z, h1, h2, fun n p hp => List.mem_append.2 (.inr (h3 n p hp))⟩
theorem lookO_fzO {i : Nat} {c : TC} {l : List (U c)} {j : Nat} {ob : Ob} : ∀ {o : Objs}, lookO j (fzO i c l o) = some ob → ∃ ob', lookO j o = some ob' ∧ ob = fzOb i c l ob' ∧ j ≠ i ∧ ∀ n, ∀ p ∈ inOb i n ob', p ∈ inO i n o
  | [], h => by cases h
  | (k, x) :: r, h => by
    have h' : (bif Nat.beq k j then (bif Nat.beq k i then none else (match x with | some ob => some (fzOb i c l ob) | none => none)) else lookO j (fzO i c l r)) = some ob := h
    show ∃ ob', (bif Nat.beq k j then x else lookO j r) = some ob' ∧ _ ∧ _ ∧ _
    cases hb : Nat.beq k j with
    | true =>
      rw [hb] at h'
      cases hi : Nat.beq k i with
      | true => rw [hi] at h'; cases h'
      | false =>
        rw [hi] at h'
        obtain rfl := Nat.eq_of_beq_eq_true hb
        cases x with
        | none => cases h'
        | some ob' =>
          cases h'
          exact ⟨ob', rfl, rfl, fun e => by subst e; simp at hi, fun n p hp => by show p ∈ inOb i n ob' ++ inO i n r; exact List.mem_append.2 (.inl hp)⟩
    | false =>
      rw [hb] at h'
      obtain ⟨ob', h1, h2, h3, h4⟩ := lookO_fzO h'
      refine ⟨ob', h1, h2, h3, fun n p hp => ?_⟩
      cases x with
      | none => exact h4 n p hp
      | some y => exact List.mem_append.2 (.inr (h4 n p hp))
theorem lookO_fz2 {i : Nat} {c : TC} {l : List (U c)} {j : Nat} {ob : Ob} {o : Objs} (h : lookO j (fzO i c l o ++ o) = some ob) : ∃ ob', lookO j o = some ob' ∧ ob = fzOb i c l ob' ∧ j ≠ i ∧ ∀ n, ∀ p ∈ inOb i n ob', p ∈ inO i n o := by
  by_cases hk : j ∈ keysO o
  · rw [lookO_in (by rw [keysO_fz]; exact hk)] at h
    exact lookO_fzO h
  · rw [lookO_none (by rw [keysO_fz]; exact hk)] at h
    have := lookO_none (A := o) (B := []) hk
    rw [List.append_nil] at this
    rw [this] at h
    cases h
theorem fzLL_nth {i : Nat} {c : TC} {l : List (U c)} : ∀ (cs : List (List A)) (k : Nat), nthL (fzLL i c l cs) k = fzL i c l (nthL cs k)
  | [], k => by unfold fzLL; cases k <;> (unfold nthL; unfold fzL; rfl)
  | x :: r, 0 => by unfold fzLL; rfl
  | x :: r, k + 1 => by unfold fzLL; exact fzLL_nth r k
theorem fzLL_length {i : Nat} {c : TC} {l : List (U c)} : ∀ (cs : List (List A)), (fzLL i c l cs).length = cs.length
  | [] => by unfold fzLL; rfl
  | x :: r => by unfold fzLL; rw [List.length_cons, List.length_cons, fzLL_length r]
theorem inLL_nth {i n : Nat} : ∀ (cs : List (List A)) (k : Nat), ∀ p ∈ inL i n (nthL cs k), p ∈ inLL i n cs
  | [], k, p, hp => by cases k <;> (unfold nthL at hp; unfold inL at hp; cases hp)
  | x :: r, 0, p, hp => by unfold inLL; exact List.mem_append.2 (.inl hp)
  | x :: r, k + 1, p, hp => by unfold inLL; exact List.mem_append.2 (.inr (inLL_nth r k p hp))

section
variable {E : Env} {Z : Base} {F : Nat → Prop} {N : Nm} {s s' : St} {a : Act} {R : World}
theorem freeze_sub {i : Nat} {ps : List Prop} (he : freezeS E i s = some (s', ps)) : s'.n = s.n ∧ ∃ d, s'.o = d ++ s.o := by
  unfold freezeS at he
  split at he <;> first | (cases he; done) | skip
  split at he <;> first | (cases he; done) | skip
  rename_i e sz els hl _ c hc
  cases hb : Nat.beq sz (size c) with
  | false => rw [hb] at he; cases he
  | true =>
    rw [hb] at he
    simp only [cond_true] at he
    split at he <;> first | (cases he; done) | skip
    cases he
    exact ⟨rfl, _, rfl⟩
/-- **A row that stays as it is from now on.** -/
theorem freeze_ok (h : Rel Z F N s a R) {i : Nat} {ps : List Prop} (he : freezeS E i s = some (s', ps)) (hp : ∀ p ∈ ps, p) : ∃ F', Rel Z F' N s' a R := by
  unfold freezeS at he
  split at he <;> first | (cases he; done) | skip
  rename_i e sz els hl
  split at he <;> first | (cases he; done) | skip
  rename_i c hc
  cases hb : Nat.beq sz (size c) with
  | false => rw [hb] at he; cases he
  | true =>
    rw [hb] at he
    simp only [cond_true] at he
    split at he <;> first | (cases he; done) | skip
    rename_i l qs hty
    cases he
    obtain rfl := Nat.eq_of_beq_eq_true hb
    have hp1 : ∀ p ∈ qs, p := fun p hm => hp p (List.mem_append.2 (.inl hm))
    have hp2 : ∀ p ∈ inT i l.length s.t, p := fun p hm => hp p (List.mem_append.2 (.inr (List.mem_append.2 (.inl hm))))
    have hp3 : ∀ p ∈ inO i l.length s.o, p := fun p hm => hp p (List.mem_append.2 (.inr (List.mem_append.2 (.inr hm))))
    obtain ⟨hi, zs, g1, g2⟩ := h.hp.ob i _ hl
    have hr : RowHL F N s.nx R (.ty c l) (size c) zs := (show RowHL F N s.nx R els (size c) zs from ⟨g1.1, g2⟩).ty hty hp1
    have hn : l.length = els.n := (elsTy_ok (F := F) (N := N) (nx := s.nx) (R := R) hty hp1).1
    let F' : Nat → Prop := fun g => F g ∨ blkOf (N.q i) = some g
    have hF : ∀ g, F g → F' g := fun g hg => .inl hg
    have hw : Ext F N s.nx R F' N s.nx R := Ext.wide hF
    have hpl : 0 < l.length → ∃ ad, ad = placeOf (N.q i) ∧ F' ad.block ∧ ∀ (k : Nat) (d : U c), l[k]? = some d → HC F' N s.nx R (enc c d) (ad.add (k * size c)) := fun hpos => by
      obtain ⟨g, cap, q1, _, q3, q4, q5⟩ := row_place g1 (by omega)
      refine ⟨_, rfl, by rw [q3]; exact .inr q4, fun k d hd => ?_⟩
      rw [q3, add_mk, Nat.zero_add]
      intro j x hx
      have hk : k < l.length := (List.getElem?_eq_some_iff.1 hd).1
      have hgd : l.getD k (dflt c) = d := by rw [List.getD_eq_getElem?_getD, hd]; rfl
      have h3 := hr.2 k hk
      have h4 : HL F N s.nx R (enc c d) ((zs.drop (k * size c)).take (size c)) := by
        have e1 : (Els.ty c l).nth k = enc c (l.getD k (dflt c)) := rfl
        rw [e1, hgd] at h3
        exact h3
      obtain ⟨v, hv, hx2⟩ := h4.get hx
      exact ⟨v, by rw [add_mk]; exact q5 _ v (slice_get hv), hx2.step hw⟩
    have hrow : Hv F' N s.nx R (.sl c l) (N.q i) := by
      obtain ⟨aa, cap, e1, e2⟩ := g1.form
      rw [e1, ← hn]
      refine Hv.of_sl (by omega) fun hpos => ?_
      obtain ⟨ad, q1, q2, q3⟩ := hpl hpos
      obtain ⟨g, cap', r1, _, r3, _, _⟩ := row_place g1 (by omega)
      refine ⟨ad, ?_, q2, q3⟩
      rw [e1] at r1
      cases r1
      rw [q1, e1]
      rfl
    have fz : ∀ {x : A} {y : Value}, Hv F N s.nx R x y → (∀ p ∈ inA i l.length x, p) → Hv F' N s.nx R (fzA i c l x) y := fun hx => fzA_ok hrow hpl hF hx
    have fzS : ∀ {x : A} {y : Value}, HS F N s.nx R (tmOf a) x y → (∀ p ∈ inA i l.length x, p) → HS F' N s.nx R (tmOf a) (fzA i c l x) y := fun hx hpp => fzS_ok fz hx hpp
    have hfoot : ∀ {j ob' g}, lookO j s.o = some ob' → foot N j (fzOb i c l ob') g → foot N j ob' g := fun {j ob' g} _ hg => by
      cases ob' with
      | arr e' s' els' => cases els' <;> exact hg
      | _ => exact hg
    have hst : Step F N s.nx s.o R F' N s.nx (fzO i c l s.o ++ s.o) R := ⟨Nat.le_refl _, fun _ _ => rfl, fun _ _ => rfl, hF, fun g hg => by
      rcases hg with hg | hg
      · exact .inl hg
      · exact .inr (.inl ⟨i, _, hl, hg⟩), fun g ⟨j, ob, h1, h2⟩ => by
      obtain ⟨ob', h3, rfl, _, _⟩ := lookO_fz2 h1
      exact .inl ⟨j, ob', h3, hfoot h3 h2⟩, rfl, rfl, rfl, Nat.le_refl _, fun _ _ _ => rfl⟩
    refine ⟨F', h.defers, h.size, fun u x hu => ?_, ⟨fun g hg => ?_, fun j ob hj => ?_, fun j ob g hj hg hf => ?_, fun j k x y g hj hk hx hy => ?_⟩, h.st.trans hst, h.tm⟩
    · obtain ⟨y, h1, rfl, h3⟩ := look_fzT hu
      exact fzS (h.slots u y h1) fun p hm => hp2 p (h3 _ p hm)
    · rcases hg with hg | hg
      · exact h.hp.flt g hg
      · exact g1.lt hg
    · obtain ⟨ob', h1, rfl, h3, h4⟩ := lookO_fz2 hj
      obtain ⟨k1, k2⟩ := h.hp.ob j ob' h1
      refine ⟨k1, ?_⟩
      have hin : ∀ p ∈ inOb i l.length ob', p := fun p hm => hp3 p (h4 _ p hm)
      cases ob' with
      | box e' cs =>
        obtain ⟨vs, q1, q2⟩ := k2
        exact ⟨vs, fzL_ok (fun hx hpp => fz hx hpp) q1 hin, q2⟩
      | arr e' s' els' =>
        cases els' with
        | ty c' l' => exact k2.step hw k1 fun _ _ => rfl
        | lst cs =>
          obtain ⟨zs', q1, q2⟩ := k2
          refine ⟨zs', by simpa [Els.n, fzLL_length] using q1, fun k hk => ?_⟩
          have hk' : k < cs.length := by simpa [Els.n, fzLL_length] using hk
          show HL F' N s.nx R (nthL (fzLL i c l cs) k) _
          rw [fzLL_nth]
          exact fzL_ok (fun hx hpp => fz hx hpp) (q2 k hk') fun p hm => hin p (inLL_nth cs k p hm)
      | map k v m => exact k2.step hw k1 fun _ _ => rfl
      | sit st pos => exact k2
    · obtain ⟨ob', h1, rfl, h3, _⟩ := lookO_fz2 hj
      have hg' := hfoot h1 hg
      rcases hf with hf | hf
      · exact h.hp.ff j ob' g h1 hg' hf
      · exact h3 (h.hp.sep j i ob' _ g h1 hl hg' hf)
    · obtain ⟨x', h1, rfl, _, _⟩ := lookO_fz2 hj
      obtain ⟨y', h2, rfl, _, _⟩ := lookO_fz2 hk
      exact h.hp.sep j k x' y' g h1 h2 (hfoot h1 hx) (hfoot h2 hy)
end
end Go.Proofs.Yteebobbhhgmeiaa
